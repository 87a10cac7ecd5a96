/- Mini, part 13: one operation. -/
import Derived.Test.YtfobiikidbffgaaGreatDoorM12
namespace Go.Mini

inductive DR (ρ : Ren) : Deferred → Deferred → Prop
  | mk (f : FuncId) {c c' a a' : List Value} (hc : VRL ρ c c') (ha : VRL ρ a a') : DR ρ ⟨.fn (.func f) ⟨c⟩, ⟨a⟩⟩ ⟨.fn (.func f) ⟨c'⟩, ⟨a'⟩⟩

theorem DR.mono {ρ ρ' : Ren} (le : Le ρ ρ') {d d' : Deferred} (h : DR ρ d d') : DR ρ' d d' := by
  cases h with
  | mk f hc ha => exact .mk f (hc.mono le) (ha.mono le)

/-- How a call ends. -/
def CallPost (P : Program) (ρ : Ren) (A : AS) (w : World) (o : OR) (A' : AS) : Ending → World → Prop
  | .returned v', w' => ∃ v ρ', o = .val v ∧ VR ρ' v v' ∧ ST P ρ A.get A.nx w ρ' A'.get A'.nx w'
  | .panicked chain, w' => ∃ v v' ρ', o = .pan v ∧ chain = [{ v := v', recovered := false }] ∧ VR ρ' v v' ∧ ST P ρ A.get A.nx w ρ' A'.get A'.nx w'
  | .outgrown, _ => False

/-- What an operation asks of the machine. -/
def OP (P : Program) (ρ : Ren) (A : AS) (w : World) (o : OR) (A' : AS) : Result Next → Prop
  | .ok (.value v') w' => ∃ v ρ', o = .val v ∧ VR ρ' v v' ∧ ST P ρ A.get A.nx w ρ' A'.get A'.nx w'
  | .ok .skip w' => ∃ v ρ', o = .val v ∧ VR ρ' v undef ∧ ST P ρ A.get A.nx w ρ' A'.get A'.nx w'
  | .ok (.defer d') w' => ∃ d ρ', o = .dfr d ∧ DR ρ' d d' ∧ ST P ρ A.get A.nx w ρ' A'.get A'.nx w'
  | .ok (.enter f args) w1 => Calls P f args w1 (CallPost P ρ A w o A')
  | .halt (.panic v') w' => ∃ v ρ', o = .pan v ∧ VR ρ' v v' ∧ ST P ρ A.get A.nx w ρ' A'.get A'.nx w'
  | _ => False

def CR.or : CR → OR
  | .ret v => .val v
  | .pan v => .pan v

def CallOK (P : Program) (call : CallF) : Prop := ∀ f args A r A', call f args A = some (r, A') → ∀ ρ args' w, HR P ρ A.get A.nx w → VRL ρ args args' → OP P ρ A w r.or A' ((callFunc f ⟨args'⟩).run P w)

theorem finish_some {r : Option (CR × AS)} {o : OR} {A' : AS} (h : finish r = some (o, A')) : ∃ c, r = some (c, A') ∧ o = c.or := by
  unfold finish at h
  split at h <;> cases h
  · exact ⟨_, rfl, rfl⟩
  · exact ⟨_, rfl, rfl⟩

section
variable {ρ ρ' : Ren} {A A' : AS} {w : World} {P : Program}

theorem OP.does {s : Sem Value} {v : Value} (h : Does P ρ A w s v A') : OP P ρ A w (.val v) A' ((do pure (.value (← s)) : Sem Next).run P w) := by
  obtain ⟨v', w', ρ', h1, h2, h3⟩ := h
  simp only [Sem.run_bind, h1, Result.andThen_ok, Sem.run_pure]
  exact ⟨v, ρ', rfl, h2, h3⟩

theorem OP.doesU {s : Sem Unit} {v : Value} (hv : v = undef) (h : DoesU P ρ A w s A') : OP P ρ A w (.val v) A' ((do s; pure .skip : Sem Next).run P w) := by
  obtain ⟨w', ρ', h1, h3⟩ := h
  simp only [Sem.run_bind, h1, Result.andThen_ok, Sem.run_pure]
  subst hv
  exact ⟨undef, ρ', rfl, .top _, h3⟩

theorem OP.reads (hr : HR P ρ A.get A.nx w) {s : Sem Value} {v v' : Value} (h1 : s.run P w = .ok v' w) (h2 : VR ρ v v') : OP P ρ A w (.val v) A ((do pure (.value (← s)) : Sem Next).run P w) :=
  OP.does ⟨v', w, ρ, h1, h2, ST.refl hr⟩

theorem vOf_some {v : Option Value} {r : OR} (h : vOf A v = some (r, A')) : ∃ x, v = some x ∧ r = .val x ∧ A' = A := by
  unfold vOf at h
  split at h
  · cases h; exact ⟨_, rfl, rfl, rfl⟩
  · cases h

theorem VRL.mapEv {ρ : Ren} {f g : Operand → Value} (h : ∀ x, VR ρ (f x) (g x)) (l : List Operand) : VRL ρ (l.map f) (l.map g) := VRL.map f g h l

theorem arr_map {α β : Type} (f : α → β) (a : Array α) : a.map f = ⟨a.toList.map f⟩ := by
  apply Array.ext'; simp

/-! ### Builtins -/
theorem builtinA_run (h : HR P ρ A.get A.nx w) {b : Builtin} {ats : Array TypeId} {ty : TypeId} {cs : Array Bool} {args args' : List Value} {o : OR} (hs : builtinA P b ats A args = some (o, A')) (hx : VRL ρ args args') :
    OP P ρ A w o A' ((builtin b ats ty cs ⟨args'⟩).run P w) := by
  unfold builtinA at hs
  split at hs
  · rename_i x
    cases hx with
    | cons hx t =>
    cases t
    cases hl : sLen ((ats[0]?).bind P.underlying) A x with
    | none => rw [hl] at hs; cases hs
    | some v =>
      rw [hl] at hs
      simp only [Option.map_some, Option.some.injEq, Prod.mk.injEq] at hs
      obtain ⟨rfl, rfl⟩ := hs
      obtain ⟨h1, n, rfl⟩ := sLen_run (P := P) (ty := ty) h hl hx
      exact OP.reads h h1 (.int _ _)
  · rename_i s x
    cases hx with
    | cons hx t =>
    cases t with
    | cons hy t =>
    cases t
    split at hs
    · obtain ⟨v, rfl, h1⟩ := sAppend_run (P := P) (ty := ty) h hs hx hy
      exact OP.does h1
    · cases hs
  · rename_i d x
    cases hx with
    | cons hx t =>
    cases t with
    | cons hy t =>
    cases t
    obtain ⟨v, rfl, h1⟩ := sCopy_run (P := P) (ty := ty) h hs hx hy
    exact OP.does h1
  · rename_i x
    cases hx with
    | cons hx t =>
    cases t
    obtain ⟨v, rfl, h1⟩ := sClear_run (P := P) (ty := ty) h hs hx
    exact OP.does h1
  · cases hm : sMinMax minI args with
    | none => rw [hm] at hs; cases hs
    | some v =>
      rw [hm] at hs
      simp only [Option.map_some, Option.some.injEq, Prod.mk.injEq] at hs
      obtain ⟨rfl, rfl⟩ := hs
      obtain ⟨x', r', rfl, v', h1, h2⟩ := sMinMax_run (P := P) (w := w) (f' := Builtin.min2) minI_run hm hx
      exact OP.reads h (s := Builtin.min_ ats ty ⟨x' :: r'⟩) h1 h2
  · cases hm : sMinMax maxI args with
    | none => rw [hm] at hs; cases hs
    | some v =>
      rw [hm] at hs
      simp only [Option.map_some, Option.some.injEq, Prod.mk.injEq] at hs
      obtain ⟨rfl, rfl⟩ := hs
      obtain ⟨x', r', rfl, v', h1, h2⟩ := sMinMax_run (P := P) (w := w) (f' := Builtin.max2) maxI_run hm hx
      exact OP.reads h (s := Builtin.max_ ats ty ⟨x' :: r'⟩) h1 h2
  · rename_i t v
    cases hs
    cases hx with
    | cons hx t =>
    cases t
    cases hx with
    | iface _ hv => exact ⟨_, ρ, rfl, .iface _ hv, ST.refl h⟩
  · cases hs

/-! ### Functions without a body -/
theorem findNext_none {fn : Func} {s : String} (hn : fn.name = s) (ho : fn.origin = "") (h1 : Extern.allNextRows.lookup s = none) (h2 : Extern.allNextRows.lookup "" = none) : Extern.findNext fn = none := by
  unfold Extern.findNext
  simp only [hn, ho, h1, h2]
  rfl

theorem find_some {fn : Func} {s : String} {e : Array Value → Sem Value} (hn : fn.name = s) (h1 : Extern.allGenericRows.lookup s = none) (h2 : Extern.allTypedRows.lookup s = none) (h3 : Extern.allRows.lookup s = some e) : Extern.find fn = some e := by
  unfold Extern.find
  simp only [hn, h1, h2, h3]
  rfl

theorem extA_run (h : HR P ρ A.get A.nx w) {f : FuncId} {fn : Func} {args args' : List Value} {r : CR} (hf : P.funcs[f]? = some fn) (hb : fn.body = none) (hs : extA fn args A = some (r, A')) (hx : VRL ρ args args') :
    OP P ρ A w r.or A' ((callFunc f ⟨args'⟩).run P w) := by
  have key : ∀ {s : String} {e : Array Value → Sem Value} {v : Value}, fn.name = s → fn.origin = "" → (s == "runtime.NumGoroutine") = false → Extern.allNextRows.lookup s = none → Extern.allGenericRows.lookup s = none → Extern.allTypedRows.lookup s = none → Extern.allRows.lookup s = some e →
      Does P ρ A w (e ⟨args'⟩) v A' → OP P ρ A w (.val v) A' ((callFunc f ⟨args'⟩).run P w) := by
    intro s e v hn ho hg h1 h2 h3 h4 hd
    rw [run_callFunc_extern hf (by rw [hn]; exact hg) (by rw [hb]; rfl) (findNext_none hn ho h1 (by kernel_rfl)) (find_some hn h2 h3 h4)]
    obtain ⟨v', w', ρ', k1, k2, k3⟩ := hd
    rw [k1]
    exact ⟨v, ρ', rfl, k2, k3⟩
  unfold extA at hs
  split at hs
  · rename_i ho
    have ho' : fn.origin = "" := by simpa using ho
    split at hs
    · rename_i hn
      obtain ⟨v, rfl, hd⟩ := idxByte_run (P := P) h hs hx
      simp only [Bool.or_eq_true, beq_iff_eq] at hn
      rcases hn with hn | hn
      · exact key hn ho' (by kernel_rfl) (by kernel_rfl) (by kernel_rfl) (by kernel_rfl) (by kernel_rfl) hd
      · exact key hn ho' (by kernel_rfl) (by kernel_rfl) (by kernel_rfl) (by kernel_rfl) (by kernel_rfl) hd
    · split at hs
      · rename_i hn
        obtain ⟨v, rfl, hd⟩ := add64_run (P := P) h hs hx
        have hn' : fn.name = "math/bits.Add64" := by simpa using hn
        exact key hn' ho' (by kernel_rfl) (by kernel_rfl) (by kernel_rfl) (by kernel_rfl) (by kernel_rfl) hd
      · cases hs
  · cases hs

/-! ### Methods -/
theorem pathOff_run {b d : Nat} : ∀ (l : List FieldStep) (t : TypeId) (o : Nat) (xt : TypeId) (o' : Nat), pathOff P l t o = some (xt, o') → (follow l t (.var ⟨b, o + d, none⟩)).run P w = .ok (xt, .var ⟨b, o' + d, none⟩) w
  | [], t, o, xt, o', h => by simp only [pathOff, Option.some.injEq, Prod.mk.injEq] at h; obtain ⟨rfl, rfl⟩ := h; rfl
  | s :: rest, t, o, xt, o', h => by
    simp only [pathOff] at h
    split at h
    · rename_i fs hd hu
      split at h
      · rename_i fd hf
        split at h
        · rename_i n hn
          split at h
          · cases h
          · rename_i hn0
            have ih := pathOff_run (b := b) (d := d) rest fd.type (o + fd.offset) xt o' h
            simp only [follow, Sem.run_bind, run_underlying hu, Result.andThen_ok, hf, hd, Bool.false_eq_true, if_false, fieldPlace, run_sizeOf hn, hn0, add_plain, Sem.run_pure]
            rw [show o + d + fd.offset = o + fd.offset + d by omega]
            exact ih
        · cases h
      · cases h
    · cases h

theorem methodAt_run {f g : FuncId} {ptr : Bool} {path : List FieldStep} {t : TypeId} {v v' x : Value} (hs : methodAt P f ptr path t v = some (g, x)) (hv : VR ρ v v') (wr : Option String) (hw : path ≠ [] → wr = none) :
    g = f ∧ ∃ x', (follow path t (.val v') >>= fun p => receiverAt p.1 p.2 ptr wr).run P w = .ok x' w ∧ VR ρ x x' := by
  unfold methodAt at hs
  split at hs
  · split at hs
    · rename_i e hu
      cases hs
      refine ⟨rfl, v', ?_, hv⟩
      simp only [follow, Sem.run_bind, Sem.run_pure, Result.andThen_ok, receiverAt, run_underlying hu, Place.get]
    · cases hs
    · cases hs
    · rename_i d hne hu
      cases hs
      refine ⟨rfl, v', ?_, hv⟩
      simp only [follow, Sem.run_bind, Sem.run_pure, Result.andThen_ok, receiverAt, run_underlying hu, Place.get]
    · cases hs
  · rename_i s rest
    split at hs
    · rename_i b o hd
      cases hv with
      | @ptr _ rb dd _ hi =>
      split at hs
      · rename_i xt o' hp
        split at hs
        · cases hs
        · rename_i u hne hu
          cases hs
          have hw' := hw (by simp)
          subst hw'
          simp only [pathOff] at hp
          split at hp
          · rename_i fs _ hus
            split at hp
            · rename_i fd hf
              split at hp
              · rename_i n hn
                split at hp
                · cases hp
                · rename_i hn0
                  have ih := pathOff_run (w := w) (b := rb) (d := dd.1) rest fd.type (o + fd.offset) xt o' hp
                  refine ⟨rfl, _, ?_, .ptr o' hi⟩
                  rw [show o + fd.offset + dd.1 = o + dd.1 + fd.offset by omega] at ih
                  simp only [follow, Sem.run_bind, run_underlying hus, Result.andThen_ok, hf, hd, if_true, Place.get, Sem.run_pure, asAddr, fieldPlace, run_sizeOf hn, hn0, if_false, add_plain, ih]
                  simp only [receiverAt, Sem.run_bind, run_underlying hu, Result.andThen_ok, Sem.run_pure]
              · cases hp
            · cases hp
          · cases hp
        · cases hs
      · cases hs
    · cases hs

theorem methodOf_run {t : TypeId} {name : String} {v v' x : Value} {f : FuncId} (n : Nat) (hs : methodOf P t name v = some (f, x)) (hv : VR ρ v v') : ∃ x', (method (n + 1) t v' name).run P w = .ok (f, x') w ∧ VR ρ x x' := by
  unfold methodOf at hs
  split at hs
  · rename_i i hi
    split at hs
    · rename_i m hm
      split at hs
      · rename_i g ptr hg
        obtain ⟨rfl, x', h1, h2⟩ := methodAt_run (P := P) (w := w) hs hv (if m.path.isEmpty then some ((name.splitOn ".").getLastD name) else none) (by
          intro hne
          have : m.path.isEmpty = false := by
            cases hp : m.path.isEmpty
            · rfl
            · simp at hp; rw [hp] at hne; simp at hne
          rw [this]; rfl)
        refine ⟨x', ?_, h2⟩
        have ht : (typeInfo t).run P w = .ok i w := by simp [typeInfo, hi]
        simp only [method, Sem.run_bind, ht, Result.andThen_ok, hm]
        rw [Sem.run_bind] at h1
        cases hfol : (follow m.path.toList t (.val v')).run P w with
        | ok p w2 =>
          rw [hfol] at h1
          simp only [Result.andThen_ok] at h1 ⊢
          obtain ⟨xt, pl⟩ := p
          simp only [hg, Sem.run_bind, h1, Result.andThen_ok, Sem.run_pure]
        | halt s w2 => rw [hfol] at h1; cases h1
      · cases hs
    · cases hs
  · cases hs

/-! ### Calls -/
theorem sCallV_run (h : HR P ρ A.get A.nx w) {call : CallF} (hcall : CallOK P call) {f f' : Value} {args args' : List Value} {r : OR} (hs : sCallV call f args A = some (r, A')) (hf : VR ρ f f') (ha : VRL ρ args args') :
    OP P ρ A w r A' ((do let d ← Deferred.ofValue f' ⟨args'⟩; invoke d.target d.args : Sem Next).run P w) := by
  unfold sCallV at hs
  split at hs
  · rename_i g first cap
    obtain ⟨cr, k1, rfl⟩ := finish_some hs
    cases hf with
    | @func _ f0 f1 c0 c1 hf hc =>
    simp only [Deferred.ofValue, Sem.run_bind, Sem.run_pure, Result.andThen_ok, invoke]
    have := hcall _ _ _ _ _ k1 ρ (f1 ++ args' ++ c1) w h ((hf.append ha).append hc)
    have e : (⟨f1⟩ ++ ⟨args'⟩ ++ ⟨c1⟩ : Array Value) = ⟨f1 ++ args' ++ c1⟩ := by simp
    rw [e]; exact this
  · cases hs

theorem sInvoke_run (h : HR P ρ A.get A.nx w) {call : CallF} (hcall : CallOK P call) {x x' : Value} {name : String} {args args' : List Value} {r : OR} (hs : sInvoke P call x name args A = some (r, A')) (hx : VR ρ x x') (ha : VRL ρ args args') :
    OP P ρ A w r A' ((invoke (.fn (.method name) #[]) (#[x'] ++ ⟨args'⟩) : Sem Next).run P w) := by
  unfold sInvoke at hs
  split at hs
  · rename_i t v
    cases hx with
    | @iface _ _ v' hv =>
    split at hs
    · rename_i f y hm
      split at hs
      · cases hs
      · obtain ⟨cr, k1, rfl⟩ := finish_some hs
        obtain ⟨n, hn⟩ : ∃ n, P.types.size + Made.depth = n + 1 := ⟨P.types.size + Made.depth - 1, by unfold Made.depth; omega⟩
        obtain ⟨y', h1, h2⟩ := methodOf_run (P := P) (w := w) n hm hv
        have := hcall _ _ _ _ _ k1 ρ (y' :: args') w h (.cons h2 ha)
        have e0 : (#[Value.iface t v'] ++ ⟨args'⟩ : Array Value)[0]? = some (.iface t v') := by simp
        have e1 : (#[Value.iface t v'] ++ ⟨args'⟩ : Array Value).extract 1 (#[Value.iface t v'] ++ ⟨args'⟩ : Array Value).size = ⟨args'⟩ := by
          apply Array.ext'; simp
        have e2 : (#[y'] ++ ⟨args'⟩ : Array Value) = ⟨y' :: args'⟩ := by simp
        simp only [invoke, e0, e1, callMethod, Sem.run_bind, run_program, Result.andThen_ok, hn, h1, e2]
        exact this
    · cases hs
  · cases hs

theorem sCall_run (h : HR P ρ A.get A.nx w) {call : CallF} (hcall : CallOK P call) {ev ev' : Operand → Value} (hev : ∀ x, VR ρ (ev x) (ev' x)) {c : Call} {ty : TypeId} {r : OR} (hs : sCall P call ev c A = some (r, A')) :
    OP P ρ A w r A' ((do let d ← resolve ev' c ty; invoke d.target d.args : Sem Next).run P w) := by
  unfold sCall at hs
  have ha := VRL.mapEv (ρ := ρ) hev c.args.toList
  split at hs
  · rename_i b hc
    unfold resolve
    simp only [hc, arr_map, Sem.run_bind, Sem.run_pure, Result.andThen_ok, invoke]
    exact builtinA_run (P := P) h hs ha
  · rename_i f hc
    unfold resolve
    simp only [hc, arr_map]
    exact sCallV_run (P := P) h hcall hs (hev f) ha
  · rename_i x name hc
    unfold resolve
    simp only [hc, arr_map, Sem.run_bind, Sem.run_pure, Result.andThen_ok]
    exact sInvoke_run (P := P) h hcall hs (hev x) ha

theorem sDefer_run (h : HR P ρ A.get A.nx w) {ev ev' : Operand → Value} (hev : ∀ x, VR ρ (ev x) (ev' x)) {c : Call} {ty : TypeId} {r : OR} (hs : sDefer ev c A = some (r, A')) :
    OP P ρ A w r A' ((do pure (.defer (← resolve ev' c ty)) : Sem Next).run P w) := by
  unfold sDefer at hs
  have ha := VRL.mapEv (ρ := ρ) hev c.args.toList
  split at hs
  · rename_i f hc
    split at hs
    · rename_i g first cap hf
      cases hs
      have hfv := hev f
      rw [hf] at hfv
      unfold resolve
      generalize hx : ev' f = fv at hfv
      cases hfv with
      | @func _ f0 f1 c0 c1 hf' hc' =>
      simp only [hc, hx, Deferred.ofValue, arr_map, Sem.run_bind, Sem.run_pure, Result.andThen_ok]
      refine ⟨_, ρ, rfl, ?_, ST.refl h⟩
      have e : (⟨f1⟩ ++ ⟨c.args.toList.map ev'⟩ : Array Value) = ⟨f1 ++ c.args.toList.map ev'⟩ := by simp
      have e2 : (⟨f0⟩ ++ ⟨c.args.toList.map ev⟩ : Array Value) = ⟨f0 ++ c.args.toList.map ev⟩ := by simp
      rw [e, e2]
      exact .mk g hc' (hf'.append ha)
    · cases hs
  · cases hs

/-! ### The operation -/
theorem op_run (h : HR P ρ A.get A.nx w) {call : CallF} (hcall : CallOK P call) {ev ev' : Operand → Value} (hev : ∀ x, VR ρ (ev x) (ev' x)) {o : Oper} {r : OR} (hs : opSem P call ev o.op A = some (r, A')) :
    OP P ρ A w r A' ((execOp ev' o).run P w) := by
  obtain ⟨dst, op, type, pos, after, guard⟩ := o
  simp only at hs
  have parts : ∀ ps : Array (Nat × Operand), PR ρ (ps.toList.map fun p => (p.1, ev p.2)) (ps.toList.map fun p => (p.1, ev' p.2)) := fun ps => PR.map hev ps.toList
  have pmap : ∀ ps : Array (Nat × Operand), (ps.map fun (i, x) => (i, ev' x)) = ⟨ps.toList.map fun p => (p.1, ev' p.2)⟩ := fun ps => arr_map _ ps
  cases op <;> simp only [opSem] at hs <;> simp only [execOp]
  case move x => cases hs; exact ⟨_, ρ, rfl, hev x, ST.refl h⟩
  case assign x => cases hs; exact ⟨_, ρ, rfl, hev x, ST.refl h⟩
  case pick c a b =>
    obtain ⟨v, h1, rfl, rfl⟩ := vOf_some hs
    unfold sPick at h1
    have hc := hev c
    split at h1
    · rename_i heq
      rw [heq] at hc
      generalize ev' c = z at hc
      cases hc
      cases h1
      exact ⟨_, ρ, rfl, hev a, ST.refl h⟩
    · rename_i heq
      rw [heq] at hc
      generalize ev' c = z at hc
      cases hc
      cases h1
      exact ⟨_, ρ, rfl, hev b, ST.refl h⟩
    · cases h1
  case alloc t => obtain ⟨v, rfl, h1⟩ := sAlloc_run (P := P) (w := w) h hs; exact OP.does h1
  case box t x => obtain ⟨v, rfl, h1⟩ := sBox_run (P := P) h hs (hev x); exact OP.does h1
  case build t ps =>
    obtain ⟨v, h1, rfl, rfl⟩ := vOf_some hs
    obtain ⟨v', h2, h3⟩ := sBuild_run (P := P) (w := w) h1 (parts ps)
    rw [pmap]; exact OP.reads h h2 h3
  case buildSlice t n ps =>
    obtain ⟨v, rfl, h1⟩ := sBuildSlice_run (P := P) h hs (parts ps)
    rw [pmap]; exact OP.does h1
  case load t x =>
    obtain ⟨v, h1, rfl, rfl⟩ := vOf_some hs
    obtain ⟨v', h2, h3⟩ := sLoad_run (P := P) h h1 (hev x)
    exact OP.reads h h2 h3
  case store t x v =>
    obtain ⟨rfl, h1⟩ := sStore_run (P := P) h hs (hev x) (hev v)
    exact OP.doesU rfl h1
  case nilCheck x =>
    obtain ⟨v, h1, rfl, rfl⟩ := vOf_some hs
    unfold sNilCheck at h1
    have hx := hev x
    split at h1
    · rename_i a heq
      rw [heq] at hx
      cases h1
      generalize ev' x = z at hx
      cases hx with
      | ptr o hi => exact ⟨_, ρ, rfl, .ptr o hi, ST.refl h⟩
    · rename_i t v0 heq
      rw [heq] at hx
      cases h1
      generalize ev' x = z at hx
      cases hx with
      | iface _ hv => exact ⟨_, ρ, rfl, .iface _ hv, ST.refl h⟩
    · rename_i f c0 c1 heq
      rw [heq] at hx
      cases h1
      generalize ev' x = z at hx
      cases hx with
      | func _ hf hc => exact ⟨_, ρ, rfl, .func _ hf hc, ST.refl h⟩
    · cases h1
  case binOp op t x y b =>
    obtain ⟨v, h1, rfl, rfl⟩ := vOf_some hs
    obtain ⟨h2, h3⟩ := sBin_run (P := P) (w := w) h1 (hev x) (hev y)
    exact OP.reads h h2 (VR.of_plain ρ _ h3)
  case unOp op t x =>
    obtain ⟨v, h1, rfl, rfl⟩ := vOf_some hs
    obtain ⟨h2, h3⟩ := sUn_run (P := P) (w := w) h1 (hev x)
    exact OP.reads h h2 (VR.of_plain ρ _ h3)
  case convert src dst' x =>
    obtain ⟨v, rfl, h1⟩ := sConv_run (P := P) h hs (hev x)
    exact OP.does h1
  case makeInterface t x =>
    obtain ⟨v, h1, rfl, rfl⟩ := vOf_some hs
    obtain ⟨v', h2, h3⟩ := sMkIface_run (P := P) (w := w) h1 (hev x)
    exact OP.reads h h2 h3
  case makeFunc fn first cap =>
    cases hs
    refine OP.reads h (v' := .func fn (first.map ev') (cap.map ev')) rfl ?_
    rw [arr_map, arr_map, arr_map ev' first, arr_map ev' cap]
    exact .func fn (VRL.mapEv hev _) (VRL.mapEv hev _)
  case makeMap t m =>
    obtain ⟨v, rfl, h1⟩ := sMakeMap_run (P := P) (w := w) (f := ev') h hs
    exact OP.does h1
  case makeSlice t l c =>
    obtain ⟨v, rfl, h1⟩ := sMakeSlice_run (P := P) h hs (hev l) (hev c)
    exact OP.does h1
  case slice t x lo hi mx =>
    obtain ⟨v, h1, rfl, rfl⟩ := vOf_some hs
    obtain ⟨v', h2, h3⟩ := sSlice_run (P := P) (w := w) h1 (hev x) (ovr_map (o := lo) hev) (ovr_map (o := hi) hev) (ovr_map (o := mx) hev)
    exact OP.reads h h2 h3
  case fieldAddr t x f =>
    obtain ⟨v, h1, rfl, rfl⟩ := vOf_some hs
    obtain ⟨v', h2, h3⟩ := sFieldAddr_run (P := P) (w := w) h1 (hev x)
    exact OP.reads h h2 h3
  case field t x f =>
    obtain ⟨v, h1, rfl, rfl⟩ := vOf_some hs
    obtain ⟨v', h2, h3⟩ := sField_run (P := P) (w := w) h1 (hev x)
    exact OP.reads h h2 h3
  case indexAddr t x i =>
    obtain ⟨v, h1, rfl, rfl⟩ := vOf_some hs
    obtain ⟨v', h2, h3⟩ := sIndexAddr_run (P := P) (w := w) h1 (hev x) (hev i)
    exact OP.reads h h2 h3
  case index t x i =>
    obtain ⟨v, h1, rfl, rfl⟩ := vOf_some hs
    obtain ⟨v', h2, h3⟩ := sIndex_run (P := P) (w := w) h1 (hev x) (hev i)
    exact OP.reads h h2 h3
  case lookup t m k ok =>
    obtain ⟨v, h1, rfl, rfl⟩ := vOf_some hs
    obtain ⟨v', h2, h3⟩ := sLookup_run (P := P) h h1 (hev m) (hev k)
    exact OP.reads h h2 h3
  case mapUpdate t m k x =>
    obtain ⟨rfl, h1⟩ := sMapSet_run (P := P) h hs (hev m) (hev k) (hev x)
    exact OP.doesU rfl h1
  case insert t m k x =>
    obtain ⟨rfl, h1⟩ := sMapSet_run (P := P) h hs (hev m) (hev k) (hev x)
    exact OP.doesU rfl h1
  case range t x =>
    obtain ⟨v, rfl, h1⟩ := sRange_run (P := P) h hs (hev x)
    exact OP.does h1
  case next it s =>
    cases s
    · cases hs
    · obtain ⟨v, rfl, h1⟩ := sNext_run (P := P) (t := type) h hs (hev it)
      exact OP.does h1
  case typeAssert x xt t ok =>
    obtain ⟨v, h1, rfl, rfl⟩ := vOf_some hs
    obtain ⟨v', h2, h3⟩ := sAssert_run (P := P) (w := w) (xt := xt) h1 (hev x)
    exact OP.reads h h2 h3
  case extract x i =>
    obtain ⟨v, h1, rfl, rfl⟩ := vOf_some hs
    obtain ⟨v', h2, h3⟩ := sExtract_run (P := P) (w := w) h1 (hev x)
    exact OP.reads h h2 h3
  case panic x =>
    have hx := hev x
    unfold sPanic at hs
    split at hs
    · rename_i t v heq
      cases hs
      rw [heq] at hx
      generalize ev' x = z at hx
      cases hx with
      | iface _ hv => exact ⟨_, ρ, rfl, .iface _ hv, ST.refl h⟩
    · cases hs
  case call c => exact sCall_run (P := P) h hcall hev hs
  case defer c => exact sDefer_run (P := P) h hev hs
  all_goals (cases hs)

end
end Go.Mini
