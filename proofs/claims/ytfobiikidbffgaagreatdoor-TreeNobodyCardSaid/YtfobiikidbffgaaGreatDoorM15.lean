/- Mini, part 15: code and calls. -/
import Derived.Test.YtfobiikidbffgaaGreatDoorM14
namespace Go.Mini

/-- A loop's body, behind the loop's first step. -/
def InLoop (P : Program) (b : Code) (Q : Exit → Act → World → Prop) (a : Act) (w : World) : Prop :=
  ∀ (fr : Frame) (k : List Item) (cs : List Frame), ∃ e a' w', Q e a' w' ∧ Arrives P (lone (fr.at a (.code b :: .inLoop b :: k)) cs w) fr k cs e a' w'

def InScope (P : Program) (b c : Code) (Q : Exit → Act → World → Prop) (a : Act) (w : World) : Prop :=
  ∀ (fr : Frame) (k : List Item) (cs : List Frame), ∃ e a' w', Q e a' w' ∧ Arrives P (lone (fr.at a (.code c :: .inScope b :: k)) cs w) fr k cs e a' w'

structure ExOK (P : Program) (ex : Ex) : Prop where
  code : ∀ c fr A r, ex none c fr A = some r → ∀ ρ a w, HR P ρ A.get A.nx w → FRel ρ fr a → c.wp P (Post P ρ A w r) a w
  loop : ∀ b fr A r, ex none (.loop b) fr A = some r → ∀ ρ a w, HR P ρ A.get A.nx w → FRel ρ fr a → InLoop P b (Post P ρ A w r) a w
  scope : ∀ b c fr A r, ex (some b) c fr A = some r → ∀ ρ a w, HR P ρ A.get A.nx w → FRel ρ fr a → InScope P b c (Post P ρ A w r) a w

/-- How a call ends, in the terms of the abstract machine. -/
def CRR (ρ : Ren) : CR → Ending → Prop
  | .ret v, .returned v' => VR ρ v v'
  | .pan v, .panicked chain => ∃ v', chain = [{ v := v', recovered := false }] ∧ VR ρ v v'
  | _, _ => False

def UMR (ρ : Ren) : UM → FrameMode → Prop
  | .ret, .returning => True
  | .pan v, .panicking chain => ∃ v', chain = [{ v := v', recovered := false }] ∧ VR ρ v v'
  | .done v, .panicking chain => ∃ v', chain = [{ v := v', recovered := true }] ∧ VR ρ v v'
  | _, _ => False

theorem UMR.mono {ρ ρ' : Ren} (le : Le ρ ρ') {u : UM} {m : FrameMode} (h : UMR ρ u m) : UMR ρ' u m := by
  cases u <;> cases m <;> first
    | exact h
    | (obtain ⟨v', h1, h2⟩ := h; exact ⟨v', h1, h2.mono le⟩)

section
variable {ρ ρ' : Ren} {A A' A1 : AS} {w : World} {P : Program} {fr : Fr} {a : Act} {ex : Ex}

theorem OutR.eq_normal {o : Out} (h : OutR ρ o .normal) : o = .normal := by cases o <;> first | rfl | exact h.elim
theorem OutR.eq_exit {o : Out} {i : Nat} (h : OutR ρ o (.exit i)) : o = .exit i := by cases o <;> first | exact h.elim | (cases h; rfl)
theorem OutR.eq_goto {o : Out} {i : Nat} (h : OutR ρ o (.goto i)) : o = .goto i := by cases o <;> first | exact h.elim | (cases h; rfl)

/-! ### What a function hands back -/
def resOneM (tmps : Array Value) : ResultVar → Sem Value
  | .tmp t => pure (tmps.getD t undef)
  | .cell c t => do loadVar t (← asAddr (tmps.getD c undef))

theorem results_eq (fn : Func) (tmps : Array Value) : results fn tmps = (do let vs ← fn.results.mapM (resOneM tmps); pure (if h : vs.size = 1 then vs[0] else .tuple vs)) := by
  unfold results
  congr 1

theorem resOne_run (hr : HR P ρ A.get A.nx w) (hf : FRel ρ fr a) {rv : ResultVar} {v : Value} (h : resOne P fr A rv = some v) :
    ∃ v', (resOneM a.tmps rv).run P w = .ok v' w ∧ VR ρ v v' := by
  cases rv with
  | tmp t =>
    simp only [resOne, Option.some.injEq] at h
    subst h
    exact ⟨_, rfl, hf.ev hr (.tmp t)⟩
  | cell c t =>
    have hv : VR ρ (fr.at c) (a.tmps.getD c undef) := hf.ev hr (.tmp c)
    have hl : sLoad P t (fr.at c) A = some v := h
    obtain ⟨v', h1, h2⟩ := sLoad_run (P := P) hr hl hv
    refine ⟨v', ?_, h2⟩
    show (do loadVar t (← asAddr (a.tmps.getD c undef)) : Sem Value).run P w = .ok v' w
    unfold sLoad at hl
    split at hl
    · rename_i b off heq
      rw [heq] at hv
      generalize a.tmps.getD c undef = z at hv h1
      cases hv with
      | ptr o hi => exact h1
    · cases hl

theorem resAll_run (hr : HR P ρ A.get A.nx w) (hf : FRel ρ fr a) : ∀ (l : List ResultVar) (vs : List Value), resAll P fr A l = some vs →
    ∃ vs', (l.mapM (resOneM a.tmps)).run P w = .ok vs' w ∧ VRL ρ vs vs'
  | [], vs, h => by simp only [resAll, Option.some.injEq] at h; subst h; exact ⟨[], rfl, .nil⟩
  | rv :: l, vs, h => by
    simp only [resAll] at h
    split at h
    · rename_i v us hv hu
      cases h
      obtain ⟨v', h1, h2⟩ := resOne_run hr hf hv
      obtain ⟨us', h3, h4⟩ := resAll_run hr hf l us hu
      refine ⟨v' :: us', ?_, .cons h2 h4⟩
      rw [List.mapM_cons]
      simp only [Sem.run_bind, h1, Result.andThen_ok, h3, Sem.run_pure]
    · cases h

theorem resSem_run (hr : HR P ρ A.get A.nx w) (hf : FRel ρ fr a) {fn : Func} {v : Value} (h : resSem P fn fr A = some v) : ∃ v', (results fn a.tmps).run P w = .ok v' w ∧ VR ρ v v' := by
  unfold resSem at h
  rw [results_eq]
  split at h
  · rename_i v0 ha
    cases h
    obtain ⟨vs', h1, h2⟩ := resAll_run hr hf _ _ ha
    cases h2 with
    | cons hv t =>
    cases t
    refine ⟨_, ?_, hv⟩
    simp only [Array.mapM_eq_mapM_toList, Sem.run_bind, Sem.run_map, h1, Result.andThen_ok, Sem.run_pure]
    rfl
  · rename_i vs hne ha
    cases h
    obtain ⟨vs', h1, h2⟩ := resAll_run hr hf _ _ ha
    refine ⟨.tuple ⟨vs'⟩, ?_, .tup h2⟩
    simp only [Array.mapM_eq_mapM_toList, Sem.run_bind, Sem.run_map, h1, Result.andThen_ok, Sem.run_pure]
    have hl : ¬ vs'.toArray.size = 1 := by
      simp only [List.size_toArray]
      intro e
      rw [h2.length] at e
      match vs, e with
      | [x], _ => exact hne x rfl
    rw [dif_neg hl]
  · cases h

theorem enter_run {f : FuncId} {fn : Func} {c : Code} (hf : P.funcs[f]? = some fn) (hname : (fn.name == "runtime.NumGoroutine") = false) (hb : fn.body = some c) (args : Array Value) (w : World) :
    (callFunc f args).run P w = .ok (.enter f args) w := by
  have h1 : fn.name ≠ "runtime.NumGoroutine" := by simpa using hname
  simp [callFunc, hf, h1, hb]

/-! ### A body in which no call was deferred -/
theorem leave0_post {fn : Func} {r : Out × Fr × AS} {cr : CR} (h : leave0 P fn (some r) = some (cr, A1)) {e : Exit} {a' : Act} {w' : World} (p : Post P ρ A w r e a' w') :
    bodyPost P fn (fun e w' => ∃ ρ', ST P ρ A.get A.nx w ρ' A1.get A1.nx w' ∧ CRR ρ' cr e) e a' w' := by
  obtain ⟨o, fr', A2⟩ := r
  obtain ⟨ρ', st, hf, ho⟩ := p
  have nd : fr'.d.isEmpty = true → a'.defers = [] := fun h => by
    have hd := hf.d
    have : fr'.d = [] := by simpa using h
    simp only at hd
    rw [this] at hd
    generalize a'.defers = ds at hd
    cases hd
    rfl
  have rets : (if fr'.d.isEmpty then (resSem P fn fr' A2).map fun v => ((.ret v : CR), A2) else none) = some (cr, A1) → a'.defers = [] ∧ ∃ v, (results fn a'.tmps).run P w' = .ok v w' ∧ ∃ ρ', ST P ρ A.get A.nx w ρ' A1.get A1.nx w' ∧ CRR ρ' cr (.returned v) := by
    intro h
    split at h
    · rename_i hd
      cases hv : resSem P fn fr' A2 with
      | none => rw [hv] at h; cases h
      | some v =>
        rw [hv] at h
        simp only [Option.map_some, Option.some.injEq, Prod.mk.injEq] at h
        obtain ⟨rfl, rfl⟩ := h
        obtain ⟨v', h1, h2⟩ := resSem_run (P := P) st.hr hf hv
        exact ⟨nd hd, v', h1, ρ', st, h2⟩
    · cases h
  unfold leave0 at h
  cases o <;> cases e <;> simp only [OutR] at ho <;> simp only at h <;> first
    | exact rets h
    | exact ho.elim
    | (cases h; done)
    | skip
  split at h
  · rename_i hd
    cases h
    obtain ⟨v', rfl, hv⟩ := ho
    exact ⟨nd hd, ρ', st, v', rfl, hv⟩
  · cases h

theorem entryT_get : ∀ (l : List Value) (k : Nat) (m : BM Value) (t : Nat) (v : Value), (entryT l k m).get t = some v → (k ≤ t ∧ l[t - k]? = some v) ∨ m.get t = some v
  | [], k, m, t, v, h => .inr h
  | u :: l, k, m, t, v, h => by
    simp only [entryT] at h
    rcases entryT_get l (k + 1) _ t v h with ⟨h1, h2⟩ | h1
    · refine .inl ⟨by omega, ?_⟩
      rw [show t - k = t - (k + 1) + 1 by omega]
      simpa using h2
    · rw [BM.get_set] at h1
      by_cases c : t = k
      · rw [if_pos c] at h1
        refine .inl ⟨by omega, ?_⟩
        rw [c, Nat.sub_self]
        exact h1
      · rw [if_neg c] at h1; exact .inr h1

theorem entry_rel {args args' : List Value} (hx : VRL ρ args args') (n : Nat) : FRel ρ (entry args n) { tmps := (⟨args'⟩ : Array Value) ++ Array.replicate (n - (⟨args'⟩ : Array Value).size) undef, defers := [] } := by
  refine ⟨by simp [entry]; omega, fun t v h => ?_, .nil⟩
  rcases entryT_get args 0 .e t v h with ⟨_, h2⟩ | h2
  · obtain ⟨v', h3, h4⟩ := hx.get (by simpa using h2)
    refine ⟨v', ?_, h4⟩
    have hlt : t < args'.length := (List.getElem?_eq_some_iff.1 h3).1
    simp only [List.size_toArray]
    rw [Array.getElem?_append_left (by simpa using hlt)]
    simpa using h3
  · cases h2

/-! ### A body that asks for a panic first -/
theorem regLexS_ok {call : CallF} (hcall : CallOK P call) {ops : Array Oper} {cs : List Frame} {Q : Exit → Act → List Frame → World → Prop} : ∀ (l : List Oper) (i : Nat), ops.toList.drop i = l → ∀ (ρ : Ren) (fr : Fr) (A : AS) (a : Act) (w : World) (r : Out × Fr × AS),
    HR P ρ A.get A.nx w → FRel ρ fr a → regLex P call ops l fr A = some r → (∀ e a' w', Post P ρ A w r e a' w' → Q e a' cs w') → wpOpsS P ops Q (List.range' i l.length) a cs w := by
  intro l
  induction l with
  | nil =>
    intro i hi ρ fr A a w r hr hf hs hq
    rw [regLex_nil] at hs
    cases hs
    exact hq .normal a w ⟨ρ, ST.refl hr, hf, trivial⟩
  | cons o l ih =>
    intro i hi ρ fr A a w r hr hf hs hq
    have ho : ops[i]? = some o := by
      have : (ops.toList.drop i)[0]? = some o := by rw [hi]; rfl
      simpa using this
    have hi' : ops.toList.drop (i + 1) = l := by
      have : (ops.toList.drop i).drop 1 = l := by rw [hi]; rfl
      rw [← this, List.drop_drop]
    rw [regLex_cons] at hs
    simp only [List.length_cons, List.range'_succ, wpOpsS, ho]
    unfold regOne at hs
    split at hs
    · cases hs
    · rename_i hw
      rw [hf.wanted hw]
      simp only [Bool.false_eq_true, if_false]
      exact ih (i + 1) hi' ρ _ A _ w r hr (hf.put .skip) hs hq
    · rename_i hw
      rw [hf.wanted hw]
      simp only [if_true]
      have go : ∀ {r1 : OR} {A1 : AS}, opSem P call (fr.ev P) o.op A = some (r1, A1) →
          o.upon P a (fun a' w' => wpOpsS P ops Q (List.range' (i + 1) l.length) a' cs w') (fun e a' w' => Q e a' cs w') ((execOp a.eval o).run P w) →
          (match (execOp a.eval o).run P w with
          | .ok .recover w' =>
            match recoverD cs with
            | some (v, cs') => wpOpsS P ops Q (List.range' (i + 1) l.length) (a.put o.dst v) cs' w'
            | none => wpOpsS P ops Q (List.range' (i + 1) l.length) (a.put o.dst .nilIface) cs w'
          | r => o.upon P a (fun a' w' => wpOpsS P ops Q (List.range' (i + 1) l.length) a' cs w') (fun e a' w' => Q e a' cs w') r) := by
        intro r1 A1 hop hu
        have hOP := op_run (P := P) hr hcall (hf.ev hr) hop
        generalize (execOp a.eval o).run P w = res at hOP hu
        split
        · exact (hOP : False).elim
        · exact hu
      unfold regOp at hs
      split at hs
      · rename_i v A1 hop
        refine go hop ?_
        refine (op_run (P := P) hr hcall (hf.ev hr) hop).upon (fun v1 v' ρ' w' e hv st => ?_) (fun d d' ρ' w' e _ _ => by cases e) (fun v v' ρ' w' e _ _ => by cases e)
        cases e
        exact ih (i + 1) hi' ρ' _ A1 _ w' r st.hr ((hf.mono st.ext).put hv) hs (fun e a' w'' p => hq e a' w'' (p.trans hr st))
      · rename_i v A1 hop
        cases hs
        refine go hop ?_
        refine (op_run (P := P) hr hcall (hf.ev hr) hop).upon (fun v1 v' ρ' w' e hv st => by cases e) (fun d d' ρ' w' e _ _ => by cases e) (fun v1 v' ρ' w' e hv st => ?_)
        cases e
        exact hq _ a w' ⟨ρ', st, hf.mono st.ext, v', rfl, hv⟩
      · rename_i d A1 hop
        refine go hop ?_
        refine (op_run (P := P) hr hcall (hf.ev hr) hop).upon (fun v1 v' ρ' w' e hv st => by cases e) (fun d1 d' ρ' w' e hd st => ?_) (fun v1 v' ρ' w' e hv st => by cases e)
        cases e
        exact ih (i + 1) hi' ρ' _ A1 _ w' r st.hr (((hf.mono st.ext).push hd).put (.top _)) hs (fun e a' w'' p => hq e a' w'' (p.trans hr st))
      · cases hs

theorem isRecover_run {o : Oper} (h : isRecover o = true) (ev : Operand → Value) : o.guard = none ∧ (execOp ev o).run P w = .ok .recover w := by
  obtain ⟨dst, op, type, pos, after, guard⟩ := o
  unfold isRecover at h
  split at h
  · rename_i heq
    cases heq
    exact ⟨rfl, rfl⟩
  · cases h

def recoverM : FrameMode → Option (Value × FrameMode)
  | .panicking ({ v, recovered := false, goexit := false } :: older) => some (v, .panicking ({ v, recovered := true } :: older))
  | _ => none

/-- A deferred call. -/
theorem callR_ok (h : ExOK P ex) {g : FuncId} {args args' : List Value} {u u1 : UM} {m : FrameMode} {r : CR} (hs : callR P (ex none) g args A u = some (r, A1, u1)) (hr : HR P ρ A.get A.nx w) (hx : VRL ρ args args') (hu : UMR ρ u m) (hnd : ∀ v, u ≠ .done v) :
    (callFunc g ⟨args'⟩).run P w = .ok (.enter g ⟨args'⟩) w ∧ CallsD P g ⟨args'⟩ m w fun e m' w' => ∃ ρ', ST P ρ A.get A.nx w ρ' A1.get A1.nx w' ∧ UMR ρ' u1 m' ∧ CRR ρ' r e := by
  unfold callR at hs
  split at hs
  · rename_i fn hfn
    split at hs
    · cases hs
    · rename_i hname
      have hname' : (fn.name == "runtime.NumGoroutine") = false := by simpa using hname
      have plainCase : ∀ c, fn.body = some c → ((leave0 P fn (ex none c (entry args fn.ntmps) A)).map fun r => (r.1, r.2, u)) = some (r, A1, u1) →
          (callFunc g ⟨args'⟩).run P w = .ok (.enter g ⟨args'⟩) w ∧ CallsD P g ⟨args'⟩ m w fun e m' w' => ∃ ρ', ST P ρ A.get A.nx w ρ' A1.get A1.nx w' ∧ UMR ρ' u1 m' ∧ CRR ρ' r e := by
        intro c hb hs
        refine ⟨enter_run hfn hname' hb _ w, ?_⟩
        cases he : ex none c (entry args fn.ntmps) A with
        | none => rw [he] at hs; cases hs
        | some r0 =>
          rw [he] at hs
          cases hl : leave0 P fn (some r0) with
          | none => rw [hl] at hs; cases hs
          | some q =>
            obtain ⟨cr, A2⟩ := q
            rw [hl] at hs
            simp only [Option.map_some, Option.some.injEq, Prod.mk.injEq] at hs
            obtain ⟨rfl, rfl, rfl⟩ := hs
            have := h.code _ _ _ _ he ρ _ w hr (entry_rel hx fn.ntmps)
            refine (callsD_of_wp (u := m) hfn hb (wp_mono this fun e a' w' p => leave0_post hl p)).mono fun e u' w' ⟨h1, ρ', h2, h3⟩ => ?_
            subst h1
            exact ⟨ρ', h2, hu.mono h2.ext, h3⟩
      split at hs
      · rename_i id ops dr rest hb
        split at hs
        · rename_i o more hops
          split at hs
          · rename_i hrec
            simp only [Bool.and_eq_true, Bool.not_eq_true'] at hrec
            obtain ⟨hrec, rfl⟩ := hrec
            refine ⟨enter_run hfn hname' hb _ w, ?_⟩
            obtain ⟨⟨cr, A2⟩, hl, heq⟩ := Option.map_eq_some_iff.1 hs
            simp only [Prod.mk.injEq] at heq
            obtain ⟨rfl, rfl, rfl⟩ := heq
            -- what the first operation tells
            obtain ⟨v', m1, hv', hm1, hrecD⟩ : ∃ v' m1, VR ρ u.recover.1 v' ∧ UMR ρ u.recover.2 m1 ∧ ∀ (c₀ : Frame) (cs : List Frame), c₀.mode = m →
                (recoverD (c₀ :: cs) = some (v', { c₀ with mode := m1 } :: cs) ∨ (recoverD (c₀ :: cs) = none ∧ v' = .nilIface ∧ m1 = m)) := by
              cases u with
              | ret =>
                cases m with
                | returning => exact ⟨.nilIface, .returning, .nilIface, trivial, fun c₀ cs hc => .inr ⟨by simp [recoverD, hc], rfl, rfl⟩⟩
                | run => exact hu.elim
                | panicking ch => exact hu.elim
              | pan v =>
                cases m with
                | returning => exact hu.elim
                | run => exact hu.elim
                | panicking ch =>
                  obtain ⟨v', rfl, hv⟩ := hu
                  exact ⟨v', .panicking [{ v := v', recovered := true }], hv, ⟨v', rfl, hv⟩, fun c₀ cs hc => .inl (by simp [recoverD, hc])⟩
              | done v => exact absurd rfl (hnd v)
            refine callsD_of_wpS (u := m) hfn hb fun c₀ cs hc => ?_
            refine wpS_seq (wpS_region ?_)
            obtain ⟨hg, hrun⟩ := isRecover_run (P := P) (w := w) hrec (Act.eval { tmps := (⟨args'⟩ : Array Value) ++ Array.replicate (fn.ntmps - (⟨args'⟩ : Array Value).size) undef, defers := [] })
            have hsize : ops.size = more.length + 1 := by
              have := congrArg List.length hops
              simpa using this
            have h0 : ops[0]? = some o := by
              have : ops.toList[0]? = some o := by rw [hops]; rfl
              simpa using this
            rw [hsize, List.range_eq_range', List.range'_succ]
            have hwant : Region.wanted o (yielded ops ((⟨args'⟩ : Array Value) ++ Array.replicate (fn.ntmps - (⟨args'⟩ : Array Value).size) undef)) = true := by unfold Region.wanted; rw [hg]
            simp only [wpOpsS, h0, hwant, if_true, hrun]
            -- the rest of the region
            have hdrop : ops.toList.drop 1 = more := by rw [hops]; rfl
            have hf1 := (entry_rel hx fn.ntmps).put (dst := o.dst) hv'
            have none_ok : CallOK P (fun _ _ _ => none) := fun _ _ _ _ _ e => by cases e
            have fin : ∀ (cs1 : List Frame), cs1 = { c₀ with mode := m1 } :: cs → wpOpsS P ops
                (Exit.thenS (fun a' cs' w' => rest.wpS P (bodyPostS P fn c₀ cs fun e m' w' => ∃ ρ', ST P ρ A.get A.nx w ρ' A2.get A2.nx w' ∧ UMR ρ' u.recover.2 m' ∧ CRR ρ' cr e) a' cs' w')
                  (bodyPostS P fn c₀ cs fun e m' w' => ∃ ρ', ST P ρ A.get A.nx w ρ' A2.get A2.nx w' ∧ UMR ρ' u.recover.2 m' ∧ CRR ρ' cr e))
                (List.range' (0 + 1) more.length) (Act.put { tmps := (⟨args'⟩ : Array Value) ++ Array.replicate (fn.ntmps - (⟨args'⟩ : Array Value).size) undef, defers := [] } o.dst v') cs1 w := by
              intro cs1 hcs1
              subst hcs1
              have post : ∀ e a' w', bodyPost P fn (fun e w' => ∃ ρ', ST P ρ A.get A.nx w ρ' A2.get A2.nx w' ∧ CRR ρ' cr e) e a' w' →
                  bodyPostS P fn c₀ cs (fun e m' w' => ∃ ρ', ST P ρ A.get A.nx w ρ' A2.get A2.nx w' ∧ UMR ρ' u.recover.2 m' ∧ CRR ρ' cr e) e a' ({ c₀ with mode := m1 } :: cs) w' := by
                intro e a' w' p
                cases e with
                | normal => obtain ⟨hd, v, h1, ρ', h2, h3⟩ := p; exact ⟨hd, m1, rfl, v, h1, ρ', h2, hm1.mono h2.ext, h3⟩
                | ret => obtain ⟨hd, v, h1, ρ', h2, h3⟩ := p; exact ⟨hd, m1, rfl, v, h1, ρ', h2, hm1.mono h2.ext, h3⟩
                | panic ch => obtain ⟨hd, ρ', h2, h3⟩ := p; exact ⟨hd, m1, rfl, ρ', h2, hm1.mono h2.ext, h3⟩
                | exit i => exact p.elim
                | goto l => exact p.elim
                | outgrown => obtain ⟨ρ', h2, h3⟩ := p; cases cr <;> exact h3.elim
              cases hreg : regLex P (fun _ _ _ => none) ops more ((entry args fn.ntmps).put o.dst u.recover.1) A with
              | none => rw [hreg] at hl; cases hl
              | some r0 =>
                rw [hreg] at hl
                refine regLexS_ok (P := P) none_ok more (0 + 1) hdrop ρ _ A _ w r0 hr hf1 hreg fun e a' w' p => ?_
                obtain ⟨o0, fr0, A0⟩ := r0
                have hp := p
                obtain ⟨ρ1, st, hf, ho⟩ := p
                cases e with
                | normal =>
                  have := ho.eq_normal
                  simp only at this
                  subst this
                  simp only at hl
                  cases he : ex none rest fr0 A0 with
                  | none => rw [he] at hl; cases hl
                  | some r2 =>
                    rw [he] at hl
                    exact wpS_of_wp (wp_mono (h.code _ _ _ _ he ρ1 _ w' st.hr hf) fun e a2 w2 p2 => post e a2 w2 (leave0_post hl (p2.trans hr st)))
                | _ => first
                  | (refine post _ _ _ (leave0_post (r := (o0, fr0, A0)) ?_ hp)
                     revert hl
                     cases o0 <;> first | exact ho.elim | exact fun q => q)
            rcases hrecD c₀ cs hc with h1 | ⟨h1, rfl, rfl⟩
            · rw [h1]; exact fin _ rfl
            · rw [h1]; exact fin _ (by subst hc; rfl)
          · exact plainCase _ hb hs
        · exact plainCase _ hb hs
      · rename_i c _ hb
        exact plainCase _ hb hs
      · cases hs
  · cases hs

end
end Go.Mini
