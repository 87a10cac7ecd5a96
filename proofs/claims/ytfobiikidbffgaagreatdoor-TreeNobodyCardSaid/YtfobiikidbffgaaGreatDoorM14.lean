/- Mini, part 14: frames; regions in the text's order. -/
import Derived.Test.YtfobiikidbffgaaGreatDoorMW
namespace Go.Mini

inductive DRL (ρ : Ren) : List Deferred → List Deferred → Prop
  | nil : DRL ρ [] []
  | cons {d d' : Deferred} {l l' : List Deferred} (h : DR ρ d d') (t : DRL ρ l l') : DRL ρ (d :: l) (d' :: l')

theorem DRL.mono {ρ ρ' : Ren} (le : Le ρ ρ') {l l' : List Deferred} (h : DRL ρ l l') : DRL ρ' l l' := by
  induction h with
  | nil => exact .nil
  | cons h _ ih => exact .cons (h.mono le) ih

structure FRel (ρ : Ren) (fr : Fr) (a : Act) : Prop where
  n : fr.n ≤ a.tmps.size
  t : ∀ t v, fr.t.get t = some v → ∃ v', a.tmps[t]? = some v' ∧ VR ρ v v'
  d : DRL ρ fr.d a.defers

theorem FRel.mono {ρ ρ' : Ren} (le : Le ρ ρ') {fr : Fr} {a : Act} (h : FRel ρ fr a) : FRel ρ' fr a :=
  ⟨h.n, fun t v e => let ⟨v', h1, h2⟩ := h.t t v e; ⟨v', h1, h2.mono le⟩, h.d.mono le⟩

section
variable {ρ ρ' : Ren} {A A' : AS} {w : World} {P : Program} {fr : Fr} {a : Act}

theorem FRel.ev {g : Nat → Option AO} {nx : Nat} (hr : HR P ρ g nx w) (h : FRel ρ fr a) (x : Operand) : VR ρ (fr.ev P x) (a.eval x) := by
  cases x with
  | tmp t =>
    show VR ρ (fr.at t) (a.tmps.getD t undef)
    unfold Fr.at
    cases e : fr.t.get t with
    | none => exact .top _
    | some v =>
      obtain ⟨v', h1, h2⟩ := h.t t v e
      have : a.tmps.getD t undef = v' := by simp [h1]
      rw [this]; exact h2
  | const v =>
    show VR ρ (match plain v with | true => v | false => undef) v
    cases e : plain v with
    | true => exact VR.of_plain ρ v e
    | false => exact .top _
  | global g' =>
    show VR ρ (match Nat.blt g' P.globals.size with | true => .pointer (some ⟨g', 0, none⟩) | false => undef) (.pointer (some ⟨g', 0, none⟩))
    cases e : Nat.blt g' P.globals.size with
    | true => exact .ptr (d := (0, 0)) 0 (hr.glob g' (by simpa [Nat.blt_eq] using e))
    | false => exact .top _
  | func f => exact .func (.func f) .nil .nil

theorem FRel.put {dst : Option Tmp} {v v' : Value} (h : FRel ρ fr a) (hv : VR ρ v v') : FRel ρ (fr.put dst v) (a.put dst v') := by
  cases dst with
  | none => exact h
  | some d =>
    have hn := h.n
    unfold Fr.put Act.put
    simp only
    cases e : Nat.blt d fr.n with
    | true =>
      have hd : d < fr.n := by simpa [Nat.blt_eq] using e
      refine ⟨by simpa using h.n, fun t u hu => ?_, h.d⟩
      simp only [BM.get_set] at hu
      by_cases c : t = d
      · rw [if_pos c] at hu; cases hu
        subst c
        exact ⟨v', Array.getElem?_setIfInBounds_self_of_lt (Nat.lt_of_lt_of_le hd hn), hv⟩
      · rw [if_neg c] at hu
        obtain ⟨u', h1, h2⟩ := h.t t u hu
        exact ⟨u', by simp only; rw [Array.getElem?_setIfInBounds_ne (fun e => c e.symm)]; exact h1, h2⟩
    | false =>
      refine ⟨by simpa using h.n, fun t u hu => ?_, h.d⟩
      simp only [BM.get_set] at hu
      by_cases c : t = d
      · rw [if_pos c] at hu; cases hu
      · rw [if_neg c] at hu
        obtain ⟨u', h1, h2⟩ := h.t t u hu
        exact ⟨u', by simp only; rw [Array.getElem?_setIfInBounds_ne (fun e => c e.symm)]; exact h1, h2⟩

theorem FRel.push {d d' : Deferred} (h : FRel ρ fr a) (hd : DR ρ d d') : FRel ρ { fr with d := d :: fr.d } { a with defers := d' :: a.defers } :=
  ⟨h.n, h.t, .cons hd h.d⟩

theorem FRel.wanted {ops : Array Oper} {o : Oper} {b : Bool} (h : FRel ρ fr a) (hw : wantedA ops fr o = some b) : Region.wanted o (yielded ops a.tmps) = b := by
  unfold wantedA at hw
  unfold Region.wanted
  cases hg : o.guard with
  | none => rw [hg] at hw; simpa using hw
  | some jw =>
    obtain ⟨j, want⟩ := jw
    rw [hg] at hw
    simp only at hw ⊢
    unfold yielded
    cases hd : (ops[j]?).bind (·.dst) with
    | none => rw [hd] at hw; simp at hw
    | some t =>
      rw [hd] at hw
      simp only [Option.bind_some] at hw ⊢
      cases e : fr.t.get t with
      | none => rw [e] at hw; simp at hw
      | some v =>
        rw [e] at hw
        obtain ⟨v', h1, h2⟩ := h.t t v e
        rw [h1]
        split at hw
        · rename_i b' heq
          cases heq
          cases h2
          simp only [Option.some.injEq] at hw
          rw [← hw]
          simp
        · rename_i heq
          cases heq
          cases h2
          simp only [Option.some.injEq] at hw
          rw [← hw]
          rfl
        · cases hw

/-- How code ends. -/
def OutR (ρ : Ren) : Out → Exit → Prop
  | .normal, .normal => True
  | .exit i, .exit j => i = j
  | .goto l, .goto m => l = m
  | .ret, .ret => True
  | .pan v, .panic chain => ∃ v', chain = [{ v := v', recovered := false }] ∧ VR ρ v v'
  | _, _ => False

def Post (P : Program) (ρ : Ren) (A : AS) (w : World) (r : Out × Fr × AS) (e : Exit) (a' : Act) (w' : World) : Prop :=
  ∃ ρ', ST P ρ A.get A.nx w ρ' r.2.2.get r.2.2.nx w' ∧ FRel ρ' r.2.1 a' ∧ OutR ρ' r.1 e

theorem Post.trans {A1 : AS} {w1 : World} {r : Out × Fr × AS} {e : Exit} {a' : Act} {w' : World} (h : HR P ρ A.get A.nx w) (st : ST P ρ A.get A.nx w ρ' A1.get A1.nx w1) (p : Post P ρ' A1 w1 r e a' w') : Post P ρ A w r e a' w' := by
  obtain ⟨ρ2, h1, h2, h3⟩ := p
  exact ⟨ρ2, ST.trans h.lt st h1, h2, h3⟩

theorem OP.upon {o : Oper} {r : OR} {next : Act → World → Prop} {Q : Exit → Act → World → Prop} {res : Result Next} (h : OP P ρ A w r A' res)
    (hv : ∀ v v' ρ' w', r = .val v → VR ρ' v v' → ST P ρ A.get A.nx w ρ' A'.get A'.nx w' → next (a.put o.dst v') w')
    (hd : ∀ d d' ρ' w', r = .dfr d → DR ρ' d d' → ST P ρ A.get A.nx w ρ' A'.get A'.nx w' → next ({ a with defers := d' :: a.defers }.put o.dst undef) w')
    (hp : ∀ v v' ρ' w', r = .pan v → VR ρ' v v' → ST P ρ A.get A.nx w ρ' A'.get A'.nx w' → Q (.panic [{ v := v', recovered := false }]) a w') :
    o.upon P a next Q res := by
  cases res with
  | ok x w1 =>
    cases x <;> first
      | exact (h : False).elim
      | skip
    case value v' => obtain ⟨v, ρ', h1, h2, h3⟩ := h; exact hv v v' ρ' w1 h1 h2 h3
    case skip => obtain ⟨v, ρ', h1, h2, h3⟩ := h; exact hv v undef ρ' w1 h1 h2 h3
    case defer d' => obtain ⟨d, ρ', h1, h2, h3⟩ := h; exact hd d d' ρ' w1 h1 h2 h3
    case enter f args =>
      rw [Oper.upon_enter]
      refine Calls.mono h fun e w'' he => ?_
      cases e with
      | returned v' => obtain ⟨v, ρ', h1, h2, h3⟩ := he; exact hv v v' ρ' w'' h1 h2 h3
      | panicked chain =>
        obtain ⟨v, v', ρ', h1, rfl, h2, h3⟩ := he
        exact hp v v' ρ' w'' h1 h2 h3
      | outgrown => exact (he : False).elim
  | halt x w1 =>
    cases x <;> first
      | exact (h : False).elim
      | skip
    case panic v' => obtain ⟨v, ρ', h1, h2, h3⟩ := h; exact hp v v' ρ' w1 h1 h2 h3


theorem regLex_ok {call : CallF} (hcall : CallOK P call) {ops : Array Oper} {Q : Exit → Act → World → Prop} : ∀ (l : List Oper) (i : Nat), ops.toList.drop i = l → ∀ (ρ : Ren) (fr : Fr) (A : AS) (a : Act) (w : World) (r : Out × Fr × AS),
    HR P ρ A.get A.nx w → FRel ρ fr a → regLex P call ops l fr A = some r → (∀ e a' w', Post P ρ A w r e a' w' → Q e a' w') → wpOps P ops Q (List.range' i l.length) a w := by
  intro l
  induction l with
  | nil =>
    intro i hi ρ fr A a w r hr hf hs hq
    rw [regLex_nil] at hs
    cases hs
    exact hq .normal a w ⟨ρ, ST.refl hr, hf, trivial⟩
  | cons o l ih =>
    intro i hi ρ fr A a w r hr hf hs hq
    have ho : ops[i]? = some o := by
      have : (ops.toList.drop i)[0]? = some o := by rw [hi]; rfl
      simpa using this
    have hi' : ops.toList.drop (i + 1) = l := by
      have : (ops.toList.drop i).drop 1 = l := by rw [hi]; rfl
      rw [← this, List.drop_drop]
    rw [regLex_cons] at hs
    simp only [List.length_cons, List.range'_succ, wpOps, ho]
    unfold regOne at hs
    split at hs
    · cases hs
    · rename_i hw
      rw [hf.wanted hw]
      simp only [Bool.false_eq_true, if_false]
      exact ih (i + 1) hi' ρ _ A _ w r hr (hf.put .skip) hs hq
    · rename_i hw
      rw [hf.wanted hw]
      simp only [if_true]
      refine .inl ?_
      unfold Oper.wp
      unfold regOp at hs
      split at hs
      · rename_i v A1 hop
        refine (op_run (P := P) hr hcall (hf.ev hr) hop).upon (fun v1 v' ρ' w' e hv st => ?_) (fun d d' ρ' w' e _ _ => by cases e) (fun v v' ρ' w' e _ _ => by cases e)
        cases e
        exact ih (i + 1) hi' ρ' _ A1 _ w' r st.hr ((hf.mono st.ext).put hv) hs (fun e a' w'' p => hq e a' w'' (p.trans hr st))
      · rename_i v A1 hop
        cases hs
        refine (op_run (P := P) hr hcall (hf.ev hr) hop).upon (fun v1 v' ρ' w' e hv st => by cases e) (fun d d' ρ' w' e _ _ => by cases e) (fun v1 v' ρ' w' e hv st => ?_)
        cases e
        exact hq _ a w' ⟨ρ', st, hf.mono st.ext, v', rfl, hv⟩
      · rename_i d A1 hop
        refine (op_run (P := P) hr hcall (hf.ev hr) hop).upon (fun v1 v' ρ' w' e hv st => by cases e) (fun d1 d' ρ' w' e hd st => ?_) (fun v1 v' ρ' w' e hv st => by cases e)
        cases e
        exact ih (i + 1) hi' ρ' _ A1 _ w' r st.hr (((hf.mono st.ext).push hd).put (.top _)) hs (fun e a' w'' p => hq e a' w'' (p.trans hr st))
      · cases hs

/-- The draw regions are walked in the text's order: what is to be shown of them. -/
def DrawOK (P : Program) : Prop := ∀ (call : CallF) (ops : Array Oper) (ρ : Ren) (fr : Fr) (A : AS) (a : Act) (w : World) (r : Out × Fr × AS) (id : Nat), CallOK P call → CallWm call → regSem P call ops true fr A = some r → HR P ρ A.get A.nx w → FRel ρ fr a →
    (Code.region id ops true).wp P (Post P ρ A w r) a w

theorem region_ok (hdr : DrawOK P) {call : CallF} (hcall : CallOK P call) (hwm : CallWm call) {ops : Array Oper} {draw : Bool} {r : Out × Fr × AS} {id : Nat} (hr : HR P ρ A.get A.nx w) (hf : FRel ρ fr a) (hs : regSem P call ops draw fr A = some r) :
    (Code.region id ops draw).wp P (Post P ρ A w r) a w := by
  cases draw with
  | true => exact hdr call ops ρ fr A a w r id hcall hwm hs hr hf
  | false =>
    have hs' : regLex P call ops ops.toList fr A = some r := hs
    refine wp_region ?_
    have := regLex_ok (P := P) hcall (Q := Post P ρ A w r) ops.toList 0 (by simp) ρ fr A a w r hr hf hs' (fun _ _ _ p => p)
    rw [List.range_eq_range']
    simpa using this

end
end Go.Mini
