/- Mini, part 21: drawn regions, joined. -/
import Derived.Test.YtfobiikidbffgaaGreatDoorM20
namespace Go.Mini

theorem Prop_ext {α : Type} {f g : α → Prop} (h : ∀ x, f x ↔ g x) : f = g := funext fun x => propext (h x)

def Lof (listed : Array Bool) : Nat → Prop := fun j => listed.getD j false = true

theorem Lof_set {listed : Array Bool} {k : Nat} (hk : k < listed.size) : Lof (listed.setIfInBounds k true) = fun j => Lof listed j ∨ j = k := by
  refine Prop_ext fun j => ?_
  unfold Lof
  by_cases c : j = k
  · subst c
    simp [hk]
  · simp only [c, or_false]
    simp [Array.getElem?_setIfInBounds_ne (Ne.symm c)]

section
variable {P : Program} {call : CallF} {ops : Array Oper} {ρ0 ρ : Ren} {A0 : AS} {fr : Fr} {a0 a : Act} {w0 w : World}

/-- One step of the walk. -/
theorem draw_step (hcall : CallOK P call) (hwm : CallWm call) (hok : regOk ops = true) {S : Nat → LS} {V : Nat → Value} {C : Nat → Option Cl} (lx : Lex P call ops (befs ops.toList []) S V C) (hfr : (S 0).fr = fr) (hA : (S 0).A = A0)
    (hr0 : HR P ρ0 A0.get A0.nx w0) (hf0 : FRel ρ0 fr a0) {Q : Exit → Act → World → Prop} {K : Act → World → Prop} {L : Nat → Prop} (hp : ∀ k o e, L k → ops[k]? = some o → e ∈ o.after → Region.binds .any e = true → L e.on)
    (I : Inv P ops.size (fun k => (S k).A) C V ops ρ0 a0 w0 L ρ a w) {k : Nat} {o : Oper} (ho : ops[k]? = some o) (hnl : ¬ L k) (hrd : ∀ e ∈ o.after, Region.binds .any e = true → L e.on)
    (hK : ∀ ρ' a' w', Inv P ops.size (fun k => (S k).A) C V ops ρ0 a0 w0 (fun j => L j ∨ j = k) ρ' a' w' → K a' w') : wpOp P ops Q k K a w := by
  unfold regOk at hok
  simp only [Bool.and_eq_true] at hok
  obtain ⟨⟨⟨hed, hns⟩, hsel⟩, htm⟩ := hok
  have hk : k < ops.size := (Array.getElem?_eq_some_iff.1 ho).1
  have lf := lx.lf hwm
  have h0 : ∀ i x, ρ0 i = some x → i < (S 0).A.nx := fun i x e => by rw [hA]; exact hr0.lt i x e
  have hdc : ∀ k j, k < ops.size → L k → j ∈ (befs ops.toList []).getD k [] → L j := fun k j hk hl hj => by
    obtain ⟨o', ho'⟩ := oper_at (ops := ops) hk
    exact bef_listed hed hp k o' ho' (fun e he hb => hp k o' e hl ho' he hb) j hj
  have hb : ∀ j, j ∈ (befs ops.toList []).getD k [] → L j := bef_listed hed hp k o ho hrd
  have hnd : ∀ j o' d, ops[j]? = some o' → o'.dst = some d → o.dst = some d → j = k := fun j o' d hj h1 h2 =>
    nodup_dst ops.toList j k o' o d (tmpsOk_nodup htm) (by simpa using hj) (by simpa using ho) h1 h2
  have hbase : Le ρ0 (cut ρ (S k).A.nx) := fun i x e => cut_some.2 ⟨Nat.lt_of_lt_of_le (h0 i x e) (lf.mono (Nat.zero_le _) (by omega)), I.base i x e⟩
  obtain ⟨fn, fd, ft⟩ := lx.frames k (by omega)
  -- the temporaries that the operation looks at
  have TR : ∀ t ∈ o.looksAt ops, ∀ v, (S k).fr.t.get t = some v → ∃ v', a.tmps[t]? = some v' ∧ VR (cut ρ (S k).A.nx) v v' := by
    intro t ht v hv
    rcases ft t v hv with ⟨i, oi, hi, hoi, hd, rfl, hlt⟩ | ⟨hno, hv0⟩
    · have hbi : i ∈ (befs ops.toList []).getD k [] := (tmpsOk_order htm hoi ho hd (by omega) ht).1 hi
      obtain ⟨v', h1, h2⟩ := I.dst i oi t (hb i hbi) hoi hd (Nat.lt_of_lt_of_le (by rw [hfr] at hlt; exact hlt) hf0.n)
      exact ⟨v', h1, h2.mono (cut_mono (Le.refl _) (lf.mono hi (by omega)))⟩
    · rw [hfr] at hv0
      obtain ⟨v', h1, h2⟩ := hf0.t t v hv0
      refine ⟨v', ?_, h2.mono hbase⟩
      rw [I.tmp t ?_]
      · exact h1
      · intro j oj hl hoj hd
        rcases Nat.lt_trichotomy j k with c | c | c
        · exact hno j oj c hoj hd
        · subst c; exact hnl hl
        · have := (tmpsOk_order htm hoj ho hd (by omega) ht).2 c
          have hj : j < ops.size := (Array.getElem?_eq_some_iff.1 hoj).1
          exact hnl (hdc j k hj hl this)
  have hev : ∀ x ∈ o.op.operands, VR (cut ρ (S k).A.nx) ((S k).fr.ev P x) (a.eval x) := by
    intro x hx
    cases x with
    | tmp t =>
      show VR _ ((S k).fr.at t) (a.tmps.getD t undef)
      unfold Fr.at
      cases e : (S k).fr.t.get t with
      | none => exact .top _
      | some v =>
        obtain ⟨v', h1, h2⟩ := TR t (List.mem_append_left _ (List.mem_filterMap.2 ⟨.tmp t, by simpa using hx, rfl⟩)) v e
        have : a.tmps.getD t undef = v' := by simp [h1]
        rw [this]; exact h2
    | const v =>
      show VR _ (match plain v with | true => v | false => undef) v
      cases e : plain v with
      | true => exact VR.of_plain _ v e
      | false => exact .top _
    | global g =>
      show VR _ (match Nat.blt g P.globals.size with | true => .pointer (some ⟨g, 0, none⟩) | false => undef) (.pointer (some ⟨g, 0, none⟩))
      cases e : Nat.blt g P.globals.size with
      | true => exact .ptr (d := (0, 0)) 0 (hbase _ _ (hr0.glob g (by simpa [Nat.blt_eq] using e)))
      | false => exact .top _
    | func f => exact .func (.func f) .nil .nil
  have hwant : ∀ b, wantedA ops (S k).fr o = some b → Region.wanted o (yielded ops a.tmps) = b := by
    intro b hw
    unfold wantedA at hw
    unfold Region.wanted
    cases hg : o.guard with
    | none => rw [hg] at hw; simpa using hw
    | some jw =>
      obtain ⟨j, want⟩ := jw
      rw [hg] at hw
      simp only at hw ⊢
      unfold yielded
      cases hd : (ops[j]?).bind (·.dst) with
      | none => rw [hd] at hw; simp at hw
      | some t =>
        rw [hd] at hw
        simp only [Option.bind_some] at hw ⊢
        cases e : (S k).fr.t.get t with
        | none => rw [e] at hw; simp at hw
        | some v =>
          rw [e] at hw
          obtain ⟨v', h1, h2⟩ := TR t (by simp [Oper.looksAt, hg, hd]) v e
          rw [h1]
          split at hw
          · rename_i b' heq
            cases heq
            cases h2
            simp only [Option.some.injEq] at hw
            rw [← hw]
            simp
          · rename_i heq
            cases heq
            cases h2
            simp only [Option.some.injEq] at hw
            rw [← hw]
            rfl
          · cases hw
  -- memory, as the operation sees it
  have hrV : ∀ Vw Vw', View (S k).A (S (k + 1)).A (C k) Vw Vw' → HR P (cut ρ (S k).A.nx) Vw.get (S k).A.nx w := by
    intro Vw Vw' vw
    have seen : ∀ i x, cut ρ (S k).A.nx i = some x → ∀ o1, Vw.get i = some o1 → (S k).A.get i = some o1 ∧ Valid ops.size (fun k => (S k).A) C L k i := fun i x hx o1 e => by
      obtain ⟨h1, h2⟩ := vw.seen i o1 e
      obtain ⟨h3, h4⟩ := cut_some.1 hx
      exact ⟨h1, lf.now hdc hk hnl hb h3 h2 fun j hj h1 h2 => I.makerIn lf h0 h4 (by omega) h1 h2⟩
    refine ⟨fun i hi => hbase _ _ (hr0.glob i hi), fun i b d e => ?_, fun i j b d d' e e' hi hj => ?_, fun i b d o1 e eo => ?_⟩
    · obtain ⟨h1, h2⟩ := cut_some.1 e
      exact ⟨h1, I.dom i b d h2⟩
    · cases e1 : Vw.get i with
      | none => exact absurd e1 hi
      | some o1 =>
        cases e2 : Vw.get j with
        | none => exact absurd e2 hj
        | some o2 =>
          obtain ⟨s1, s2⟩ := seen i _ e o1 e1
          obtain ⟨s3, s4⟩ := seen j _ e' o2 e2
          exact I.inj i j b d d' k k (cut_some.1 e).2 (cut_some.1 e').2 s2 (by rw [s1]; simp) s4 (by rw [s3]; simp)
    · obtain ⟨s1, s2⟩ := seen i _ e o1 eo
      exact I.obj i b d k o1 (cut_some.1 e).2 s2 s1
  unfold wpOp
  simp only [ho]
  rcases lx.view_ hwm ho with ⟨h1, h2, h3, vw⟩ | ⟨h1, c, Vw, Vw', g, h2, h3, hop, vw⟩
  · rw [hwant _ h1]
    simp only [Bool.false_eq_true, if_false]
    have hr := hrV _ _ vw
    have st := ST.refl hr
    have hnx : (S (k + 1)).A.nx = (S k).A.nx := vw.still (.inl h3)
    rw [show (S k).A.nx = (S (k + 1)).A.nx from hnx.symm] at st
    refine hK _ _ _ (I.step lf h0 hdc hk hnl hb ho hnd vw (v' := undef) (ρ' := cut ρ (S k).A.nx) ?_ ?_ fun i e => ?_)
    · have := ST.refl hr
      have e2 : (S (k + 1)).A.nx = (S k).A.nx := hnx
      show ST P (cut ρ (S k).A.nx) _ (S k).A.nx w (cut ρ (S k).A.nx) _ (S (k + 1)).A.nx w
      rw [e2]
      exact this
    · rw [h2]; exact .skip
    · rw [h3] at e; cases e
  · rw [hwant _ h1]
    simp only [if_true]
    refine .inl ?_
    have hr := hrV _ _ vw
    have hr' : HR P (cut ρ (S k).A.nx) Vw.get Vw.nx w := by rw [vw.nx]; exact hr
    unfold Oper.wp
    refine (op_run_at (P := P) hr' hcall hev hop).upon (fun v1 v' ρ' w' e hv st => ?_) (fun d d' ρ' w' e _ _ => by cases e) (fun v v' ρ' w' e _ _ => by cases e)
    cases e
    have st' : ST P (cut ρ (S k).A.nx) Vw.get (S k).A.nx w ρ' Vw'.get (S (k + 1)).A.nx w' := by
      rw [vw.nx, vw.nx'] at st; exact st
    refine hK _ _ _ (I.step lf h0 hdc hk hnl hb ho hnd vw st' hv fun i e => ?_)
    rw [h2, h3] at e
    simp only [Option.some.injEq] at e
    obtain ⟨t, x, y, off, e1, e2⟩ := clOf_s e
    have := hev x (by rw [e1]; simp [Op.operands])
    rw [e2] at this
    generalize a.eval x = z at this
    cases this with
    | ptr _ hi => exact ⟨_, hi⟩

end
end Go.Mini
