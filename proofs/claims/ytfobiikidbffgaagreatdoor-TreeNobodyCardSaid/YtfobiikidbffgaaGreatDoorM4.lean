/- Mini, part 4: what asks nothing of the world; types; arithmetic; comparisons. -/
import Derived.Test.YtfobiikidbffgaaGreatDoorM3
namespace Go.Mini

theorem pureVal_run {α : Type} (P : Program) (w : World) : ∀ (s : Sem α) (a : α), pureVal P s = some a → s.run P w = .ok a w := by
  intro s
  induction s with
  | pure a => intro b h; simp only [pureVal, Option.some.injEq] at h; subst h; rfl
  | program k ih => intro b h; exact ih P b h
  | mark m k ih => intro b h; exact ih b h
  | _ => intro b h; simp [pureVal] at h

section
variable {P : Program} {w : World}

theorem run_underlying {t : TypeId} {d : TypeDesc} (h : P.underlying t = some d) : (underlying t).run P w = .ok d w := by
  unfold underlying; simp [h]
theorem run_sizeOf {t : TypeId} {n : Nat} (h : sizeT P t = some n) : (sizeOf t).run P w = .ok n w := by
  unfold sizeT at h
  cases hi : P.info? t with
  | none => rw [hi] at h; simp at h
  | some i => rw [hi] at h; simp only [Option.map_some, Option.some.injEq] at h; subst h; unfold sizeOf typeInfo; simp [hi]
theorem run_bytes {t : TypeId} {n : Nat} (h : bytesT P t = some n) : ∃ i, (typeInfo t).run P w = .ok i w ∧ i.bytes = n := by
  unfold bytesT at h
  cases hi : P.info? t with
  | none => rw [hi] at h; simp at h
  | some i => rw [hi] at h; simp only [Option.map_some, Option.some.injEq] at h; exact ⟨i, by unfold typeInfo; simp [hi], h⟩
theorem run_zero {t : TypeId} {z : Value} (h : zeroT P t = some z) : (zeroValue t).run P w = .ok z w ∧ plain z = true := by
  unfold zeroT at h
  cases hi : P.info? t with
  | none => rw [hi] at h; simp at h
  | some i =>
    simp only [hi] at h
    cases hz : i.zero with
    | none => simp [hz] at h
    | some z' =>
      simp only [hz] at h
      by_cases hp : plain z' = true
      · simp only [hp, if_true, Option.some.injEq] at h; subst h; exact ⟨by unfold zeroValue typeInfo; simp [hi, hz], hp⟩
      · simp [hp] at h
theorem run_isAgg {t : TypeId} {b : Bool} (h : isAggT P t = some b) : (isAgg t).run P w = .ok b w := by
  unfold isAggT at h
  cases hu : P.underlying t with
  | none => rw [hu] at h; simp at h
  | some d =>
    rw [hu] at h
    unfold isAgg
    rw [Sem.run_bind, run_underlying hu]
    cases d <;> simp at h <;> subst h <;> rfl

theorem plain_int (k : IntKind) (n : Int) : plain (.int k n) = true := rfl
theorem plain_bool (b : Bool) : plain (.bool b) = true := rfl

theorem intBin_run {op : BinOp} {k k' : IntKind} {a b : Int} {v : Value} (t : TypeId) (h : intBin op k a k' b = some v) :
    (binOp op t (.int k a) (.int k' b)).run P w = .ok v w ∧ plain v = true := by
  cases op
  case shl =>
    simp only [intBin] at h
    split at h
    · cases h
    · rename_i hb
      cases h
      refine ⟨?_, rfl⟩
      simp only [binOp, Op.shift, if_neg hb]; rfl
  case shr =>
    simp only [intBin] at h
    split at h
    · cases h
    · rename_i hb
      cases h
      refine ⟨?_, rfl⟩
      simp only [binOp, Op.shift, if_neg hb]; rfl
  all_goals
    simp only [intBin] at h
    split at h
    · rename_i hk
      subst hk
      simp only [arithI, bitsI] at h
      first
        | (cases h; refine ⟨?_, rfl⟩; simp only [binOp, ne_eq, not_true_eq_false, if_false]; rfl)
        | (split at h
           · cases h
           · rename_i hb
             cases h
             refine ⟨?_, rfl⟩
             simp only [binOp, ne_eq, not_true_eq_false, if_false, Op.intDiv, if_neg hb]; rfl)
    · cases h

theorem eqGuard_int (op : BinOp) (t : TypeId) (x y : Operand) (k k' : IntKind) (a b : Int) : (eqGuard op t x y (.int k a) (.int k' b)).run P w = .ok () w := by
  unfold eqGuard
  cases op <;> rfl

theorem sBin_int {op : BinOp} {k k' : IntKind} {a b : Int} {v : Value} (t : TypeId) (x y : Operand) (h : intBin op k a k' b = some v) :
    (do eqGuard op t x y (.int k a) (.int k' b); binOp op t (.int k a) (.int k' b) : Sem Value).run P w = .ok v w ∧ plain v = true := by
  have := intBin_run (P := P) (w := w) t h
  refine ⟨?_, this.2⟩
  rw [Sem.run_bind, eqGuard_int, Result.andThen_ok, this.1]

theorem plainVal_some {o : Option Value} {v : Value} (h : plainVal o = some v) : o = some v ∧ plain v = true := by
  unfold plainVal at h
  cases o with
  | none => simp at h
  | some u =>
    by_cases hp : plain u = true
    · simp only [hp, if_true, Option.some.injEq] at h; subst h; exact ⟨rfl, hp⟩
    · simp [hp] at h

theorem equal_run (t : TypeId) (x y : Value) : (Op.equal t x y).run P w = (Op.equalIn (9999 + 1) t x y).run P w := rfl

theorem eqGuard_ne {op : BinOp} {t : TypeId} {xo yo : Operand} {x y : Value} (h1 : ¬(x = .nilIface ∧ y = .nilIface)) (h2 : ∀ a b, ¬(x = .agg a ∧ y = .agg b)) : (eqGuard op t xo yo x y).run P w = .ok () w := by
  unfold eqGuard
  cases x <;> cases y <;> cases op <;> first | rfl | (exact absurd ⟨rfl, rfl⟩ h1) | (exact absurd ⟨rfl, rfl⟩ (h2 _ _))

theorem nilBeside_in {ρ : Ren} {t : TypeId} {x y x' y' : Value} (n : Nat) (h : nilBeside (P.underlying t) x y = true) (hx : VR ρ x x') (hy : VR ρ y y') :
    (Op.equalIn (n + 1) t x' y').run P w = .ok false w ∧ ¬(x' = .nilIface ∧ y' = .nilIface) ∧ (∀ a b, ¬(x' = .agg a ∧ y' = .agg b)) := by
  cases hu : P.underlying t with
  | none => rw [hu] at h; simp [nilBeside] at h
  | some d =>
    rw [hu] at h
    cases d <;> (first | (simp [nilBeside] at h; done) | skip) <;> cases hx <;> (first | (simp [nilBeside] at h; done) | skip) <;> cases hy <;> (first | (simp [nilBeside] at h; done) | skip)
    all_goals
      refine ⟨?_, by simp, by simp⟩
      simp only [Op.equalIn, Sem.run_bind, run_underlying hu, Result.andThen_ok]
      first | rfl | (simp; done)

theorem addr_beq (b o o' d : Nat) : ((⟨b, o + d, none⟩ : Addr) == ⟨b, o' + d, none⟩) = (o == o') := by
  rw [Bool.eq_iff_iff]
  simp only [beq_iff_eq, Addr.mk.injEq, true_and, and_true]
  omega

theorem sameAddr_run (b o o' d : Nat) : (sameAddr ⟨b, o + d, none⟩ ⟨b, o' + d, none⟩).run P w = .ok (o == o') w := by
  unfold sameAddr
  simp [addr_beq]

theorem ptr_equal (m : Nat) {t e : TypeId} {n : Nat} (hu : P.underlying t = some (.pointer e)) (hn : sizeT P e = some n) (h0 : n ≠ 0) (b o o' d : Nat) :
    (Op.equalIn (m + 1) t (.pointer (some ⟨b, o + d, none⟩)) (.pointer (some ⟨b, o' + d, none⟩))).run P w = .ok (o == o') w := by
  simp only [Op.equalIn, Sem.run_bind, run_underlying hu, Result.andThen_ok, run_sizeOf hn, ne_eq, h0, not_false_eq_true, if_true, sameAddr_run]

theorem sameObj_run {ρ : Ren} {op : BinOp} {t : TypeId} {x y x' y' v : Value} (h : sameObj op P t x y = some v) (hx : VR ρ x x') (hy : VR ρ y y') :
    (binOp op t x' y').run P w = .ok v w ∧ plain v = true ∧ ¬(x' = .nilIface ∧ y' = .nilIface) ∧ (∀ a b, ¬(x' = .agg a ∧ y' = .agg b)) := by
  unfold sameObj at h
  split at h
  · rename_i e b o b' o' hu
    cases hx with
    | ptr _ h1 =>
    cases hy with
    | ptr _ h2 =>
    split at h
    · rename_i n hn
      split at h
      · rename_i hc
        obtain ⟨hn0, rfl⟩ := hc
        rw [h1] at h2
        cases h2
        refine ⟨?_, ?_, by simp, by simp⟩
        · cases op <;> simp at h
          · subst h
            simp only [binOp, Sem.run_bind, equal_run, ptr_equal 9999 hu hn hn0, Result.andThen_ok]; rfl
          · subst h
            simp only [binOp, Sem.run_bind, equal_run, ptr_equal 9999 hu hn hn0, Result.andThen_ok]; rfl
        · cases op <;> simp at h <;> subst h <;> rfl
      · cases h
    · cases h
  · cases h

theorem otherBin_run {ρ : Ren} {op : BinOp} {t : TypeId} {x y x' y' v : Value} (h : otherBin P op t x y = some v) (hx : VR ρ x x') (hy : VR ρ y y') :
    (binOp op t x' y').run P w = .ok v w ∧ plain v = true ∧ ¬(x' = .nilIface ∧ y' = .nilIface) ∧ (∀ a b, ¬(x' = .agg a ∧ y' = .agg b)) := by
  unfold otherBin at h
  cases op <;> simp only at h <;> (try (cases h; done))
  all_goals
    split at h
    · rename_i hn
      cases h
      obtain ⟨h1, h2, h3⟩ := nilBeside_in (w := w) 9999 hn hx hy
      refine ⟨?_, rfl, h2, h3⟩
      have : ∀ op, (op = BinOp.eql → (binOp op t x' y') = (do pure (.bool (← Op.equal t x' y')))) ∧ (op = BinOp.neq → (binOp op t x' y') = (do pure (.bool (!(← Op.equal t x' y'))))) := by
        intro op
        have hs : ∀ k n, x' ≠ .int k n := by
          intro k n e; subst e; cases hx <;> (cases hu : P.underlying t <;> simp [nilBeside, hu] at hn)
        constructor <;> intro e <;> subst e <;> cases hx <;> cases hy <;> first | rfl | (exfalso; revert hn; cases P.underlying t <;> simp [nilBeside]; done) | (exfalso; revert hn; cases P.underlying t with | none => simp [nilBeside] | some d => cases d <;> simp [nilBeside])
      first
        | (rw [(this _).1 rfl]; simp only [Sem.run_bind, equal_run, h1, Result.andThen_ok]; rfl)
        | (rw [(this _).2 rfl]; simp only [Sem.run_bind, equal_run, h1, Result.andThen_ok]; rfl)
    · exact sameObj_run h hx hy

theorem sBin_run {ρ : Ren} {op : BinOp} {t : TypeId} {xo yo : Operand} {x y x' y' v : Value} (h : sBin P op t xo yo x y = some v) (hx : VR ρ x x') (hy : VR ρ y y') :
    (do eqGuard op t xo yo x' y'; binOp op t x' y' : Sem Value).run P w = .ok v w ∧ plain v = true := by
  unfold sBin at h
  split at h
  · rename_i k a k' b
    cases hx; cases hy
    exact sBin_int t xo yo h
  · split at h
    · rename_i hp
      simp only [Bool.and_eq_true] at hp
      rw [hx.eq_of_plain hp.1, hy.eq_of_plain hp.2]
      obtain ⟨h1, h2⟩ := plainVal_some h
      exact ⟨pureVal_run P w _ _ h1, h2⟩
    · obtain ⟨h1, h2, h3, h4⟩ := otherBin_run (w := w) h hx hy
      refine ⟨?_, h2⟩
      rw [Sem.run_bind, eqGuard_ne h3 h4, Result.andThen_ok, h1]

theorem sUn_run {ρ : Ren} {op : UnOp} {x x' v : Value} (h : sUn P op x = some v) (hx : VR ρ x x') : (Op.unary op x').run P w = .ok v w ∧ plain v = true := by
  unfold sUn at h
  split at h
  · cases hx; cases h; exact ⟨rfl, rfl⟩
  · split at h
    · rename_i hp
      rw [hx.eq_of_plain hp]
      obtain ⟨h1, h2⟩ := plainVal_some h
      exact ⟨pureVal_run P w _ _ h1, h2⟩
    · cases h

end
end Go.Mini
