/- Mini, part 5: operations that leave memory as it is. -/
import Derived.Test.YtfobiikidbffgaaGreatDoorM4
namespace Go.Mini

section
variable {ρ : Ren} {A : AS} {w : World} {P : Program}

theorem cellsAt_get {b : Nat} {c : List Value} {e : TypeId} (h : A.cellsAt b = some (c, e)) : A.get b = some (.cells c e) := by
  unfold AS.cellsAt at h
  split at h
  · rename_i c' e' hg; cases h; exact hg
  · cases h

theorem loadN_get {b o n : Nat} {l : List Value} (h : A.loadN b o n = some l) : ∃ c e, A.get b = some (.cells c e) ∧ o + n ≤ c.length ∧ l = (c.drop o).take n := by
  unfold AS.loadN at h
  split at h
  · rename_i c e hc
    split at h
    · rename_i hl; cases h; exact ⟨c, e, cellsAt_get hc, hl, rfl⟩
    · cases h
  · cases h

theorem loadN_rel (h : HR P ρ A.get A.nx w) {i b o n : Nat} {d : Nat × Nat} {l : List Value} (hi : ρ i = some (b, d)) (hl : A.loadN i o n = some l) :
    ∃ l', (loadCells ⟨b, o + d.1, none⟩ n).run P w = .ok ⟨l'⟩ w ∧ VRL ρ l l' := by
  obtain ⟨c, e, h1, h2, rfl⟩ := loadN_get hl
  exact load_rel h hi h1 h2

theorem sLoad_run (h : HR P ρ A.get A.nx w) {t : TypeId} {x x' v : Value} (hs : sLoad P t x A = some v) (hx : VR ρ x x') :
    ∃ v', (Instr.loadAt t x').run P w = .ok v' w ∧ VR ρ v v' := by
  unfold sLoad at hs
  split at hs
  · rename_i b off
    cases hx with
    | ptr _ hi =>
    unfold Instr.loadAt Instr.sureAddr loadVar
    split at hs
    · rename_i ha
      split at hs
      · rename_i n hn
        cases hl : A.loadN b off n with
        | none => rw [hl] at hs; simp at hs
        | some c =>
          rw [hl] at hs
          simp only [Option.map_some, Option.some.injEq] at hs
          subst hs
          obtain ⟨l', h1, h2⟩ := loadN_rel (P := P) h hi hl
          refine ⟨.agg ⟨l'⟩, ?_, .agg h2⟩
          simp only [Sem.run_bind, Sem.run_pure, Result.andThen_ok, run_isAgg ha, if_true, run_sizeOf hn, h1]
      · cases hs
    · rename_i ha
      split at hs
      · rename_i c e hc
        obtain ⟨v', h1, h2⟩ := load1_rel (P := P) h hi (cellsAt_get hc) hs
        refine ⟨v', ?_, h2⟩
        simp only [Sem.run_bind, Sem.run_pure, Result.andThen_ok, run_isAgg ha, Bool.false_eq_true, if_false, h1]
      · cases hs
    · cases hs
  · cases hs

theorem sNilCheck_run {x x' v : Value} (hs : sNilCheck x = some v) (hx : VR ρ x x') : v = x ∧
    (match x' with
    | .pointer none | .nilIface | .nilFunc => (runtimePanic .nilDeref : Sem Value)
    | .func (.method name) first captured =>
      match (first[0]? : Option Value) with
      | some .nilIface => runtimePanic .nilDeref
      | some (.iface t w) => do
        if (← nilAhead ((← program).types.size + Made.depth) t w name) != some false then
          unsupported (.noEntry "op/nilCheck.the method's receiver behind this interface value is a nil pointer, or cannot be seen to be none, and the arguments act or may panic (ledger 612)")
        pure (.func (.method name) first captured)
      | _ => pure (.func (.method name) first captured)
    | x => pure x).run P w = .ok x' w := by
  unfold sNilCheck at hs
  split at hs
  · cases hs
    cases hx
    exact ⟨rfl, rfl⟩
  · cases hs
    cases hx
    exact ⟨rfl, rfl⟩
  · cases hs
    cases hx
    exact ⟨rfl, rfl⟩
  · cases hs

theorem sMkIface_run {t : TypeId} {x x' v : Value} (hs : sMkIface P t x = some v) (hx : VR ρ x x') : ∃ v', (Instr.makeInterface t x').run P w = .ok v' w ∧ VR ρ v v' := by
  unfold sMkIface at hs
  unfold Instr.makeInterface
  split at hs
  · cases hs
  · cases hs
  · rename_i d hne hu
    split at hs
    · cases hs
    · cases hs
      refine ⟨.iface t x', ?_, .iface t hx⟩
      rw [Sem.run_bind, run_underlying hu, Result.andThen_ok]
      cases d <;> first | rfl | exact (hne _ rfl).elim

theorem part_run {t : TypeId} {cs cs' : List Value} {off : Nat} {v : Value} (hs : partAt P t cs off = some v) (hc : VRL ρ cs cs') :
    ∃ v', (part t ⟨cs'⟩ off).run P w = .ok v' w ∧ VR ρ v v' := by
  unfold partAt at hs
  unfold part
  split at hs
  · rename_i ha
    split at hs
    · rename_i n hn
      split at hs
      · cases hs
        refine ⟨.agg ⟨(cs'.drop off).take n⟩, ?_, .agg ((hc.drop off).take n)⟩
        simp only [Sem.run_bind, run_isAgg ha, Result.andThen_ok, if_true, run_sizeOf hn, Sem.run_pure]
        congr 2
        simp [List.extract_eq_take_drop]
      · cases hs
    · cases hs
  · rename_i ha
    obtain ⟨v', h1, h2⟩ := hc.get hs
    refine ⟨v', ?_, h2⟩
    simp only [Sem.run_bind, run_isAgg ha, Result.andThen_ok, Bool.false_eq_true, if_false]
    simp [h1]
  · cases hs

theorem sFieldAddr_run {t : TypeId} {x x' v : Value} {f : Nat} (hs : sFieldAddr P t x f = some v) (hx : VR ρ x x') :
    ∃ v', (Instr.fieldAt t x' f).run P w = .ok v' w ∧ VR ρ v v' := by
  unfold sFieldAddr at hs
  split at hs
  · rename_i fs b off hu
    cases hx with
    | ptr _ hi =>
    split at hs
    · rename_i fd hf
      split at hs
      · rename_i n hn
        split at hs
        · cases hs
        · rename_i hn0
          cases hs
          refine ⟨_, ?_, .ptr _ hi⟩
          unfold Instr.fieldAt Instr.sureAddr fieldPlace
          simp only [Sem.run_bind, run_underlying hu, Result.andThen_ok, hf, Sem.run_pure, run_sizeOf hn, hn0, if_false, add_plain]
          exact congrArg (fun z => Result.ok (Value.pointer (some ⟨_, z, none⟩)) w) (Nat.add_right_comm _ _ _)
      · cases hs
    · cases hs
  · cases hs

theorem sField_run {t : TypeId} {x x' v : Value} {f : Nat} (hs : sField P t x f = some v) (hx : VR ρ x x') :
    ∃ v', (Instr.field t x' f).run P w = .ok v' w ∧ VR ρ v v' := by
  unfold sField at hs
  split at hs
  · rename_i fs cs hu
    cases hx with
    | agg hl =>
    split at hs
    · rename_i fd hf
      obtain ⟨v', h1, h2⟩ := part_run (w := w) hs hl
      refine ⟨v', ?_, h2⟩
      unfold Instr.field asAgg
      simp only [Sem.run_bind, run_underlying hu, Result.andThen_ok, hf, Sem.run_pure, h1]
    · cases hs
  · cases hs

theorem asIntOf_run (k : IntKind) (n : Int) : (asIntOf (.int k n)).run P w = .ok (k, n) w := rfl

theorem sIndexAddr_run {t : TypeId} {x x' i i' v : Value} (hs : sIndexAddr P t x i = some v) (hx : VR ρ x x') (hi : VR ρ i i') :
    ∃ v', (Instr.indexAt t x' i').run P w = .ok v' w ∧ VR ρ v v' := by
  unfold sIndexAddr at hs
  split at hs
  · rename_i len e b off k n hu
    cases hi
    cases hx with
    | ptr _ hi =>
    split at hs
    · rename_i size hn
      split at hs
      · rename_i hb
        cases hs
        refine ⟨_, ?_, .ptr _ hi⟩
        unfold Instr.indexAt Instr.sureAddr
        simp only [Sem.run_bind, asIntOf_run, run_underlying hu, Result.andThen_ok, Sem.run_pure, hb, and_self, if_true, run_sizeOf hn, add_plain]
        exact congrArg (fun z => Result.ok (Value.pointer (some ⟨_, z, none⟩)) w) (Nat.add_right_comm _ _ _)
      · cases hs
    · cases hs
  · rename_i e b off len cap k n hu
    cases hi
    cases hx with
    | sl _ _ _ c' hi hc _ =>
    split at hs
    · rename_i size hn
      split at hs
      · rename_i hb
        cases hs
        refine ⟨_, ?_, .ptr _ hi⟩
        unfold Instr.indexAt
        simp only [Sem.run_bind, asIntOf_run, run_underlying hu, Result.andThen_ok, Sem.run_pure, hb, and_self, if_true, run_sizeOf hn, add_plain]
        exact congrArg (fun z => Result.ok (Value.pointer (some ⟨_, z, none⟩)) w) (Nat.add_right_comm _ _ _)
      · cases hs
    · cases hs
  · cases hs

theorem sIndex_run {t : TypeId} {x x' i i' v : Value} (hs : sIndex P t x i = some v) (hx : VR ρ x x') (hi : VR ρ i i') :
    ∃ v', (Instr.index t x' i').run P w = .ok v' w ∧ VR ρ v v' := by
  unfold sIndex at hs
  split at hs
  · rename_i len e cs k n hu
    cases hi
    cases hx with
    | agg hl =>
    split at hs
    · rename_i size hn
      split at hs
      · rename_i hb
        obtain ⟨v', h1, h2⟩ := part_run (w := w) hs hl
        refine ⟨v', ?_, h2⟩
        unfold Instr.index
        simp only [Sem.run_bind, asIntOf_run, run_underlying hu, Result.andThen_ok, hb, and_self, if_true, run_sizeOf hn, h1]
      · cases hs
    · cases hs
  · rename_i s k n hu
    cases hi
    cases hx
    split at hs
    · rename_i h0
      cases hb : s[n.toNat]? with
      | none => rw [hb] at hs; simp at hs
      | some b =>
        rw [hb] at hs
        simp only [Option.map_some, Option.some.injEq] at hs
        subst hs
        refine ⟨_, ?_, .int _ _⟩
        unfold Instr.index
        simp only [Sem.run_bind, asIntOf_run, run_underlying hu, Result.andThen_ok, if_pos h0, hb, Sem.run_pure]
    · cases hs
  · cases hs

theorem idx_some {x x' : Value} {y n : Nat} (h : idx x y = some n) (hx : VR ρ x x') : ∃ k i, x' = .int k i ∧ 0 ≤ i ∧ i ≤ (y : Int) ∧ n = i.toNat := by
  unfold idx at h
  split at h
  · rename_i k i
    cases hx
    split at h
    · rename_i hb; cases h; exact ⟨k, i, rfl, hb.1, hb.2, rfl⟩
    · cases h
  · cases h

theorem sliceBound_run {k : IntKind} {i : Int} {y : Nat} {code : BoundsCode} (h0 : 0 ≤ i) (h1 : i ≤ (y : Int)) : (Instr.sliceBound (.int k i) y code).run P w = .ok i.toNat w := by
  unfold Instr.sliceBound
  simp only [Sem.run_bind, asIntOf_run, Result.andThen_ok, h0, h1, and_self, if_true, Sem.run_pure]

inductive OVR (ρ : Ren) : Option Value → Option Value → Prop
  | none : OVR ρ none none
  | some {v v' : Value} (h : VR ρ v v') : OVR ρ (some v) (some v')

theorem idxCap_run {v v' : Value} {len cap cap' n : Nat} {code : BoundsCode} (e : idxCap v len cap = some n) (hv : VR ρ v v') (hc : (cap < unk ∧ cap' = cap) ∨ (cap = unk ∧ len ≤ cap')) :
    (Instr.sliceBound v' cap' code).run P w = .ok n w ∧ n ≤ cap' ∧ (cap = unk → n ≤ len) ∧ (n ≤ len ∨ n ≤ cap) := by
  unfold idxCap at e
  split at e
  · obtain ⟨k, i, rfl, a2, a3, rfl⟩ := idx_some e hv
    rcases hc with ⟨hc, _⟩ | ⟨_, hc⟩
    · omega
    · exact ⟨sliceBound_run a2 (by omega), by omega, fun _ => by omega, by omega⟩
  · rename_i hcu
    obtain ⟨k, i, rfl, a2, a3, rfl⟩ := idx_some e hv
    rcases hc with ⟨_, hc⟩ | ⟨hc, _⟩
    · subst hc; exact ⟨sliceBound_run a2 a3, by omega, fun h => absurd h hcu, by omega⟩
    · exact absurd hc hcu

theorem bounds3_some {lo : Option Value} {h0 : Option Nat} {m l h m' : Nat} (e : bounds3 lo h0 m = some (l, h, m')) : h0 = some h ∧ lowOf lo h = some l ∧ m' = m := by
  unfold bounds3 at e
  split at e
  · rename_i h1
    cases hl : lowOf lo h1 with
    | none => rw [hl] at e; simp at e
    | some x => rw [hl] at e; simp at e; obtain ⟨rfl, rfl, rfl⟩ := e; exact ⟨rfl, hl, rfl⟩
  · cases e

/-- What the bounds come to: 'cap'' is the true capacity. -/
theorem bounds_run {len cap cap' : Nat} {lo hi mx lo' hi' mx' : Option Value} {l h m : Nat} {isSlice : Bool} (e : bounds len cap lo hi mx = some (l, h, m)) (hlo : OVR ρ lo lo') (hhi : OVR ρ hi hi') (hmx : OVR ρ mx mx')
    (hc : (cap < unk ∧ cap' = cap) ∨ (cap = unk ∧ len ≤ cap')) (hlen : len ≤ cap') :
    ∃ m', (Instr.sliceBounds isSlice len cap' lo' hi' mx').run P w = .ok (l, h, m') w ∧ l ≤ h ∧ h ≤ m' ∧ m' ≤ cap' ∧ ((m = m' ∧ (m ≤ len ∨ m ≤ cap) ∧ (mx ≠ none ∨ cap ≠ unk)) ∨ (m = unk ∧ cap = unk ∧ h ≤ len)) := by
  unfold bounds at e
  cases hmx with
  | some hm =>
    simp only at e
    split at e
    · rename_i m0 h0 e1
      obtain ⟨e3, e4, rfl⟩ := bounds3_some e
      cases hhi with
      | some hh =>
      obtain ⟨a1, a2, _, a3⟩ := idxCap_run (P := P) (w := w) (code := if isSlice then .slice3Acap else .slice3Alen) e1 hm hc
      obtain ⟨k2, j, rfl, b2, b3, rfl⟩ := idx_some e3 hh
      cases hlo with
      | none =>
        cases e4
        refine ⟨m, ?_, by omega, by omega, a2, .inl ⟨rfl, a3, .inl (by simp)⟩⟩
        unfold Instr.sliceBounds
        simp only [Sem.run_bind, a1, Result.andThen_ok, sliceBound_run b2 b3, Sem.run_pure]
      | some hl =>
        obtain ⟨k3, i, rfl, c2, c3, rfl⟩ := idx_some e4 hl
        refine ⟨m, ?_, by omega, by omega, a2, .inl ⟨rfl, a3, .inl (by simp)⟩⟩
        unfold Instr.sliceBounds
        simp only [Sem.run_bind, a1, Result.andThen_ok, sliceBound_run b2 b3, sliceBound_run c2 c3, Sem.run_pure]
    · cases e
  | none =>
    obtain ⟨e3, e4, hm⟩ := bounds3_some e
    subst hm
    have fin : (m = cap' ∧ (m ≤ len ∨ m ≤ m) ∧ ((none : Option Value) ≠ none ∨ m ≠ unk)) ∨ (m = unk ∧ m = unk ∧ (m = unk → h ≤ len)) → (m = unk → h ≤ len) → (m = cap' ∧ (m ≤ len ∨ m ≤ m) ∧ ((none : Option Value) ≠ none ∨ m ≠ unk)) ∨ (m = unk ∧ m = unk ∧ h ≤ len) := by
      intro a b
      rcases a with a | ⟨a, _, _⟩
      · exact .inl a
      · exact .inr ⟨a, a, b a⟩
    have cs : (m = cap' ∧ (m ≤ len ∨ m ≤ m) ∧ ((none : Option Value) ≠ none ∨ m ≠ unk)) ∨ (m = unk ∧ m = unk ∧ (m = unk → h ≤ len)) ∨ m = unk := by
      rcases hc with ⟨a, b⟩ | ⟨a, b⟩
      · exact .inl ⟨b.symm, .inr (Nat.le_refl _), .inr (by omega)⟩
      · exact .inr (.inr a)
    have done : (m = unk → h ≤ len) → (m = cap' ∧ (m ≤ len ∨ m ≤ m) ∧ ((none : Option Value) ≠ none ∨ m ≠ unk)) ∨ (m = unk ∧ m = unk ∧ h ≤ len) := by
      intro b
      rcases cs with a | ⟨a, _, _⟩ | a
      · exact .inl a
      · exact .inr ⟨a, a, b a⟩
      · exact .inr ⟨a, a, b a⟩
    cases hhi with
    | none =>
      cases e3
      cases hlo with
      | none =>
        cases e4
        refine ⟨cap', ?_, by omega, hlen, Nat.le_refl _, done fun _ => Nat.le_refl _⟩
        unfold Instr.sliceBounds
        simp only [Sem.run_bind, Result.andThen_ok, Sem.run_pure]
      | some hl =>
        obtain ⟨k3, i, rfl, c2, c3, rfl⟩ := idx_some e4 hl
        refine ⟨cap', ?_, by omega, hlen, Nat.le_refl _, done fun _ => Nat.le_refl _⟩
        unfold Instr.sliceBounds
        simp only [Sem.run_bind, Result.andThen_ok, sliceBound_run c2 c3, Sem.run_pure, Option.isSome, Bool.false_eq_true, if_false]
    | some hh =>
      obtain ⟨a1, a2, a3, _⟩ := idxCap_run (P := P) (w := w) (code := if isSlice then .sliceAcap else .sliceAlen) e3 hh hc
      cases hlo with
      | none =>
        cases e4
        refine ⟨cap', ?_, by omega, a2, Nat.le_refl _, done a3⟩
        unfold Instr.sliceBounds
        simp only [Sem.run_bind, a1, Result.andThen_ok, Sem.run_pure]
      | some hl =>
        obtain ⟨k3, i, rfl, c2, c3, rfl⟩ := idx_some e4 hl
        refine ⟨cap', ?_, by omega, a2, Nat.le_refl _, done a3⟩
        unfold Instr.sliceBounds
        simp only [Sem.run_bind, a1, Result.andThen_ok, sliceBound_run c2 c3, Sem.run_pure, Option.isSome, Bool.false_eq_true, if_false]

end
end Go.Mini
