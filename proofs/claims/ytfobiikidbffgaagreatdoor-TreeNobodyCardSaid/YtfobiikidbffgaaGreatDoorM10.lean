/- Mini, part 10: append, copy, clear and their kin. -/
import Derived.Test.YtfobiikidbffgaaGreatDoorM9
namespace Go.Mini

section
variable {ρ ρ' : Ren} {A A' : AS} {w : World} {P : Program}

theorem loadN_take {b o n m : Nat} {l : List Value} (h : A.loadN b o n = some l) (hm : m ≤ n) : A.loadN b o m = some (l.take m) := by
  unfold AS.loadN at *
  split at h
  · rename_i c e hc
    split at h
    · rename_i hb
      cases h
      rw [if_pos (by omega), List.take_take]
      congr 2
      omega
    · cases h
  · cases h

theorem src_run (h : HR P ρ A.get A.nx w) {size n : Nat} {x x' : Value} {l : List Value} (hs : srcCells size A x = some (l, n)) (hx : VR ρ x x') :
    (∀ w1, (Builtin.lenOf x').run P w1 = .ok n w1) ∧ ∀ m, m ≤ n → ∃ l', (Builtin.firstCells size m x').run P w = .ok ⟨l'⟩ w ∧ VRL ρ (l.take (m * size)) l' := by
  unfold srcCells at hs
  split at hs
  · rename_i s
    cases hx
    split at hs
    · rename_i h1
      cases hs
      subst h1
      refine ⟨fun _ => rfl, fun m hm => ⟨((s.extract 0 m).data.map fun b => (Value.int .u8 b.toNat : Value)).toList, rfl, ?_⟩⟩
      rw [Nat.mul_one]
      have : ((s.extract 0 m).data.map fun b => (Value.int .u8 b.toNat : Value)).toList = (s.data.toList.map fun b => (Value.int .u8 b.toNat : Value)).take m := by
        simp [List.extract_eq_take_drop]
      rw [this]
      exact (VRL.map _ _ (fun b => .int _ _) _).take m
    · cases hs
  · cases hs
    cases hx
    exact ⟨fun _ => rfl, fun m _ => ⟨[], rfl, by simp; exact .nil⟩⟩
  · rename_i b o n' cap
    cases hx with
    | sl _ _ _ c' hi hc hn =>
    cases hl : A.loadN b o (n' * size) with
    | none => rw [hl] at hs; cases hs
    | some c =>
      rw [hl] at hs
      simp only [Option.map_some, Option.some.injEq, Prod.mk.injEq] at hs
      obtain ⟨rfl, rfl⟩ := hs
      refine ⟨fun _ => rfl, fun m hm => ?_⟩
      exact loadN_rel h hi (loadN_take hl (Nat.mul_le_mul_right size hm))
  · cases hs
    cases hx
    refine ⟨fun _ => rfl, fun m hm => ⟨[], ?_, by simp; exact .nil⟩⟩
    have : m = 0 := by omega
    subst this
    simp only [Builtin.firstCells, Nat.zero_mul]
    rfl
  · cases hs

theorem sCopy_run (h : HR P ρ A.get A.nx w) {ats : Array TypeId} {ty : TypeId} {d d' x x' : Value} {o : OR} (hs : sCopy P ats[0]? A d x = some (o, A')) (hd : VR ρ d d') (hx : VR ρ x x') :
    ∃ v, o = .val v ∧ Does P ρ A w (Builtin.copy_ ats ty #[d', x']) v A' := by
  unfold sCopy at hs
  split at hs
  · rename_i e hu0
    cases ht : ats[0]? with
    | none => rw [ht] at hu0; cases hu0
    | some t =>
      have hu : P.underlying t = some (.slice e) := by rw [ht] at hu0; exact hu0
      split at hs
      · rename_i size hsz
        split at hs
        · rename_i r cap hsr
          cases hs
          cases hd
          obtain ⟨src, m⟩ := r
          obtain ⟨h1, h2⟩ := src_run (P := P) h hsr hx
          obtain ⟨l', h3, _⟩ := h2 0 (Nat.zero_le _)
          refine ⟨_, rfl, goInt 0, w, ρ, ?_, .int _ _, ST.refl h⟩
          unfold Builtin.copy_
          simp only [ht, List.getElem?_toArray, List.getElem?_cons_zero, List.getElem?_cons_succ]
          simp only [Sem.run_bind, run_underlying hu, run_sizeOf hsz, Result.andThen_ok, h1, Nat.min_zero, h3, Sem.run_pure]
          rfl
        · rename_i src m b o' n cap hsr
          cases hd with
          | sl _ _ _ c' hi hc hn =>
          cases hst : A.storeN b o' (src.take (Nat.min m n * size)) with
          | none => rw [hst] at hs; cases hs
          | some A2 =>
            rw [hst] at hs
            simp only [Option.map_some, Option.some.injEq, Prod.mk.injEq] at hs
            obtain ⟨rfl, rfl⟩ := hs
            obtain ⟨h1, h2⟩ := src_run (P := P) h hsr hx
            obtain ⟨l', h3, h4⟩ := h2 (Nat.min m n) (Nat.min_le_left _ _)
            obtain ⟨w', h5, h6⟩ := storeN_rel (P := P) h hi hst h4
            refine ⟨_, rfl, _, w', ρ, ?_, .int _ _, h6⟩
            unfold Builtin.copy_
            simp only [ht, List.getElem?_toArray, List.getElem?_cons_zero, List.getElem?_cons_succ]
            simp only [Sem.run_bind, run_underlying hu, run_sizeOf hsz, Result.andThen_ok, h1, h3, h5, Sem.run_pure]
            rfl
        · cases hs
      · cases hs
  · cases hs

theorem zeroCells_rel {z : Value} (hz : plain z = true) (n : Nat) : VRL ρ (Builtin.zeroCells z.cells n).toList (Builtin.zeroCells z.cells n).toList := by
  have hp : VRL ρ z.cells.toList z.cells.toList := by
    have := VR.of_plain ρ z hz
    cases z <;> first | exact .cons this .nil | (cases this; assumption)
  refine VRL.of_get rfl fun i v v' e e' => ?_
  rw [e] at e'; cases e'
  unfold Builtin.zeroCells at e
  simp only [Array.toList_map, Array.toList_range, List.getElem?_map, Option.map_eq_some_iff] at e
  obtain ⟨j, _, rfl⟩ := e
  by_cases hs : j % z.cells.size < z.cells.size
  · have : z.cells.toList[j % z.cells.size]? = some (z.cells[j % z.cells.size]!) := by simp [hs]
    obtain ⟨v', e1, e2⟩ := hp.get this
    rw [this] at e1; cases e1; exact e2
  · have : z.cells[j % z.cells.size]! = default := by simp [hs]
    rw [this]
    exact .bool _

theorem zeroCells_size (z : Array Value) (n : Nat) : (Builtin.zeroCells z n).size = n * z.size := by unfold Builtin.zeroCells; simp

theorem info_of {e : TypeId} {size bytes : Nat} {z : Value} (h1 : sizeT P e = some size) (h2 : bytesT P e = some bytes) (h3 : zeroT P e = some z) : ∃ i, P.info? e = some i ∧ i.size = size ∧ i.bytes = bytes ∧ i.zero = some z ∧ plain z = true := by
  unfold sizeT at h1; unfold bytesT at h2; unfold zeroT at h3
  cases hi : P.info? e with
  | none => rw [hi] at h1; cases h1
  | some i =>
    rw [hi] at h1 h2
    simp only [hi] at h3
    simp only [Option.map_some, Option.some.injEq] at h1 h2
    cases hz : i.zero with
    | none => simp [hz] at h3
    | some z' =>
      simp only [hz] at h3
      split at h3
      · rename_i hp; cases h3; exact ⟨i, rfl, h1, h2, hz, hp⟩
      · cases h3

/-- What the second argument yields, in the world as it is and behind a draw. -/
structure Sr (P : Program) (i : TypeInfo) (tx : TypeId) (x : Value) (n : Nat) (news newd : List Value) (w : World) : Prop where
  run : ∀ (t ty e : TypeId) (z : Value), P.underlying t = some (.slice e) → P.info? e = some i → i.zero = some z → ∀ (base : Option Addr) (sLen sCap : Nat),
    (sLen + n ≤ sCap → ∀ a w2, base = some a → (storeCells (a.add (sLen * i.size)) news).run P w = .ok () w2 → (Builtin.append_ #[t, tx] ty #[.slice base sLen sCap, x]).run P w = .ok (.slice base (sLen + n) sCap) w2) ∧
    (sLen + n ≤ sCap → base = none → (Builtin.append_ #[t, tx] ty #[.slice base sLen sCap, x]).run P w = .ok (.slice none (sLen + n) sCap) w) ∧
    (sCap < sLen + n → Builtin.nextslicecap (sLen + n) sCap * i.bytes ≤ 281474976710656 → sLen + n ≤ 9223372036854775807 → ∀ olds, (Builtin.firstCells i.size sLen (.slice base sLen sCap)).run P w.drew = .ok olds w.drew →
      (Builtin.append_ #[t, tx] ty #[.slice base sLen sCap, x]).run P w = .ok (.slice (some ⟨w.heap.size, 0, none⟩) (sLen + n) (grownCap w (sLen + n) sCap e))
        (w.drew.alloc (.cells (olds ++ newd.toArray ++ Builtin.zeroCells z.cells (grownCap w (sLen + n) sCap e - (sLen + n))) e)))

theorem Sr.ofSrc {i : TypeInfo} {tx : TypeId} {x : Value} {n : Nat} {news newd : List Value} (hk : (∃ e', P.underlying tx = some (.slice e')) ∨ P.underlying tx = some .string) (hl : ∀ w' : World, (Builtin.lenOf x).run P w' = .ok n w')
    (hc : (Builtin.firstCells i.size n x).run P w = .ok news.toArray w) (hd : (Builtin.firstCells i.size n x).run P w.drew = .ok newd.toArray w.drew) : Sr P i tx x n news newd w := by
  refine ⟨fun t ty e z ht hi hz base sLen sCap => ⟨fun hroom a w2 hb hst => ?_, fun hroom hb => ?_, fun hg hfit h63 olds hold => ?_⟩⟩
  · subst hb
    rcases hk with ⟨e', hk⟩ | hk <;> simp [Builtin.append_, run_underlying ht, run_underlying hk, sizeOf, typeInfo, hi, hl, hroom, hc, hst]
  · subst hb
    rcases hk with ⟨e', hk⟩ | hk <;> simp [Builtin.append_, run_underlying ht, run_underlying hk, sizeOf, typeInfo, hi, hl, hroom, hc]
  · have hn : ¬ (sLen + n ≤ sCap) := by omega
    have h63' : ¬ (9223372036854775807 < ((sLen : Int) + (n : Int))) := by omega
    have h48' : ¬ (281474976710656 < Builtin.nextslicecap (sLen + n) sCap * i.bytes) := by omega
    rcases hk with ⟨e', hk⟩ | hk <;>
      simp [Builtin.append_, run_underlying ht, run_underlying hk, sizeOf, typeInfo, zeroValue, hi, hz, hl, hn, h63', h48', Question.forced, hd, hold, newRow, grownCap]

theorem Sr.ofZeros {i : TypeInfo} {tx : TypeId} {k : IntKind} {m : Nat} {z : Value} (hk : P.underlying tx = some (.int k)) (hz0 : i.zero = some z) (hzs : z.cells.size = i.size) (hm : m ≤ 35184372088832) (hb : (m : Int) * (i.bytes : Int) ≤ 35184372088832) :
    Sr P i tx (.int .i64 m) m (Builtin.zeroCells z.cells m).toList (Builtin.zeroCells z.cells m).toList w := by
  have hw : IntKind.i64.wrap (m : Int) = m := wrap_in _ (by omega) (by omega)
  have hneg : ¬ ((m : Int) < 0) := by omega
  have hbig : ¬ (281474976710656 < (m : Int) * (i.bytes : Int)) := by omega
  have hz1 : m * i.size = 0 → (Builtin.zeroCells z.cells m) = #[] := fun h0 => by
    have : (Builtin.zeroCells z.cells m).size = 0 := by rw [zeroCells_size, hzs]; exact h0
    exact Array.size_eq_zero_iff.1 this
  refine ⟨fun t ty e z' ht hi hz base sLen sCap => ⟨fun hroom a w2 hb hst => ?_, fun hroom hb => ?_, fun hg hfit h63 olds hold => ?_⟩⟩
  · subst hb
    by_cases h0 : m * i.size = 0
    · rw [hz1 h0] at hst
      simp only at hst
      simp [Builtin.append_, run_underlying ht, run_underlying hk, sizeOf, typeInfo, zeroValue, hi, asInt, asIntOf, hw, hneg, hbig, hroom, h0, hst]
    · simp [Builtin.append_, run_underlying ht, run_underlying hk, sizeOf, typeInfo, zeroValue, hi, asInt, asIntOf, hw, hneg, hbig, hroom, hz0, h0, hst]
  · subst hb
    by_cases h0 : m * i.size = 0
    · simp [Builtin.append_, run_underlying ht, run_underlying hk, sizeOf, typeInfo, zeroValue, hi, asInt, asIntOf, hw, hneg, hbig, hroom, h0]
    · simp [Builtin.append_, run_underlying ht, run_underlying hk, sizeOf, typeInfo, zeroValue, hi, asInt, asIntOf, hw, hneg, hbig, hroom, hz0]
  · have hn : ¬ (sLen + m ≤ sCap) := by omega
    have h63' : ¬ (9223372036854775807 < ((sLen : Int) + (m : Int))) := by omega
    have h48' : ¬ (281474976710656 < Builtin.nextslicecap (sLen + m) sCap * i.bytes) := by omega
    have hzz : z' = z := by rw [hz0] at hz; cases hz; rfl
    subst hzz
    by_cases h0 : m * i.size = 0
    · rw [hz1 h0]
      simp [Builtin.append_, run_underlying ht, run_underlying hk, sizeOf, typeInfo, zeroValue, hi, hz0, asInt, asIntOf, hw, hneg, hbig, hn, h63', h48', Question.forced, hold, newRow, grownCap, h0]
    · simp [Builtin.append_, run_underlying ht, run_underlying hk, sizeOf, typeInfo, zeroValue, hi, hz0, asInt, asIntOf, hw, hneg, hbig, hn, h63', h48', Question.forced, hold, newRow, grownCap, h0]

/-- An object is given up. -/
theorem ST.kill {g g' : Nat → Option AO} {nx : Nat} (h : HR P ρ g nx w) (i : Nat) (hg' : ∀ j, g' j = if j = i then none else g j) : ST P ρ g nx w ρ g' nx w := by
  have sub : ∀ j o, g' j = some o → g j = some o := fun j o e => by
    rw [hg'] at e
    by_cases c : j = i
    · rw [if_pos c] at e; cases e
    · rwa [if_neg c] at e
  have sub' : ∀ j, g' j ≠ none → g j ≠ none := fun j e => by
    cases hj : g' j with
    | none => exact absurd hj e
    | some o => rw [sub j o hj]; simp
  refine ⟨⟨h.glob, h.dom, fun j k b d d' e e' hj hk => h.inj j k b d d' e e' (sub' j hj) (sub' k hk), fun j b d o e eo => h.obj j b d o e (sub j o eo)⟩, Le.refl _, fun j x e e' => (by rw [e] at e'; cases e'), fun j b d e e' => (by rw [e] at e'; cases e'), fun _ _ _ => rfl, fun j _ e => ?_, Nat.le_refl _, Nat.le_refl _, rfl, rfl, rfl⟩
  rw [hg', e]; split <;> rfl

/-- A row that is given up lives on under a new number, with more cells. -/
theorem ST.handOn {g g' : Nat → Option AO} {nx : Nat} (h : HR P ρ g nx w) {i b : Nat} {d : Nat × Nat} {o : AO} {ob : Obj} (hi : ρ i = some (b, d)) (hl : g i ≠ none) (ho : OOk P ρ d o ob)
    (hg' : ∀ j, g' j = if j = nx then some o else if j = i then none else g j) :
    ST P ρ g nx w (fun j => if j = nx then some (b, d) else ρ j) g' (nx + 1) (withB w b ob) ∧ (fun j => if j = nx then some (b, d) else ρ j) nx = some (b, d) := by
  have hin := (h.dom i b d hi).1
  have hb := (h.dom i b d hi).2
  have hup := h.up
  have hnx : ρ nx = none := by
    cases e : ρ nx with
    | none => rfl
    | some x => exact absurd (h.lt nx x e) (by omega)
  have le : Le ρ (fun j => if j = nx then some (b, d) else ρ j) := fun j x e => by
    have := h.lt j x e
    show (if j = nx then _ else _) = _
    rw [if_neg (by omega)]; exact e
  have live : ∀ j, j ≠ nx → g' j ≠ none → g j ≠ none ∧ j ≠ i := fun j c e => by
    rw [hg', if_neg c] at e
    by_cases ci : j = i
    · rw [if_pos ci] at e; exact absurd rfl e
    · rw [if_neg ci] at e; exact ⟨e, ci⟩
  have only : ∀ j d', ρ j = some (b, d') → j ≠ nx → g' j ≠ none → False := fun j d' e c e2 => by
    obtain ⟨h1, h2⟩ := live j c e2
    exact h2 (h.inj j i b d' d e hi h1 hl)
  refine ⟨⟨⟨fun j hj => ?_, fun j b' d' e => ?_, fun j k b' d1 d2 e e' hj hk => ?_, fun j b' d' o' e eo => ?_⟩, le, fun j x e e' => ?_, fun j b' d' e e' => ?_, fun b' hb' hd => ?_, fun j hj e => ?_, by omega, by simp [withB], rfl, rfl, rfl⟩, by simp⟩
  · show (if j = nx then _ else _) = _
    rw [if_neg (by omega)]; exact h.glob j hj
  · by_cases c : j = nx
    · rw [if_pos c] at e; cases e; exact ⟨by omega, by simpa [withB] using hb⟩
    · rw [if_neg c] at e; have := h.dom j b' d' e; exact ⟨by omega, by simpa [withB] using this.2⟩
  · by_cases c : j = nx
    · rw [if_pos c] at e; cases e
      by_cases c' : k = nx
      · omega
      · rw [if_neg c'] at e'; exact (only k d2 e' c' hk).elim
    · rw [if_neg c] at e
      by_cases c' : k = nx
      · rw [if_pos c'] at e'; cases e'; exact (only j d1 e c hj).elim
      · rw [if_neg c'] at e'
        exact h.inj j k b' d1 d2 e e' (live j c hj).1 (live k c' hk).1
  · by_cases c : j = nx
    · rw [if_pos c] at e; cases e
      rw [hg', if_pos c] at eo; cases eo
      exact ⟨ob, heap_withB hb _, ho.mono le⟩
    · rw [if_neg c] at e
      have hl' := live j c (by rw [eo]; simp)
      have eo' : g j = some o' := by rw [hg', if_neg c, if_neg hl'.2] at eo; exact eo
      obtain ⟨ob', h1, h2⟩ := h.obj j b' d' o' e eo'
      have hne : b ≠ b' := fun e2 => only j d' (e2 ▸ e) c (by rw [eo]; simp)
      refine ⟨ob', ?_, h2.mono le⟩
      rw [← h1]; simp only [withB]; rw [Array.getElem?_setIfInBounds_ne hne]
  · by_cases c : j = nx
    · omega
    · rw [if_neg c, e] at e'; cases e'
  · by_cases c : j = nx
    · rw [if_pos c] at e'; cases e'
      refine .inr ⟨i, d, hi, hl, ?_⟩
      rw [hg', if_neg (by omega), if_pos rfl]
    · rw [if_neg c, e] at e'; cases e'
  · have hne : b ≠ b' := fun e2 => hl (hd i d (e2 ▸ hi))
    simp only [withB]; rw [Array.getElem?_setIfInBounds_ne hne]
  · rw [hg', if_neg (by omega), e]; split <;> rfl

end
end Go.Mini
