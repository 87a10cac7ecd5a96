/- Mini, part 8: operations that make or change memory. -/
import Derived.Test.YtfobiikidbffgaaGreatDoorM7
namespace Go.Mini

section
variable {ρ ρ' : Ren} {A A' : AS} {w : World} {P : Program}

theorem wrap_in (n : Int) (h0 : -9223372036854775808 ≤ n) (h1 : n < 9223372036854775808) : IntKind.i64.wrap n = n := by
  have e1 : (2 : Int) ^ IntKind.i64.bits = 18446744073709551616 := by decide
  have e2 : (2 : Int) ^ (IntKind.i64.bits - 1) = 9223372036854775808 := by decide
  unfold IntKind.wrap
  simp only [e1, e2, IntKind.signed, Bool.true_and, decide_eq_true_eq]
  split <;> omega

theorem vcells_cells (v : Value) : v.cells.toList = vcells v := by cases v <;> rfl

/-- A new row. -/
theorem newRow_rel (h : HR P ρ A.get A.nx w) {e : TypeId} {c : List Value} {c' : Array Value} (k : Nat) (hk : ∀ z, sizeT P e = some z → k * z ≤ c'.size) (hl : c.length ≤ c'.size) (hv : VRL ρ c (c'.toList.take c.length)) :
    ∃ ρ', (newRow e c').run P w = .ok ⟨w.heap.size, 0, none⟩ (w.alloc (.cells c' e)) ∧ ST P ρ A.get A.nx w ρ' (A.push (.cells c e)).get (A.nx + 1) (w.alloc (.cells c' e)) ∧ ρ' A.nx = some (w.heap.size, 0, k) := by
  obtain ⟨h1, h2⟩ := ST.alloc (g' := (A.push (.cells c e)).get) h k (o := .cells c e) (ob := .cells c' e) (.cells (0, k) (by simpa using hl) (.inl rfl) (by simpa using hv) (fun z hz => by have := hk z hz; simpa using this)) (fun i => AS.get_push ..)
  exact ⟨_, rfl, h1, h2⟩

theorem take_self {c : List Value} {c' : Array Value} (h : VRL ρ c c'.toList) : c.length ≤ c'.size ∧ VRL ρ c (c'.toList.take c.length) := by
  have := h.length
  refine ⟨by simp at this; omega, ?_⟩
  rw [List.take_of_length_le (by omega)]
  exact h

theorem sAlloc_run (h : HR P ρ A.get A.nx w) {t : TypeId} {r : OR} (hs : sAlloc P t A = some (r, A')) : ∃ v, r = .val v ∧ Does P ρ A w (Instr.alloc t true (.tuple #[])) v A' := by
  unfold sAlloc at hs
  split at hs
  · rename_i z hz
    cases hs
    obtain ⟨h1, h2⟩ := run_zero (w := w) hz
    have hv : VRL ρ (vcells z) z.cells.toList := by
      rw [vcells_cells]
      have := VR.of_plain ρ z h2
      cases z <;> first | exact .cons this .nil | (cases this; assumption)
    obtain ⟨k1, k2⟩ := take_self hv
    obtain ⟨ρ', h3, h4, h5⟩ := newRow_rel (P := P) h (e := t) 0 (fun z _ => by omega) k1 k2
    refine ⟨_, rfl, _, _, ρ', ?_, .ptr 0 h5, h4⟩
    unfold Instr.alloc newVar
    simp only [Sem.run_bind, h1, Result.andThen_ok, h3, Sem.run_pure]
  · cases hs

theorem sBox_run (h : HR P ρ A.get A.nx w) {t : TypeId} {x x' : Value} {r : OR} (hs : sBox t x A = some (r, A')) (hx : VR ρ x x') : ∃ v, r = .val v ∧ Does P ρ A w (Instr.box t x') v A' := by
  unfold sBox at hs
  split at hs
  · cases hs
  · rename_i ht
    cases hs
    obtain ⟨_, h2⟩ := hx.isTop_false (by simpa using ht)
    have hv : VRL ρ (vcells x) x'.cells.toList := by rw [vcells_cells]; exact h2
    obtain ⟨k1, k2⟩ := take_self hv
    obtain ⟨ρ', h3, h4, h5⟩ := newRow_rel (P := P) h (e := t) 0 (fun z _ => by omega) k1 k2
    refine ⟨_, rfl, _, _, ρ', ?_, .ptr 0 h5, h4⟩
    unfold Instr.box newVar
    simp only [Sem.run_bind, Result.andThen_ok, h3, Sem.run_pure]

theorem repZ_rel {z : Value} (hz : plain z = true) (n : Nat) : VRL ρ (repZ z.cells n).toList (repZ z.cells n).toList := by
  have hp : VRL ρ z.cells.toList z.cells.toList := by
    have := VR.of_plain ρ z hz
    cases z <;> first | exact .cons this .nil | (cases this; assumption)
  refine VRL.of_get rfl fun i v v' e e' => ?_
  rw [e] at e'; cases e'
  unfold repZ at e
  simp only [Array.toList_map, Array.toList_range, List.getElem?_map, Option.map_eq_some_iff] at e
  obtain ⟨j, _, rfl⟩ := e
  by_cases hs : j % z.cells.size < z.cells.size
  · have : z.cells.toList[j % z.cells.size]? = some (z.cells[j % z.cells.size]!) := by simp [hs]
    obtain ⟨v', e1, e2⟩ := hp.get this
    rw [this] at e1; cases e1; exact e2
  · have : z.cells[j % z.cells.size]! = default := by simp [hs]
    rw [this]
    exact .bool _

theorem sBuildSlice_run (h : HR P ρ A.get A.nx w) {t : TypeId} {len : Nat} {parts parts' : List (Nat × Value)} {r : OR} (hs : sBuildSlice P t len parts A = some (r, A')) (hp : PR ρ parts parts') :
    ∃ v, r = .val v ∧ Does P ρ A w (Instr.buildSlice t len ⟨parts'⟩) v A' := by
  unfold sBuildSlice at hs
  split at hs
  · rename_i hk
    split at hs
    · rename_i elem hu
      split at hs
      · rename_i size z hsz hz
        split at hs
        · rename_i hb
          cases hf : Instr.fill (fun i => some (i * size, size)) (repZ z.cells (len * size)) parts with
          | none => rw [hf] at hs; cases hs
          | some cells =>
            rw [hf] at hs
            simp only [Option.map_some, Option.some.injEq, Prod.mk.injEq] at hs
            obtain ⟨rfl, rfl⟩ := hs
            obtain ⟨h1, h2⟩ := run_zero (w := w) hz
            obtain ⟨r', h3, h4⟩ := fill_rel hp hk (repZ_rel h2 (len * size)) hf
            obtain ⟨k1, k2⟩ := take_self h4
            obtain ⟨ρ', h5, h6, h7⟩ := newRow_rel (P := P) h (e := elem) 0 (fun z _ => by omega) k1 k2
            refine ⟨_, rfl, _, _, ρ', ?_, .sl 0 len len len h7 (.inl ⟨hb.2, rfl⟩) (Nat.le_refl _), h6⟩
            unfold Instr.buildSlice
            have hn : ¬ (len * size > 2 ^ 24) := by omega
            by_cases h0 : len * size = 0
            · have hr0 : repZ z.cells (len * size) = (Array.range (len * size)).map (fun i => (#[] : Array Value)[i % (#[] : Array Value).size]!) := by
                unfold repZ; rw [h0]; simp
              rw [hr0] at h3
              simp only [Sem.run_bind, run_underlying hu, run_sizeOf hsz, Result.andThen_ok, if_neg hn, if_pos h0, Sem.run_pure, h3, h5]
            · have h3' : Instr.fill (fun i => some (i * size, size)) ((Array.range (len * size)).map (fun i => z.cells[i % z.cells.size]!)) parts' = some r' := h3
              simp only [Sem.run_bind, run_underlying hu, run_sizeOf hsz, Result.andThen_ok, if_neg hn, if_neg h0, h1, Sem.run_pure, h3', h5]
        · cases hs
      · cases hs
    · cases hs
  · cases hs

theorem storeN_some {b o : Nat} {vs : List Value} (h : A.storeN b o vs = some A') : ∃ c e, A.get b = some (.cells c e) ∧ o + vs.length ≤ c.length ∧ vs.all one = true ∧ A' = A.put b (.cells (splice c o vs) e) := by
  unfold AS.storeN at h
  split at h
  · rename_i c e hc
    split at h
    · rename_i hb
      simp only [Bool.and_eq_true, decide_eq_true_eq] at hb
      cases h
      exact ⟨c, e, cellsAt_get hc, hb.1, hb.2, rfl⟩
    · cases h
  · cases h

theorem storeN_rel (h : HR P ρ A.get A.nx w) {i b o : Nat} {d : Nat × Nat} {vs vs' : List Value} (hi : ρ i = some (b, d)) (hs : A.storeN i o vs = some A') (hv : VRL ρ vs vs') :
    ∃ w', (storeCells ⟨b, o + d.1, none⟩ vs').run P w = .ok () w' ∧ ST P ρ A.get A.nx w ρ A'.get A'.nx w' := by
  obtain ⟨c, e, h1, h2, h3, rfl⟩ := storeN_some hs
  exact store_rel h hi h1 h2 h3 hv (fun j => AS.get_put ..)

theorem sStore_run (h : HR P ρ A.get A.nx w) {t : TypeId} {x x' v v' : Value} {r : OR} (hs : sStore P t x v A = some (r, A')) (hx : VR ρ x x') (hv : VR ρ v v') :
    r = .val undef ∧ DoesU P ρ A w (Instr.storeAt t x' v') A' := by
  unfold sStore at hs
  split at hs
  · rename_i b off
    cases hx with
    | ptr _ hi =>
    split at hs
    · rename_i n hn
      split at hs
      · rename_i hc
        simp only [Bool.and_eq_true, decide_eq_true_eq] at hc
        cases hst : A.storeN b off (vcells v) with
        | none => rw [hst] at hs; cases hs
        | some A2 =>
          rw [hst] at hs
          simp only [Option.map_some, Option.some.injEq, Prod.mk.injEq] at hs
          obtain ⟨rfl, rfl⟩ := hs
          obtain ⟨h1, h2⟩ := hv.isTop_false (by simpa using hc.2)
          obtain ⟨w', h3, h4⟩ := storeN_rel (P := P) h hi hst h2
          refine ⟨rfl, w', ρ, ?_, h4⟩
          have hsz : v'.cells.size = n := by rw [← hc.1, ← h1, ← vcells_cells]; simp
          unfold Instr.storeAt Instr.sureAddr storeVar
          simp only [Sem.run_bind, Sem.run_pure, Result.andThen_ok, run_sizeOf hn, hsz, ne_eq, not_true_eq_false, if_false, vcells_cells, h3]
      · cases hs
    · cases hs
  · cases hs

theorem sMakeMap_run (h : HR P ρ A.get A.nx w) {t : TypeId} {r : Option Operand} {f : Operand → Value} {o : OR} (hs : sMakeMap P t r A = some (o, A')) : ∃ v, o = .val v ∧ Does P ρ A w (Instr.makeMap t (r.map f)) v A' := by
  unfold sMakeMap at hs
  split at hs
  · rename_i k e hu
    cases hs
    obtain ⟨h1, h2⟩ := ST.alloc (g' := (A.push (.map [] 0)).get) h 0 (o := .map [] 0) (ob := .map #[] 0) (.map 0 .nil) (fun i => AS.get_push ..)
    exact ⟨_, rfl, _, _, _, rfl, .map h2, h1⟩
  · cases hs

theorem sMakeSlice_run (h : HR P ρ A.get A.nx w) {t : TypeId} {l l' c c' : Value} {o : OR} (hs : sMakeSlice P t l c A = some (o, A')) (hl : VR ρ l l') (hc : VR ρ c c') : ∃ v, o = .val v ∧ Does P ρ A w (Instr.makeSlice t l' c') v A' := by
  unfold sMakeSlice at hs
  split at hs
  · rename_i e k1 l k2 c hu
    cases hl; cases hc
    split at hs
    · rename_i bytes size z hb hsz hz
      split at hs
      · rename_i hcond
        obtain ⟨q1, q2, q3, q4⟩ := hcond
        cases hs
        obtain ⟨h1, h2⟩ := run_zero (w := w) hz
        obtain ⟨i, h3, h4⟩ := run_bytes (w := w) hb
        have hab : (appendBound : Int) = 35184372088832 := rfl
        have hwl : IntKind.i64.wrap l = l := wrap_in l (by omega) (by omega)
        have hwc : IntKind.i64.wrap c = c := wrap_in c (by omega) (by omega)
        obtain ⟨k1, k2⟩ := take_self (repZ_rel (ρ := ρ) h2 (c.toNat * size))
        obtain ⟨ρ', h5, h6, h7⟩ := newRow_rel (P := P) h (e := e) 0 (fun z _ => by omega) k1 k2
        refine ⟨_, rfl, _, _, ρ', ?_, .sl 0 l.toNat c.toNat c.toNat h7 (.inl ⟨by unfold unk; omega, rfl⟩) (by omega), h6⟩
        have e1 : (decide (c < 0) || decide ((bytes : Int) * c > 2 ^ 48)) = false := by
          simp only [Bool.or_eq_false_iff, decide_eq_false_iff_not]
          have q3' : (bytes : Int) * c ≤ 35184372088832 := by rw [Int.mul_comm]; exact q3
          constructor
          · omega
          · omega
        have e2 : decide (l < 0) = false := by simp; omega
        have e3 : decide (l > c) = false := by simp; omega
        unfold Instr.makeSlice asInt
        simp only [Sem.run_bind, run_underlying hu, asIntOf_run, Result.andThen_ok, Sem.run_pure, h3, h4, hwl, hwc, e1, e2, e3, Bool.or_false, Bool.false_eq_true, if_false, run_askRoom, run_sizeOf hsz]
        by_cases h0 : c.toNat * size = 0
        · have hr0 : repZ z.cells (c.toNat * size) = (Array.range (c.toNat * size)).map (fun i => (#[] : Array Value)[i % (#[] : Array Value).size]!) := by
            unfold repZ; rw [h0]; simp
          rw [hr0] at h5
          simp only [if_pos h0, Sem.run_bind, Sem.run_pure, Result.andThen_ok, h5, Nat.zero_add, hr0]
        · have h5' : (newRow e ((Array.range (c.toNat * size)).map (fun i => z.cells[i % z.cells.size]!))).run P w = _ := h5
          simp only [if_neg h0, h1, Sem.run_bind, Sem.run_pure, Result.andThen_ok, h5', Nat.zero_add]
      · cases hs
    · cases hs
  · cases hs

theorem sRange_run (h : HR P ρ A.get A.nx w) {t : TypeId} {x x' : Value} {o : OR} (hs : sRange P t x A = some (o, A')) (hx : VR ρ x x') : ∃ v, o = .val v ∧ Does P ρ A w (Instr.range t x') v A' := by
  unfold sRange at hs
  split at hs
  · rename_i s hu
    cases hs
    cases hx
    obtain ⟨h1, h2⟩ := ST.alloc (g' := (A.push (.siter s 0)).get) h 0 (o := .siter s 0) (ob := .stringIter s 0) (.siter s 0) (fun i => AS.get_push ..)
    refine ⟨_, rfl, _, _, _, ?_, .ptr 0 h2, h1⟩
    unfold Instr.range
    simp only [Sem.run_bind, run_underlying hu, Result.andThen_ok, Sem.run_pure]
    rfl
  · cases hs

theorem sNext_run (h : HR P ρ A.get A.nx w) {x x' : Value} {t : TypeId} {o : OR} (hs : sNext x A = some (o, A')) (hx : VR ρ x x') : ∃ v, o = .val v ∧ Does P ρ A w (Instr.next x' true t) v A' := by
  unfold sNext at hs
  split at hs
  · rename_i r
    cases hx with
    | ptr _ hi =>
    split at hs
    · rename_i s pos hg
      obtain ⟨ob, h1, h2⟩ := h.obj _ _ _ _ hi hg
      cases h2
      split at hs
      · rename_i hp
        cases hs
        have := ST.change (g' := (A.put r (.siter s (pos + (Utf8.decode s pos).2))).get) h hi (by rw [hg]; simp) (.siter s (pos + (Utf8.decode s pos).2)) (fun l => AS.get_put ..)
        refine ⟨_, rfl, _, _, ρ, ?_, .tup (.cons (.bool _) (.cons (.int _ _) (.cons (.int _ _) .nil))), this⟩
        unfold Instr.next
        simp only [Sem.run_bind, run_getObj h1 (by simp), Result.andThen_ok, if_pos hp, run_setObj h1 (by simp), Sem.run_pure]
        rfl
      · rename_i hp
        cases hs
        refine ⟨_, rfl, _, w, ρ, ?_, .tup (.cons (.bool false) .nil), ST.refl h⟩
        unfold Instr.next
        simp only [Sem.run_bind, run_getObj h1 (by simp), Result.andThen_ok, if_neg hp, Sem.run_pure]
    · cases hs
  · cases hs

end
end Go.Mini
