/- Mini, part 3: rows of cells that are read and written. -/
import Derived.Test.YtfobiikidbffgaaGreatDoorM2
namespace Go.Mini

theorem add_plain (b o i : Nat) : (⟨b, o, none⟩ : Addr).add i = ⟨b, o + i, none⟩ := by
  unfold Addr.add
  split
  · rename_i h; subst h; rfl
  · rfl

section
variable {P : Program} {w : World} {b o : Nat} {c : Array Value} {e : TypeId} {fz : Nat × Nat}

theorem cell_of (h : w.heap[b]? = some (.cells c e fz)) (o : Nat) : w.cell? ⟨b, o, none⟩ = c[o]? := by
  unfold World.cell?
  simp [h]

theorem frozen_of (h : w.heap[b]? = some (.cells c e fz)) (hf : NF c fz) (ho : o < c.size) : w.frozen? ⟨b, o, none⟩ = false := by
  unfold World.frozen?
  simp only [h]
  rcases hf with hf | hf
  · simp only [Bool.and_eq_false_iff, decide_eq_false_iff_not]; omega
  · simp only [Bool.and_eq_false_iff, decide_eq_false_iff_not]; omega

theorem run_load_cell (h : w.heap[b]? = some (.cells c e fz)) {v : Value} (hv : c[o]? = some v) : (load ⟨b, o, none⟩).run P w = .ok v w := by
  rw [run_load, cell_of h, hv]

theorem run_loadFrom (h : w.heap[b]? = some (.cells c e fz)) : ∀ (n i : Nat) (acc : Array Value), o + i + n ≤ c.size →
    (loadCellsFrom ⟨b, o, none⟩ i n acc).run P w = .ok ⟨acc.toList ++ (c.toList.drop (o + i)).take n⟩ w := by
  intro n
  induction n with
  | zero => intro i acc _; simp [loadCellsFrom]
  | succ n ih =>
    intro i acc hle
    have hv : c[o + i]? = some (c[o + i]'(by omega)) := Array.getElem?_eq_getElem (by omega)
    simp only [loadCellsFrom, Sem.run_bind, add_plain, run_load_cell h hv, Result.andThen_ok]
    rw [ih (i + 1) _ (by omega)]
    congr 2
    have : c.toList.drop (o + i) = c[o + i]'(by omega) :: c.toList.drop (o + (i + 1)) := by
      rw [← List.getElem_cons_drop (as := c.toList) (i := o + i) (h := by simp; omega)]
      simp [Nat.add_assoc]
    rw [this]
    simp

theorem run_loadCells (h : w.heap[b]? = some (.cells c e fz)) (n : Nat) (hle : o + n ≤ c.size) :
    (loadCells ⟨b, o, none⟩ n).run P w = .ok ⟨(c.toList.drop o).take n⟩ w := by
  unfold loadCells
  rw [run_loadFrom h n 0 _ (by omega)]
  simp

theorem withB_self {ob : Obj} (h : w.heap[b]? = some ob) : withB w b ob = w := by
  unfold withB
  have : w.heap.setIfInBounds b ob = w.heap := by
    apply Array.ext_getElem?
    intro i
    by_cases hi : b = i
    · subst hi
      have hb : b < w.heap.size := (Array.getElem?_eq_some_iff.1 h).1
      simp [hb]
      have := (Array.getElem?_eq_some_iff.1 h).2
      exact this.symm
    · rw [Array.getElem?_setIfInBounds_ne hi]
  rw [this]

theorem withB_withB (w : World) (b : Nat) (x y : Obj) : withB (withB w b x) b y = withB w b y := by
  unfold withB
  simp

theorem heap_withB (h : b < w.heap.size) (x : Obj) : (withB w b x).heap[b]? = some x := by
  unfold withB
  simp [h]

theorem setCell_withB (h : w.heap[b]? = some (.cells c e fz)) (v : Value) : w.setCell ⟨b, o, none⟩ v = withB w b (.cells (c.setIfInBounds o v) e fz) := by
  unfold World.setCell withB
  congr 1
  apply Array.ext_getElem?
  intro i
  have hb : b < w.heap.size := (Array.getElem?_eq_some_iff.1 h).1
  by_cases hi : b = i
  · subst hi
    rw [Array.getElem?_modify, if_pos rfl, h, Array.getElem?_setIfInBounds_self_of_lt hb]
    simp
  · rw [Array.getElem?_modify, if_neg hi, Array.getElem?_setIfInBounds_ne hi]

theorem splice_set (l : List Value) (o : Nat) (v : Value) (vs : List Value) (h : o < l.length) : splice (l.set o v) (o + 1) vs = splice l o (v :: vs) := by
  unfold splice
  have h1 : (l.set o v).take (o + 1) = l.take o ++ [v] := by
    rw [List.take_succ_eq_append_getElem (by simpa using h)]
    rw [List.take_set_of_le (Nat.le_refl _)]
    simp
  have h2 : (l.set o v).drop (o + 1 + vs.length) = l.drop (o + (v :: vs).length) := by
    rw [List.drop_set_of_lt (by omega)]
    congr 1
    simp; omega
  rw [h1, h2]
  simp

theorem run_storeCells (vs : List Value) : ∀ (i : Nat) (w : World) (c : Array Value), w.heap[b]? = some (.cells c e fz) → NF c fz → (∀ v ∈ vs, v.oneCell' = true) → o + i + vs.length ≤ c.size →
    ∃ c', (storeCells ⟨b, o, none⟩ vs i).run P w = .ok () (withB w b (.cells c' e fz)) ∧ c'.size = c.size ∧ c'.toList = splice c.toList (o + i) vs := by
  induction vs with
  | nil =>
    intro i w c h _ _ _
    refine ⟨c, ?_, rfl, by simp [splice]⟩
    rw [withB_self h]; rfl
  | cons v vs ih =>
    intro i w c h hf h1 hle
    simp only [List.length_cons] at hle
    have hv : c[o + i]? = some (c[o + i]'(by omega)) := Array.getElem?_eq_getElem (by omega)
    have hb : b < w.heap.size := (Array.getElem?_eq_some_iff.1 h).1
    have hs : (store ⟨b, o + i, none⟩ v).run P w = .ok () (withB w b (.cells (c.setIfInBounds (o + i) v) e fz)) := by
      rw [run_store P w ⟨b, o + i, none⟩ v .plain (h1 v (by simp)), cell_of h, hv]
      simp only [frozen_of h hf (show o + i < c.size by omega), Bool.false_eq_true, if_false]
      rw [setCell_withB h]
    have hf' : NF (c.setIfInBounds (o + i) v) fz := by unfold NF at *; simpa using hf
    obtain ⟨c', r1, r2, r3⟩ := ih (i + 1) _ (c.setIfInBounds (o + i) v) (heap_withB hb _) hf' (fun u hu => h1 u (by simp [hu])) (by simp; omega)
    refine ⟨c', ?_, by simpa using r2, ?_⟩
    · simp only [storeCells, Sem.run_bind, add_plain, hs, Result.andThen_ok]
      rw [r1, withB_withB]
    · rw [r3]
      have : (c.setIfInBounds (o + i) v).toList = c.toList.set (o + i) v := by simp
      rw [this, ← Nat.add_assoc, splice_set _ _ _ _ (by simp; omega)]

end

theorem splice_window (L : List Value) (d n o : Nat) (vs : List Value) (h : d + n ≤ L.length) (ho : o + vs.length ≤ n) :
    ((splice L (o + d) vs).drop d).take n = splice ((L.drop d).take n) o vs := by
  unfold splice
  have e1 : (L.take (o + d) ++ vs ++ L.drop (o + d + vs.length)).drop d = (L.drop d).take o ++ vs ++ (L.drop d).drop (o + vs.length) := by
    rw [List.append_assoc, List.drop_append_of_le_length (by simp; omega), List.drop_take]
    rw [show o + d - d = o by omega, List.drop_drop, List.append_assoc]
    congr 3
    omega
  rw [e1, List.append_assoc, List.take_append, List.append_assoc]
  have l1 : ((L.drop d).take o).length = o := by simp; omega
  rw [l1, List.take_of_length_le (by rw [l1]; omega), List.take_append]
  rw [List.take_of_length_le (show vs.length ≤ n - o by omega)]
  rw [List.take_take, show min o n = o by omega, List.drop_take]
  rw [show n - o - vs.length = n - (o + vs.length) by omega]

theorem VR.one_of {ρ : Ren} {v v' : Value} (h : VR ρ v v') (ho : one v = true) : v'.oneCell' = true := by
  cases h <;> first | rfl | (simp [one] at ho)

theorem VRL.one_of {ρ : Ren} : ∀ {l l' : List Value}, VRL ρ l l' → l.all one = true → ∀ v ∈ l', v.oneCell' = true
  | _, _, .nil, _, v, hv => by cases hv
  | _, _, .cons h t, ho, v, hm => by
    simp only [List.all_cons, Bool.and_eq_true] at ho
    rcases List.mem_cons.1 hm with rfl | hm
    · exact h.one_of ho.1
    · exact VRL.one_of t ho.2 v hm

theorem VRL.splice {ρ : Ren} {l l' vs vs' : List Value} (h : VRL ρ l l') (hv : VRL ρ vs vs') (o : Nat) : VRL ρ (splice l o vs) (splice l' o vs') := by
  unfold Mini.splice
  rw [hv.length]
  exact ((h.take o).append hv).append (h.drop _)

section
variable {ρ : Ren} {g g' : Nat → Option AO} {nx : Nat} {w : World} {P : Program}

/-- A live row. -/
theorem HR.row (h : HR P ρ g nx w) {i b : Nat} {d : Nat × Nat} {c : List Value} {e : TypeId} (hi : ρ i = some (b, d)) (hg : g i = some (.cells c e)) :
    ∃ c' fz, w.heap[b]? = some (.cells c' e fz) ∧ NF c' fz ∧ d.1 + c.length ≤ c'.size ∧ VRL ρ c ((c'.toList.drop d.1).take c.length) ∧ (∀ z, sizeT P e = some z → d.1 + d.2 * z ≤ c'.size) := by
  obtain ⟨ob, h1, h2⟩ := h.obj i b d _ hi hg
  cases h2 with
  | cells _ hl hf hr hk => exact ⟨_, _, h1, hf, hl, hr, hk⟩

theorem load_rel (h : HR P ρ g nx w) {i b o n : Nat} {d : Nat × Nat} {c : List Value} {e : TypeId} (hi : ρ i = some (b, d)) (hg : g i = some (.cells c e)) (hn : o + n ≤ c.length) :
    ∃ l', (loadCells ⟨b, o + d.1, none⟩ n).run P w = .ok ⟨l'⟩ w ∧ VRL ρ ((c.drop o).take n) l' := by
  obtain ⟨c', fz, h1, _, h3, h4, _⟩ := h.row hi hg
  refine ⟨_, run_loadCells h1 n (by omega), ?_⟩
  have := (h4.drop o).take n
  have e1 : ((((c'.toList.drop d.1).take c.length).drop o).take n) = (c'.toList.drop (o + d.1)).take n := by
    rw [List.drop_take, List.take_take, List.drop_drop, Nat.add_comm d.1 o]
    congr 1
    omega
  rwa [e1] at this

theorem load1_rel (h : HR P ρ g nx w) {i b o : Nat} {d : Nat × Nat} {c : List Value} {e : TypeId} {v : Value} (hi : ρ i = some (b, d)) (hg : g i = some (.cells c e)) (hv : c[o]? = some v) :
    ∃ v', (load ⟨b, o + d.1, none⟩).run P w = .ok v' w ∧ VR ρ v v' := by
  obtain ⟨c', fz, h1, _, h3, h4, _⟩ := h.row hi hg
  obtain ⟨v', e1, e2⟩ := h4.get hv
  refine ⟨v', run_load_cell h1 ?_, e2⟩
  have hlt : o < c.length := (List.getElem?_eq_some_iff.1 hv).1
  rw [List.getElem?_take_of_lt hlt, List.getElem?_drop] at e1
  rw [Nat.add_comm o d.1, ← e1]; simp

theorem store_rel (h : HR P ρ g nx w) {i b o : Nat} {d : Nat × Nat} {c vs vs' : List Value} {e : TypeId} (hi : ρ i = some (b, d)) (hg : g i = some (.cells c e)) (hn : o + vs.length ≤ c.length) (h1 : vs.all one = true) (hv : VRL ρ vs vs')
    (hg' : ∀ j, g' j = if j = i then some (.cells (splice c o vs) e) else g j) :
    ∃ w', (storeCells ⟨b, o + d.1, none⟩ vs').run P w = .ok () w' ∧ ST P ρ g nx w ρ g' nx w' := by
  obtain ⟨c', fz, h2, hf, h3, h4, hk⟩ := h.row hi hg
  have hl := hv.length
  obtain ⟨c2, r1, r2, r3⟩ := run_storeCells (P := P) vs' 0 w c' h2 hf (hv.one_of h1) (o := o + d.1) (by omega)
  refine ⟨_, r1, ST.change h hi (by rw [hg]; simp) (.cells d ?_ ?_ ?_ ?_) hg'⟩
  · rw [r2]; simp [splice]; omega
  · unfold NF at *; rw [r2]; exact hf
  · rw [r3, Nat.add_zero]
    have hlen : (splice c o vs).length = c.length := by simp [splice]; omega
    rw [hlen, splice_window _ _ _ _ _ (by simpa using h3) (by omega)]
    exact h4.splice hv o
  · intro z hz; rw [r2]; exact hk z hz

end
end Go.Mini
