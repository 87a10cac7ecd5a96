/- Mini, part 2: related memory; a step's effect; rows of cells. -/
import Derived.Test.YtfobiikidbffgaaGreatDoorM1
namespace Go.Mini

/-- No cell of the row is frozen. -/
def NF (c : Array Value) (fz : Nat × Nat) : Prop := fz.1 = fz.2 ∨ c.size ≤ fz.1

def KR (ρ : Ren) (a b : MapEntry) : Prop := VR ρ a.key b.key ∧ VR ρ a.val b.val ∧ b.born = a.born

inductive KRL (ρ : Ren) : List MapEntry → List MapEntry → Prop
  | nil : KRL ρ [] []
  | cons {a b : MapEntry} {l m : List MapEntry} (h : KR ρ a b) (t : KRL ρ l m) : KRL ρ (a :: l) (b :: m)

theorem KRL.mono {ρ ρ' : Ren} (le : Le ρ ρ') {l m : List MapEntry} (h : KRL ρ l m) : KRL ρ' l m := by
  induction h with
  | nil => exact .nil
  | cons h _ ih => exact .cons ⟨h.1.mono le, h.2.1.mono le, h.2.2⟩ ih

/-- An object and the block that stands for it. -/
inductive OOk (P : Program) (ρ : Ren) : Nat × Nat → AO → Obj → Prop
  | cells (d : Nat × Nat) {c : List Value} {e : TypeId} {c' : Array Value} {fz : Nat × Nat} (hl : d.1 + c.length ≤ c'.size) (hf : NF c' fz) (hr : VRL ρ c ((c'.toList.drop d.1).take c.length)) (hk : ∀ z, sizeT P e = some z → d.1 + d.2 * z ≤ c'.size) : OOk P ρ d (.cells c e) (.cells c' e fz)
  | map {es : List MapEntry} {es' : Array MapEntry} (k : Nat) (h : KRL ρ es es'.toList) : OOk P ρ (0, 0) (.map es k) (.map es' k)
  | siter (s : ByteArray) (p : Nat) : OOk P ρ (0, 0) (.siter s p) (.stringIter s p)

theorem OOk.mono {P : Program} {ρ ρ' : Ren} (le : Le ρ ρ') {d : Nat × Nat} {o : AO} {b : Obj} (h : OOk P ρ d o b) : OOk P ρ' d o b := by
  cases h with
  | cells d hl hf hr hk => exact .cells d hl hf (hr.mono le) hk
  | map k h => exact .map k (h.mono le)
  | siter s p => exact .siter s p

structure HR (P : Program) (ρ : Ren) (g : Nat → Option AO) (nx : Nat) (w : World) : Prop where
  glob : ∀ i, i < P.globals.size → ρ i = some (i, 0, 0)
  dom : ∀ i b d, ρ i = some (b, d) → i < nx ∧ b < w.heap.size
  inj : ∀ i j b d d', ρ i = some (b, d) → ρ j = some (b, d') → g i ≠ none → g j ≠ none → i = j
  obj : ∀ i b d o, ρ i = some (b, d) → g i = some o → ∃ ob, w.heap[b]? = some ob ∧ OOk P ρ d o ob

structure ST (P : Program) (ρ : Ren) (g : Nat → Option AO) (nx : Nat) (w : World) (ρ' : Ren) (g' : Nat → Option AO) (nx' : Nat) (w' : World) : Prop where
  hr : HR P ρ' g' nx' w'
  ext : Le ρ ρ'
  fresh : ∀ i x, ρ i = none → ρ' i = some x → nx ≤ i
  new : ∀ i b d, ρ i = none → ρ' i = some (b, d) → w.heap.size ≤ b ∨ ∃ j d', ρ j = some (b, d') ∧ g j ≠ none ∧ g' j = none
  frame : ∀ b, b < w.heap.size → (∀ i d, ρ i = some (b, d) → g i = none) → w'.heap[b]? = w.heap[b]?
  dead : ∀ i, i < nx → g i = none → g' i = none
  up : nx ≤ nx'
  size : w.heap.size ≤ w'.heap.size
  os : w'.os = w.os
  tape : w'.tape = w.tape
  output : w'.output = w.output

section
variable {P : Program} {ρ ρ' ρ'' : Ren} {g g' g'' : Nat → Option AO} {nx nx' nx'' : Nat} {w w' w'' : World}

theorem ST.refl (h : HR P ρ g nx w) : ST P ρ g nx w ρ g nx w :=
  ⟨h, Le.refl _, fun i x e e' => (by rw [e] at e'; cases e'), fun i b d e e' => (by rw [e] at e'; cases e'), fun _ _ _ => rfl, fun _ _ e => e, Nat.le_refl _, Nat.le_refl _, rfl, rfl, rfl⟩

theorem ST.trans (hn : ∀ i x, ρ i = some x → i < nx) (h : ST P ρ g nx w ρ' g' nx' w') (k : ST P ρ' g' nx' w' ρ'' g'' nx'' w'') : ST P ρ g nx w ρ'' g'' nx'' w'' where
  hr := k.hr
  ext := h.ext.trans k.ext
  fresh := fun i x e e'' => by
    cases e' : ρ' i with
    | none => exact Nat.le_trans h.up (k.fresh i x e' e'')
    | some y => exact h.fresh i y e e'
  new := fun i b d e e'' => by
    cases e' : ρ' i with
    | some y =>
      have := k.ext i y e'
      rw [this] at e''
      cases e''
      rcases h.new i b d e e' with h1 | ⟨j, d', h1, h2, h3⟩
      · exact .inl h1
      · exact .inr ⟨j, d', h1, h2, k.dead j (Nat.lt_of_lt_of_le (hn j _ h1) h.up) h3⟩
    | none =>
      rcases k.new i b d e' e'' with h1 | ⟨j, d', h1, h2, h3⟩
      · exact .inl (Nat.le_trans h.size h1)
      · cases ej : ρ j with
        | some y =>
          have := h.ext j y ej
          rw [this] at h1
          cases h1
          exact .inr ⟨j, d', ej, fun hd => h2 (h.dead j (hn j _ ej) hd), h3⟩
        | none =>
          rcases h.new j b d' ej h1 with h4 | ⟨m, dm, h4, h5, h6⟩
          · exact .inl h4
          · exact .inr ⟨m, dm, h4, h5, k.dead m (Nat.lt_of_lt_of_le (hn m _ h4) h.up) h6⟩
  frame := fun b hb hd => by
    rw [k.frame b (Nat.lt_of_lt_of_le hb h.size) fun i d e' => ?_, h.frame b hb hd]
    cases e : ρ i with
    | some y =>
      have := h.ext i y e
      rw [this] at e'
      cases e'
      exact h.dead i (hn i _ e) (hd i d e)
    | none =>
      rcases h.new i b d e e' with h1 | ⟨j, d', h1, h2, h3⟩
      · exact absurd hb (by omega)
      · exact absurd (hd j d' h1) h2
  dead := fun i hi e => k.dead i (Nat.lt_of_lt_of_le hi h.up) (h.dead i hi e)
  up := Nat.le_trans h.up k.up
  size := Nat.le_trans h.size k.size
  os := k.os.trans h.os
  tape := k.tape.trans h.tape
  output := k.output.trans h.output

theorem HR.lt (h : HR P ρ g nx w) : ∀ i x, ρ i = some x → i < nx := fun i x e => (h.dom i x.1 x.2 e).1

/-- Only the count of draws has moved. -/
theorem HR.drew (h : HR P ρ g nx w) : HR P ρ g nx w.drew := ⟨h.glob, h.dom, h.inj, h.obj⟩
theorem ST.drew (h : HR P ρ g nx w) : ST P ρ g nx w ρ g nx w.drew :=
  ⟨h.drew, Le.refl _, fun i x e e' => (by rw [e] at e'; cases e'), fun i b d e e' => (by rw [e] at e'; cases e'), fun _ _ _ => rfl, fun _ _ e => e, Nat.le_refl _, Nat.le_refl _, rfl, rfl, rfl⟩

theorem HR.up (h : HR P ρ g nx w) : P.globals.size ≤ nx := by
  rcases Nat.lt_or_ge nx P.globals.size with c | c
  · have := (h.dom nx _ _ (h.glob nx c)).1; omega
  · exact c

/-- A new object. -/
theorem ST.alloc (h : HR P ρ g nx w) (k : Nat) {o : AO} {ob : Obj} (ho : OOk P ρ (0, k) o ob) (hg' : ∀ i, g' i = if i = nx then some o else g i) :
    ST P ρ g nx w (fun i => if i = nx then some (w.heap.size, 0, k) else ρ i) g' (nx + 1) (w.alloc ob) ∧ (fun i => if i = nx then some (w.heap.size, 0, k) else ρ i) nx = some (w.heap.size, 0, k) := by
  have le : Le ρ (fun i => if i = nx then some (w.heap.size, 0, k) else ρ i) := fun i x e => by
    have := h.lt i x e
    show (if i = nx then _ else _) = _
    rw [if_neg (by omega)]; exact e
  have hup := h.up
  have hnx : ρ nx = none := by
    cases e : ρ nx with
    | none => rfl
    | some x => exact absurd (h.lt nx x e) (by omega)
  refine ⟨⟨⟨fun i hi => ?_, fun i b d e => ?_, fun i j b d d' e e' hi hj => ?_, fun i b d o' e eo => ?_⟩, le, fun i x e e' => ?_, fun i b d e e' => ?_, fun b hb hd => ?_, fun i hi e => ?_, by omega, by simp, rfl, rfl, rfl⟩, by simp⟩
  · show (if i = nx then _ else _) = _
    rw [if_neg (by omega)]; exact h.glob i hi
  · by_cases c : i = nx
    · rw [if_pos c] at e; cases e; simp; omega
    · rw [if_neg c] at e; have := h.dom i b d e; simp; omega
  · by_cases c : i = nx
    · rw [if_pos c] at e; cases e
      by_cases c' : j = nx
      · omega
      · rw [if_neg c'] at e'; have := (h.dom j _ _ e').2; omega
    · rw [if_neg c] at e
      by_cases c' : j = nx
      · rw [if_pos c'] at e'; cases e'; have := (h.dom i _ _ e).2; omega
      · rw [if_neg c'] at e'
        rw [hg', if_neg c] at hi
        rw [hg', if_neg c'] at hj
        exact h.inj i j b d d' e e' hi hj
  · by_cases c : i = nx
    · rw [if_pos c] at e; cases e
      rw [hg', if_pos c] at eo; cases eo
      exact ⟨ob, (by show (w.heap.push ob)[w.heap.size]? = _; simp), ho.mono le⟩
    · rw [if_neg c] at e
      rw [hg', if_neg c] at eo
      obtain ⟨ob', h1, h2⟩ := h.obj i b d o' e eo
      refine ⟨ob', ?_, h2.mono le⟩
      have := (h.dom i b d e).2
      rw [← h1]; show (w.heap.push ob)[b]? = _; rw [Array.getElem?_push, if_neg (by omega)]
  · by_cases c : i = nx
    · omega
    · rw [if_neg c, e] at e'; cases e'
  · by_cases c : i = nx
    · rw [if_pos c] at e'; cases e'; exact .inl (Nat.le_refl _)
    · rw [if_neg c, e] at e'; cases e'
  · show (w.heap.push ob)[b]? = _; rw [Array.getElem?_push, if_neg (by omega)]
  · rw [hg', if_neg (by omega)]; exact e

def withB (w : World) (b : Nat) (o : Obj) : World := { w with heap := w.heap.setIfInBounds b o }

/-- One object is changed. -/
theorem ST.change (h : HR P ρ g nx w) {i b : Nat} {d : Nat × Nat} {o : AO} {ob : Obj} (hi : ρ i = some (b, d)) (hl : g i ≠ none) (ho : OOk P ρ d o ob) (hg' : ∀ j, g' j = if j = i then some o else g j) :
    ST P ρ g nx w ρ g' nx (withB w b ob) := by
  have hb := (h.dom i b d hi).2
  refine ⟨⟨h.glob, fun j b' d' e => ?_, fun j k b' d1 d2 e e' hj hk => ?_, fun j b' d' o' e eo => ?_⟩, Le.refl _, fun j x e e' => (by rw [e] at e'; cases e'), fun j b' d' e e' => (by rw [e] at e'; cases e'), fun b' hb' hd => ?_, fun j hj e => ?_, Nat.le_refl _, by simp [withB], rfl, rfl, rfl⟩
  · have := h.dom j b' d' e; simpa [withB] using this
  · refine h.inj j k b' d1 d2 e e' ?_ ?_
    · rw [hg'] at hj; by_cases c : j = i
      · rw [c]; exact hl
      · rwa [if_neg c] at hj
    · rw [hg'] at hk; by_cases c : k = i
      · rw [c]; exact hl
      · rwa [if_neg c] at hk
  · rw [hg'] at eo
    by_cases c : j = i
    · rw [if_pos c] at eo; cases eo
      subst c
      rw [hi] at e; cases e
      exact ⟨ob, by simp [withB, hb], ho⟩
    · rw [if_neg c] at eo
      obtain ⟨ob', h1, h2⟩ := h.obj j b' d' o' e eo
      refine ⟨ob', ?_, h2⟩
      have hne : b ≠ b' := fun e2 => c (h.inj j i b d' d (e2 ▸ e) hi (by rw [eo]; simp) hl)
      rw [← h1]; simp only [withB]; rw [Array.getElem?_setIfInBounds_ne hne]
  · have hne : b ≠ b' := fun e2 => hl (hd i d (e2 ▸ hi))
    simp only [withB]; rw [Array.getElem?_setIfInBounds_ne hne]
  · rw [hg']
    by_cases c : j = i
    · rw [c] at e; exact absurd e hl
    · rw [if_neg c]; exact e

end
end Go.Mini
