/- Mini, part 19: the state behind some of a drawn region's operations, and one operation more. -/
import Derived.Test.YtfobiikidbffgaaGreatDoorM18
namespace Go.Mini

/-- What is known of the lexical run's heaps. -/
structure LF (n : Nat) (A : Nat → AS) (C : Nat → Option Cl) (bef : List (List Nat)) : Prop where
  up : ∀ k, k < n → (A k).nx ≤ (A (k + 1)).nx
  keep : ∀ k, k < n → ∀ i, i < (A k).nx → ¬ writes (C k) i → (A (k + 1)).get i = (A k).get i
  still : ∀ k, k < n → C k = none ∨ C k = some .p → (A (k + 1)).nx = (A k).nx
  ord : ∀ j k c d, j < k → k < n → C j = some c → C k = some d → clash c d = true → j ∈ bef.getD k []

def Wr (A : Nat → AS) (C : Nat → Option Cl) (k i : Nat) : Prop := writes (C k) i ∨ ((A k).nx ≤ i ∧ i < (A (k + 1)).nx)

def Valid (n : Nat) (A : Nat → AS) (C : Nat → Option Cl) (L : Nat → Prop) (q i : Nat) : Prop :=
  q ≤ n ∧ i < (A q).nx ∧ (∀ k, k < q → Wr A C k i → L k) ∧ (∀ k, q ≤ k → k < n → Wr A C k i → ¬ L k)

section
variable {n : Nat} {A : Nat → AS} {C : Nat → Option Cl} {bef : List (List Nat)} {L : Nat → Prop}

theorem LF.mono (h : LF n A C bef) {j : Nat} : ∀ {k : Nat}, j ≤ k → k ≤ n → (A j).nx ≤ (A k).nx := by
  intro k
  induction k with
  | zero => intro hj _; have : j = 0 := by omega
            subst this; exact Nat.le_refl _
  | succ k ih =>
    intro hj hk
    by_cases c : j = k + 1
    · subst c; exact Nat.le_refl _
    · exact Nat.le_trans (ih (by omega) (by omega)) (h.up k (by omega))

theorem LF.maker (h : LF n A C bef) {j k i : Nat} (hj : j < n) (hk : k < n) (h1 : (A j).nx ≤ i) (h2 : i < (A (j + 1)).nx) (h3 : (A k).nx ≤ i) (h4 : i < (A (k + 1)).nx) : j = k := by
  rcases Nat.lt_trichotomy j k with c | c | c
  · have := h.mono (j := j + 1) (k := k) c (by omega); omega
  · exact c
  · have := h.mono (j := k + 1) (k := j) c (by omega); omega

theorem LF.same (h : LF n A C bef) {i q : Nat} (hi : i < (A q).nx) : ∀ {r : Nat}, q ≤ r → r ≤ n → (∀ k, q ≤ k → k < r → ¬ writes (C k) i) → (A r).get i = (A q).get i := by
  intro r
  induction r with
  | zero => intro hq _ _; have : q = 0 := by omega
            subst this; rfl
  | succ r ih =>
    intro hq hr hw
    by_cases c : q = r + 1
    · subst c; rfl
    · have h1 := h.mono (j := q) (k := r) (by omega) (by omega)
      rw [h.keep r (by omega) i (by omega) (hw r (by omega) (by omega))]
      exact ih (by omega) (by omega) (fun k hk1 hk2 => hw k hk1 (by omega))

theorem Valid.same (h : LF n A C bef) {q r i : Nat} (hq : Valid n A C L q i) (hr : Valid n A C L r i) : (A q).get i = (A r).get i := by
  have key : ∀ q r, q ≤ r → Valid n A C L q i → Valid n A C L r i → (A r).get i = (A q).get i := fun q r hle hq hr =>
    h.same hq.2.1 hle hr.1 fun k hk1 hk2 hw => hq.2.2.2 k hk1 (Nat.lt_of_lt_of_le hk2 hr.1) (.inl hw) (hr.2.2.1 k hk2 (.inl hw))
  rcases Nat.le_total q r with c | c
  · exact (key q r c hq hr).symm
  · exact key r q c hr hq

theorem writes_some {c : Option Cl} {i : Nat} (h : writes c i) : ∃ d, c = some d := by
  cases c with
  | none => exact h.elim
  | some d => exact ⟨d, rfl⟩

theorem reads_some {c : Option Cl} {i : Nat} (h : reads c i) : ∃ d, c = some d := by
  cases c with
  | none => exact h.elim
  | some d => exact ⟨d, rfl⟩

/-- Two operations that meet, in their order. -/
theorem LF.met (h : LF n A C bef) (hdc : ∀ k j, k < n → L k → j ∈ bef.getD k [] → L j) {k : Nat} (hk : k < n) (hnl : ¬ L k) (hrd : ∀ j, j ∈ bef.getD k [] → L j) {j : Nat} (hj : j < n) {c d : Cl} (hc : C k = some c) (hd : C j = some d) (h1 : clash c d = true) (h2 : clash d c = true) :
    (j < k → L j) ∧ (k < j → ¬ L j) :=
  ⟨fun hlt => hrd j (h.ord j k d c hlt hk hd hc h2), fun hlt hl => hnl (hdc j k hj hl (h.ord k j c d hlt hj hc hd h1))⟩

theorem LF.now (h : LF n A C bef) (hdc : ∀ k j, k < n → L k → j ∈ bef.getD k [] → L j) {k : Nat} (hk : k < n) (hnl : ¬ L k) (hrd : ∀ j, j ∈ bef.getD k [] → L j) {i : Nat} (hi : i < (A k).nx) (hr : reads (C k) i)
    (hm : ∀ j, j < k → (A j).nx ≤ i → i < (A (j + 1)).nx → L j) : Valid n A C L k i := by
  obtain ⟨c, hc⟩ := reads_some hr
  rw [hc] at hr
  refine ⟨by omega, hi, fun j hj hw => ?_, fun j hj hjn hw => ?_⟩
  · rcases hw with hw | ⟨h1, h2⟩
    · obtain ⟨d, hd⟩ := writes_some hw
      rw [hd] at hw
      obtain ⟨k1, k2⟩ := clash_rw hw hr
      exact (h.met hdc hk hnl hrd (by omega) hc hd k2 k1).1 hj
    · exact hm j hj h1 h2
  · by_cases cjk : j = k
    · subst cjk; exact hnl
    · rcases hw with hw | ⟨h1, h2⟩
      · obtain ⟨d, hd⟩ := writes_some hw
        rw [hd] at hw
        obtain ⟨k1, k2⟩ := clash_rw hw hr
        exact (h.met hdc hk hnl hrd hjn hc hd k2 k1).2 (by omega)
      · have := h.mono (j := k) (k := j) hj (by omega); omega

theorem clash_e {c : Cl} (h : c ≠ .p) : clash .e c = true ∧ clash c .e = true := by
  cases c <;> simp_all [clash]

theorem LF.makes (h : LF n A C bef) {k i : Nat} (hk : k < n) (h1 : (A k).nx ≤ i) (h2 : i < (A (k + 1)).nx) : ∃ c, C k = some c ∧ c ≠ .p := by
  cases hc : C k with
  | none => have := h.still k hk (.inl hc); omega
  | some c =>
    refine ⟨c, rfl, fun e => ?_⟩
    subst e
    have := h.still k hk (.inr hc); omega

/-- The state behind the operations of L. -/
structure Inv (P : Program) (n : Nat) (A : Nat → AS) (C : Nat → Option Cl) (V : Nat → Value) (ops : Array Oper) (ρ0 : Ren) (a0 : Act) (w0 : World) (L : Nat → Prop) (ρ : Ren) (a : Act) (w : World) : Prop where
  base : Le ρ0 ρ
  old : ∀ i x, ρ0 i = none → ρ i = some x → ∃ k, k < n ∧ L k ∧ (A k).nx ≤ i ∧ i < (A (k + 1)).nx
  dom : ∀ i b d, ρ i = some (b, d) → b < w.heap.size
  swr : ∀ k i, k < n → L k → C k = some (.s i) → ∃ x, ρ i = some x
  inj : ∀ i j b d d' q q', ρ i = some (b, d) → ρ j = some (b, d') → Valid n A C L q i → (A q).get i ≠ none → Valid n A C L q' j → (A q').get j ≠ none → i = j
  obj : ∀ i b d q o, ρ i = some (b, d) → Valid n A C L q i → (A q).get i = some o → ∃ ob, w.heap[b]? = some ob ∧ OOk P (cut ρ (A q).nx) d o ob
  new : ∀ i b d, ρ0 i = none → ρ i = some (b, d) → w0.heap.size ≤ b ∨ ∃ j d' q, ρ0 j = some (b, d') ∧ (A 0).get j ≠ none ∧ Valid n A C L q j ∧ (A q).get j = none
  frame : ∀ b, b < w0.heap.size → (∀ i d, ρ0 i = some (b, d) → (A 0).get i = none) → w.heap[b]? = w0.heap[b]?
  dead : ∀ k, k < n → L k → ∀ i, i < (A k).nx → (A k).get i = none → (A (k + 1)).get i = none
  size : w0.heap.size ≤ w.heap.size
  os : w.os = w0.os
  tape : w.tape = w0.tape
  output : w.output = w0.output
  tsize : a.tmps.size = a0.tmps.size
  tmp : ∀ t, (∀ k o, L k → ops[k]? = some o → o.dst ≠ some t) → a.tmps[t]? = a0.tmps[t]?
  dst : ∀ k o d, L k → ops[k]? = some o → o.dst = some d → d < a0.tmps.size → ∃ v', a.tmps[d]? = some v' ∧ VR (cut ρ (A (k + 1)).nx) (V k) v'
  defers : a.defers = a0.defers

variable {P : Program} {V : Nat → Value} {ops : Array Oper} {ρ0 ρ ρ' : Ren} {a0 a : Act} {w0 w w' : World} {nx0 : Nat}

theorem Inv.where_ (I : Inv P n A C V ops ρ0 a0 w0 L ρ a w) (h0 : ∀ i x, ρ0 i = some x → i < (A 0).nx) {i : Nat} {x : Nat × Nat × Nat} (h : ρ i = some x) : i < (A 0).nx ∨ ∃ k, k < n ∧ L k ∧ (A k).nx ≤ i ∧ i < (A (k + 1)).nx := by
  cases e : ρ0 i with
  | some y => exact .inl (h0 i y e)
  | none => exact .inr (I.old i x e h)

theorem Inv.makerIn (I : Inv P n A C V ops ρ0 a0 w0 L ρ a w) (h : LF n A C bef) (h0 : ∀ i x, ρ0 i = some x → i < (A 0).nx) {i : Nat} {x : Nat × Nat × Nat} (hx : ρ i = some x) {j : Nat} (hj : j < n) (h1 : (A j).nx ≤ i) (h2 : i < (A (j + 1)).nx) : L j := by
  rcases I.where_ h0 hx with c | ⟨k, hk, hl, h3, h4⟩
  · have := h.mono (j := 0) (k := j) (by omega) (by omega); omega
  · rw [h.maker hj hk h1 h2 h3 h4]; exact hl

/-- What was dead at first is dead. -/
theorem Inv.deadTo (I : Inv P n A C V ops ρ0 a0 w0 L ρ a w) (h : LF n A C bef) {i : Nat} (hi : i < (A 0).nx) (hd : (A 0).get i = none) {q : Nat} (hv : ∀ k, k < q → Wr A C k i → L k) (hq : q ≤ n) : (A q).get i = none := by
  induction q with
  | zero => exact hd
  | succ q ih =>
    have h1 := ih (fun k hk => hv k (by omega)) (by omega)
    have h2 := h.mono (j := 0) (k := q) (by omega) (by omega)
    by_cases c : writes (C q) i
    · exact I.dead q (by omega) (hv q (by omega) (.inl c)) i (by omega) h1
    · rw [h.keep q (by omega) i (by omega) c]; exact h1

noncomputable def merge (ρ ρ' : Ren) (lo hi : Nat) : Ren := fun i => if lo ≤ i ∧ i < hi then ρ' i else ρ i

theorem Inv.step (I : Inv P n A C V ops ρ0 a0 w0 L ρ a w) (h : LF n A C bef) (h0 : ∀ i x, ρ0 i = some x → i < (A 0).nx) (hdc : ∀ k j, k < n → L k → j ∈ bef.getD k [] → L j)
    {k : Nat} (hk : k < n) (hnl : ¬ L k) (hrd : ∀ j, j ∈ bef.getD k [] → L j) {o : Oper} (ho : ops[k]? = some o) (hnd : ∀ j o' d, ops[j]? = some o' → o'.dst = some d → o.dst = some d → j = k)
    {Vw Vw' : AS} (vw : View (A k) (A (k + 1)) (C k) Vw Vw') (st : ST P (cut ρ (A k).nx) Vw.get (A k).nx w ρ' Vw'.get (A (k + 1)).nx w') {v' : Value} (hv : VR ρ' (V k) v') (hs : ∀ i, C k = some (.s i) → ∃ x, cut ρ (A k).nx i = some x) :
    Inv P n A C V ops ρ0 a0 w0 (fun j => L j ∨ j = k) (merge ρ ρ' (A k).nx (A (k + 1)).nx) (a.put o.dst v') w' := by
  -- where the old objects lie
  have notMade : ∀ i x, ρ i = some x → ¬ ((A k).nx ≤ i ∧ i < (A (k + 1)).nx) := fun i x hx hc => hnl (I.makerIn h h0 hx hk hc.1 hc.2)
  have mOld : ∀ i x, ρ i = some x → merge ρ ρ' (A k).nx (A (k + 1)).nx i = some x := fun i x hx => by
    unfold merge; rw [if_neg (notMade i x hx)]; exact hx
  have mNew : ∀ i, (A k).nx ≤ i ∧ i < (A (k + 1)).nx → merge ρ ρ' (A k).nx (A (k + 1)).nx i = ρ' i := fun i hc => by unfold merge; rw [if_pos hc]
  have mCase : ∀ i x, merge ρ ρ' (A k).nx (A (k + 1)).nx i = some x → ((A k).nx ≤ i ∧ i < (A (k + 1)).nx ∧ ρ' i = some x) ∨ ρ i = some x := fun i x e => by
    unfold merge at e
    split at e
    · rename_i c; exact .inl ⟨c.1, c.2, e⟩
    · exact .inr e
  have le : Le ρ (merge ρ ρ' (A k).nx (A (k + 1)).nx) := mOld
  have low : ∀ i x, i < (A k).nx → ρ' i = some x → ρ i = some x := fun i x hi e => by
    cases e2 : cut ρ (A k).nx i with
    | some y =>
      have := st.ext i y e2
      rw [this] at e; cases e
      exact (cut_some.1 e2).2
    | none => have := st.fresh i x e2 e; omega
  have le' : Le ρ' (cut (merge ρ ρ' (A k).nx (A (k + 1)).nx) (A (k + 1)).nx) := fun i x e => by
    have hi : i < (A (k + 1)).nx := (st.hr.dom i x.1 x.2 e).1
    refine cut_some.2 ⟨hi, ?_⟩
    by_cases c : i < (A k).nx
    · exact mOld i x (low i x c e)
    · rw [mNew i ⟨by omega, hi⟩]; exact e
  -- an old object that k changes lies below k's bound, and k's time is valid for it
  have below : ∀ i x, ρ i = some x → writes (C k) i → i < (A k).nx := by
    intro i x hx hw
    obtain ⟨c, hc⟩ := writes_some hw
    cases c with
    | s y =>
      rw [hc] at hw
      have : i = y := hw
      subst this
      obtain ⟨z, hz⟩ := hs i hc
      exact (cut_some.1 hz).1
    | e =>
      rcases Nat.lt_or_ge i (A k).nx with c | c
      · exact c
      · rcases I.where_ h0 hx with c2 | ⟨j, hj, hl, h1, h2⟩
        · have := h.mono (j := 0) (k := k) (by omega) (by omega); omega
        · obtain ⟨d, hd, hp⟩ := h.makes hj h1 h2
          obtain ⟨k1, k2⟩ := clash_e hp
          have hm := h.met hdc hk hnl hrd hj hc hd k1 k2
          rcases Nat.lt_trichotomy j k with c3 | c3 | c3
          · have := h.mono (j := j + 1) (k := k) c3 (by omega); omega
          · subst c3; exact absurd hl hnl
          · exact absurd hl (hm.2 c3)
    | p => rw [hc] at hw; exact hw.elim
    | l y => rw [hc] at hw; exact hw.elim
    | n => rw [hc] at hw; exact hw.elim
    | g => rw [hc] at hw; exact hw.elim
  have now : ∀ i x, ρ i = some x → i < (A k).nx → reads (C k) i → Valid n A C L k i := fun i x hx hi hr =>
    h.now hdc hk hnl hrd hi hr fun j hj h1 h2 => I.makerIn h h0 hx (by omega) h1 h2
  have seen : ∀ i x, cut ρ (A k).nx i = some x → ∀ o1, Vw.get i = some o1 → (A k).get i = some o1 ∧ Valid n A C L k i := fun i x hx o1 e => by
    obtain ⟨h1, h2⟩ := vw.seen i o1 e
    obtain ⟨h3, h4⟩ := cut_some.1 hx
    exact ⟨h1, now i x h4 h3 h2⟩
  have wr_reads : ∀ i, writes (C k) i → reads (C k) i := fun i hw => by
    obtain ⟨c, hc⟩ := writes_some hw
    rw [hc] at hw ⊢
    exact writes_reads hw
  -- valid times behind the step
  have vBack : ∀ q i, Valid n A C (fun j => L j ∨ j = k) q i → ¬ Wr A C k i → Valid n A C L q i := fun q i hq hn =>
    ⟨hq.1, hq.2.1, fun j hj hw => (hq.2.2.1 j hj hw).resolve_right (fun e => hn (e ▸ hw)), fun j hj hjn hw hl => hq.2.2.2 j hj hjn hw (.inl hl)⟩
  have vFwd : ∀ q i, Valid n A C L q i → ¬ Wr A C k i → Valid n A C (fun j => L j ∨ j = k) q i := fun q i hq hn =>
    ⟨hq.1, hq.2.1, fun j hj hw => .inl (hq.2.2.1 j hj hw), fun j hj hjn hw hl => hl.elim (hq.2.2.2 j hj hjn hw) (fun e => hn (e ▸ hw))⟩
  have vNext : ∀ i, Valid n A C L k i → Valid n A C (fun j => L j ∨ j = k) (k + 1) i := fun i hq =>
    ⟨hk, Nat.lt_of_lt_of_le hq.2.1 (h.up k hk), fun j hj hw => by
      by_cases c : j = k
      · exact .inr c
      · exact .inl (hq.2.2.1 j (by omega) hw), fun j hj hjn hw hl => hl.elim (hq.2.2.2 j (by omega) hjn hw) (fun e => by omega)⟩
  have vAft : ∀ q i, Valid n A C (fun j => L j ∨ j = k) q i → Wr A C k i → k < q := fun q i hq hw => by
    rcases Nat.lt_or_ge k q with c | c
    · exact c
    · exact absurd (Or.inr rfl) (hq.2.2.2 k c hk hw)
  -- the content of what k changed, and of what it made
  have wrote : ∀ i x q, ρ i = some x → writes (C k) i → Valid n A C (fun j => L j ∨ j = k) q i → (A q).get i = Vw'.get i := by
    intro i x q hx hw hq
    have hi := below i x hx hw
    have hkq := vAft q i hq (.inl hw)
    obtain ⟨c, hc⟩ := writes_some hw
    have hup := h.up k hk
    rw [vw.wrote i hi hw]
    refine h.same (q := k + 1) (by omega) hkq hq.1 fun j hj1 hj2 hwj => ?_
    have hl := (hq.2.2.1 j hj2 (.inl hwj)).resolve_right (by omega)
    obtain ⟨d, hd⟩ := writes_some hwj
    rw [hd] at hwj
    have hr := wr_reads i hw
    rw [hc] at hr
    obtain ⟨k1, k2⟩ := clash_rw hwj hr
    have hjn : j < n := Nat.lt_of_lt_of_le hj2 hq.1
    exact (h.met hdc hk hnl hrd hjn hc hd k2 k1).2 (by omega) hl
  have made : ∀ i q, (A k).nx ≤ i → i < (A (k + 1)).nx → Valid n A C (fun j => L j ∨ j = k) q i → (A q).get i = Vw'.get i := by
    intro i q h1 h2 hq
    have hkq := vAft q i hq (.inr ⟨h1, h2⟩)
    obtain ⟨c, hc, hp⟩ := h.makes hk h1 h2
    rw [vw.made i h1 h2]
    refine h.same (q := k + 1) h2 hkq hq.1 fun j hj1 hj2 hwj => ?_
    have hjn : j < n := Nat.lt_of_lt_of_le hj2 hq.1
    have hl := (hq.2.2.1 j hj2 (.inl hwj)).resolve_right (by omega)
    obtain ⟨d, hd⟩ := writes_some hwj
    cases d with
    | s y =>
      rw [hd] at hwj
      have : i = y := hwj
      subst this
      obtain ⟨x, hx⟩ := I.swr j i hjn hl hd
      exact notMade i x hx ⟨h1, h2⟩
    | e =>
      obtain ⟨k1, k2⟩ := clash_e hp
      exact (h.met hdc hk hnl hrd hjn hc hd k2 k1).2 (by omega) hl
    | p => rw [hd] at hwj; exact hwj.elim
    | l y => rw [hd] at hwj; exact hwj.elim
    | n => rw [hd] at hwj; exact hwj.elim
    | g => rw [hd] at hwj; exact hwj.elim
  -- what lives behind the step lived ahead of it
  have liveB : ∀ i x q, ρ i = some x → Valid n A C (fun j => L j ∨ j = k) q i → (A q).get i ≠ none → ∃ q0, Valid n A C L q0 i ∧ (A q0).get i ≠ none := by
    intro i x q hx hq hl
    by_cases hw : writes (C k) i
    · have hi := below i x hx hw
      have hn := now i x hx hi (wr_reads i hw)
      refine ⟨k, hn, fun e => hl ?_⟩
      rw [wrote i x q hx hw hq]
      refine st.dead i hi ?_
      cases e2 : Vw.get i with
      | none => rfl
      | some o1 => have := (vw.seen i o1 e2).1; rw [e] at this; cases this
    · have hnw : ¬ Wr A C k i := fun hw' => hw'.elim hw (notMade i x hx)
      exact ⟨q, vBack q i hq hnw, hl⟩
  have deadF : ∀ i x q, ρ i = some x → Valid n A C L q i → (A q).get i = none → ∃ q0, Valid n A C (fun j => L j ∨ j = k) q0 i ∧ (A q0).get i = none := by
    intro i x q hx hq hd
    by_cases hw : writes (C k) i
    · have hi := below i x hx hw
      have hn := now i x hx hi (wr_reads i hw)
      have hd' : (A k).get i = none := by rw [hn.same h hq]; exact hd
      refine ⟨k + 1, vNext i hn, ?_⟩
      rw [← vw.wrote i hi hw]
      refine st.dead i hi ?_
      cases e2 : Vw.get i with
      | none => rfl
      | some o1 => have := (vw.seen i o1 e2).1; rw [hd'] at this; cases this
    · have hnw : ¬ Wr A C k i := fun hw' => hw'.elim hw (notMade i x hx)
      exact ⟨q, vFwd q i hq hnw, hd⟩
  have lb : ∀ i x, ρ' i = some x → i < (A (k + 1)).nx := fun i x e => (st.hr.dom i x.1 x.2 e).1
  refine ⟨I.base.trans le, fun i x e e' => ?_, fun i b d e => ?_, fun j i hj hl hc => ?_, ?_, ?_, ?_, fun b hb hd => ?_, fun j hj hl i hi e => ?_, Nat.le_trans I.size st.size, st.os.trans I.os, st.tape.trans I.tape, st.output.trans I.output, ?_, fun t ht => ?_, fun j o' d hl hj hd hlt => ?_, ?_⟩
  · -- old
    rcases mCase i x e' with ⟨h1, h2, _⟩ | h1
    · exact ⟨k, hk, .inr rfl, h1, h2⟩
    · obtain ⟨j, hj, hl, h2⟩ := I.old i x e h1
      exact ⟨j, hj, .inl hl, h2⟩
  · -- dom
    rcases mCase i _ e with ⟨_, _, h1⟩ | h1
    · exact (st.hr.dom i b d h1).2
    · exact Nat.lt_of_lt_of_le (I.dom i b d h1) st.size
  · -- swr
    rcases hl with hl | rfl
    · obtain ⟨x, hx⟩ := I.swr j i hj hl hc
      exact ⟨x, mOld i x hx⟩
    · obtain ⟨x, hx⟩ := hs i hc
      exact ⟨x, mOld i x (cut_some.1 hx).2⟩
  · -- inj
    have mixed : ∀ i j b d d' q q', ((A k).nx ≤ i ∧ i < (A (k + 1)).nx ∧ ρ' i = some (b, d)) → ρ j = some (b, d') → Valid n A C (fun j => L j ∨ j = k) q i → (A q).get i ≠ none → Valid n A C (fun j => L j ∨ j = k) q' j → (A q').get j ≠ none → False := by
      intro i j b d d' q q' ⟨h1, h2, h3⟩ hj hq hl hq' hl'
      have hc : cut ρ (A k).nx i = none := by
        cases e : cut ρ (A k).nx i with
        | none => rfl
        | some y => have := (cut_some.1 e).1; omega
      rcases st.new i b d hc h3 with hb | ⟨j', d2, e1, e2, e3⟩
      · have := I.dom j b d' hj; omega
      · cases e4 : Vw.get j' with
        | none => exact e2 e4
        | some o1 =>
          obtain ⟨s1, s2⟩ := seen j' _ e1 o1 e4
          obtain ⟨c1, c2⟩ := cut_some.1 e1
          obtain ⟨q0, hq0, hl0⟩ := liveB j _ q' hj hq' hl'
          have : j = j' := I.inj j j' b d' d2 q0 k hj c2 hq0 hl0 s2 (by rw [s1]; simp)
          subst this
          by_cases hw : writes (C k) j
          · exact hl' (by rw [wrote j _ q' hj hw hq']; exact e3)
          · rw [(vw.rest j c1 hw).2, e4] at e3; cases e3
    intro i j b d d' q q' ei ej hq hl hq' hl'
    rcases mCase i _ ei with h1 | h1 <;> rcases mCase j _ ej with h2 | h2
    · refine st.hr.inj i j b d d' h1.2.2 h2.2.2 ?_ ?_
      · rw [← made i q h1.1 h1.2.1 hq]; exact hl
      · rw [← made j q' h2.1 h2.2.1 hq']; exact hl'
    · exact (mixed i j b d d' q q' h1 h2 hq hl hq' hl').elim
    · exact (mixed j i b d' d q' q h2 h1 hq' hl' hq hl).elim
    · obtain ⟨q0, a1, a2⟩ := liveB i _ q h1 hq hl
      obtain ⟨q1, a3, a4⟩ := liveB j _ q' h2 hq' hl'
      exact I.inj i j b d d' q0 q1 h1 h2 a1 a2 a3 a4
  · -- obj
    intro i b d q o1 ei hq hg
    rcases mCase i _ ei with ⟨h1, h2, h3⟩ | h1
    · obtain ⟨ob, g1, g2⟩ := st.hr.obj i b d o1 h3 (by rw [← made i q h1 h2 hq]; exact hg)
      refine ⟨ob, g1, g2.mono (le'.trans (cut_mono (Le.refl _) ?_))⟩
      exact h.mono (vAft q i hq (.inr ⟨h1, h2⟩)) hq.1
    · by_cases hw : writes (C k) i
      · have hi := below i _ h1 hw
        have hc : cut ρ (A k).nx i = some (b, d) := cut_some.2 ⟨hi, h1⟩
        obtain ⟨ob, g1, g2⟩ := st.hr.obj i b d o1 (st.ext i _ hc) (by rw [← wrote i _ q h1 hw hq]; exact hg)
        refine ⟨ob, g1, g2.mono (le'.trans (cut_mono (Le.refl _) ?_))⟩
        exact h.mono (vAft q i hq (.inl hw)) hq.1
      · have hnw : ¬ Wr A C k i := fun hw' => hw'.elim hw (notMade i _ h1)
        have hqL := vBack q i hq hnw
        obtain ⟨ob, g1, g2⟩ := I.obj i b d q o1 h1 hqL hg
        by_cases hsee : i < (A k).nx ∧ ∃ o2, Vw.get i = some o2
        · obtain ⟨hi, o2, hv2⟩ := hsee
          have hc : cut ρ (A k).nx i = some (b, d) := cut_some.2 ⟨hi, h1⟩
          obtain ⟨s1, s2⟩ := seen i _ hc o2 hv2
          have : o2 = o1 := by
            have := s2.same h hqL
            rw [s1, hg] at this
            cases this; rfl
          subst this
          obtain ⟨ob', g3, g4⟩ := st.hr.obj i b d o2 (st.ext i _ hc) (by rw [(vw.rest i hi hw).2]; exact hv2)
          refine ⟨ob', g3, (OOk.cut (N := (A q).nx) (fun i x e => (cut_some.1 e).1) g4 g2).mono (cut_mono (le'.trans (cut_le _ _)) (Nat.le_refl _))⟩
        · refine ⟨ob, ?_, g2.mono (cut_mono le (Nat.le_refl _))⟩
          rw [← g1]
          refine st.frame b (I.dom i b d h1) fun i' d' e => ?_
          cases e2 : Vw.get i' with
          | none => rfl
          | some o2 =>
            obtain ⟨s1, s2⟩ := seen i' _ e o2 e2
            obtain ⟨c1, c2⟩ := cut_some.1 e
            have : i = i' := I.inj i i' b d d' q k h1 c2 hqL (by rw [hg]; simp) s2 (by rw [s1]; simp)
            subst this
            exact absurd ⟨c1, o2, e2⟩ hsee
  · -- new
    intro i b d e ei
    have carry : (w0.heap.size ≤ b ∨ ∃ j d' q, ρ0 j = some (b, d') ∧ (A 0).get j ≠ none ∧ Valid n A C L q j ∧ (A q).get j = none) →
        (w0.heap.size ≤ b ∨ ∃ j d' q, ρ0 j = some (b, d') ∧ (A 0).get j ≠ none ∧ Valid n A C (fun j => L j ∨ j = k) q j ∧ (A q).get j = none) := by
      rintro (hb | ⟨j, d', q, h1, h2, h3, h4⟩)
      · exact .inl hb
      · obtain ⟨q0, h5, h6⟩ := deadF j _ q (I.base j _ h1) h3 h4
        exact .inr ⟨j, d', q0, h1, h2, h5, h6⟩
    rcases mCase i _ ei with ⟨h1, h2, h3⟩ | h1
    · have hc : cut ρ (A k).nx i = none := by
        cases e : cut ρ (A k).nx i with
        | none => rfl
        | some y => have := (cut_some.1 e).1; omega
      rcases st.new i b d hc h3 with hb | ⟨j, d2, e1, e2, e3⟩
      · exact .inl (Nat.le_trans I.size hb)
      · cases e4 : Vw.get j with
        | none => exact absurd e4 e2
        | some o1 =>
          obtain ⟨s1, s2⟩ := seen j _ e1 o1 e4
          obtain ⟨c1, c2⟩ := cut_some.1 e1
          have hw : writes (C k) j := by
            by_cases hw : writes (C k) j
            · exact hw
            · rw [(vw.rest j c1 hw).2, e4] at e3; cases e3
          cases e5 : ρ0 j with
          | none => exact carry (I.new j b d2 e5 c2)
          | some y =>
            have := I.base j y e5
            rw [c2] at this; cases this
            refine .inr ⟨j, d2, k + 1, e5, fun hd => ?_, vNext j s2, by rw [← vw.wrote j c1 hw]; exact e3⟩
            have := I.deadTo h (h0 j _ e5) hd s2.2.2.1 (by omega)
            rw [s1] at this; cases this
    · exact carry (I.new i b d e h1)
  · -- frame
    rw [← I.frame b hb hd]
    refine st.frame b (Nat.lt_of_lt_of_le hb I.size) fun i d e => ?_
    cases e2 : Vw.get i with
    | none => rfl
    | some o1 =>
      obtain ⟨s1, s2⟩ := seen i _ e o1 e2
      obtain ⟨c1, c2⟩ := cut_some.1 e
      cases e5 : ρ0 i with
      | none =>
        rcases I.new i b d e5 c2 with hb' | ⟨j, d', q, h1, h2, _⟩
        · omega
        · exact absurd (hd j d' h1) h2
      | some y =>
        have := I.base i y e5
        rw [c2] at this; cases this
        have := I.deadTo h (h0 i _ e5) (hd i d e5) s2.2.2.1 (by omega)
        rw [s1] at this; cases this
  · -- dead
    rcases hl with hl | rfl
    · exact I.dead j hj hl i hi e
    · by_cases hw : writes (C j) i
      · rw [← vw.wrote i hi hw]
        refine st.dead i hi ?_
        cases e2 : Vw.get i with
        | none => rfl
        | some o1 => have := (vw.seen i o1 e2).1; rw [e] at this; cases this
      · rw [h.keep j hj i hi hw]; exact e
  · -- the temporaries' number
    rw [← I.tsize]
    cases o.dst <;> simp [Act.put]
  · -- a temporary that nothing wrote
    rw [← I.tmp t fun j o' hl hj => ht j o' (.inl hl) hj]
    have hne : o.dst ≠ some t := ht k o (.inr rfl) ho
    cases e : o.dst with
    | none => rfl
    | some d =>
      rw [e] at hne
      simp only [Act.put]
      rw [Array.getElem?_setIfInBounds_ne (fun c => hne (by rw [c]))]
  · -- a temporary that was written
    by_cases cjk : j = k
    · subst cjk
      rw [ho] at hj; cases hj
      refine ⟨v', ?_, hv.mono le'⟩
      rw [hd]
      simp only [Act.put]
      exact Array.getElem?_setIfInBounds_self_of_lt (by rw [I.tsize]; exact hlt)
    · have hlj := hl.resolve_right cjk
      obtain ⟨u, h1, h2⟩ := I.dst j o' d hlj hj hd hlt
      refine ⟨u, ?_, h2.mono (cut_mono le (Nat.le_refl _))⟩
      cases e : o.dst with
      | none => exact h1
      | some d2 =>
        simp only [Act.put]
        have hne : d2 ≠ d := fun c => cjk (hnd j o' d hj hd (by rw [e, c]))
        rw [Array.getElem?_setIfInBounds_ne hne]
        exact h1
  · rw [← I.defers]
    cases o.dst <;> rfl

end
end Go.Mini
