/- Mini, part 20: drawn regions. -/
import Derived.Test.YtfobiikidbffgaaGreatDoorM19
namespace Go.Mini

section
variable {P : Program} {call : CallF} {ops : Array Oper} {bef : List (List Nat)}

theorem drawOne_some {o : Oper} {k : Nat} {s s' : LS} {v : Value} {c : Option Cl} (h : drawOne P call ops bef o k s = some (v, c, s')) :
    (wantedA ops s.fr o = some false ∧ v = skipV ∧ c = none ∧ s' = ⟨s.don, s.fr.put o.dst skipV, s.A⟩) ∨
    (wantedA ops s.fr o = some true ∧ ∃ A' c0, opSem P call (s.fr.ev P) o.op { s.A with wm := s.A.nx } = some (.val v, A') ∧ c0 = clOf (s.fr.ev P) o.op (decide (s.A.nx ≤ A'.wm)) ∧ c = some c0 ∧
      (∀ d ∈ s.don, clash d.2 c0 = true → d.1 ∈ bef.getD k []) ∧ s' = ⟨(k, c0) :: s.don, s.fr.put o.dst v, { A' with wm := min s.A.wm A'.wm }⟩) := by
  unfold drawOne at h
  split at h
  · cases h
  · rename_i hw; cases h; exact .inl ⟨hw, rfl, rfl, rfl⟩
  · rename_i hw
    split at h
    · rename_i v1 A1 hop
      dsimp only at h
      split at h
      · rename_i hc
        cases h
        refine .inr ⟨hw, A1, _, hop, rfl, rfl, fun d hd hcl => ?_, rfl⟩
        have := List.all_eq_true.1 hc d hd
        rw [hcl] at this
        simpa using this
      · cases h
    · cases h

/-! ### What stands ahead -/
theorem befs_keep : ∀ (l : List Oper) (acc : List (List Nat)) (m : Nat), m < acc.length → (befs l acc).getD m [] = acc.getD m []
  | [], acc, m, h => rfl
  | o :: l, acc, m, h => by
    simp only [befs]
    rw [befs_keep l _ m (by simp; omega)]
    simp [List.getD_eq_getElem?_getD, List.getElem?_append_left h]

theorem befs_mem : ∀ (l : List Oper) (acc : List (List Nat)) (i : Nat) (o : Oper) (j : Nat), l[i]? = some o → j ∈ (befs l acc).getD (acc.length + i) [] →
    ∃ e ∈ o.after, Region.binds .any e = true ∧ (j = e.on ∨ (e.on < acc.length + i ∧ j ∈ (befs l acc).getD e.on []) ∨ acc.length + i ≤ e.on)
  | [], acc, i, o, j, h, _ => by simp at h
  | o' :: l, acc, 0, o, j, h, hj => by
    simp only [List.getElem?_cons_zero, Option.some.injEq] at h
    subst h
    simp only [befs, Nat.add_zero] at hj ⊢
    rw [befs_keep l _ acc.length (by simp)] at hj
    simp only [List.getD_eq_getElem?_getD, List.getElem?_append_right (Nat.le_refl _), Nat.sub_self, List.getElem?_cons_zero, Option.getD_some, List.mem_flatMap] at hj
    obtain ⟨e, he, hj⟩ := hj
    split at hj
    · rename_i hb
      refine ⟨e, by simpa using he, hb, ?_⟩
      rcases List.mem_cons.1 hj with h1 | h1
      · exact .inl h1
      · rcases Nat.lt_or_ge e.on acc.length with c | c
        · refine .inr (.inl ⟨c, ?_⟩)
          rw [befs_keep l _ e.on (by simp; omega)]
          simp only [List.getD_eq_getElem?_getD, List.getElem?_append_left c]
          exact h1
        · exact .inr (.inr c)
    · cases hj
  | o' :: l, acc, i + 1, o, j, h, hj => by
    simp only [befs] at hj ⊢
    have := befs_mem l (acc ++ [o'.after.toList.flatMap fun e => if Region.binds .any e then e.on :: acc.getD e.on [] else []]) i o j (by simpa using h) (by simp only [List.length_append, List.length_singleton]; rw [show acc.length + 1 + i = acc.length + (i + 1) by omega]; exact hj)
    simp only [List.length_append, List.length_singleton] at this
    rw [show acc.length + 1 + i = acc.length + (i + 1) by omega] at this
    exact this

theorem edgesOk_lt (h : edgesOk ops.toList = true) {k : Nat} {o : Oper} (ho : ops[k]? = some o) {e : Edge} (he : e ∈ o.after) (hb : Region.binds .any e = true) : e.on < k := by
  unfold edgesOk at h
  have hm : (o, k) ∈ ops.toList.zipIdx := by
    rw [List.mk_mem_zipIdx_iff_getElem?]
    simpa using ho
  have h1 := List.all_eq_true.1 h (o, k) hm
  have h2 := List.all_eq_true.1 h1 e (by simpa using he)
  simpa [hb] using h2

/-- What stands ahead of an operation whose edges are met has been listed. -/
theorem bef_listed (h : edgesOk ops.toList = true) {L : Nat → Prop} (hp : ∀ k o e, L k → ops[k]? = some o → e ∈ o.after → Region.binds .any e = true → L e.on) : ∀ (k : Nat) (o : Oper), ops[k]? = some o → (∀ e ∈ o.after, Region.binds .any e = true → L e.on) →
    ∀ j, j ∈ (befs ops.toList []).getD k [] → L j := by
  intro k
  induction k using Nat.strongRecOn with
  | _ k ih =>
    intro o ho hr j hj
    obtain ⟨e, he, hb, h1 | ⟨h1, h2⟩ | h1⟩ := befs_mem ops.toList [] k o j (by simpa using ho) (by simpa using hj)
    · rw [h1]; exact hr e he hb
    · have hl := hr e he hb
      have hlt := edgesOk_lt h ho he hb
      cases ho' : ops[e.on]? with
      | none =>
        have := (Array.getElem?_eq_some_iff.1 ho).1
        have := Array.getElem?_eq_none_iff.1 ho'
        omega
      | some o' => exact ih e.on hlt o' ho' (fun e' he' hb' => hp e.on o' e' hl ho' he' hb') j h2
    · have := edgesOk_lt h ho he hb
      simp at h1
      omega

theorem nodup_dst : ∀ (l : List Oper) (i j : Nat) (x y : Oper) (d : Nat), (dstsOf l).Nodup → l[i]? = some x → l[j]? = some y → x.dst = some d → y.dst = some d → i = j := by
  intro l
  induction l with
  | nil => intro i j x y d _ h; simp at h
  | cons o l ih =>
    intro i j x y d hn hi hj hx hy
    have mem : ∀ (k : Nat) (z : Oper), l[k]? = some z → z.dst = some d → d ∈ dstsOf l := fun k z hz hd => by
      unfold dstsOf
      exact List.mem_filterMap.2 ⟨z, List.mem_of_getElem? hz, hd⟩
    have hn' : (dstsOf l).Nodup ∧ ∀ d', o.dst = some d' → d' ∉ dstsOf l := by
      unfold dstsOf at hn ⊢
      cases ho : o.dst with
      | none =>
        rw [List.filterMap_cons_none ho] at hn
        exact ⟨hn, fun d' e => by cases e⟩
      | some d' =>
        rw [List.filterMap_cons_some ho] at hn
        obtain ⟨h1, h2⟩ := List.nodup_cons.1 hn
        exact ⟨h2, fun d'' e => by cases e; exact h1⟩
    cases i with
    | zero =>
      simp only [List.getElem?_cons_zero, Option.some.injEq] at hi
      subst hi
      cases j with
      | zero => rfl
      | succ j => exact absurd (mem j y (by simpa using hj) hy) (hn'.2 d hx)
    | succ i =>
      cases j with
      | zero =>
        simp only [List.getElem?_cons_zero, Option.some.injEq] at hj
        subst hj
        exact absurd (mem i x (by simpa using hi) hx) (hn'.2 d hy)
      | succ j => rw [ih i j x y d hn'.1 (by simpa using hi) (by simpa using hj) hx hy]

theorem tmpsOk_order (h : tmpsOk ops bef = true) {i j : Nat} {oi oj : Oper} {d : Nat} (hi : ops[i]? = some oi) (hj : ops[j]? = some oj) (hd : oi.dst = some d) (hne : i ≠ j) (hl : d ∈ oj.looksAt ops) :
    (i < j → i ∈ bef.getD j []) ∧ (j < i → j ∈ bef.getD i []) := by
  unfold tmpsOk at h
  simp only [Bool.and_eq_true] at h
  have hm : ∀ (k : Nat) (o : Oper), ops[k]? = some o → (o, k) ∈ ops.toList.zipIdx := fun k o ho => by
    rw [List.mk_mem_zipIdx_iff_getElem?]
    simpa using ho
  have h1 := List.all_eq_true.1 h.2 (oi, i) (hm i oi hi)
  simp only [hd] at h1
  have h2 := List.all_eq_true.1 h1 (oj, j) (hm j oj hj)
  simp only [Bool.or_eq_true, beq_iff_eq, hne, false_or, Bool.not_eq_true', List.contains_eq_mem] at h2
  rcases h2 with h2 | h2
  · simp [hl] at h2
  · constructor
    · intro hlt; rw [if_pos hlt] at h2; simpa using h2
    · intro hlt; rw [if_neg (by omega)] at h2; simpa using h2

theorem tmpsOk_nodup (h : tmpsOk ops bef = true) : (dstsOf ops.toList).Nodup := by
  unfold tmpsOk at h
  simp only [Bool.and_eq_true, decide_eq_true_eq] at h
  exact h.1

theorem noSelf (h : noSelfRead ops = true) {o : Oper} {k d : Nat} (ho : ops[k]? = some o) (hd : o.dst = some d) : d ∉ o.looksAt ops := by
  unfold noSelfRead at h
  have := List.all_eq_true.1 h o (by simpa using List.mem_of_getElem? (l := ops.toList) (i := k) (by simpa using ho))
  simp only [hd] at this
  simpa using this

theorem clOf_s {ev : Operand → Value} {o : Op} {g : Bool} {i : Nat} (h : clOf ev o g = .s i) : ∃ t x y off, o = .store t x y ∧ ev x = .pointer (some ⟨i, off, none⟩) := by
  cases o <;> simp only [clOf, heapFree] at h
  case store t x y =>
    cases hp : ptrOf (ev x) with
    | none => rw [hp] at h; cases h
    | some b =>
      rw [hp] at h
      cases h
      obtain ⟨off, he⟩ := ptrOf_some hp
      exact ⟨t, x, y, off, rfl, he⟩
  case load t x =>
    cases hp : ptrOf (ev x) with
    | none => rw [hp] at h; cases h
    | some b => rw [hp] at h; cases h
  all_goals first
    | (cases h; done)
    | (simp at h; done)
    | (simp only [Bool.false_eq_true, if_false] at h; split at h <;> cases h)

/-! ### The lexical run's facts -/
section
variable {S : Nat → LS} {V : Nat → Value} {C : Nat → Option Cl} (lx : Lex P call ops bef S V C)
include lx

omit lx in
theorem oper_at {k : Nat} (hk : k < ops.size) : ∃ o, ops[k]? = some o := ⟨ops[k], Array.getElem?_eq_getElem hk⟩

theorem Lex.view_ (hwm : CallWm call) {k : Nat} {o : Oper} (ho : ops[k]? = some o) :
    (wantedA ops (S k).fr o = some false ∧ V k = skipV ∧ C k = none ∧ View (S k).A (S (k + 1)).A (C k) ⟨.e, (S k).A.nx, (S k).A.nx⟩ ⟨.e, (S k).A.nx, (S k).A.nx⟩) ∨
    (wantedA ops (S k).fr o = some true ∧ ∃ c Vw Vw' g, C k = some c ∧ c = clOf ((S k).fr.ev P) o.op g ∧ opSem P call ((S k).fr.ev P) o.op Vw = some (.val (V k), Vw') ∧ View (S k).A (S (k + 1)).A (C k) Vw Vw') := by
  rcases drawOne_some (lx.step k o ho) with ⟨h1, h2, h3, h4⟩ | ⟨h1, A', c0, h2, h3, h4, _, h6⟩
  · refine .inl ⟨h1, h2, h3, ?_⟩
    rw [h3, h4]
    exact View.none _
  · refine .inr ⟨h1, ?_⟩
    obtain ⟨Vw, Vw', h7, h8⟩ := view hwm h2
    refine ⟨c0, Vw, Vw', _, h4, h3, h7, ?_⟩
    rw [h4, h6, h3]
    exact ⟨h8.nx, h8.nx', h8.up, h8.seen, h8.made, h8.wrote, h8.rest, h8.still⟩

theorem Lex.anyView (hwm : CallWm call) {k : Nat} (hk : k < ops.size) : ∃ Vw Vw', View (S k).A (S (k + 1)).A (C k) Vw Vw' := by
  obtain ⟨o, ho⟩ := oper_at hk
  rcases lx.view_ hwm ho with ⟨_, _, _, h⟩ | ⟨_, _, Vw, Vw', _, _, _, _, h⟩
  · exact ⟨_, _, h⟩
  · exact ⟨_, _, h⟩

theorem Lex.don : ∀ k, k ≤ ops.size → ∀ j c, j < k → C j = some c → (j, c) ∈ (S k).don := by
  intro k
  induction k with
  | zero => intro _ j c h; omega
  | succ k ih =>
    intro hk j c hj hc
    obtain ⟨o, ho⟩ := oper_at (ops := ops) (k := k) (by omega)
    rcases drawOne_some (lx.step k o ho) with ⟨h1, h2, h3, h4⟩ | ⟨h1, A', c0, h2, h3, h4, _, h6⟩
    · rw [h4]
      by_cases e : j = k
      · subst e; rw [h3] at hc; cases hc
      · exact ih (by omega) j c (by omega) hc
    · rw [h6]
      by_cases e : j = k
      · subst e; rw [h4] at hc; cases hc; simp
      · exact List.mem_cons_of_mem _ (ih (by omega) j c (by omega) hc)

theorem Lex.lf (hwm : CallWm call) : LF ops.size (fun k => (S k).A) C bef where
  up := fun k hk => by obtain ⟨_, _, h⟩ := lx.anyView hwm hk; exact h.up
  keep := fun k hk i hi hw => by obtain ⟨_, _, h⟩ := lx.anyView hwm hk; exact (h.rest i hi hw).1
  still := fun k hk hc => by obtain ⟨_, _, h⟩ := lx.anyView hwm hk; exact h.still hc
  ord := fun j k c d hj hk hc hd hcl => by
    obtain ⟨o, ho⟩ := oper_at hk
    rcases drawOne_some (lx.step k o ho) with ⟨h1, h2, h3, h4⟩ | ⟨h1, A', c0, h2, h3, h4, h5, h6⟩
    · rw [h3] at hd; cases hd
    · rw [h4] at hd; cases hd
      exact h5 (j, c) (lx.don k (by omega) j c hj hc) hcl

theorem Lex.frames : ∀ k, k ≤ ops.size → (S k).fr.n = (S 0).fr.n ∧ (S k).fr.d = (S 0).fr.d ∧ ∀ t v, (S k).fr.t.get t = some v →
    (∃ i o, i < k ∧ ops[i]? = some o ∧ o.dst = some t ∧ v = V i ∧ t < (S 0).fr.n) ∨ ((∀ i o, i < k → ops[i]? = some o → o.dst ≠ some t) ∧ (S 0).fr.t.get t = some v) := by
  intro k
  induction k with
  | zero => intro _; exact ⟨rfl, rfl, fun t v h => .inr ⟨fun i o hi => by omega, h⟩⟩
  | succ k ih =>
    intro hk
    obtain ⟨i1, i2, i3⟩ := ih (by omega)
    obtain ⟨o, ho⟩ := oper_at (ops := ops) (k := k) (by omega)
    have hfr : (S (k + 1)).fr = (S k).fr.put o.dst (V k) := by
      rcases drawOne_some (lx.step k o ho) with ⟨h1, h2, h3, h4⟩ | ⟨h1, A', c0, h2, h3, h4, _, h6⟩
      · rw [h4, h2]
      · rw [h6]
    rw [hfr]
    have ext : ∀ t v, o.dst ≠ some t → (S k).fr.t.get t = some v → (∃ i o, i < k + 1 ∧ ops[i]? = some o ∧ o.dst = some t ∧ v = V i ∧ t < (S 0).fr.n) ∨ ((∀ i o, i < k + 1 → ops[i]? = some o → o.dst ≠ some t) ∧ (S 0).fr.t.get t = some v) := by
      intro t v hne hv
      rcases i3 t v hv with ⟨i, o', h1, h2⟩ | ⟨h1, h2⟩
      · exact .inl ⟨i, o', by omega, h2⟩
      · refine .inr ⟨fun i o' hi ho' => ?_, h2⟩
        by_cases e : i = k
        · subst e; rw [ho] at ho'; cases ho'; exact hne
        · exact h1 i o' (by omega) ho'
    cases hd : o.dst with
    | none => exact ⟨i1, i2, fun t v hv => ext t v (by rw [hd]; simp) hv⟩
    | some d =>
      unfold Fr.put
      simp only
      cases hb : Nat.blt d (S k).fr.n with
      | true =>
        refine ⟨i1, i2, fun t v hv => ?_⟩
        simp only [BM.get_set] at hv
        by_cases c : t = d
        · rw [if_pos c] at hv; cases hv
          have : d < (S k).fr.n := by simpa [Nat.blt_eq] using hb
          exact .inl ⟨k, o, by omega, ho, by rw [hd, c], rfl, by rw [c, ← i1]; exact this⟩
        · rw [if_neg c] at hv
          exact ext t v (by rw [hd]; intro e; cases e; exact c rfl) hv
      | false =>
        refine ⟨i1, i2, fun t v hv => ?_⟩
        simp only [BM.get_set] at hv
        by_cases c : t = d
        · rw [if_pos c] at hv; cases hv
        · rw [if_neg c] at hv
          exact ext t v (by rw [hd]; intro e; cases e; exact c rfl) hv
end
end
end Go.Mini
