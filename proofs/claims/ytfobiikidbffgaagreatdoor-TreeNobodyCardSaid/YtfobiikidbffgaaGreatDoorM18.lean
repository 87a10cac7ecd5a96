/- Mini, part 18: cut renamings; the lexical run of a region. -/
import Derived.Test.YtfobiikidbffgaaGreatDoorM17
namespace Go.Mini

/-- The renaming of the objects below a bound. -/
noncomputable def cut (ρ : Ren) (N : Nat) : Ren := fun i => if i < N then ρ i else none

theorem cut_some {ρ : Ren} {N i : Nat} {x : Nat × Nat × Nat} : cut ρ N i = some x ↔ i < N ∧ ρ i = some x := by
  unfold cut
  by_cases h : i < N
  · rw [if_pos h]; exact ⟨fun e => ⟨h, e⟩, fun e => e.2⟩
  · rw [if_neg h]; exact ⟨fun e => (by cases e), fun e => absurd e.1 h⟩

theorem cut_le (ρ : Ren) (N : Nat) : Le (cut ρ N) ρ := fun _ _ e => (cut_some.1 e).2
theorem cut_mono {ρ ρ' : Ren} {N M : Nat} (h : Le ρ ρ') (k : N ≤ M) : Le (cut ρ N) (cut ρ' M) := fun i x e => by
  obtain ⟨h1, h2⟩ := cut_some.1 e
  exact cut_some.2 ⟨Nat.lt_of_lt_of_le h1 k, h i x h2⟩

mutual
theorem VR.cut {ρ1 ρ2 : Ren} {N : Nat} (hd : ∀ i x, ρ1 i = some x → i < N) : ∀ {v x y : Value}, VR ρ2 v y → VR ρ1 v x → VR (Mini.cut ρ2 N) v y
  | _, _, _, .top v, _ => .top v
  | _, _, _, .skip, _ => .skip
  | _, _, _, .bool b, _ => .bool b
  | _, _, _, .int k n, _ => .int k n
  | _, _, _, .float k n, _ => .float k n
  | _, _, _, .complex k n m, _ => .complex k n m
  | _, _, _, .string s, _ => .string s
  | _, _, _, .ptrN, _ => .ptrN
  | _, _, _, .ptr o h, k => by cases k with | ptr _ h1 => exact .ptr o (cut_some.2 ⟨hd _ _ h1, h⟩)
  | _, _, _, .slN n c, _ => .slN n c
  | _, _, _, .sl o n c c' h hc hn, k => by cases k with | sl _ _ _ _ h1 _ _ => exact .sl o n c c' (cut_some.2 ⟨hd _ _ h1, h⟩) hc hn
  | _, _, _, .emp a c, _ => .emp a c
  | _, _, _, .mapN, _ => .mapN
  | _, _, _, .map h, k => by cases k with | map h1 => exact .map (cut_some.2 ⟨hd _ _ h1, h⟩)
  | _, _, _, .func fn hf hc, k => by cases k with | func _ hf' hc' => exact .func fn (VRL.cut hd hf hf') (VRL.cut hd hc hc')
  | _, _, _, .nilFunc, _ => .nilFunc
  | _, _, _, .iface t h, k => by cases k with | iface _ h' => exact .iface t (VR.cut hd h h')
  | _, _, _, .nilIface, _ => .nilIface
  | _, _, _, .agg h, k => by cases k with | agg h' => exact .agg (VRL.cut hd h h')
  | _, _, _, .tup h, k => by
    cases k with
    | tup h' => exact .tup (VRL.cut hd h h')
    | top _ => cases h; exact .tup .nil
theorem VRL.cut {ρ1 ρ2 : Ren} {N : Nat} (hd : ∀ i x, ρ1 i = some x → i < N) : ∀ {l x y : List Value}, VRL ρ2 l y → VRL ρ1 l x → VRL (Mini.cut ρ2 N) l y
  | _, _, _, .nil, _ => .nil
  | _, _, _, .cons h t, k => by cases k with | cons h' t' => exact .cons (VR.cut hd h h') (VRL.cut hd t t')
end

theorem KRL.cut {ρ1 ρ2 : Ren} {N : Nat} (hd : ∀ i x, ρ1 i = some x → i < N) {l y : List MapEntry} (h : KRL ρ2 l y) : ∀ {x : List MapEntry}, KRL ρ1 l x → KRL (Mini.cut ρ2 N) l y := by
  induction h with
  | nil => intro x _; exact .nil
  | cons h t ih =>
    intro x k
    cases k with
    | cons h' t' => exact .cons ⟨h.1.cut hd h'.1, h.2.1.cut hd h'.2.1, h.2.2⟩ (ih t')

theorem OOk.cut {P : Program} {ρ1 ρ2 : Ren} {N : Nat} (hd : ∀ i x, ρ1 i = some x → i < N) {d d' : Nat × Nat} {o : AO} {b b' : Obj} (h : OOk P ρ2 d o b) (k : OOk P ρ1 d' o b') : OOk P (Mini.cut ρ2 N) d o b := by
  cases h with
  | cells d hl hf hr hk => cases k with | cells _ _ _ hr' _ => exact .cells d hl hf (hr.cut hd hr') hk
  | map c h => cases k with | map _ h' => exact .map c (h.cut hd h')
  | siter s p => exact .siter s p

/-! ### The lexical run -/
structure LS where
  don : List (Nat × Cl)
  fr : Fr
  A : AS

noncomputable section
/-- One operation of a drawn region. -/
def drawOne (P : Program) (call : CallF) (ops : Array Oper) (bef : List (List Nat)) (o : Oper) (k : Nat) (s : LS) : Option (Value × Option Cl × LS) :=
  match wantedA ops s.fr o with
  | none => none
  | some false => some (skipV, none, ⟨s.don, s.fr.put o.dst skipV, s.A⟩)
  | some true =>
    match opSem P call (s.fr.ev P) o.op { s.A with wm := s.A.nx } with
    | some (.val v, A') =>
      let c := clOf (s.fr.ev P) o.op (decide (s.A.nx ≤ A'.wm))
      if s.don.all fun d => !clash d.2 c || (bef.getD k []).contains d.1 then some (v, some c, ⟨(k, c) :: s.don, s.fr.put o.dst v, { A' with wm := min s.A.wm A'.wm }⟩) else none
    | _ => none

def lexAt (P : Program) (call : CallF) (ops : Array Oper) (bef : List (List Nat)) (s0 : LS) : Nat → Option LS
  | 0 => some s0
  | k + 1 =>
    match lexAt P call ops bef s0 k, ops[k]? with
    | some s, some o => (drawOne P call ops bef o k s).map (·.2.2)
    | _, _ => none
end

section
variable {P : Program} {call : CallF} {ops : Array Oper} {bef : List (List Nat)} {s0 : LS}

theorem regDraw_one (o : Oper) (l : List Oper) (k : Nat) (s : LS) {q : Fr × AS} (h : regDraw P call ops bef (o :: l) k s.don s.fr s.A = some q) :
    ∃ v c s', drawOne P call ops bef o k s = some (v, c, s') ∧ regDraw P call ops bef l (k + 1) s'.don s'.fr s'.A = some q := by
  simp only [regDraw] at h
  unfold drawOne
  split at h
  · cases h
  · rename_i hw
    simp only [hw]
    exact ⟨_, _, _, rfl, h⟩
  · rename_i hw
    simp only [hw]
    split at h
    · rename_i v A1 hop
      simp only [hop]
      split at h
      · rename_i hc
        rw [if_pos hc]
        exact ⟨_, _, _, rfl, h⟩
      · cases h
    · cases h

theorem regDraw_lexAt : ∀ (l : List Oper) (k : Nat) (s : LS) (q : Fr × AS), ops.toList.drop k = l → k + l.length = ops.size → lexAt P call ops bef s0 k = some s → regDraw P call ops bef l k s.don s.fr s.A = some q →
    ∃ don, lexAt P call ops bef s0 ops.size = some ⟨don, q.1, q.2⟩
  | [], k, s, q, hl, hn, hk, h => by
    simp only [regDraw] at h
    cases h
    have : k = ops.size := by simpa using hn
    rw [← this]
    exact ⟨s.don, hk⟩
  | o :: l, k, s, q, hl, hn, hk, h => by
    obtain ⟨v, c, s', h1, h2⟩ := regDraw_one o l k s h
    have ho : ops[k]? = some o := by
      have : (ops.toList.drop k)[0]? = some o := by rw [hl]; rfl
      simpa using this
    have hl' : ops.toList.drop (k + 1) = l := by
      have : (ops.toList.drop k).drop 1 = l := by rw [hl]; rfl
      rw [← this, List.drop_drop]
    refine regDraw_lexAt l (k + 1) s' q hl' (by simp at hn; omega) ?_ h2
    simp only [lexAt, hk, ho, h1, Option.map_some]

/-- The lexical run, told by numbers. -/
structure Lex (P : Program) (call : CallF) (ops : Array Oper) (bef : List (List Nat)) (S : Nat → LS) (V : Nat → Value) (C : Nat → Option Cl) : Prop where
  step : ∀ k o, ops[k]? = some o → drawOne P call ops bef o k (S k) = some (V k, C k, S (k + 1))
  start : (S 0).don = []

theorem lexAt_down {n : Nat} {s : LS} (h : lexAt P call ops bef s0 n = some s) : ∀ k, k ≤ n → ∃ s', lexAt P call ops bef s0 k = some s' := by
  induction n generalizing s with
  | zero => intro k hk; have : k = 0 := by omega
            subst this; exact ⟨s0, rfl⟩
  | succ n ih =>
    intro k hk
    by_cases c : k = n + 1
    · subst c; exact ⟨s, h⟩
    · simp only [lexAt] at h
      cases hn : lexAt P call ops bef s0 n with
      | none => rw [hn] at h; cases h
      | some s' => exact ih hn k (by omega)

theorem lex_exists {q : Fr × AS} {fr : Fr} {A : AS} (h : regDraw P call ops bef ops.toList 0 [] fr A = some q) :
    ∃ S V C, Lex P call ops bef S V C ∧ (S 0).fr = fr ∧ (S 0).A = A ∧ (S ops.size).fr = q.1 ∧ (S ops.size).A = q.2 := by
  obtain ⟨don, hn⟩ := regDraw_lexAt (s0 := ⟨[], fr, A⟩) ops.toList 0 ⟨[], fr, A⟩ q (by simp) (by simp) rfl h
  let s0 : LS := ⟨[], fr, A⟩
  let S : Nat → LS := fun k => (lexAt P call ops bef s0 k).getD s0
  let D : Nat → Option (Value × Option Cl × LS) := fun k => match ops[k]? with | some o => drawOne P call ops bef o k (S k) | none => none
  refine ⟨S, fun k => ((D k).map (·.1)).getD undef, fun k => (D k).bind (·.2.1), ⟨fun k o ho => ?_, rfl⟩, rfl, rfl, ?_, ?_⟩
  · have hk : k < ops.size := (Array.getElem?_eq_some_iff.1 ho).1
    obtain ⟨s', h1⟩ := lexAt_down hn (k + 1) hk
    obtain ⟨s, h2⟩ := lexAt_down hn k (by omega)
    have hS : S k = s := by show (lexAt P call ops bef s0 k).getD s0 = s; rw [h2]; rfl
    have hS' : S (k + 1) = s' := by show (lexAt P call ops bef s0 (k + 1)).getD s0 = s'; rw [h1]; rfl
    have h3 := h1
    simp only [lexAt, h2, ho] at h3
    obtain ⟨⟨v, c, s2⟩, h4, h5⟩ := Option.map_eq_some_iff.1 h3
    simp only at h5
    have hD : D k = some (v, c, s2) := by show (match ops[k]? with | some o => drawOne P call ops bef o k (S k) | none => none) = _; rw [ho, hS]; exact h4
    rw [hS, hS', hD, h4, h5]
    rfl
  · show ((lexAt P call ops bef s0 ops.size).getD s0).fr = _; rw [hn]; rfl
  · show ((lexAt P call ops bef s0 ops.size).getD s0).A = _; rw [hn]; rfl

end
end Go.Mini
