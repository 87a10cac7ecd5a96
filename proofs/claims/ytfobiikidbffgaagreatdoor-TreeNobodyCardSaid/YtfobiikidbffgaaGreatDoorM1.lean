/- Mini, part 1: the relation between abstract and real memory; small laws. -/
import Derived.Test.YtfobiikidbffgaaGreatDoorM0
namespace Go.Mini

/-! ### Maps -/
theorem BM.get_e {α : Type} (i : Nat) : (BM.e : BM α).get i = none := rfl
theorem BM.get_n {α : Type} (v : Option α) (l r : BM α) (i : Nat) : (BM.n v l r).get i = if i = 0 then v else if i % 2 = 1 then l.get (i / 2) else r.get (i / 2 - 1) := by
  show gAt v l.get r.get i = _
  unfold gAt
  by_cases h : i = 0
  · subst h; rfl
  · have h1 : Nat.beq i 0 = false := by cases e : Nat.beq i 0 with | false => rfl | true => exact absurd (Nat.eq_of_beq_eq_true e) h
    rw [h1, if_neg h]
    by_cases h2 : i % 2 = 1
    · have : Nat.beq (Nat.mod i 2) 1 = true := by show Nat.beq (i % 2) 1 = true; rw [h2]; rfl
      simp only [this]; rw [if_pos h2]; rfl
    · have : Nat.beq (Nat.mod i 2) 1 = false := by cases e : Nat.beq (Nat.mod i 2) 1 with | false => rfl | true => exact absurd (Nat.eq_of_beq_eq_true e) h2
      simp only [this]; rw [if_neg h2]; rfl

theorem BM.setF_succ_e {α : Type} (f i : Nat) (v : Option α) : BM.setF (f + 1) .e i v = if i = 0 then .n v .e .e else if i % 2 = 1 then .n none (BM.setF f .e (i / 2) v) .e else .n none .e (BM.setF f .e (i / 2 - 1) v) := by
  show sE (BM.setF f) i v = _
  unfold sE
  by_cases h : i = 0
  · subst h; rfl
  · have h1 : Nat.beq i 0 = false := by cases e : Nat.beq i 0 with | false => rfl | true => exact absurd (Nat.eq_of_beq_eq_true e) h
    rw [h1, if_neg h]
    by_cases h2 : i % 2 = 1
    · have : Nat.beq (Nat.mod i 2) 1 = true := by show Nat.beq (i % 2) 1 = true; rw [h2]; rfl
      simp only [this]; rw [if_pos h2]; rfl
    · have : Nat.beq (Nat.mod i 2) 1 = false := by cases e : Nat.beq (Nat.mod i 2) 1 with | false => rfl | true => exact absurd (Nat.eq_of_beq_eq_true e) h2
      simp only [this]; rw [if_neg h2]; rfl

theorem BM.setF_succ_n {α : Type} (f i : Nat) (u v : Option α) (l r : BM α) : BM.setF (f + 1) (.n u l r) i v = if i = 0 then .n v l r else if i % 2 = 1 then .n u (BM.setF f l (i / 2) v) r else .n u l (BM.setF f r (i / 2 - 1) v) := by
  show sN (BM.setF f) u l r i v = _
  unfold sN
  by_cases h : i = 0
  · subst h; rfl
  · have h1 : Nat.beq i 0 = false := by cases e : Nat.beq i 0 with | false => rfl | true => exact absurd (Nat.eq_of_beq_eq_true e) h
    rw [h1, if_neg h]
    by_cases h2 : i % 2 = 1
    · have : Nat.beq (Nat.mod i 2) 1 = true := by show Nat.beq (i % 2) 1 = true; rw [h2]; rfl
      simp only [this]; rw [if_pos h2]; rfl
    · have : Nat.beq (Nat.mod i 2) 1 = false := by cases e : Nat.beq (Nat.mod i 2) 1 with | false => rfl | true => exact absurd (Nat.eq_of_beq_eq_true e) h2
      simp only [this]; rw [if_neg h2]; rfl

theorem BM.get_setF {α : Type} (f : Nat) : ∀ (t : BM α) (i : Nat) (v : Option α) (j : Nat), i < f → (BM.setF f t i v).get j = if j = i then v else t.get j := by
  induction f with
  | zero => intro t i v j h; exact absurd h (by omega)
  | succ f ih =>
    intro t i v j h
    have key : ∀ (u : Option α) (l r : BM α), (if i = 0 then BM.n v l r else if i % 2 = 1 then .n u (BM.setF f l (i / 2) v) r else .n u l (BM.setF f r (i / 2 - 1) v)).get j = if j = i then v else (BM.n u l r).get j := by
      intro u l r
      by_cases h0 : i = 0
      · rw [if_pos h0, BM.get_n, BM.get_n]
        by_cases hj : j = 0
        · rw [if_pos hj, if_pos (by omega)]
        · rw [if_neg hj, if_neg (show ¬ j = i by omega), if_neg hj]
      · rw [if_neg h0]
        by_cases h1 : i % 2 = 1
        · rw [if_pos h1, BM.get_n, BM.get_n]
          by_cases hj : j = 0
          · rw [if_pos hj, if_neg (show ¬ j = i by omega), if_pos hj]
          · rw [if_neg hj, if_neg hj]
            by_cases hj1 : j % 2 = 1
            · rw [if_pos hj1, if_pos hj1, ih l (i / 2) v (j / 2) (by omega)]
              by_cases e : j = i
              · rw [if_pos e, if_pos (by rw [e])]
              · rw [if_neg e, if_neg (by omega)]
            · rw [if_neg hj1, if_neg hj1, if_neg (by intro e; rw [e] at hj1; exact hj1 h1)]
        · rw [if_neg h1, BM.get_n, BM.get_n]
          by_cases hj : j = 0
          · rw [if_pos hj, if_neg (show ¬ j = i by omega), if_pos hj]
          · rw [if_neg hj, if_neg hj]
            by_cases hj1 : j % 2 = 1
            · rw [if_pos hj1, if_pos hj1, if_neg (by intro e; rw [e] at hj1; exact h1 hj1)]
            · rw [if_neg hj1, if_neg hj1, ih r (i / 2 - 1) v (j / 2 - 1) (by omega)]
              by_cases e : j = i
              · rw [if_pos e, if_pos (by rw [e])]
              · rw [if_neg e, if_neg (by omega)]
    cases t with
    | e =>
      rw [BM.setF_succ_e]
      have := key none .e .e
      rw [this, BM.get_n]
      by_cases e : j = i
      · rw [if_pos e, if_pos e]
      · rw [if_neg e, if_neg e]
        simp [BM.get_e]
    | n u l r => rw [BM.setF_succ_n]; exact key u l r

theorem BM.get_set {α : Type} (t : BM α) (i : Nat) (v : Option α) (j : Nat) : (t.set i v).get j = if j = i then v else t.get j := BM.get_setF (i + 1) t i v j (by omega)

theorem AS.get_put (A : AS) (i : Nat) (o : AO) (j : Nat) : (A.put i o).get j = if j = i then some o else A.get j := BM.get_set ..
theorem AS.get_kill (A : AS) (i j : Nat) : (A.kill i).get j = if j = i then none else A.get j := BM.get_set ..
theorem AS.get_push (A : AS) (o : AO) (j : Nat) : (A.push o).get j = if j = A.nx then some o else A.get j := BM.get_set ..
theorem AS.nx_put (A : AS) (i : Nat) (o : AO) : (A.put i o).nx = A.nx := rfl
theorem AS.nx_kill (A : AS) (i : Nat) : (A.kill i).nx = A.nx := rfl
theorem AS.nx_push (A : AS) (o : AO) : (A.push o).nx = A.nx + 1 := rfl

/-! ### Related values -/
/-- An object's block; how far its first cell lies behind the block's; how many elements a row that may grow has room for. -/
abbrev Ren := Nat → Option (Nat × Nat × Nat)

mutual
inductive VR (ρ : Ren) : Value → Value → Prop
  | top (v : Value) : VR ρ (.tuple ⟨[]⟩) v
  | skip : VR ρ (.chan (some 0)) undef
  | bool (b : Bool) : VR ρ (.bool b) (.bool b)
  | int (k : IntKind) (n : Int) : VR ρ (.int k n) (.int k n)
  | float (k : FloatKind) (n : Nat) : VR ρ (.float k n) (.float k n)
  | complex (k : FloatKind) (n m : Nat) : VR ρ (.complex k n m) (.complex k n m)
  | string (s : ByteArray) : VR ρ (.string s) (.string s)
  | ptrN : VR ρ (.pointer none) (.pointer none)
  | ptr {i b : Nat} {d : Nat × Nat} (o : Nat) (h : ρ i = some (b, d)) : VR ρ (.pointer (some ⟨i, o, none⟩)) (.pointer (some ⟨b, o + d.1, none⟩))
  | slN (n c : Nat) : VR ρ (.slice none n c) (.slice none n c)
  | sl {i b : Nat} {d : Nat × Nat} (o n c c' : Nat) (h : ρ i = some (b, d)) (hc : (c < unk ∧ c' = c) ∨ (c = unk ∧ (o = 0 → c' ≤ d.2))) (hn : n ≤ c') : VR ρ (.slice (some ⟨i, o, none⟩) n c) (.slice (some ⟨b, o + d.1, none⟩) n c')
  | emp (a : Addr) (c : Nat) : VR ρ (.slice (some ⟨0, 0, some 0⟩) 0 18446744073709551616) (.slice (some a) 0 c)
  | mapN : VR ρ (.map none) (.map none)
  | map {i b : Nat} (h : ρ i = some (b, 0, 0)) : VR ρ (.map (some i)) (.map (some b))
  | func (fn : Fn) {f f' c c' : List Value} (hf : VRL ρ f f') (hc : VRL ρ c c') : VR ρ (.func fn ⟨f⟩ ⟨c⟩) (.func fn ⟨f'⟩ ⟨c'⟩)
  | nilFunc : VR ρ .nilFunc .nilFunc
  | iface (t : TypeId) {v v' : Value} (h : VR ρ v v') : VR ρ (.iface t v) (.iface t v')
  | nilIface : VR ρ .nilIface .nilIface
  | agg {l l' : List Value} (h : VRL ρ l l') : VR ρ (.agg ⟨l⟩) (.agg ⟨l'⟩)
  | tup {l l' : List Value} (h : VRL ρ l l') : VR ρ (.tuple ⟨l⟩) (.tuple ⟨l'⟩)
inductive VRL (ρ : Ren) : List Value → List Value → Prop
  | nil : VRL ρ [] []
  | cons {v v' : Value} {l l' : List Value} (h : VR ρ v v') (t : VRL ρ l l') : VRL ρ (v :: l) (v' :: l')
end

def Le (ρ ρ' : Ren) : Prop := ∀ i x, ρ i = some x → ρ' i = some x
theorem Le.refl (ρ : Ren) : Le ρ ρ := fun _ _ h => h
theorem Le.trans {a b c : Ren} (h : Le a b) (k : Le b c) : Le a c := fun i x e => k i x (h i x e)

mutual
theorem VR.mono {ρ ρ' : Ren} (le : Le ρ ρ') : ∀ {v v' : Value}, VR ρ v v' → VR ρ' v v'
  | _, _, .top v => .top v
  | _, _, .skip => .skip
  | _, _, .bool b => .bool b
  | _, _, .int k n => .int k n
  | _, _, .float k n => .float k n
  | _, _, .complex k n m => .complex k n m
  | _, _, .string s => .string s
  | _, _, .ptrN => .ptrN
  | _, _, .ptr o h => .ptr o (le _ _ h)
  | _, _, .slN n c => .slN n c
  | _, _, .sl o n c c' h hc hn => .sl o n c c' (le _ _ h) hc hn
  | _, _, .emp a c => .emp a c
  | _, _, .mapN => .mapN
  | _, _, .map h => .map (le _ _ h)
  | _, _, .func fn hf hc => .func fn (VRL.mono le hf) (VRL.mono le hc)
  | _, _, .nilFunc => .nilFunc
  | _, _, .iface t h => .iface t (VR.mono le h)
  | _, _, .nilIface => .nilIface
  | _, _, .agg h => .agg (VRL.mono le h)
  | _, _, .tup h => .tup (VRL.mono le h)
theorem VRL.mono {ρ ρ' : Ren} (le : Le ρ ρ') : ∀ {l l' : List Value}, VRL ρ l l' → VRL ρ' l l'
  | _, _, .nil => .nil
  | _, _, .cons h t => .cons (VR.mono le h) (VRL.mono le t)
end

mutual
theorem VR.eq_of_plain {ρ : Ren} : ∀ {v v' : Value}, VR ρ v v' → plain v = true → v' = v
  | _, _, .top v, h => by simp [plain] at h
  | _, _, .skip, h => by simp [plain] at h
  | _, _, .bool b, _ => rfl
  | _, _, .int k n, _ => rfl
  | _, _, .float k n, _ => rfl
  | _, _, .complex k n m, _ => rfl
  | _, _, .string s, _ => rfl
  | _, _, .ptrN, _ => rfl
  | _, _, .ptr o h, hp => by simp [plain] at hp
  | _, _, .slN n c, _ => rfl
  | _, _, .sl o n c c' h hc hn, hp => by simp [plain] at hp
  | _, _, .emp a c, hp => by simp [plain] at hp
  | _, _, .mapN, _ => rfl
  | _, _, .map h, hp => by simp [plain] at hp
  | _, _, .func fn hf hc, hp => by simp [plain] at hp
  | _, _, .nilFunc, _ => rfl
  | _, _, .iface t h, hp => by simp only [plain] at hp; rw [VR.eq_of_plain h hp]
  | _, _, .nilIface, _ => rfl
  | _, _, .agg h, hp => by simp only [plain] at hp; rw [VRL.eq_of_plain h hp]
  | _, _, .tup h, hp => by simp [plain] at hp
theorem VRL.eq_of_plain {ρ : Ren} : ∀ {l l' : List Value}, VRL ρ l l' → plainL l = true → l' = l
  | _, _, .nil, _ => rfl
  | _, _, .cons h t, hp => by simp only [plainL, Bool.and_eq_true] at hp; rw [VR.eq_of_plain h hp.1, VRL.eq_of_plain t hp.2]
end

mutual
theorem VR.of_plain (ρ : Ren) : ∀ (v : Value), plain v = true → VR ρ v v
  | .bool b, _ => .bool b
  | .int k n, _ => .int k n
  | .float k n, _ => .float k n
  | .complex k n m, _ => .complex k n m
  | .string s, _ => .string s
  | .pointer none, _ => .ptrN
  | .pointer (some a), h => by simp [plain] at h
  | .slice none n c, _ => .slN n c
  | .slice (some a) n c, h => by simp [plain] at h
  | .map none, _ => .mapN
  | .map (some a), h => by simp [plain] at h
  | .chan r, h => by simp [plain] at h
  | .func fn f c, h => by simp [plain] at h
  | .nilFunc, _ => .nilFunc
  | .iface t v, h => .iface t (VR.of_plain ρ v (by simpa [plain] using h))
  | .nilIface, _ => .nilIface
  | .agg ⟨l⟩, h => .agg (VRL.of_plain ρ l (by simpa [plain] using h))
  | .tuple l, h => by simp [plain] at h
theorem VRL.of_plain (ρ : Ren) : ∀ (l : List Value), plainL l = true → VRL ρ l l
  | [], _ => .nil
  | v :: l, h => by simp only [plainL, Bool.and_eq_true] at h; exact .cons (VR.of_plain ρ v h.1) (VRL.of_plain ρ l h.2)
end

theorem VRL.length {ρ : Ren} : ∀ {l l' : List Value}, VRL ρ l l' → l'.length = l.length
  | _, _, .nil => rfl
  | _, _, .cons _ t => by simp [VRL.length t]

theorem VRL.append {ρ : Ren} : ∀ {l l' m m' : List Value}, VRL ρ l l' → VRL ρ m m' → VRL ρ (l ++ m) (l' ++ m')
  | _, _, _, _, .nil, k => k
  | _, _, _, _, .cons h t, k => .cons h (VRL.append t k)

theorem VRL.take {ρ : Ren} : ∀ {l l' : List Value} (n : Nat), VRL ρ l l' → VRL ρ (l.take n) (l'.take n)
  | _, _, 0, _ => by simp; exact .nil
  | _, _, _ + 1, .nil => by simp; exact .nil
  | _, _, n + 1, .cons h t => by simp only [List.take_succ_cons]; exact .cons h (VRL.take n t)

theorem VRL.drop {ρ : Ren} : ∀ {l l' : List Value} (n : Nat), VRL ρ l l' → VRL ρ (l.drop n) (l'.drop n)
  | _, _, 0, h => by simpa using h
  | _, _, _ + 1, .nil => by simp; exact .nil
  | _, _, n + 1, .cons _ t => by simp only [List.drop_succ_cons]; exact VRL.drop n t

theorem VRL.get {ρ : Ren} : ∀ {l l' : List Value} {i : Nat} {v : Value}, VRL ρ l l' → l[i]? = some v → ∃ v', l'[i]? = some v' ∧ VR ρ v v'
  | _, _, _, _, .nil, h => by simp at h
  | _, _, 0, _, .cons hv _, h => by simp only [List.getElem?_cons_zero, Option.some.injEq] at h; subst h; exact ⟨_, rfl, hv⟩
  | _, _, i + 1, _, .cons _ t, h => by simp only [List.getElem?_cons_succ] at h ⊢; exact VRL.get t h

theorem VRL.of_get {ρ : Ren} : ∀ {l l' : List Value}, l'.length = l.length → (∀ (i : Nat) (v v' : Value), l[i]? = some v → l'[i]? = some v' → VR ρ v v') → VRL ρ l l'
  | [], [], _, _ => .nil
  | [], _ :: _, h, _ => by simp at h
  | _ :: _, [], h, _ => by simp at h
  | v :: l, v' :: l', h, k => .cons (k 0 v v' rfl rfl) (VRL.of_get (by simpa using h) fun i u u' e e' => k (i + 1) u u' (by simpa using e) (by simpa using e'))

theorem VRL.replicate {ρ : Ren} {v v' : Value} (h : VR ρ v v') : ∀ n, VRL ρ (List.replicate n v) (List.replicate n v')
  | 0 => .nil
  | n + 1 => by simp only [List.replicate_succ]; exact .cons h (VRL.replicate h n)

theorem VRL.map {ρ : Ren} {α : Type} (f g : α → Value) (h : ∀ x, VR ρ (f x) (g x)) : ∀ l : List α, VRL ρ (l.map f) (l.map g)
  | [] => .nil
  | x :: l => .cons (h x) (VRL.map f g h l)

theorem VR.isTop_false {ρ : Ren} {v v' : Value} (h : VR ρ v v') (ht : isTop v = false) : (vcells v').length = (vcells v).length ∧ VRL ρ (vcells v) (vcells v') := by
  cases h <;> first | (simp [isTop] at ht; done) | (refine ⟨rfl, ?_⟩; exact .cons (by constructor <;> assumption) .nil) | skip
  · rename_i l l' hl; exact ⟨hl.length, hl⟩

end Go.Mini
