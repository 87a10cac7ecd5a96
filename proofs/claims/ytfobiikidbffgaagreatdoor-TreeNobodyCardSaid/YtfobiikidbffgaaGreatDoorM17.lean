/- Mini, part 17: what an operation looks at. -/
import Derived.Test.YtfobiikidbffgaaGreatDoorM16
namespace Go.Mini

section
variable {P : Program} {call : CallF} {A A' : AS} {ev ev' ev2 : Operand → Value}

theorem arr_congr {l : Array Operand} (h : ∀ x ∈ l, ev x = ev2 x) : l.map ev = l.map ev2 := Array.map_congr_left h
theorem list_congr {l : Array Operand} (h : ∀ x ∈ l, ev x = ev2 x) : l.toList.map ev = l.toList.map ev2 := List.map_congr_left fun x hx => h x (by simpa using hx)

theorem sCall_congr {c : Call} (h : ∀ x ∈ c.operands, ev x = ev2 x) : sCall P call ev c A = sCall P call ev2 c A := by
  have hargs : c.args.toList.map ev = c.args.toList.map ev2 := list_congr fun x hx => h x (by simp [Call.operands, hx])
  unfold sCall
  simp only [hargs]
  cases hc : c.callee with
  | value f => have hf : ev f = ev2 f := h f (by simp [Call.operands, hc]); simp only [hf]
  | invoke r m => have hr : ev r = ev2 r := h r (by simp [Call.operands, hc]); simp only [hr]
  | builtin b => rfl

theorem sDefer_congr {c : Call} (h : ∀ x ∈ c.operands, ev x = ev2 x) : sDefer ev c A = sDefer ev2 c A := by
  have hargs : c.args.map ev = c.args.map ev2 := arr_congr fun x hx => h x (by simp [Call.operands, hx])
  unfold sDefer
  cases hc : c.callee with
  | value f => have hf : ev f = ev2 f := h f (by simp [Call.operands, hc]); simp only [hf, hargs]
  | invoke r m => rfl
  | builtin b => rfl

theorem opSem_congr {o : Op} (h : ∀ x ∈ o.operands, ev x = ev2 x) : opSem P call ev o A = opSem P call ev2 o A := by
  have pairs : ∀ ps : Array (Nat × Operand), (∀ x ∈ (ps.toList.map (·.2)).toArray, ev x = ev2 x) → (ps.toList.map fun p => (p.1, ev p.2)) = (ps.toList.map fun p => (p.1, ev2 p.2)) := fun ps hp =>
    List.map_congr_left fun p hm => by
      obtain ⟨i, x⟩ := p
      simp only [hp x (by simp only [List.mem_toArray, List.mem_map]; exact ⟨(i, x), hm, rfl⟩)]
  cases o <;> simp only [Op.operands] at h <;> simp only [opSem]
  case build t ps => rw [pairs ps h]
  case buildSlice t n ps => rw [pairs ps h]
  case makeFunc fn first captured => rw [arr_congr (l := first) fun x hx => h x (by simp [hx]), arr_congr (l := captured) fun x hx => h x (by simp [hx])]
  case call c => exact sCall_congr h
  case defer c => exact sDefer_congr h
  case slice t x lo hi mx => cases lo <;> cases hi <;> cases mx <;> simp_all
  case next it s => cases s <;> simp_all
  all_goals (first | rfl | (simp_all; done))

theorem op_run_at {ρ : Ren} {w : World} (h : HR P ρ A.get A.nx w) (hcall : CallOK P call) {o : Oper} (hev : ∀ x ∈ o.op.operands, VR ρ (ev x) (ev' x)) {r : OR} (hs : opSem P call ev o.op A = some (r, A')) :
    OP P ρ A w r A' ((execOp ev' o).run P w) := by
  classical
  refine op_run (P := P) h hcall (ev := fun x => if x ∈ o.op.operands then ev x else undef) (fun x => ?_) ?_
  · by_cases c : x ∈ o.op.operands
    · rw [if_pos c]; exact hev x c
    · rw [if_neg c]; exact .top _
  · rw [← hs]
    exact opSem_congr fun x hx => by rw [if_pos hx]

/-- The objects that an operation of the class looks into. -/
def reads : Option Cl → Nat → Prop
  | some (.l x), i => i = x
  | some (.s x), i => i = x
  | some .g, _ => True
  | some .e, _ => True
  | _, _ => False

/-- The objects that it may change. -/
def writes : Option Cl → Nat → Prop
  | some (.s x), i => i = x
  | some .e, _ => True
  | _, _ => False

theorem clash_rw {c d : Cl} {i : Nat} (h : writes (some c) i) (k : reads (some d) i) : clash c d = true ∧ clash d c = true := by
  cases c <;> cases d <;> simp_all [writes, reads, clash]

theorem writes_reads {c : Cl} {i : Nat} (h : writes (some c) i) : reads (some c) i := by
  cases c <;> simp_all [writes, reads]

/-- What an operation sees of memory, and what it leaves. -/
structure View (A A' : AS) (c : Option Cl) (V V' : AS) : Prop where
  nx : V.nx = A.nx
  nx' : V'.nx = A'.nx
  up : A.nx ≤ A'.nx
  seen : ∀ i o, V.get i = some o → A.get i = some o ∧ reads c i
  made : ∀ i, A.nx ≤ i → i < A'.nx → V'.get i = A'.get i
  wrote : ∀ i, i < A.nx → writes c i → V'.get i = A'.get i
  rest : ∀ i, i < A.nx → ¬ writes c i → A'.get i = A.get i ∧ V'.get i = V.get i
  still : c = none ∨ c = some .p → A'.nx = A.nx

/-- Nothing is seen, nothing is left. -/
theorem View.none (A : AS) : View A A none ⟨.e, A.nx, A.nx⟩ ⟨.e, A.nx, A.nx⟩ :=
  ⟨rfl, rfl, Nat.le_refl _, fun i o h => (by cases h), fun i h1 h2 => absurd h1 (by omega), fun i h k => k.elim, fun i h k => ⟨rfl, rfl⟩, fun _ => rfl⟩

noncomputable def AS.only (A : AS) (x : Nat) : AS := ⟨BM.set .e x (A.get x), A.nx, A.nx⟩
theorem AS.get_only (A : AS) (x i : Nat) : (A.only x).get i = if i = x then A.get x else Option.none := BM.get_set .e x (A.get x) i

theorem get_wm (A : AS) (n i : Nat) : ({ A with wm := n } : AS).get i = A.get i := rfl

theorem View.push (A : AS) {n : Nat} (o : AO) {A' : AS} (h : A' = ({ A with wm := n } : AS).push o) : View A A' (some .n) ⟨.e, A.nx, A.nx⟩ ((⟨.e, A.nx, A.nx⟩ : AS).push o) := by
  subst h
  refine ⟨rfl, rfl, Nat.le_succ _, fun i o h => (by cases h), fun i h1 h2 => ?_, fun i h k => k.elim, fun i h k => ⟨?_, ?_⟩, fun e => ?_⟩
  · have : i = A.nx := by
      have : i < A.nx + 1 := h2
      omega
    rw [AS.get_push, AS.get_push, if_pos this, if_pos this]
  · rw [AS.get_push, if_neg (show ¬ i = A.nx by omega)]; rfl
  · rw [AS.get_push, if_neg (show ¬ i = A.nx by omega)]
  · rcases e with e | e <;> cases e

theorem View.whole {n : Nat} (h : Wm { A with wm := A.nx } A') (c : Cl) (hc : (c = .g ∧ A.nx ≤ A'.wm) ∨ c = .e) : View A A' (some c) { A with wm := n } A' := by
  refine ⟨rfl, rfl, h.nx, fun i o e => ⟨e, ?_⟩, fun i _ _ => rfl, fun i _ _ => rfl, fun i hi hw => ?_, fun e => ?_⟩
  · rcases hc with ⟨rfl, _⟩ | rfl <;> trivial
  · rcases hc with ⟨rfl, hg⟩ | rfl
    · have := h.same i hi (Nat.lt_of_lt_of_le hi hg)
      exact ⟨this, this⟩
    · exact absurd trivial hw
  · rcases hc with ⟨rfl, _⟩ | rfl <;> rcases e with e | e <;> cases e

theorem loadN_only {b o n : Nat} : (A.only b).loadN b o n = A.loadN b o n := by
  unfold AS.loadN AS.cellsAt
  rw [AS.get_only, if_pos rfl]

theorem sLoad_only {t : TypeId} {b off : Nat} : sLoad P t (.pointer (some ⟨b, off, none⟩)) (A.only b) = sLoad P t (.pointer (some ⟨b, off, none⟩)) A := by
  unfold sLoad
  simp only [loadN_only]
  have : (A.only b).cellsAt b = A.cellsAt b := by unfold AS.cellsAt; rw [AS.get_only, if_pos rfl]
  rw [this]

theorem ptrOf_some {v : Value} {b : Nat} (h : ptrOf v = some b) : ∃ o, v = .pointer (some ⟨b, o, none⟩) := by
  unfold ptrOf at h
  split at h
  · cases h; exact ⟨_, rfl⟩
  · cases h

theorem View.load {x : Nat} {A1 : AS} (h : A1 = { A with wm := A.nx }) : View A A1 (some (.l x)) (A.only x) (A.only x) := by
  subst h
  refine ⟨rfl, rfl, Nat.le_refl _, fun i o e => ?_, fun i h1 h2 => absurd h1 (Nat.not_le_of_lt h2), fun i _ k => k.elim, fun i _ _ => ⟨rfl, rfl⟩, fun e => by rcases e with e | e <;> cases e⟩
  rw [AS.get_only] at e
  split at e
  · rename_i c; subst c; exact ⟨e, rfl⟩
  · cases e

theorem View.store {x : Nat} {o : AO} {A1 : AS} (h : A1 = ({ A with wm := A.nx } : AS).put x o) : View A A1 (some (.s x)) (A.only x) ((A.only x).put x o) := by
  subst h
  refine ⟨rfl, rfl, Nat.le_refl _, fun i o e => ?_, fun i h1 h2 => absurd h1 (Nat.not_le_of_lt h2), fun i _ k => ?_, fun i _ k => ?_, fun e => by rcases e with e | e <;> cases e⟩
  · rw [AS.get_only] at e
    split at e
    · rename_i c; subst c; exact ⟨e, rfl⟩
    · cases e
  · have : i = x := k
    rw [AS.get_put, AS.get_put, if_pos this, if_pos this]
  · have : ¬ i = x := k
    rw [AS.get_put, AS.get_put, if_neg this, if_neg this]
    exact ⟨rfl, rfl⟩

/-- The view of an operation. -/
theorem view (hc : CallWm call) {o : Op} {v : Value} (hs : opSem P call ev o { A with wm := A.nx } = some (.val v, A')) :
    ∃ V V', opSem P call ev o V = some (.val v, V') ∧ View A A' (some (clOf ev o (decide (A.nx ≤ A'.wm)))) V V' := by
  have hwm := opSem_wm hc hs
  have whole : ∀ c : Cl, (c = .g ∧ A.nx ≤ A'.wm) ∨ c = .e → ∃ V V', opSem P call ev o V = some (.val v, V') ∧ View A A' (some c) V V' := fun c hc' => ⟨_, _, hs, View.whole hwm c hc'⟩
  have grew : ∃ V V', opSem P call ev o V = some (.val v, V') ∧ View A A' (some (if decide (A.nx ≤ A'.wm) then .g else .e)) V V' := by
    by_cases h : A.nx ≤ A'.wm
    · rw [if_pos (by simpa using h)]; exact whole .g (.inl ⟨rfl, h⟩)
    · rw [if_neg (by simpa using h)]; exact whole .e (.inr rfl)
  have free : ∀ x : Option Value, vOf { A with wm := A.nx } x = some (.val v, A') → (∀ A, opSem P call ev o A = vOf A x) → ∃ V V', opSem P call ev o V = some (.val v, V') ∧ View A A' (some .p) V V' := by
    intro x hx hA
    obtain ⟨y, rfl, h1, rfl⟩ := vOf_some hx
    cases h1
    exact ⟨⟨.e, A.nx, A.nx⟩, ⟨.e, A.nx, A.nx⟩, hA _, rfl, rfl, Nat.le_refl _, fun i o h => (by cases h), fun i h1 h2 => absurd h1 (Nat.not_le_of_lt h2), fun i h k => k.elim, fun i h k => ⟨rfl, rfl⟩, fun _ => rfl⟩
  cases o <;> simp only [opSem] at hs <;> simp only [clOf, heapFree]
  case move x => exact free (some (ev x)) hs fun _ => rfl
  case assign x => exact free (some (ev x)) hs fun _ => rfl
  case pick c a b => exact free _ hs fun _ => rfl
  case build t ps => exact free _ hs fun _ => rfl
  case nilCheck x => exact free _ hs fun _ => rfl
  case binOp op t x y b => exact free _ hs fun _ => rfl
  case unOp op t x => exact free _ hs fun _ => rfl
  case makeInterface t x => exact free _ hs fun _ => rfl
  case makeFunc fn f c => exact free (some _) hs fun _ => rfl
  case slice t x lo hi mx => exact free _ hs fun _ => rfl
  case fieldAddr t x f => exact free _ hs fun _ => rfl
  case field t x f => exact free _ hs fun _ => rfl
  case indexAddr t x i => exact free _ hs fun _ => rfl
  case index t x i => exact free _ hs fun _ => rfl
  case typeAssert x xt t ok => exact free _ hs fun _ => rfl
  case extract x i => exact free _ hs fun _ => rfl
  case load t x =>
    obtain ⟨y, h1, h2, h3⟩ := vOf_some hs
    cases h2
    cases hp : ptrOf (ev x) with
    | none => exact whole .e (.inr rfl)
    | some b =>
      obtain ⟨off, he⟩ := ptrOf_some hp
      refine ⟨A.only b, A.only b, ?_, View.load h3⟩
      simp only [opSem]
      rw [he] at h1 ⊢
      have h1' : sLoad P t (.pointer (some ⟨b, off, none⟩)) A = some v := h1
      rw [sLoad_only, h1']
      rfl
  case store t x y =>
    cases hp : ptrOf (ev x) with
    | none => exact whole .e (.inr rfl)
    | some b =>
      obtain ⟨off, he⟩ := ptrOf_some hp
      simp only
      simp only [opSem]
      rw [he] at hs ⊢
      simp only [sStore] at hs ⊢
      split at hs
      · rename_i n hn
        split at hs
        · rename_i hcond
          obtain ⟨A2, h1, h2⟩ := Option.map_eq_some_iff.1 hs
          cases h2
          obtain ⟨c, e, k1, k2, k3, k4⟩ := storeN_some h1
          refine ⟨A.only b, (A.only b).put b (.cells (splice c off (vcells (ev y))) e), ?_, View.store k4⟩
          have k1' : (A.only b).get b = some (.cells c e) := by rw [AS.get_only, if_pos rfl]; exact k1
          have : (A.only b).storeN b off (vcells (ev y)) = some ((A.only b).put b (.cells (splice c off (vcells (ev y))) e)) := by
            unfold AS.storeN AS.cellsAt
            rw [k1']
            simp only
            rw [if_pos (by simp [k2, k3])]
          simp only [hcond, if_true, this, Option.map_some]
        · cases hs
      · cases hs
  case alloc t =>
    unfold sAlloc at hs
    split at hs
    · rename_i z hz
      cases hs
      exact ⟨_, _, by simp only [opSem, sAlloc, hz], View.push A _ rfl⟩
    · cases hs
  case box t x =>
    unfold sBox at hs
    split at hs
    · cases hs
    · rename_i hz
      cases hs
      exact ⟨_, _, by simp only [opSem, sBox, hz]; rfl, View.push A _ rfl⟩
  case makeMap t m =>
    unfold sMakeMap at hs
    split at hs
    · rename_i hz
      cases hs
      exact ⟨_, _, by simp only [opSem, sMakeMap, hz], View.push A _ rfl⟩
    · cases hs
  case makeSlice t l c =>
    unfold sMakeSlice at hs
    split at hs
    · rename_i h1 h2 h3
      split at hs
      · rename_i h4 h5 h6
        split at hs
        · rename_i h7
          cases hs
          exact ⟨_, _, by simp only [opSem, sMakeSlice, h1, h2, h3, h4, h5, h6, if_pos h7], View.push A _ rfl⟩
        · cases hs
      · cases hs
    · cases hs
  case buildSlice t n ps =>
    unfold sBuildSlice at hs
    split at hs
    · rename_i h0
      split at hs
      · rename_i elem h1
        split at hs
        · rename_i size z h2 h3
          split at hs
          · rename_i h4
            obtain ⟨cs, h5, h6⟩ := Option.map_eq_some_iff.1 hs
            cases h6
            exact ⟨_, _, by simp only [opSem, sBuildSlice, if_pos h0, h1, h2, h3, if_pos h4, h5, Option.map_some], View.push A _ rfl⟩
          · cases hs
        · cases hs
      · cases hs
    · cases hs
  all_goals first
    | exact grew
    | (cases hs; done)

end
end Go.Mini
