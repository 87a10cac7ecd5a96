/- Mini, part W (between 13 and 14): what lies below 'wm' was not touched. -/
import Derived.Test.YtfobiikidbffgaaGreatDoorM13
namespace Go.Mini

structure Wm (A A' : AS) : Prop where
  wm : A'.wm ≤ A.wm
  nx : A.nx ≤ A'.nx
  same : ∀ i, i < A.nx → i < A'.wm → A'.get i = A.get i

theorem Wm.refl (A : AS) : Wm A A := ⟨Nat.le_refl _, Nat.le_refl _, fun _ _ _ => rfl⟩
theorem Wm.trans {A B C : AS} (h : Wm A B) (k : Wm B C) : Wm A C :=
  ⟨Nat.le_trans k.wm h.wm, Nat.le_trans h.nx k.nx, fun i hi hw => by rw [k.same i (Nat.lt_of_lt_of_le hi h.nx) hw, h.same i hi (Nat.lt_of_lt_of_le hw k.wm)]⟩
theorem Wm.put (A : AS) (i : Nat) (o : AO) : Wm A (A.put i o) :=
  ⟨Nat.min_le_left _ _, Nat.le_refl _, fun j _ hw => by
    have : j < i := Nat.lt_of_lt_of_le hw (Nat.min_le_right _ _)
    rw [AS.get_put, if_neg (by omega)]⟩
theorem Wm.kill (A : AS) (i : Nat) : Wm A (A.kill i) :=
  ⟨Nat.min_le_left _ _, Nat.le_refl _, fun j _ hw => by
    have : j < i := Nat.lt_of_lt_of_le hw (Nat.min_le_right _ _)
    rw [AS.get_kill, if_neg (by omega)]⟩
theorem Wm.push (A : AS) (o : AO) : Wm A (A.push o) :=
  ⟨Nat.le_refl _, Nat.le_succ _, fun j hj _ => by rw [AS.get_push, if_neg (by omega)]⟩

section
variable {A A' : AS} {P : Program} {r : OR}

theorem Wm.storeN {b o : Nat} {vs : List Value} (h : A.storeN b o vs = some A') : Wm A A' := by
  obtain ⟨c, e, _, _, _, rfl⟩ := storeN_some h
  exact .put ..

theorem vOf_wm {v : Option Value} (hs : vOf A v = some (r, A')) : Wm A A' := by
  obtain ⟨_, _, _, rfl⟩ := vOf_some hs; exact .refl _

theorem appendNew_wm {e : TypeId} {size bytes n : Nat} {l : List Value} {q : Value × AS} (hs : appendNew e size bytes A l n = some q) : Wm A q.2 := by
  unfold appendNew at hs
  split at hs
  · cases hs; exact .push ..
  · cases hs

theorem appendA_wm {e : TypeId} {size bytes n : Nat} {s : Value} {l : List Value} {q : Value × AS} (hs : appendA e size bytes A s l n = some q) : Wm A q.2 := by
  unfold appendA at hs
  split at hs
  · split at hs
    · cases hs; exact .refl _
    · exact appendNew_wm hs
  · split at hs
    · cases hs
    · split at hs
      · split at hs
        · obtain ⟨A2, h1, rfl⟩ := Option.map_eq_some_iff.1 hs
          exact .storeN h1
        · exact appendNew_wm hs
      · split at hs
        · split at hs
          · exact (Wm.kill A _).trans (appendNew_wm hs)
          · cases hs
        · cases hs
  · cases hs

theorem sAppend_wm {t u : TypeId} {s x : Value} (hs : sAppend P t u A s x = some (r, A')) : Wm A A' := by
  unfold sAppend at hs
  split at hs
  · split at hs
    · split at hs
      · split at hs
        · obtain ⟨q, h1, h2⟩ := Option.map_eq_some_iff.1 hs
          cases h2
          exact appendA_wm h1
        · cases hs
      · cases hs
    · cases hs
  · cases hs

theorem sCopy_wm {t : Option TypeId} {d x : Value} (hs : sCopy P t A d x = some (r, A')) : Wm A A' := by
  unfold sCopy at hs
  split at hs
  · split at hs
    · split at hs
      · cases hs; exact .refl _
      · obtain ⟨A2, h1, h2⟩ := Option.map_eq_some_iff.1 hs
        cases h2
        exact .storeN h1
      · cases hs
    · cases hs
  · cases hs

theorem sClear_wm {t : Option TypeId} {x : Value} (hs : sClear P t A x = some (r, A')) : Wm A A' := by
  unfold sClear at hs
  split at hs
  · cases hs; exact .refl _
  · split at hs
    · obtain ⟨A2, h1, h2⟩ := Option.map_eq_some_iff.1 hs
      cases h2
      exact .storeN h1
    · cases hs
  · cases hs

theorem map_same {α : Type} {f : α → OR} {o : Option α} (hs : o.map (fun v => (f v, A)) = some (r, A')) : Wm A A' := by
  obtain ⟨_, _, h2⟩ := Option.map_eq_some_iff.1 hs
  cases h2
  exact .refl _

theorem builtinA_wm {b : Builtin} {ats : Array TypeId} {args : List Value} (hs : builtinA P b ats A args = some (r, A')) : Wm A A' := by
  unfold builtinA at hs
  split at hs
  · exact map_same hs
  · split at hs
    · exact sAppend_wm hs
    · cases hs
  · exact sCopy_wm hs
  · exact sClear_wm hs
  · exact map_same hs
  · exact map_same hs
  · cases hs; exact .refl _
  · cases hs

theorem sStore_wm {t : TypeId} {x v : Value} (hs : sStore P t x v A = some (r, A')) : Wm A A' := by
  unfold sStore at hs
  split at hs
  · split at hs
    · split at hs
      · obtain ⟨A2, h1, h2⟩ := Option.map_eq_some_iff.1 hs
        cases h2
        exact .storeN h1
      · cases hs
    · cases hs
  · cases hs

theorem sMapSet_wm {t : TypeId} {m k x : Value} (hs : sMapSet P t m k x A = some (r, A')) : Wm A A' := by
  unfold sMapSet at hs
  split at hs
  · split at hs
    · split at hs
      · split at hs
        · split at hs
          · cases hs; exact .put ..
          · cases hs
        · cases hs; exact .put ..
        · cases hs
      · cases hs
    · cases hs
  · cases hs

theorem sNext_wm {x : Value} (hs : sNext x A = some (r, A')) : Wm A A' := by
  unfold sNext at hs
  split at hs
  · split at hs
    · split at hs
      · cases hs; exact .put ..
      · cases hs; exact .refl _
    · cases hs
  · cases hs

theorem sConv_wm {s d : TypeId} {x : Value} (hs : sConv P s d x A = some (r, A')) : Wm A A' := by
  unfold sConv at hs
  split at hs
  · cases hs; exact .refl _
  · unfold sStr2B at hs
    split at hs
    · cases hs; exact .push ..
    · cases hs
  · unfold sB2Str at hs
    split at hs
    · split at hs
      · cases hs; exact .refl _
      · split at hs
        · exact map_same hs
        · cases hs
      · cases hs; exact .refl _
      · cases hs
    · cases hs
  · unfold sMarked at hs
    split at hs
    · split at hs
      · split at hs
        · cases hs; exact .refl _
        · cases hs
      · cases hs
    · cases hs
  · cases hs; exact .refl _
  · cases hs; exact .refl _
  · cases hs

def CallWm (call : CallF) : Prop := ∀ f args A r A', call f args A = some (r, A') → Wm A A'

theorem finish_wm {q : Option (CR × AS)} (h : ∀ c A1, q = some (c, A1) → Wm A A1) (hs : finish q = some (r, A')) : Wm A A' := by
  obtain ⟨c, h1, _⟩ := finish_some hs
  exact h c A' h1

theorem sCall_wm {call : CallF} (hc : CallWm call) {ev : Operand → Value} {c : Call} (hs : sCall P call ev c A = some (r, A')) : Wm A A' := by
  unfold sCall at hs
  split at hs
  · exact builtinA_wm hs
  · unfold sCallV at hs
    split at hs
    · exact finish_wm (fun c A1 e => hc _ _ _ _ _ e) hs
    · cases hs
  · unfold sInvoke at hs
    split at hs
    · split at hs
      · split at hs
        · cases hs
        · exact finish_wm (fun c A1 e => hc _ _ _ _ _ e) hs
      · cases hs
    · cases hs

theorem opSem_wm {call : CallF} (hc : CallWm call) {ev : Operand → Value} {o : Op} (hs : opSem P call ev o A = some (r, A')) : Wm A A' := by
  cases o <;> simp only [opSem] at hs
  case move x => cases hs; exact .refl _
  case assign x => cases hs; exact .refl _
  case alloc t =>
    unfold sAlloc at hs
    split at hs
    · cases hs; exact .push ..
    · cases hs
  case box t x =>
    unfold sBox at hs
    split at hs
    · cases hs
    · cases hs; exact .push ..
  case buildSlice t n ps =>
    unfold sBuildSlice at hs
    split at hs
    · split at hs
      · split at hs
        · split at hs
          · obtain ⟨A2, h1, h2⟩ := Option.map_eq_some_iff.1 hs
            cases h2
            exact .push ..
          · cases hs
        · cases hs
      · cases hs
    · cases hs
  case store t x v => exact sStore_wm hs
  case convert s d x => exact sConv_wm hs
  case makeFunc fn f c => cases hs; exact .refl _
  case makeMap t m =>
    unfold sMakeMap at hs
    split at hs
    · cases hs; exact .push ..
    · cases hs
  case makeSlice t l c =>
    unfold sMakeSlice at hs
    split at hs
    · split at hs
      · split at hs
        · cases hs; exact .push ..
        · cases hs
      · cases hs
    · cases hs
  case mapUpdate t m k x => exact sMapSet_wm hs
  case insert t m k x => exact sMapSet_wm hs
  case range t x =>
    unfold sRange at hs
    split at hs
    · cases hs; exact .push ..
    · cases hs
  case next it s =>
    cases s
    · cases hs
    · exact sNext_wm hs
  case call c => exact sCall_wm hc hs
  case defer c =>
    unfold sDefer at hs
    split at hs
    · split at hs
      · cases hs; exact .refl _
      · cases hs
    · cases hs
  case panic x =>
    unfold sPanic at hs
    split at hs
    · cases hs; exact .refl _
    · cases hs
  all_goals first
    | exact vOf_wm hs
    | (cases hs; done)

end

section
variable {P : Program} {call : CallF} {A : AS} {r : Out × Fr × AS}

theorem regLex_cons (call : CallF) (ops : Array Oper) (o : Oper) (l : List Oper) (fr : Fr) (A : AS) : regLex P call ops (o :: l) fr A = regOne P call ops o (regLex P call ops l) fr A := rfl
theorem regLex_nil (call : CallF) (ops : Array Oper) (fr : Fr) (A : AS) : regLex P call ops [] fr A = some (.normal, fr, A) := rfl

theorem regLex_wm (hc : CallWm call) {ops : Array Oper} : ∀ (l : List Oper) (fr : Fr) (A : AS), regLex P call ops l fr A = some r → Wm A r.2.2
  | [], fr, A, h => by rw [regLex_nil] at h; cases h; exact .refl _
  | o :: l, fr, A, h => by
    rw [regLex_cons] at h
    unfold regOne at h
    split at h
    · cases h
    · exact regLex_wm hc l _ _ h
    · unfold regOp at h
      split at h
      · rename_i hop; exact (opSem_wm hc hop).trans (regLex_wm hc l _ _ h)
      · rename_i hop; cases h; exact opSem_wm hc hop
      · rename_i hop; exact (opSem_wm hc hop).trans (regLex_wm hc l _ _ h)
      · cases h

theorem Wm.reset {A A' : AS} (h : Wm { A with wm := A.nx } A') : Wm A { A' with wm := min A.wm A'.wm } :=
  ⟨Nat.min_le_left _ _, h.nx, fun i hi hw => h.same i hi (Nat.lt_of_lt_of_le hw (Nat.min_le_right _ _))⟩

theorem regDraw_wm (hc : CallWm call) {ops : Array Oper} {bef : List (List Nat)} : ∀ (l : List Oper) (k : Nat) (don : List (Nat × Cl)) (fr : Fr) (A : AS) (q : Fr × AS), regDraw P call ops bef l k don fr A = some q → Wm A q.2
  | [], k, don, fr, A, q, h => by simp only [regDraw] at h; cases h; exact .refl _
  | o :: l, k, don, fr, A, q, h => by
    simp only [regDraw] at h
    split at h
    · cases h
    · exact regDraw_wm hc l _ _ _ _ _ h
    · split at h
      · rename_i hop
        split at h
        · exact (opSem_wm hc hop).reset.trans (regDraw_wm hc l _ _ _ _ _ h)
        · cases h
      · cases h

theorem regSem_wm (hc : CallWm call) {ops : Array Oper} {draw : Bool} {fr : Fr} (h : regSem P call ops draw fr A = some r) : Wm A r.2.2 := by
  unfold regSem at h
  split at h
  · split at h
    · obtain ⟨q, h1, h2⟩ := Option.map_eq_some_iff.1 h
      cases h2
      exact regDraw_wm hc _ _ _ _ _ _ h1
    · cases h
  · exact regLex_wm hc _ _ _ h

structure ExWm (ex : Ex) : Prop where
  all : ∀ sc c fr A r, ex sc c fr A = some r → Wm A r.2.2

variable {ex : Ex}

theorem leave0_wm {fn : Func} {q : Option (Out × Fr × AS)} {c : CR} {A1 : AS} (h : ∀ r, q = some r → Wm A r.2.2) (hs : leave0 P fn q = some (c, A1)) : Wm A A1 := by
  unfold leave0 at hs
  split at hs
  · split at hs
    · obtain ⟨v, _, h2⟩ := Option.map_eq_some_iff.1 hs
      cases h2
      exact h _ rfl
    · cases hs
  · split at hs
    · obtain ⟨v, _, h2⟩ := Option.map_eq_some_iff.1 hs
      cases h2
      exact h _ rfl
    · cases hs
  · split at hs
    · cases hs; exact h _ rfl
    · cases hs
  · cases hs

theorem map_leave0 {fn : Func} {q : Option (Out × Fr × AS)} {c : CR} {A1 : AS} {u u1 : UM} (h : ∀ r, q = some r → Wm A r.2.2) (hs : (leave0 P fn q).map (fun r => (r.1, r.2, u)) = some (c, A1, u1)) : Wm A A1 := by
  obtain ⟨⟨c2, A2⟩, h1, h2⟩ := Option.map_eq_some_iff.1 hs
  cases h2
  exact leave0_wm h h1

theorem callR_wm (h : ExWm ex) {f : FuncId} {args : List Value} {u u1 : UM} {c : CR} {A1 : AS} (hs : callR P (ex none) f args A u = some (c, A1, u1)) : Wm A A1 := by
  unfold callR at hs
  split at hs
  · split at hs
    · cases hs
    · split at hs
      · split at hs
        · split at hs
          · refine map_leave0 (fun r e => ?_) hs
            split at e
            · rename_i hreg
              exact (regLex_wm (fun _ _ _ _ _ e => by cases e) _ _ _ hreg).trans (h.all _ _ _ _ _ e)
            · exact regLex_wm (fun _ _ _ _ _ e => by cases e) _ _ _ e
          · exact map_leave0 (fun r e => h.all _ _ _ _ _ e) hs
        · exact map_leave0 (fun r e => h.all _ _ _ _ _ e) hs
      · exact map_leave0 (fun r e => h.all _ _ _ _ _ e) hs
      · cases hs
  · cases hs

theorem runDefers_wm (h : ExWm ex) {fn : Func} {fr : Fr} {c : CR} {A1 : AS} : ∀ (ds : List Deferred) (u : UM) (A : AS), runDefers P (ex none) fn fr ds u A = some (c, A1) → Wm A A1
  | [], .ret, A, hs => by
    simp only [runDefers] at hs
    obtain ⟨v, _, h2⟩ := Option.map_eq_some_iff.1 hs
    cases h2
    exact .refl _
  | [], .pan v, A, hs => by simp only [runDefers] at hs; cases hs; exact .refl _
  | [], .done v, A, hs => by simp only [runDefers] at hs; cases hs
  | d :: ds, u, A, hs => by
    unfold runDefers at hs
    split at hs
    · rename_i heq; cases heq
    · rename_i heq; cases heq
    · rename_i heq; cases heq
    · rename_i heq
      cases heq
      split at hs
      · rename_i hc
        exact (callR_wm h hc).trans (runDefers_wm h ds _ _ hs)
      · rename_i hc
        exact (callR_wm h hc).trans (runDefers_wm h ds _ _ hs)
      · cases hs
    · cases hs

theorem callWith_wm (h : ExWm ex) : CallWm (callWith P (ex none)) := by
  intro f args A c A1 hs
  unfold callWith at hs
  split at hs
  · split at hs
    · split at hs
      · cases hs
      · unfold leave at hs
        split at hs
        · rename_i he; exact (h.all _ _ _ _ _ he).trans (runDefers_wm h _ _ _ hs)
        · rename_i he; exact (h.all _ _ _ _ _ he).trans (runDefers_wm h _ _ _ hs)
        · rename_i he; exact (h.all _ _ _ _ _ he).trans (runDefers_wm h _ _ _ hs)
        · cases hs
    · unfold extA at hs
      split at hs
      · split at hs
        · unfold idxByte at hs
          split at hs
          · split at hs
            · obtain ⟨v, _, h2⟩ := Option.map_eq_some_iff.1 hs
              cases h2
              exact .refl _
            · cases hs
          · cases hs
        · split at hs
          · unfold add64 at hs
            split at hs
            · split at hs
              · cases hs
              · cases hs; exact .refl _
            · cases hs
          · cases hs
      · cases hs
  · cases hs

theorem xSeq_some {fr : Fr} {c d : Code} {r : Out × Fr × AS} (h : xSeq ex c d fr A = some r) : ∃ r1, ex none c fr A = some r1 ∧ ((r1.1 = .normal ∧ ex none d r1.2.1 r1.2.2 = some r) ∨ (r1.1 ≠ .normal ∧ r1 = r)) := by
  unfold xSeq at h
  cases he : ex none c fr A with
  | none => rw [he] at h; cases h
  | some r1 =>
    obtain ⟨o, fr1, A1⟩ := r1
    rw [he] at h
    refine ⟨_, rfl, ?_⟩
    cases o <;> simp only at h <;> first
      | exact .inl ⟨rfl, h⟩
      | (cases h; exact .inr ⟨by simp, rfl⟩)

theorem xSeq_wm (h : ExWm ex) {c d : Code} {fr : Fr} (hs : xSeq ex c d fr A = some r) : Wm A r.2.2 := by
  obtain ⟨r1, h1, h2 | h2⟩ := xSeq_some hs
  · exact (h.all _ _ _ _ _ h1).trans (h.all _ _ _ _ _ h2.2)
  · rw [← h2.2]; exact h.all _ _ _ _ _ h1

theorem xStep_wm (h : ExWm ex) : ExWm (xStep P ex) := by
  refine ⟨fun sc c fr A r hs => ?_⟩
  cases sc with
  | some b =>
    have hs' : xScope ex b c fr A = some r := hs
    unfold xScope at hs'
    split at hs'
    · rename_i he
      split at hs'
      · exact (h.all _ _ _ _ _ he).trans (h.all _ _ _ _ _ hs')
      · cases hs'; exact h.all _ _ _ _ _ he
    · exact h.all _ _ _ _ _ hs'
  | none =>
    have hs' : xCode P ex c fr A = some r := hs
    cases c <;> simp only [xCode] at hs'
    case skip => cases hs'; exact .refl _
    case label l => cases hs'; exact .refl _
    case region id ops draw => exact regSem_wm (callWith_wm h) hs'
    case seq c d => exact xSeq_wm h hs'
    case cond x c d =>
      unfold xCond at hs'
      split at hs'
      · exact h.all _ _ _ _ _ hs'
      · exact h.all _ _ _ _ _ hs'
      · cases hs'
    case block id c =>
      unfold xBlock at hs'
      split at hs'
      · rename_i he; cases hs'; have := h.all _ _ _ _ _ he; exact this
      · exact h.all _ _ _ _ _ hs'
    case loop c => exact xSeq_wm h hs'
    case exit id => cases hs'; exact .refl _
    case goto l => cases hs'; exact .refl _
    case ret => cases hs'; exact .refl _
    case scope c => exact h.all _ _ _ _ _ hs'
    all_goals (cases hs')

theorem exec_wm : ∀ n, ExWm (exec P n)
  | 0 => ⟨fun _ _ _ _ _ h => (by cases h)⟩
  | n + 1 => by rw [exec_succ]; exact xStep_wm (exec_wm n)

theorem call_wm (n : Nat) : CallWm (Mini.call P n) := callWith_wm (exec_wm n)

end
end Go.Mini
