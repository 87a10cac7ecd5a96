/- Mini, part 16: the whole machine (but for regions whose order is open). -/
import Derived.Test.YtfobiikidbffgaaGreatDoorM15
namespace Go.Mini

section
variable {ρ ρ' : Ren} {A A' A1 : AS} {w : World} {P : Program} {fr : Fr} {a : Act} {ex : Ex}

theorem OutR.no_outgrown {o : Out} (h : OutR ρ o .outgrown) : False := by cases o <;> exact h.elim

theorem CRR.post {cr : CR} {e : Ending} {w' : World} (st : ST P ρ A.get A.nx w ρ' A1.get A1.nx w') (h : CRR ρ' cr e) : CallPost P ρ A w cr.or A1 e w' := by
  cases cr <;> cases e <;> first
    | exact h.elim
    | skip
  · exact ⟨_, ρ', rfl, h, st⟩
  · obtain ⟨v', h1, h2⟩ := h
    exact ⟨_, v', ρ', rfl, h1, h2, st⟩

theorem settle_ok {u : UM} {m : FrameMode} (h : UMR ρ u m) : UMR ρ u.settle (settle m) ∧ ∀ v, u.settle ≠ .done v := by
  cases u <;> cases m <;> first
    | exact h.elim
    | skip
  · exact ⟨trivial, fun v e => by cases e⟩
  · obtain ⟨v', rfl, h2⟩ := h
    exact ⟨⟨v', rfl, h2⟩, fun v e => by cases e⟩
  · obtain ⟨v', rfl, h2⟩ := h
    exact ⟨trivial, fun v e => by cases e⟩

theorem runDefers_ok (h : ExOK P ex) {fn : Func} {fr : Fr} {a : Act} {R : Ending → World → Prop} {r : CR} {A1 : AS} : ∀ (ds : List Deferred) (u : UM) (A : AS) (ρ : Ren) (w : World) (ds' : List Deferred) (m : FrameMode),
    runDefers P (ex none) fn fr ds u A = some (r, A1) → HR P ρ A.get A.nx w → FRel ρ fr a → DRL ρ ds ds' → UMR ρ u m → (∀ v, u ≠ .done v) → (∀ e w', (∃ ρ', ST P ρ A.get A.nx w ρ' A1.get A1.nx w' ∧ CRR ρ' r e) → R e w') →
    Leaves P fn a.tmps R ds' m w := by
  intro ds
  induction ds with
  | nil =>
    intro u A ρ w ds' m hs hr hf hd hu hnd hR
    cases hd
    cases u with
    | ret =>
      cases m with
      | returning =>
        simp only [runDefers] at hs
        cases hv : resSem P fn fr A with
        | none => rw [hv] at hs; cases hs
        | some v =>
          rw [hv] at hs
          simp only [Option.map_some, Option.some.injEq, Prod.mk.injEq] at hs
          obtain ⟨rfl, rfl⟩ := hs
          obtain ⟨v', h1, h2⟩ := resSem_run (P := P) hr hf hv
          exact ⟨v', h1, hR _ _ ⟨ρ, ST.refl hr, h2⟩⟩
      | run => exact hu.elim
      | panicking ch => exact hu.elim
    | pan v =>
      cases m with
      | returning => exact hu.elim
      | run => exact hu.elim
      | panicking ch =>
        simp only [runDefers] at hs
        cases hs
        exact hR _ _ ⟨ρ, ST.refl hr, hu⟩
    | done v => exact absurd rfl (hnd v)
  | cons d ds ih =>
    intro u A ρ w ds' m hs hr hf hd hu hnd hR
    cases hd with
    | cons hd t =>
    cases hd with
    | @mk f c c' a0 a1 hc ha =>
    simp only [runDefers] at hs
    have hm : m ≠ .run := by
      intro e; subst e
      cases u <;> exact hu.elim
    cases hcr : callR P (ex none) f (a0 ++ c) A u with
    | none => rw [hcr] at hs; cases hs
    | some q =>
      obtain ⟨cr, A2, u2⟩ := q
      rw [hcr] at hs
      obtain ⟨h1, h2⟩ := callR_ok (P := P) h hcr hr (ha.append hc) hu hnd
      refine leaves_cons hm (f := f) (args := ⟨a1 ++ c'⟩) ?_ (h2.mono ?_)
      · have e : (⟨a1⟩ ++ ⟨c'⟩ : Array Value) = ⟨a1 ++ c'⟩ := by simp
        simp only [invoke]
        rw [e]; exact h1
      · intro e m' w' ⟨ρ', st, hu', hcrr⟩
        cases cr with
        | ret v =>
          cases e with
          | returned v' =>
            obtain ⟨k1, k2⟩ := settle_ok hu'
            exact ih u2.settle A2 ρ' w' _ (settle m') hs st.hr (hf.mono st.ext) (t.mono st.ext) k1 k2 fun e w'' ⟨ρ2, st2, hc2⟩ => hR e w'' ⟨ρ2, ST.trans hr.lt st st2, hc2⟩
          | panicked ch => exact hcrr.elim
          | outgrown => exact hcrr.elim
        | pan v =>
          cases e with
          | returned v' => exact hcrr.elim
          | outgrown => exact hcrr.elim
          | panicked ch =>
            cases u2 with
            | ret =>
              cases m' with
              | returning =>
                exact ih (.pan v) A2 ρ' w' _ (raised .returning ch) hs st.hr (hf.mono st.ext) (t.mono st.ext) hcrr (fun v e => by cases e) fun e w'' ⟨ρ2, st2, hc2⟩ => hR e w'' ⟨ρ2, ST.trans hr.lt st st2, hc2⟩
              | run => exact hu'.elim
              | panicking ch => exact hu'.elim
            | pan v => cases hs
            | done v => cases hs

theorem callWith_ok (h : ExOK P ex) : CallOK P (callWith P (ex none)) := by
  intro f args A r A1 hs ρ args' w hr hx
  unfold callWith at hs
  split at hs
  · rename_i fn hfn
    split at hs
    · rename_i c hb
      split at hs
      · cases hs
      · rename_i hname
        rw [enter_run hfn (by simpa using hname) hb]
        show Calls P f ⟨args'⟩ w (CallPost P ρ A w r.or A1)
        cases he : ex none c (entry args fn.ntmps) A with
        | none => rw [he] at hs; cases hs
        | some r0 =>
          rw [he] at hs
          refine calls_of_wp_defers hfn hb (wp_mono (h.code _ _ _ _ he ρ _ w hr (entry_rel hx fn.ntmps)) fun e a' w' p => ?_)
          obtain ⟨o, fr', A2⟩ := r0
          obtain ⟨ρ', st, hf, ho⟩ := p
          have fin : ∀ e w'', (∃ ρ2, ST P ρ' A2.get A2.nx w' ρ2 A1.get A1.nx w'' ∧ CRR ρ2 r e) → CallPost P ρ A w r.or A1 e w'' := fun e w'' ⟨ρ2, st2, hc⟩ => hc.post (ST.trans hr.lt st st2)
          unfold leave at hs
          cases o <;> cases e <;> simp only [OutR] at ho <;> simp only at hs <;> first
            | exact ho.elim
            | (cases hs; done)
            | skip
          · exact runDefers_ok (P := P) h _ .ret A2 ρ' w' _ .returning hs st.hr hf hf.d trivial (fun v e => by cases e) fin
          · exact runDefers_ok (P := P) h _ .ret A2 ρ' w' _ .returning hs st.hr hf hf.d trivial (fun v e => by cases e) fin
          · exact runDefers_ok (P := P) h _ (.pan _) A2 ρ' w' _ (.panicking _) hs st.hr hf hf.d ho (fun v e => by cases e) fin
    · rename_i hb
      exact extA_run (P := P) hr hfn hb hs hx
  · cases hs

/-! ### Code -/
theorem seq_ok (h : ExOK P ex) {c d : Code} {r : Out × Fr × AS} (hs : xSeq ex c d fr A = some r) (hr : HR P ρ A.get A.nx w) (hf : FRel ρ fr a) : (Code.seq c d).wp P (Post P ρ A w r) a w := by
  obtain ⟨⟨o, fr1, A1⟩, h1, h2⟩ := xSeq_some hs
  refine wp_seq (wp_mono (h.code _ _ _ _ h1 ρ a w hr hf) fun e a' w' p => ?_)
  have hp := p
  obtain ⟨ρ', st, hf', ho⟩ := p
  rcases h2 with ⟨rfl, h2⟩ | ⟨h2, rfl⟩
  · cases e with
    | normal => exact wp_mono (h.code _ _ _ _ h2 ρ' a' w' st.hr hf') fun e a2 w2 p2 => p2.trans hr st
    | _ => exact ho.elim
  · cases e with
    | normal => exact absurd ho.eq_normal h2
    | _ => exact hp

theorem loop_ok (h : ExOK P ex) {c : Code} {r : Out × Fr × AS} (hs : xSeq ex c (.loop c) fr A = some r) (hr : HR P ρ A.get A.nx w) (hf : FRel ρ fr a) : InLoop P c (Post P ρ A w r) a w := by
  intro b k cs
  obtain ⟨⟨o, fr1, A1⟩, h1, h2⟩ := xSeq_some hs
  obtain ⟨e, a', w', p, harr⟩ := h.code _ _ _ _ h1 ρ a w hr hf b (.inLoop c :: k) cs
  have hp := p
  obtain ⟨ρ', st, hf', ho⟩ := p
  rcases h2 with ⟨rfl, h2⟩ | ⟨h2, rfl⟩
  · cases e with
    | normal =>
      obtain ⟨e2, a2, w2, p2, harr2⟩ := h.loop _ _ _ _ h2 ρ' a' w' st.hr hf' b k cs
      exact ⟨e2, a2, w2, p2.trans hr st, .of_steps (Steps.trans harr (.one step_inLoop)) harr2⟩
    | _ => exact ho.elim
  · cases e with
    | normal => exact absurd ho.eq_normal h2
    | outgrown => exact ho.no_outgrown.elim
    | _ => exact ⟨_, a', w', hp, .pass (x := .inLoop c) rfl (fun _ _ => .inl (by simp)) harr⟩

theorem block_ok (h : ExOK P ex) {id : Nat} {c : Code} {r : Out × Fr × AS} (hs : xBlock id (ex none c fr A) = some r) (hr : HR P ρ A.get A.nx w) (hf : FRel ρ fr a) : (Code.block id c).wp P (Post P ρ A w r) a w := by
  cases he : ex none c fr A with
  | none => rw [he] at hs; cases hs
  | some r1 =>
    rw [he] at hs
    refine wp_block (wp_mono (h.code _ _ _ _ he ρ a w hr hf) fun e a' w' p => ?_)
    obtain ⟨o, fr1, A1⟩ := r1
    obtain ⟨ρ', st, hf', ho⟩ := p
    unfold xBlock at hs
    cases o with
    | exit i =>
      cases hs
      cases e with
      | exit j =>
        have : i = j := ho
        subst this
        show if i = id then _ else _
        by_cases c : i = id
        · rw [if_pos c]; exact ⟨ρ', st, hf', by simp only [if_pos c]; exact trivial⟩
        · rw [if_neg c]; exact ⟨ρ', st, hf', by simp only [if_neg c]; exact rfl⟩
      | _ => exact ho.elim
    | _ =>
      cases hs
      cases e with
      | exit j => exact ho.elim
      | _ => exact ⟨ρ', st, hf', ho⟩

theorem cond_ok (h : ExOK P ex) {x : Operand} {c d : Code} {r : Out × Fr × AS} (hs : xCond ex (fr.ev P x) c d fr A = some r) (hr : HR P ρ A.get A.nx w) (hf : FRel ρ fr a) : (Code.cond x c d).wp P (Post P ρ A w r) a w := by
  have hx := hf.ev hr x
  unfold xCond at hs
  split at hs
  · rename_i heq
    rw [heq] at hx
    have : a.eval x = .bool true := hx.eq_of_plain rfl
    exact wp_cond_true this (h.code _ _ _ _ hs ρ a w hr hf)
  · rename_i heq
    rw [heq] at hx
    have : a.eval x = .bool false := hx.eq_of_plain rfl
    exact wp_cond_false this (h.code _ _ _ _ hs ρ a w hr hf)
  · cases hs

theorem scope_ok (h : ExOK P ex) {b c : Code} {r : Out × Fr × AS} (hs : xScope ex b c fr A = some r) (hr : HR P ρ A.get A.nx w) (hf : FRel ρ fr a) : InScope P b c (Post P ρ A w r) a w := by
  intro f k cs
  cases he : ex none c fr A with
  | none => unfold xScope at hs; rw [he] at hs; cases hs
  | some r1 =>
    obtain ⟨o, fr1, A1⟩ := r1
    obtain ⟨e, a', w', p, harr⟩ := h.code _ _ _ _ he ρ a w hr hf f (.inScope b :: k) cs
    have hp := p
    obtain ⟨ρ', st, hf', ho⟩ := p
    unfold xScope at hs
    rw [he] at hs
    cases e with
    | normal =>
      have := ho.eq_normal
      simp only at this
      subst this
      cases hs
      exact ⟨.normal, a', w', hp, Steps.trans harr (.one step_inScope)⟩
    | exit i =>
      have := ho.eq_exit
      simp only at this
      subst this
      cases hs
      exact ⟨.exit i, a', w', hp, fun k' hk => harr k' (by simp [exitTo, hk])⟩
    | goto l =>
      have := ho.eq_goto
      simp only at this
      subst this
      simp only at hs
      cases hl : findLabel b l with
      | none =>
        rw [hl] at hs
        cases hs
        exact ⟨.goto l, a', w', hp, fun k' hk => harr k' (by simp [gotoIn, hl, hk])⟩
      | some rest =>
        rw [hl] at hs
        obtain ⟨e2, a2, w2, p2, harr2⟩ := h.scope _ _ _ _ _ hs ρ' a' w' st.hr hf' f k cs
        exact ⟨e2, a2, w2, p2.trans hr st, .of_steps (harr _ (by simp [gotoIn, hl])) harr2⟩
    | ret =>
      cases o <;> first
        | exact ho.elim
        | (cases hs; exact ⟨_, a', w', hp, harr⟩)
    | panic ch =>
      cases o <;> first
        | exact ho.elim
        | (cases hs; exact ⟨_, a', w', hp, harr⟩)
    | outgrown => cases o <;> exact ho.elim

theorem xStep_ok (hdr : DrawOK P) (h : ExOK P ex) (hw : ExWm ex) : ExOK P (xStep P ex) := by
  have hcall := callWith_ok (P := P) h
  have hloop : ∀ b fr A r, xStep P ex none (.loop b) fr A = some r → ∀ ρ a w, HR P ρ A.get A.nx w → FRel ρ fr a → InLoop P b (Post P ρ A w r) a w := fun b fr A r hs ρ a w hr hf => loop_ok (P := P) h hs hr hf
  have hscope : ∀ b c fr A r, ex (some b) c fr A = some r → ∀ ρ a w, HR P ρ A.get A.nx w → FRel ρ fr a → InScope P b c (Post P ρ A w r) a w := h.scope
  refine ⟨fun c fr A r hs ρ a w hr hf => ?_, hloop, fun b c fr A r hs ρ a w hr hf => scope_ok (P := P) h hs hr hf⟩
  have hs' : xCode P ex c fr A = some r := hs
  have nothing : ∀ {e : Exit} {o : Out}, OutR ρ o e → Post P ρ A w (o, fr, A) e a w := fun ho => ⟨ρ, ST.refl hr, hf, ho⟩
  cases c <;> simp only [xCode] at hs'
  case skip => cases hs'; exact wp_skip (nothing trivial)
  case label l => cases hs'; exact wp_label (nothing trivial)
  case region id ops draw => exact region_ok (P := P) hdr hcall (callWith_wm hw) hr hf hs'
  case seq c d => exact seq_ok (P := P) h hs' hr hf
  case cond x c d => exact cond_ok (P := P) h hs' hr hf
  case block id c => exact block_ok (P := P) h hs' hr hf
  case loop c =>
    intro b k cs
    obtain ⟨e, a', w', p, harr⟩ := hloop c fr A r hs ρ a w hr hf b k cs
    exact ⟨e, a', w', p, .of_steps (.one step_loop) harr⟩
  case exit id => cases hs'; exact wp_exit (nothing rfl)
  case goto l => cases hs'; exact wp_goto (nothing rfl)
  case ret => cases hs'; exact wp_ret (nothing trivial)
  case scope c =>
    intro b k cs
    obtain ⟨e, a', w', p, harr⟩ := hscope c c fr A r hs' ρ a w hr hf b k cs
    exact ⟨e, a', w', p, .of_steps (.one step_scope) harr⟩
  all_goals (cases hs')

theorem exec_ok (hdr : DrawOK P) : ∀ n, ExOK P (exec P n)
  | 0 => ⟨fun _ _ _ _ h => (by cases h), fun _ _ _ _ h => (by cases h), fun _ _ _ _ _ h => (by cases h)⟩
  | n + 1 => by rw [exec_succ]; exact xStep_ok hdr (exec_ok hdr n) (exec_wm n)

theorem call_ok (hdr : DrawOK P) (n : Nat) : CallOK P (call P n) := callWith_ok (exec_ok hdr n)

end
end Go.Mini
