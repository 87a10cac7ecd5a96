/- Mini, part 23: a closed call; contracts that know how many blocks there are. -/
import Derived.Test.YtfobiikidbffgaaGreatDoorM22
import Derived.Handed
import Derived.Deep.Onto
import Derived.ProofKit
namespace Go.Mini

/-- The memory of which nothing is known. -/
def A0 (N : Nat) : AS := { h := .e, nx := N, wm := N }

noncomputable def ρ0 (P : Program) : Ren := fun i => if i < P.globals.size then some (i, 0, 0) else none

theorem hr0 (P : Program) {N : Nat} {W : World} (hN : P.globals.size ≤ N) (hW : P.globals.size ≤ W.heap.size) : HR P (ρ0 P) (A0 N).get (A0 N).nx W := by
  have h : ∀ i b d, ρ0 P i = some (b, d) → i < P.globals.size ∧ b = i := fun i b d e => by
    unfold ρ0 at e
    split at e
    · rename_i c; cases e; exact ⟨c, rfl⟩
    · cases e
  refine ⟨fun i hi => by unfold ρ0; rw [if_pos hi], fun i b d e => ?_, fun i j b d d' _ _ hi => absurd rfl hi, fun i b d o _ e => by cases e⟩
  obtain ⟨h1, h2⟩ := h i b d e
  exact ⟨Nat.lt_of_lt_of_le h1 hN, by omega⟩

def isRet (b : Bool) (r : Option (CR × AS)) : Bool :=
  match r with
  | some (.ret (.bool x), _) => x == b
  | _ => false

theorem isRet_some {b : Bool} {r : Option (CR × AS)} (h : isRet b r = true) : ∃ A, r = some (.ret (.bool b), A) := by
  unfold isRet at h
  split at h
  · rename_i x A; exact ⟨A, by rw [show x = b by simpa using h]⟩
  · cases h

/-- A call that looks at nothing that was there: it answers, and leaves all that was there. -/
theorem closed_calls {P : Program} (hm : P.follows .mixedOrders = true) {n f N : Nat} {fn : Func} {c : Code} {args args' : List Value} {b : Bool} (hN : P.globals.size ≤ N) (h : isRet b (Mini.call P n f args (A0 N)) = true)
    (hf : P.funcs[f]? = some fn) (hname : (fn.name == "runtime.NumGoroutine") = false) (hb : fn.body = some c) (W : World) (hW : P.globals.size ≤ W.heap.size) (hx : ∀ ρ, VRL ρ args args') :
    Calls P f ⟨args'⟩ W fun e W' => e = .returned (.bool b) ∧ ∀ may, W.keptBut W' may := by
  obtain ⟨A, h⟩ := isRet_some h
  have key := mini_sound hm n f args (A0 N) _ _ h (ρ0 P) args' W (hr0 P hN hW) (hx _)
  rw [enter_run hf hname hb] at key
  refine Calls.mono key fun e W' p => ?_
  cases e with
  | returned v' =>
    obtain ⟨v, ρ', h1, h2, st⟩ := p
    cases h1
    cases h2
    exact ⟨rfl, fun may => (World.keptBut_refl W may).congr st.os st.output fun i hi => st.frame i hi fun _ _ _ => rfl⟩
  | panicked ch => obtain ⟨v, v', ρ', h1, _⟩ := p; cases h1
  | outgrown => exact p.elim

/-- The world has a block for each variable, and for what follows the variables. -/
theorem blocks_of_shaped {P : Program} {w : World} (h : w.ShapedOpen P) (h0 : decide (P.globals.size < (begin P (fun _ _ => 0) default).world.heap.size) = true) : P.globals.size ≤ w.heap.size := by
  obtain ⟨o, _, h1, _⟩ := h.2 P.globals.size (Nat.le_refl _) (of_decide_eq_true h0)
  exact Nat.le_of_lt (Array.getElem?_eq_some_iff.1 h1).1

variable {H : Type} {enc : TypeId × Value → H}

theorem handed {a : Assume} {C : Checked} {os : Os} {f : FuncId} {fn : Func} {s : ChangeSpec} {conds : List PathCond} {apart fresh handsOn again : Bool} {X : World → Array Value → Prop}
    (hX : ∀ (w w' : World) (args : Array Value), w.heap = w'.heap → X w args → X w' args)
    (own : ownKnob C.prog.godebug = none) (started : os.Started) (noInit : C.prog.inits.idxOf? f = none) (hfn : C.prog.funcs[f]? = some fn)
    (h0 : decide (C.prog.globals.size < (begin C.prog (fun _ _ => 0) default).world.heap.size) = true)
    (witness : ∃ (w : World) (tape : Tape) (i : Input), w.os = os ∧ (w.forCall tape i).Shaped C.prog ∧ i.vars = [] ∧ Input.okWide C.prog (w.forCall tape i) .any w.heap.size f i ∧
      ((s.pre enc C.prog fn conds apart (w.forCall tape i).memory i.args ∧ X (w.forCall tape i).memory i.args) ∧ sizedMet enc C.prog fn (OpenSpec.ofChange s) apart (w.forCall tape i).memory i.args) ∧ a.holds C.prog (lone (Frame.enter C.prog f i.args .normal) [] (w.forCall tape i)))
    (contract : ∀ (W : World) (base : Nat) (args : Array Value) (ds gs : List (DataW H)) (before : List MemPlace), C.prog.globals.size ≤ W.heap.size →
      (∀ (j : Nat) t v, fn.params[j]? = some t → args[j]? = some v → Value.okWide C.prog W .any base t v) →
      DataW.Whole enc C.prog fn.params.toList s.vars apart W args.toList ds gs before →
      conds.all (PathCond.test C.prog ⟨fn.params.toList, ds, s.plain.varTypes C.prog, gs⟩) = true →
      (DataW.weightsEach C.prog (fn.params.toList ++ s.plain.varTypes C.prog) (ds ++ gs)).all (· ≤ reachBytes) = true → X W args →
      a.holds C.prog (lone (Frame.enter C.prog f args .normal) [] W) →
      Calls C.prog f args W fun e W' => ∃ v, e = .returned v ∧ s.post enc C.prog fn apart fresh handsOn again W args v W') :
    ReturnsInHanded a C os f .any (fun w args => (s.pre enc C.prog fn conds apart w args ∧ X w args) ∧ sizedMet enc C.prog fn (OpenSpec.ofChange s) apart w args) (s.post enc C.prog fn apart fresh handsOn again) := by
  refine returnsInHanded_of_calls own started noInit witness ?_
  intro w tape i _ hsh _ hok hpre hholds
  obtain ⟨_, _, _, fn', hfn', _, _, _, _, hval⟩ := hok
  have e : fn' = fn := Option.some.inj (hfn'.symm.trans hfn)
  subst e
  obtain ⟨⟨⟨ds, gs, before, hw, hc⟩, hx⟩, hz⟩ := hpre
  have hw' := DataW.Whole.of_heap (w' := w.forCall tape i) (by rfl) hw
  refine (contract (w.forCall tape i) w.heap.size i.args ds gs before (blocks_of_shaped hsh h0) hval hw' hc (hz.weights hw) (hX _ _ _ (by rfl) hx) hholds).mono fun e W' p => ?_
  obtain ⟨v, he, hp⟩ := p
  subst he
  exact ChangeSpec.post_blind hp

end Go.Mini
