/- TreeNobody: the row and its tied card, over Mini (closed run by the kernel). -/
import Derived.Test.YtfobiikidbffgaaGreatDoorM23
import Derived.Test.YtfobiikidbffgaaGreatDoorCards
import Derived.Test.YtfobiikidbffgaaGreatDoorTie
import Derived.ProofKit
import Derived.LaidLaws
import Derived.LaidHandle
import Derived.Stop.Joined
import Derived.ChangeVars
import Derived.JoinedOf
namespace Go.Proofs.YtfobiikidbffgaaGreatDoor
open Go.ChangeShapes Go.WideShapes Go.ChangeAt Go.RowKit

theorem nobodyOwn : ownKnob Tryz.prog.godebug = none := by kernel_rfl
theorem nobodyMixed : Tryz.prog.follows .mixedOrders = true := by kernel_rfl
theorem nobodyBlocks : decide (Tryz.prog.globals.size < (begin Tryz.prog (fun _ _ => 0) default).world.heap.size) = true := by kernel_rfl
theorem nobodyName : (Tryz.f7.name == "runtime.NumGoroutine") = false := by kernel_rfl
theorem nobodyBody : ∃ c, Tryz.f7.body = some c := by
  have h : Tryz.f7.body.isSome = true := by kernel_rfl
  exact Option.isSome_iff_exists.1 h

/-- THE RUN. -/
theorem nobodyRun : Mini.isRet true (Mini.call Tryz.prog 100000 7 [undef] (Mini.A0 1000)) = true := by kernel_rfl

theorem nobody_calls (v : Value) (W : World) (hW : Tryz.prog.globals.size ≤ W.heap.size) : Calls Tryz.prog 7 #[v] W fun e W' => e = .returned (.bool true) ∧ ∀ may, W.keptBut W' may := by
  obtain ⟨c, hc⟩ := nobodyBody
  exact Mini.closed_calls nobodyMixed (args' := [v]) (of_decide_eq_true (by kernel_rfl)) nobodyRun Tryz.func7 nobodyName hc W hW (fun ρ => .cons (.top _) .nil)

/-! ### One start that fits -/
mutual
def flatOf : DataW Unit → List Value
  | .lit (.int k n) => [.int k n]
  | .agg l => flatAll l
  | _ => []
def flatAll : List (DataW Unit) → List Value
  | [] => []
  | d :: l => flatOf d ++ flatAll l
end
noncomputable def layOne (w : World) (x : String × DataW Unit) : World :=
  match Tryz.prog.globalNamed x.1 with
  | some g => { w with heap := w.heap.modify g fun
      | .cells _ t frozen => .cells ⟨flatOf x.2⟩ t frozen
      | o => o }
  | none => w
noncomputable def laidWorld (os : Os) : World := Rows.treeNobodyRow.laid.foldl layOne (World.holding Tryz.prog os ⟨#[], #[], []⟩)

theorem laidWorld_met (os : Os) (args : Array Value) : laidMetH Tryz.prog Rows.treeNobodyRow.laid ((laidWorld os).forCall (fun _ _ => 0) ⟨#[], args, []⟩).memory := by
  have h0 : (Rows.treeNobodyRow.laid.filter fun x => x.2.handleName?.isSome) = [] := by kernel_rfl
  unfold laidMetH
  rw [h0]
  exact laidMet_of_run' 8 (by kernel_rfl) (by kernel_rfl)

theorem shut_true {H : Type} {enc : TypeId × Value → H} {W : World} {base : Nat} {sp : Nat → Bool} {held : Bool} (hu : Tryz.prog.underlying 4 = some .bool) : DataW.Trod enc Tryz.prog W base sp held 4 (.bool true) (.lit (.bool true)) [] := ⟨1, by simp [DataW.trod, Value.cells, hu]⟩

set_option maxRecDepth 100000 in
theorem nobody_lifted (os : Os) (started : os.Started) (H : Type) (enc : TypeId × Value → H) :
    ReturnsInHanded {} Tryz.checked os 7 .any (fun w args => (Rows.treeNobodySpec.pre enc Tryz.prog Tryz.f7 [] false w args ∧ laidMetH Tryz.prog Rows.treeNobodyRow.laid w) ∧ sizedMet enc Tryz.prog Tryz.f7 (OpenSpec.ofChange Rows.treeNobodySpec) false w args)
      (Rows.treeNobodySpec.post enc Tryz.prog Tryz.f7 false true false false) := by
  refine Mini.handed (C := Tryz.checked) (X := fun w _ => laidMetH Tryz.prog Rows.treeNobodyRow.laid w) (fun _ _ _ hh h => h.of_heap hh) nobodyOwn started (by kernel_rfl) Tryz.func7 nobodyBlocks
    (ChangeSpec.witness_at (enc := enc) (C := Tryz.checked) (os := os) (X := fun w _ => laidMetH Tryz.prog Rows.treeNobodyRow.laid w) false (laidWorld os) #[.int .u8 0] 8 rfl (by kernel_rfl) (by kernel_rfl) (by kernel_rfl) (by kernel_rfl) (by kernel_rfl) (laidWorld_met os _)) ?_
  intro W base args ds gs before hsz hval0 hW _ _ hL _
  have hval : ∀ (j : Nat) t v, Tryz.f7.params[j]? = some t → args[j]? = some v → Value.okWide Tryz.prog W .any base t v := hval0
  have hW' := hW
  obtain ⟨p, q, hA0, hV, rfl, hfz, hnd⟩ := hW
  have hA : DataW.TrodAll enc Tryz.prog W 0 (fun _ => true) true Tryz.f7.params.toList args.toList ds p := hA0
  rw [Tryz.params7] at hA hval
  obtain ⟨v0, d0, rfl, rfl, h0⟩ := trodAll_one hA
  obtain ⟨n, rfl, rfl, rfl, hwn⟩ := open_int Tryz.underlying5 (hval 0 5 v0 rfl rfl) h0
  obtain ⟨rfl, rfl⟩ := trodVars_none hV
  have e1 : Rows.treeNobodySpec.fn H ([.lit (.int .u8 n)] ++ []) = { results := [.lit (.bool true)], args := [.lit (.int .u8 n)] } := by simp [Rows.treeNobodySpec]
  refine (nobody_calls _ W hsz).mono fun e W' p => ?_
  obtain ⟨he, hk⟩ := p
  subst he
  refine ⟨_, rfl, _, _, _, [], [], [], hW', ?_, ?_, ?_, hk _, fun h => by cases h⟩
  · rw [e1]; exact trodAll_mk1 (shut_true Tryz.underlying4)
  · rw [e1]; exact trodAll_mk1 (shut_int Tryz.underlying5 hwn)
  · rw [e1]; rfl

theorem nobody_holds : Rows.TreeNobodySaid :=
  OpenClaim.holds_of_wide 7 Tryz.f7 rfl rfl rfl rfl rfl rfl rfl ⟨rfl, rfl, rfl, rfl, rfl⟩ rfl rfl rfl rfl rfl (by kernel_rfl) Tryz.func7 (by kernel_rfl)
    (of_decide_eq_true (by kernel_rfl)) (by unfold Func.isWrapper; rw [if_neg (of_decide_eq_false (by kernel_rfl))]; exact ⟨rfl, rfl⟩)
    (fun os started H enc _ => nobody_lifted os started H enc)

/-- THE TIED CARD. -/
theorem nobody_card : Rows.TreeNobodyCardSaid :=
  Claim7.holds_tied_plain_at .later [] [.data, .data, .data, .data, .data, .data, .data] true (true, "82f7639619f6aa0b3f056639c1f87265eda1debdabc8a4167c4eabab1c5a8f3e") true
    nobody_holds (fun _ h => by cases h) (by kernel_rfl) (fun _ h => by cases h) treeNobody_row_tie rfl ⟨rfl, rfl⟩ (by kernel_rfl) rfl
    (fun f fn hf hfn => by
      obtain rfl : f = 7 := Option.some.inj ((show Tryz.prog.funcNamed "winkle/winklelaw21.TreeNobody" = some 7 by kernel_rfl).symm.trans hf) |>.symm
      obtain rfl : fn = Tryz.f7 := (Option.some.inj (Tryz.func7.symm.trans hfn)).symm
      exact ⟨by kernel_rfl, fun j t ht => by
        rw [Tryz.params7] at ht
        have h3 : t = 5 := by
          rcases j with _ | j
          · simpa using ht.symm
          · simp at ht
        subst h3
        exact (show Tryz.prog.wantsStandIn 5 = false by kernel_rfl)⟩)
    (by kernel_rfl)
end Go.Proofs.YtfobiikidbffgaaGreatDoor
