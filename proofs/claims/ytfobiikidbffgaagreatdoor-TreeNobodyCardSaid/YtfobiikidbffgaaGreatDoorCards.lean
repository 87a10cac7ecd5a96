/-
  DERIVED. GIVEN WITH THE SEED: THE CARDS: each row of YtfobiikidbffgaaGreatDoorRows.lean that lists a variable, with what it lists TIED to the program's text (the seventh form; the later family's looks); each row that meets fmt, with fmt's text TOLD by the authors' own Lean function (tested against real Go, not proved from fmt's source: count such statements apart). THE CARD IS WHAT COUNTS. Prove the row's statement (the work); the ties are given (YtfobiikidbffgaaGreatDoorTie.lean); close each card by the builder's one call (the guide's Derived/Test/ToyasCard.lean, 'card_holds'). Laid BY PROGRAM, IN A SANDBOX (cutbox-door.mjs). By AI agents, Wed Nov 11 2026. No macro, syntax, notation, axiom, sorry.
-/
import Derived.Test.YtfobiikidbffgaaGreatDoorRows
import GoSem.ClaimSeven
namespace Go.Proofs.YtfobiikidbffgaaGreatDoor
namespace Rows

/-- THE TIED CARD OF 'winklelaw21.TreeChecks'. -/
def treeChecksCard : Claim7 := { stood := { row := treeChecksRow, standIns := [], harness := (true, "82f7639619f6aa0b3f056639c1f87265eda1debdabc8a4167c4eabab1c5a8f3e"), looks := true }, kinds := [], alts := [], laidByText := true, laidKinds := [.data, .data, .data, .data, .data, .data, .data], laidTests := true, laidLooks := .later }
def TreeChecksCardSaid : Prop := Claim7.holds Tryz.pinned (.plain (OpenSpec.ofChange treeChecksSpec)) treeChecksCard

/-- THE TIED CARD OF 'winklelaw21.TreeBounds'. -/
def treeBoundsCard : Claim7 := { stood := { row := treeBoundsRow, standIns := [], harness := (true, "82f7639619f6aa0b3f056639c1f87265eda1debdabc8a4167c4eabab1c5a8f3e"), looks := true }, kinds := [], alts := [], laidByText := true, laidKinds := [.data, .data, .data, .data, .data, .data, .data], laidTests := true, laidLooks := .later }
def TreeBoundsCardSaid : Prop := Claim7.holds Tryz.pinned (.plain (OpenSpec.ofChange treeBoundsSpec)) treeBoundsCard

/-- THE TIED CARD OF 'winklelaw21.TreeBegins'. -/
def treeBeginsCard : Claim7 := { stood := { row := treeBeginsRow, standIns := [], harness := (true, "82f7639619f6aa0b3f056639c1f87265eda1debdabc8a4167c4eabab1c5a8f3e"), looks := true }, kinds := [], alts := [], laidByText := true, laidKinds := [.data, .data, .data, .data, .data, .data, .data], laidTests := true, laidLooks := .later }
def TreeBeginsCardSaid : Prop := Claim7.holds Tryz.pinned (.plain (OpenSpec.ofChange treeBeginsSpec)) treeBeginsCard

/-- THE TIED CARD OF 'winklelaw21.TreeLimits'. -/
def treeLimitsCard : Claim7 := { stood := { row := treeLimitsRow, standIns := [], harness := (true, "82f7639619f6aa0b3f056639c1f87265eda1debdabc8a4167c4eabab1c5a8f3e"), looks := true }, kinds := [], alts := [], laidByText := true, laidKinds := [.data, .data, .data, .data, .data, .data, .data], laidTests := true, laidLooks := .later }
def TreeLimitsCardSaid : Prop := Claim7.holds Tryz.pinned (.plain (OpenSpec.ofChange treeLimitsSpec)) treeLimitsCard

/-- THE TIED CARD OF 'winklelaw21.TreeNobody'. -/
def treeNobodyCard : Claim7 := { stood := { row := treeNobodyRow, standIns := [], harness := (true, "82f7639619f6aa0b3f056639c1f87265eda1debdabc8a4167c4eabab1c5a8f3e"), looks := true }, kinds := [], alts := [], laidByText := true, laidKinds := [.data, .data, .data, .data, .data, .data, .data], laidTests := true, laidLooks := .later }
def TreeNobodyCardSaid : Prop := Claim7.holds Tryz.pinned (.plain (OpenSpec.ofChange treeNobodySpec)) treeNobodyCard

/-- THE TIED CARD OF 'winklelaw21.TreeStands'. -/
def treeStandsCard : Claim7 := { stood := { row := treeStandsRow, standIns := [], harness := (true, "82f7639619f6aa0b3f056639c1f87265eda1debdabc8a4167c4eabab1c5a8f3e"), looks := true }, kinds := [], alts := [], laidByText := true, laidKinds := [.data, .data, .data, .data, .data, .data, .data], laidTests := true, laidLooks := .later }
def TreeStandsCardSaid : Prop := Claim7.holds Tryz.pinned (.plain (OpenSpec.ofChange treeStandsSpec)) treeStandsCard

/-- THE SECOND FORM's CARD OF 'winklelaw21.TreeChecks'. -/
def treeChecksUptoCard : Claim7 := { stood := { row := treeChecksUptoRow, standIns := [], harness := (true, "82f7639619f6aa0b3f056639c1f87265eda1debdabc8a4167c4eabab1c5a8f3e"), looks := true }, kinds := [], alts := [], laidByText := true, laidKinds := [.data, .data, .data, .data, .data, .data, .data], laidTests := true, laidLooks := .later }
def TreeChecksUptoCardSaid : Prop := Claim7.holds Tryz.pinned (.plain (OpenSpec.upto treeChecksSpec)) treeChecksUptoCard

/-- THE SECOND FORM's CARD OF 'winklelaw21.TreeBounds'. -/
def treeBoundsUptoCard : Claim7 := { stood := { row := treeBoundsUptoRow, standIns := [], harness := (true, "82f7639619f6aa0b3f056639c1f87265eda1debdabc8a4167c4eabab1c5a8f3e"), looks := true }, kinds := [], alts := [], laidByText := true, laidKinds := [.data, .data, .data, .data, .data, .data, .data], laidTests := true, laidLooks := .later }
def TreeBoundsUptoCardSaid : Prop := Claim7.holds Tryz.pinned (.plain (OpenSpec.upto treeBoundsSpec)) treeBoundsUptoCard

/-- THE SECOND FORM's CARD OF 'winklelaw21.TreeBegins'. -/
def treeBeginsUptoCard : Claim7 := { stood := { row := treeBeginsUptoRow, standIns := [], harness := (true, "82f7639619f6aa0b3f056639c1f87265eda1debdabc8a4167c4eabab1c5a8f3e"), looks := true }, kinds := [], alts := [], laidByText := true, laidKinds := [.data, .data, .data, .data, .data, .data, .data], laidTests := true, laidLooks := .later }
def TreeBeginsUptoCardSaid : Prop := Claim7.holds Tryz.pinned (.plain (OpenSpec.upto treeBeginsSpec)) treeBeginsUptoCard

/-- THE SECOND FORM's CARD OF 'winklelaw21.TreeLimits'. -/
def treeLimitsUptoCard : Claim7 := { stood := { row := treeLimitsUptoRow, standIns := [], harness := (true, "82f7639619f6aa0b3f056639c1f87265eda1debdabc8a4167c4eabab1c5a8f3e"), looks := true }, kinds := [], alts := [], laidByText := true, laidKinds := [.data, .data, .data, .data, .data, .data, .data], laidTests := true, laidLooks := .later }
def TreeLimitsUptoCardSaid : Prop := Claim7.holds Tryz.pinned (.plain (OpenSpec.upto treeLimitsSpec)) treeLimitsUptoCard

/-- THE SECOND FORM's CARD OF 'winklelaw21.TreeNobody'. -/
def treeNobodyUptoCard : Claim7 := { stood := { row := treeNobodyUptoRow, standIns := [], harness := (true, "82f7639619f6aa0b3f056639c1f87265eda1debdabc8a4167c4eabab1c5a8f3e"), looks := true }, kinds := [], alts := [], laidByText := true, laidKinds := [.data, .data, .data, .data, .data, .data, .data], laidTests := true, laidLooks := .later }
def TreeNobodyUptoCardSaid : Prop := Claim7.holds Tryz.pinned (.plain (OpenSpec.upto treeNobodySpec)) treeNobodyUptoCard

/-- THE SECOND FORM's CARD OF 'winklelaw21.TreeStands'. -/
def treeStandsUptoCard : Claim7 := { stood := { row := treeStandsUptoRow, standIns := [], harness := (true, "82f7639619f6aa0b3f056639c1f87265eda1debdabc8a4167c4eabab1c5a8f3e"), looks := true }, kinds := [], alts := [], laidByText := true, laidKinds := [.data, .data, .data, .data, .data, .data, .data], laidTests := true, laidLooks := .later }
def TreeStandsUptoCardSaid : Prop := Claim7.holds Tryz.pinned (.plain (OpenSpec.upto treeStandsSpec)) treeStandsUptoCard
end Rows
end Go.Proofs.YtfobiikidbffgaaGreatDoor
