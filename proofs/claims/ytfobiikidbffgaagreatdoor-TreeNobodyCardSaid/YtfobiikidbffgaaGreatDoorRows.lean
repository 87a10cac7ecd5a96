/-
  NARROWER THAN 'FOR EVERY INPUT', by the rows' own cells (each row's printed sentence says how): TreeChecks: laid · TreeBounds: laid · TreeBegins: laid · TreeLimits: laid · TreeNobody: laid · TreeStands: laid.
  DERIVED. THE GIVEN ROWS OF THIS SEAT. 6 by the template 'for every input the law returns true; each argument reads behind the call as it read before'; 0 by the template 'total and deterministic' (their statements: YtfobiikidbffgaaGreatDoorTotals.lean).
  GIVEN WITH THE SEED: the statements are not yours to turn. If you find one false, say at which input.
  Laid BY PROGRAM, IN A SANDBOX (cutbox-rows.mjs): the forced cells as the released guide's own fill.sh prints them over the translation 6bbe3de2f1e793bf… (all of the seat's roots in one cut). By AI agents, Wed Nov 11 2026. No macro, syntax, notation, axiom, sorry.
-/
import Derived.Test.YtfobiikidbffgaaGreatDoorChecked
import GoSem.Claim
import GoSem.ClaimJoined
import GoSem.ClaimMapViews
import Derived.JoinedTies
import Derived.KernelRfl
namespace Go.Proofs.YtfobiikidbffgaaGreatDoor
/- THE CELL 'sum', in the pinned program and in every row, IS THE sha256 OF THE DUMP (.gsa) THAT YtfobiikidbffgaaGreatDoorProg.lean LOADS. Nothing in Lean hashes anything: it is a label: what it is worth is what the hold of that sum in a sandbox is worth. -/
noncomputable def Tryz.pinned : Pinned := { name := "ytfobiikidbffgaagreatdoor", sum := "6bbe3de2f1e793bf97e750bb7227a3e7db6463483eb9e60d0d791e603ed83cc5", checked := Tryz.checked }
namespace Rows
def none {H : Type} : Left H := { results := [], args := [] }

/- WHAT THE LISTED PACKAGE-LEVEL VARIABLES READ AS WHEN THE CALL BEGINS. Each datum BY PROGRAM (the guide's laid-datum.mjs) off the statement by which the dump's own 'gosem.cut.vars' lays the variable. In a bare row this is a premise. The card (YtfobiikidbffgaaGreatDoorCards.lean) ties it to the program's text. -/
def laid_winkle_crc_quarter {H : Type} : DataW H := .agg [.lit (.int .u32 0), .lit (.int .u32 498536548), .lit (.int .u32 997073096), .lit (.int .u32 651767980), .lit (.int .u32 1994146192), .lit (.int .u32 1802195444), .lit (.int .u32 1303535960), .lit (.int .u32 1342533948), .lit (.int .u32 3988292384), .lit (.int .u32 4027552580), .lit (.int .u32 3604390888), .lit (.int .u32 3412177804), .lit (.int .u32 2607071920), .lit (.int .u32 2262029012), .lit (.int .u32 2685067896), .lit (.int .u32 3183342108)]
def laid_winkle_inflate_leastLength {H : Type} : DataW H := .agg [.lit (.int .i64 3), .lit (.int .i64 4), .lit (.int .i64 5), .lit (.int .i64 6), .lit (.int .i64 7), .lit (.int .i64 8), .lit (.int .i64 9), .lit (.int .i64 10), .lit (.int .i64 11), .lit (.int .i64 13), .lit (.int .i64 15), .lit (.int .i64 17), .lit (.int .i64 19), .lit (.int .i64 23), .lit (.int .i64 27), .lit (.int .i64 31), .lit (.int .i64 35), .lit (.int .i64 43), .lit (.int .i64 51), .lit (.int .i64 59), .lit (.int .i64 67), .lit (.int .i64 83), .lit (.int .i64 99), .lit (.int .i64 115), .lit (.int .i64 131), .lit (.int .i64 163), .lit (.int .i64 195), .lit (.int .i64 227), .lit (.int .i64 258)]
def laid_winkle_inflate_moreLength {H : Type} : DataW H := .agg [.lit (.int .i64 0), .lit (.int .i64 0), .lit (.int .i64 0), .lit (.int .i64 0), .lit (.int .i64 0), .lit (.int .i64 0), .lit (.int .i64 0), .lit (.int .i64 0), .lit (.int .i64 1), .lit (.int .i64 1), .lit (.int .i64 1), .lit (.int .i64 1), .lit (.int .i64 2), .lit (.int .i64 2), .lit (.int .i64 2), .lit (.int .i64 2), .lit (.int .i64 3), .lit (.int .i64 3), .lit (.int .i64 3), .lit (.int .i64 3), .lit (.int .i64 4), .lit (.int .i64 4), .lit (.int .i64 4), .lit (.int .i64 4), .lit (.int .i64 5), .lit (.int .i64 5), .lit (.int .i64 5), .lit (.int .i64 5), .lit (.int .i64 0)]
def laid_winkle_inflate_leastBack {H : Type} : DataW H := .agg [.lit (.int .i64 1), .lit (.int .i64 2), .lit (.int .i64 3), .lit (.int .i64 4), .lit (.int .i64 5), .lit (.int .i64 7), .lit (.int .i64 9), .lit (.int .i64 13), .lit (.int .i64 17), .lit (.int .i64 25), .lit (.int .i64 33), .lit (.int .i64 49), .lit (.int .i64 65), .lit (.int .i64 97), .lit (.int .i64 129), .lit (.int .i64 193), .lit (.int .i64 257), .lit (.int .i64 385), .lit (.int .i64 513), .lit (.int .i64 769), .lit (.int .i64 1025), .lit (.int .i64 1537), .lit (.int .i64 2049), .lit (.int .i64 3073), .lit (.int .i64 4097), .lit (.int .i64 6145), .lit (.int .i64 8193), .lit (.int .i64 12289), .lit (.int .i64 16385), .lit (.int .i64 24577)]
def laid_winkle_inflate_moreBack {H : Type} : DataW H := .agg [.lit (.int .i64 0), .lit (.int .i64 0), .lit (.int .i64 0), .lit (.int .i64 0), .lit (.int .i64 1), .lit (.int .i64 1), .lit (.int .i64 2), .lit (.int .i64 2), .lit (.int .i64 3), .lit (.int .i64 3), .lit (.int .i64 4), .lit (.int .i64 4), .lit (.int .i64 5), .lit (.int .i64 5), .lit (.int .i64 6), .lit (.int .i64 6), .lit (.int .i64 7), .lit (.int .i64 7), .lit (.int .i64 8), .lit (.int .i64 8), .lit (.int .i64 9), .lit (.int .i64 9), .lit (.int .i64 10), .lit (.int .i64 10), .lit (.int .i64 11), .lit (.int .i64 11), .lit (.int .i64 12), .lit (.int .i64 12), .lit (.int .i64 13), .lit (.int .i64 13)]
def laid_winkle_inflate_lengthsOrder {H : Type} : DataW H := .agg [.lit (.int .i64 16), .lit (.int .i64 17), .lit (.int .i64 18), .lit (.int .i64 0), .lit (.int .i64 8), .lit (.int .i64 7), .lit (.int .i64 9), .lit (.int .i64 6), .lit (.int .i64 10), .lit (.int .i64 5), .lit (.int .i64 11), .lit (.int .i64 4), .lit (.int .i64 12), .lit (.int .i64 3), .lit (.int .i64 13), .lit (.int .i64 2), .lit (.int .i64 14), .lit (.int .i64 1), .lit (.int .i64 15)]
def laid_winkle_zip_signs {H : Type} : DataW H := .agg [.agg [.lit (.int .u8 80), .lit (.int .u8 75), .lit (.int .u8 3), .lit (.int .u8 4)], .agg [.lit (.int .u8 80), .lit (.int .u8 75), .lit (.int .u8 1), .lit (.int .u8 2)], .agg [.lit (.int .u8 80), .lit (.int .u8 75), .lit (.int .u8 5), .lit (.int .u8 6)], .agg [.lit (.int .u8 80), .lit (.int .u8 75), .lit (.int .u8 6), .lit (.int .u8 6)], .agg [.lit (.int .u8 80), .lit (.int .u8 75), .lit (.int .u8 6), .lit (.int .u8 7)]]

/-- 'winklelaw21.TreeChecks': WHATEVER THE INPUT: true; the input reads as it did. -/
def treeChecksSpec : ChangeSpec := { name := "treeChecks", fn := fun _ => fun
  | [d] => { results := [.lit (.bool true)], args := [d] }
  | _ => none }
def treeChecksRow : OpenClaim := { program := "ytfobiikidbffgaagreatdoor", sum := "6bbe3de2f1e793bf97e750bb7227a3e7db6463483eb9e60d0d791e603ed83cc5", func := "winkle/winklelaw21.TreeChecks", spec := "treeChecks", inPlace := ["internal/bytealg.IndexByteString", "math/bits.Add64"], unfollowed := true, recurses := true, named := ["winkle/inflate.moreLength", "winkle/inflate.leastLength", "winkle/inflate.moreBack", "winkle/inflate.leastBack", "winkle/inflate.lengthsOrder", "winkle/crc.quarter", "winkle/zip.signs"], plainKeys := false, apart := false, laid := [("winkle/crc.quarter", laid_winkle_crc_quarter), ("winkle/inflate.leastLength", laid_winkle_inflate_leastLength), ("winkle/inflate.moreLength", laid_winkle_inflate_moreLength), ("winkle/inflate.leastBack", laid_winkle_inflate_leastBack), ("winkle/inflate.moreBack", laid_winkle_inflate_moreBack), ("winkle/inflate.lengthsOrder", laid_winkle_inflate_lengthsOrder), ("winkle/zip.signs", laid_winkle_zip_signs)] }
def TreeChecksSaid : Prop := treeChecksRow.holds Tryz.pinned (OpenSpec.ofChange treeChecksSpec)

/-- ITS FALSE NEIGHBOUR: 'it returns false'. Refute it at one input. -/
def treeChecksWrong : ChangeSpec := { name := "treeChecks", fn := fun _ => fun
  | [d] => { results := [.lit (.bool false)], args := [d] }
  | _ => none }
def TreeChecksWrongFalsely : Prop := treeChecksRow.holds Tryz.pinned (OpenSpec.ofChange treeChecksWrong)

/-- 'winklelaw21.TreeBounds': WHATEVER THE INPUT: true; the input reads as it did. -/
def treeBoundsSpec : ChangeSpec := { name := "treeBounds", fn := fun _ => fun
  | [d1, d2] => { results := [.lit (.bool true)], args := [d1, d2] }
  | _ => none }
def treeBoundsRow : OpenClaim := { program := "ytfobiikidbffgaagreatdoor", sum := "6bbe3de2f1e793bf97e750bb7227a3e7db6463483eb9e60d0d791e603ed83cc5", func := "winkle/winklelaw21.TreeBounds", spec := "treeBounds", inPlace := ["internal/bytealg.IndexByteString", "math/bits.Add64"], unfollowed := true, recurses := true, named := ["winkle/inflate.moreLength", "winkle/inflate.leastLength", "winkle/inflate.moreBack", "winkle/inflate.leastBack", "winkle/inflate.lengthsOrder", "winkle/crc.quarter", "winkle/zip.signs"], plainKeys := false, apart := false, laid := [("winkle/crc.quarter", laid_winkle_crc_quarter), ("winkle/inflate.leastLength", laid_winkle_inflate_leastLength), ("winkle/inflate.moreLength", laid_winkle_inflate_moreLength), ("winkle/inflate.leastBack", laid_winkle_inflate_leastBack), ("winkle/inflate.moreBack", laid_winkle_inflate_moreBack), ("winkle/inflate.lengthsOrder", laid_winkle_inflate_lengthsOrder), ("winkle/zip.signs", laid_winkle_zip_signs)] }
def TreeBoundsSaid : Prop := treeBoundsRow.holds Tryz.pinned (OpenSpec.ofChange treeBoundsSpec)

/-- ITS FALSE NEIGHBOUR: 'it returns false'. Refute it at one input. -/
def treeBoundsWrong : ChangeSpec := { name := "treeBounds", fn := fun _ => fun
  | [d1, d2] => { results := [.lit (.bool false)], args := [d1, d2] }
  | _ => none }
def TreeBoundsWrongFalsely : Prop := treeBoundsRow.holds Tryz.pinned (OpenSpec.ofChange treeBoundsWrong)

/-- 'winklelaw21.TreeBegins': WHATEVER THE INPUT: true; the input reads as it did. -/
def treeBeginsSpec : ChangeSpec := { name := "treeBegins", fn := fun _ => fun
  | [d1, d2, d3] => { results := [.lit (.bool true)], args := [d1, d2, d3] }
  | _ => none }
def treeBeginsRow : OpenClaim := { program := "ytfobiikidbffgaagreatdoor", sum := "6bbe3de2f1e793bf97e750bb7227a3e7db6463483eb9e60d0d791e603ed83cc5", func := "winkle/winklelaw21.TreeBegins", spec := "treeBegins", inPlace := ["internal/bytealg.IndexByteString", "math/bits.Add64"], unfollowed := true, recurses := true, named := ["winkle/inflate.moreLength", "winkle/inflate.leastLength", "winkle/inflate.moreBack", "winkle/inflate.leastBack", "winkle/inflate.lengthsOrder", "winkle/crc.quarter", "winkle/zip.signs"], plainKeys := false, apart := false, laid := [("winkle/crc.quarter", laid_winkle_crc_quarter), ("winkle/inflate.leastLength", laid_winkle_inflate_leastLength), ("winkle/inflate.moreLength", laid_winkle_inflate_moreLength), ("winkle/inflate.leastBack", laid_winkle_inflate_leastBack), ("winkle/inflate.moreBack", laid_winkle_inflate_moreBack), ("winkle/inflate.lengthsOrder", laid_winkle_inflate_lengthsOrder), ("winkle/zip.signs", laid_winkle_zip_signs)] }
def TreeBeginsSaid : Prop := treeBeginsRow.holds Tryz.pinned (OpenSpec.ofChange treeBeginsSpec)

/-- ITS FALSE NEIGHBOUR: 'it returns false'. Refute it at one input. -/
def treeBeginsWrong : ChangeSpec := { name := "treeBegins", fn := fun _ => fun
  | [d1, d2, d3] => { results := [.lit (.bool false)], args := [d1, d2, d3] }
  | _ => none }
def TreeBeginsWrongFalsely : Prop := treeBeginsRow.holds Tryz.pinned (OpenSpec.ofChange treeBeginsWrong)

/-- 'winklelaw21.TreeLimits': WHATEVER THE INPUT: true; the input reads as it did. -/
def treeLimitsSpec : ChangeSpec := { name := "treeLimits", fn := fun _ => fun
  | [d1, d2, d3] => { results := [.lit (.bool true)], args := [d1, d2, d3] }
  | _ => none }
def treeLimitsRow : OpenClaim := { program := "ytfobiikidbffgaagreatdoor", sum := "6bbe3de2f1e793bf97e750bb7227a3e7db6463483eb9e60d0d791e603ed83cc5", func := "winkle/winklelaw21.TreeLimits", spec := "treeLimits", inPlace := ["internal/bytealg.IndexByteString", "math/bits.Add64"], unfollowed := true, recurses := true, named := ["winkle/inflate.moreLength", "winkle/inflate.leastLength", "winkle/inflate.moreBack", "winkle/inflate.leastBack", "winkle/inflate.lengthsOrder", "winkle/crc.quarter", "winkle/zip.signs"], plainKeys := false, apart := false, laid := [("winkle/crc.quarter", laid_winkle_crc_quarter), ("winkle/inflate.leastLength", laid_winkle_inflate_leastLength), ("winkle/inflate.moreLength", laid_winkle_inflate_moreLength), ("winkle/inflate.leastBack", laid_winkle_inflate_leastBack), ("winkle/inflate.moreBack", laid_winkle_inflate_moreBack), ("winkle/inflate.lengthsOrder", laid_winkle_inflate_lengthsOrder), ("winkle/zip.signs", laid_winkle_zip_signs)] }
def TreeLimitsSaid : Prop := treeLimitsRow.holds Tryz.pinned (OpenSpec.ofChange treeLimitsSpec)

/-- ITS FALSE NEIGHBOUR: 'it returns false'. Refute it at one input. -/
def treeLimitsWrong : ChangeSpec := { name := "treeLimits", fn := fun _ => fun
  | [d1, d2, d3] => { results := [.lit (.bool false)], args := [d1, d2, d3] }
  | _ => none }
def TreeLimitsWrongFalsely : Prop := treeLimitsRow.holds Tryz.pinned (OpenSpec.ofChange treeLimitsWrong)

/-- 'winklelaw21.TreeNobody': WHATEVER THE INPUT: true; the input reads as it did. -/
def treeNobodySpec : ChangeSpec := { name := "treeNobody", fn := fun _ => fun
  | [d] => { results := [.lit (.bool true)], args := [d] }
  | _ => none }
def treeNobodyRow : OpenClaim := { program := "ytfobiikidbffgaagreatdoor", sum := "6bbe3de2f1e793bf97e750bb7227a3e7db6463483eb9e60d0d791e603ed83cc5", func := "winkle/winklelaw21.TreeNobody", spec := "treeNobody", inPlace := ["internal/bytealg.IndexByteString", "math/bits.Add64"], unfollowed := true, recurses := true, named := ["winkle/inflate.moreLength", "winkle/inflate.leastLength", "winkle/inflate.moreBack", "winkle/inflate.leastBack", "winkle/inflate.lengthsOrder", "winkle/crc.quarter", "winkle/zip.signs"], plainKeys := false, apart := false, laid := [("winkle/crc.quarter", laid_winkle_crc_quarter), ("winkle/inflate.leastLength", laid_winkle_inflate_leastLength), ("winkle/inflate.moreLength", laid_winkle_inflate_moreLength), ("winkle/inflate.leastBack", laid_winkle_inflate_leastBack), ("winkle/inflate.moreBack", laid_winkle_inflate_moreBack), ("winkle/inflate.lengthsOrder", laid_winkle_inflate_lengthsOrder), ("winkle/zip.signs", laid_winkle_zip_signs)] }
def TreeNobodySaid : Prop := treeNobodyRow.holds Tryz.pinned (OpenSpec.ofChange treeNobodySpec)

/-- ITS FALSE NEIGHBOUR: 'it returns false'. Refute it at one input. -/
def treeNobodyWrong : ChangeSpec := { name := "treeNobody", fn := fun _ => fun
  | [d] => { results := [.lit (.bool false)], args := [d] }
  | _ => none }
def TreeNobodyWrongFalsely : Prop := treeNobodyRow.holds Tryz.pinned (OpenSpec.ofChange treeNobodyWrong)

/-- 'winklelaw21.TreeStands': WHATEVER THE INPUT: true; the input reads as it did. -/
def treeStandsSpec : ChangeSpec := { name := "treeStands", fn := fun _ => fun
  | [d1, d2] => { results := [.lit (.bool true)], args := [d1, d2] }
  | _ => none }
def treeStandsRow : OpenClaim := { program := "ytfobiikidbffgaagreatdoor", sum := "6bbe3de2f1e793bf97e750bb7227a3e7db6463483eb9e60d0d791e603ed83cc5", func := "winkle/winklelaw21.TreeStands", spec := "treeStands", inPlace := ["internal/bytealg.IndexByteString", "math/bits.Add64"], unfollowed := true, recurses := true, named := ["winkle/inflate.moreLength", "winkle/inflate.leastLength", "winkle/inflate.moreBack", "winkle/inflate.leastBack", "winkle/inflate.lengthsOrder", "winkle/crc.quarter", "winkle/zip.signs"], plainKeys := false, apart := false, laid := [("winkle/crc.quarter", laid_winkle_crc_quarter), ("winkle/inflate.leastLength", laid_winkle_inflate_leastLength), ("winkle/inflate.moreLength", laid_winkle_inflate_moreLength), ("winkle/inflate.leastBack", laid_winkle_inflate_leastBack), ("winkle/inflate.moreBack", laid_winkle_inflate_moreBack), ("winkle/inflate.lengthsOrder", laid_winkle_inflate_lengthsOrder), ("winkle/zip.signs", laid_winkle_zip_signs)] }
def TreeStandsSaid : Prop := treeStandsRow.holds Tryz.pinned (OpenSpec.ofChange treeStandsSpec)

/-- ITS FALSE NEIGHBOUR: 'it returns false'. Refute it at one input. -/
def treeStandsWrong : ChangeSpec := { name := "treeStands", fn := fun _ => fun
  | [d1, d2] => { results := [.lit (.bool false)], args := [d1, d2] }
  | _ => none }
def TreeStandsWrongFalsely : Prop := treeStandsRow.holds Tryz.pinned (OpenSpec.ofChange treeStandsWrong)

/- THE SECOND FORM. 'bulk': how many values and letters a reading holds, each counted each time it is reached (what is shared counts as often as it is met; a slice's spare places count too). A statement '..UptoSaid' is the law's where the arguments, and the package variables that the reading takes, are together of bulk at most 1048576: NARROWER than '..Said'. Prove '..Said' where nothing that the law and all that it calls make is longer than what came in: it says more and counts as full. Else prove '..UptoSaid'. A law counts once. -/
mutual
def uptoBulk {H : Type} : DataW H → Nat
  | .lit (.string bytes) => bytes.length + 1
  | .lit _ => 1
  | .nil => 1
  | .ptr d => uptoBulk d + 1
  | .slice elems spare => uptoBulkAll elems + uptoBulkAll spare + 1
  | .agg parts => uptoBulkAll parts + 1
  | .iface _ d => uptoBulk d + 1
  | .map entries => uptoBulkEntries entries + 1
  | .held _ => 1
def uptoBulkAll {H : Type} : List (DataW H) → Nat
  | [] => 0
  | d :: r => uptoBulk d + uptoBulkAll r
def uptoBulkEntries {H : Type} : List (Lit × DataW H) → Nat
  | [] => 0
  | x :: r => uptoBulkEntry x + uptoBulkEntries r
def uptoBulkEntry {H : Type} : Lit × DataW H → Nat
  | (.string bytes, d) => bytes.length + uptoBulk d + 1
  | (_, d) => uptoBulk d + 1
 end
def uptoSmall : (H : Type) → List (DataW H) → Bool := fun _ ds => decide (uptoBulkAll ds ≤ 1048576)
def OpenSpec.upto (s : _root_.Go.ChangeSpec) : _root_.Go.OpenSpec := { _root_.Go.OpenSpec.ofChange s with cond := some uptoSmall }

/-- 'winklelaw21.TreeChecks', WHERE WHAT IT READS IS OF BULK AT MOST 1048576: true; the input reads as it did. -/
def treeChecksUptoRow : OpenClaim := { program := "ytfobiikidbffgaagreatdoor", sum := "6bbe3de2f1e793bf97e750bb7227a3e7db6463483eb9e60d0d791e603ed83cc5", func := "winkle/winklelaw21.TreeChecks", spec := "treeChecks", inPlace := ["internal/bytealg.IndexByteString", "math/bits.Add64"], unfollowed := true, recurses := true, named := ["winkle/inflate.moreLength", "winkle/inflate.leastLength", "winkle/inflate.moreBack", "winkle/inflate.leastBack", "winkle/inflate.lengthsOrder", "winkle/crc.quarter", "winkle/zip.signs"], plainKeys := false, apart := false, laid := [("winkle/crc.quarter", laid_winkle_crc_quarter), ("winkle/inflate.leastLength", laid_winkle_inflate_leastLength), ("winkle/inflate.moreLength", laid_winkle_inflate_moreLength), ("winkle/inflate.leastBack", laid_winkle_inflate_leastBack), ("winkle/inflate.moreBack", laid_winkle_inflate_moreBack), ("winkle/inflate.lengthsOrder", laid_winkle_inflate_lengthsOrder), ("winkle/zip.signs", laid_winkle_zip_signs)], narrowed := true }
def TreeChecksUptoSaid : Prop := treeChecksUptoRow.holds Tryz.pinned (OpenSpec.upto treeChecksSpec)

/-- 'winklelaw21.TreeBounds', WHERE WHAT IT READS IS OF BULK AT MOST 1048576: true; the input reads as it did. -/
def treeBoundsUptoRow : OpenClaim := { program := "ytfobiikidbffgaagreatdoor", sum := "6bbe3de2f1e793bf97e750bb7227a3e7db6463483eb9e60d0d791e603ed83cc5", func := "winkle/winklelaw21.TreeBounds", spec := "treeBounds", inPlace := ["internal/bytealg.IndexByteString", "math/bits.Add64"], unfollowed := true, recurses := true, named := ["winkle/inflate.moreLength", "winkle/inflate.leastLength", "winkle/inflate.moreBack", "winkle/inflate.leastBack", "winkle/inflate.lengthsOrder", "winkle/crc.quarter", "winkle/zip.signs"], plainKeys := false, apart := false, laid := [("winkle/crc.quarter", laid_winkle_crc_quarter), ("winkle/inflate.leastLength", laid_winkle_inflate_leastLength), ("winkle/inflate.moreLength", laid_winkle_inflate_moreLength), ("winkle/inflate.leastBack", laid_winkle_inflate_leastBack), ("winkle/inflate.moreBack", laid_winkle_inflate_moreBack), ("winkle/inflate.lengthsOrder", laid_winkle_inflate_lengthsOrder), ("winkle/zip.signs", laid_winkle_zip_signs)], narrowed := true }
def TreeBoundsUptoSaid : Prop := treeBoundsUptoRow.holds Tryz.pinned (OpenSpec.upto treeBoundsSpec)

/-- 'winklelaw21.TreeBegins', WHERE WHAT IT READS IS OF BULK AT MOST 1048576: true; the input reads as it did. -/
def treeBeginsUptoRow : OpenClaim := { program := "ytfobiikidbffgaagreatdoor", sum := "6bbe3de2f1e793bf97e750bb7227a3e7db6463483eb9e60d0d791e603ed83cc5", func := "winkle/winklelaw21.TreeBegins", spec := "treeBegins", inPlace := ["internal/bytealg.IndexByteString", "math/bits.Add64"], unfollowed := true, recurses := true, named := ["winkle/inflate.moreLength", "winkle/inflate.leastLength", "winkle/inflate.moreBack", "winkle/inflate.leastBack", "winkle/inflate.lengthsOrder", "winkle/crc.quarter", "winkle/zip.signs"], plainKeys := false, apart := false, laid := [("winkle/crc.quarter", laid_winkle_crc_quarter), ("winkle/inflate.leastLength", laid_winkle_inflate_leastLength), ("winkle/inflate.moreLength", laid_winkle_inflate_moreLength), ("winkle/inflate.leastBack", laid_winkle_inflate_leastBack), ("winkle/inflate.moreBack", laid_winkle_inflate_moreBack), ("winkle/inflate.lengthsOrder", laid_winkle_inflate_lengthsOrder), ("winkle/zip.signs", laid_winkle_zip_signs)], narrowed := true }
def TreeBeginsUptoSaid : Prop := treeBeginsUptoRow.holds Tryz.pinned (OpenSpec.upto treeBeginsSpec)

/-- 'winklelaw21.TreeLimits', WHERE WHAT IT READS IS OF BULK AT MOST 1048576: true; the input reads as it did. -/
def treeLimitsUptoRow : OpenClaim := { program := "ytfobiikidbffgaagreatdoor", sum := "6bbe3de2f1e793bf97e750bb7227a3e7db6463483eb9e60d0d791e603ed83cc5", func := "winkle/winklelaw21.TreeLimits", spec := "treeLimits", inPlace := ["internal/bytealg.IndexByteString", "math/bits.Add64"], unfollowed := true, recurses := true, named := ["winkle/inflate.moreLength", "winkle/inflate.leastLength", "winkle/inflate.moreBack", "winkle/inflate.leastBack", "winkle/inflate.lengthsOrder", "winkle/crc.quarter", "winkle/zip.signs"], plainKeys := false, apart := false, laid := [("winkle/crc.quarter", laid_winkle_crc_quarter), ("winkle/inflate.leastLength", laid_winkle_inflate_leastLength), ("winkle/inflate.moreLength", laid_winkle_inflate_moreLength), ("winkle/inflate.leastBack", laid_winkle_inflate_leastBack), ("winkle/inflate.moreBack", laid_winkle_inflate_moreBack), ("winkle/inflate.lengthsOrder", laid_winkle_inflate_lengthsOrder), ("winkle/zip.signs", laid_winkle_zip_signs)], narrowed := true }
def TreeLimitsUptoSaid : Prop := treeLimitsUptoRow.holds Tryz.pinned (OpenSpec.upto treeLimitsSpec)

/-- 'winklelaw21.TreeNobody', WHERE WHAT IT READS IS OF BULK AT MOST 1048576: true; the input reads as it did. -/
def treeNobodyUptoRow : OpenClaim := { program := "ytfobiikidbffgaagreatdoor", sum := "6bbe3de2f1e793bf97e750bb7227a3e7db6463483eb9e60d0d791e603ed83cc5", func := "winkle/winklelaw21.TreeNobody", spec := "treeNobody", inPlace := ["internal/bytealg.IndexByteString", "math/bits.Add64"], unfollowed := true, recurses := true, named := ["winkle/inflate.moreLength", "winkle/inflate.leastLength", "winkle/inflate.moreBack", "winkle/inflate.leastBack", "winkle/inflate.lengthsOrder", "winkle/crc.quarter", "winkle/zip.signs"], plainKeys := false, apart := false, laid := [("winkle/crc.quarter", laid_winkle_crc_quarter), ("winkle/inflate.leastLength", laid_winkle_inflate_leastLength), ("winkle/inflate.moreLength", laid_winkle_inflate_moreLength), ("winkle/inflate.leastBack", laid_winkle_inflate_leastBack), ("winkle/inflate.moreBack", laid_winkle_inflate_moreBack), ("winkle/inflate.lengthsOrder", laid_winkle_inflate_lengthsOrder), ("winkle/zip.signs", laid_winkle_zip_signs)], narrowed := true }
def TreeNobodyUptoSaid : Prop := treeNobodyUptoRow.holds Tryz.pinned (OpenSpec.upto treeNobodySpec)

/-- 'winklelaw21.TreeStands', WHERE WHAT IT READS IS OF BULK AT MOST 1048576: true; the input reads as it did. -/
def treeStandsUptoRow : OpenClaim := { program := "ytfobiikidbffgaagreatdoor", sum := "6bbe3de2f1e793bf97e750bb7227a3e7db6463483eb9e60d0d791e603ed83cc5", func := "winkle/winklelaw21.TreeStands", spec := "treeStands", inPlace := ["internal/bytealg.IndexByteString", "math/bits.Add64"], unfollowed := true, recurses := true, named := ["winkle/inflate.moreLength", "winkle/inflate.leastLength", "winkle/inflate.moreBack", "winkle/inflate.leastBack", "winkle/inflate.lengthsOrder", "winkle/crc.quarter", "winkle/zip.signs"], plainKeys := false, apart := false, laid := [("winkle/crc.quarter", laid_winkle_crc_quarter), ("winkle/inflate.leastLength", laid_winkle_inflate_leastLength), ("winkle/inflate.moreLength", laid_winkle_inflate_moreLength), ("winkle/inflate.leastBack", laid_winkle_inflate_leastBack), ("winkle/inflate.moreBack", laid_winkle_inflate_moreBack), ("winkle/inflate.lengthsOrder", laid_winkle_inflate_lengthsOrder), ("winkle/zip.signs", laid_winkle_zip_signs)], narrowed := true }
def TreeStandsUptoSaid : Prop := treeStandsUptoRow.holds Tryz.pinned (OpenSpec.upto treeStandsSpec)

end Rows
end Go.Proofs.YtfobiikidbffgaaGreatDoor
