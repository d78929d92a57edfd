/-
  NARROWER THAN 'FOR EVERY INPUT', by the rows' own cells (each row's printed sentence says how): MeanCounts: laid · MeanTrees: laid · ForestCounts: laid.
  DERIVED. THE GIVEN ROWS OF THIS SEAT. 3 by the template 'for every input the law returns true; each argument reads behind the call as it read before'; 0 by the template 'total and deterministic' (their statements: YtfcihnpmeabacaaGreatDoorTotals.lean).
  GIVEN WITH THE SEED: the statements are not yours to turn. If you find one false, say at which input.
  Laid BY PROGRAM, IN A SANDBOX (cutbox-rows.mjs): the forced cells as the released guide's own fill.sh prints them over the translation 3795c54c68c015b8… (all of the seat's roots in one cut). By AI agents, Wed Nov 11 2026. No macro, syntax, notation, axiom, sorry.
-/
import Derived.Test.YtfcihnpmeabacaaGreatDoorChecked
import GoSem.Claim
import GoSem.ClaimJoined
import GoSem.ClaimMapViews
import Derived.JoinedTies
import Derived.KernelRfl
namespace Go.Proofs.YtfcihnpmeabacaaGreatDoor
/- THE CELL 'sum', in the pinned program and in every row, IS THE sha256 OF THE DUMP (.gsa) THAT YtfcihnpmeabacaaGreatDoorProg.lean LOADS. Nothing in Lean hashes anything: it is a label: what it is worth is what the hold of that sum in a sandbox is worth. -/
noncomputable def Tryz.pinned : Pinned := { name := "ytfcihnpmeabacaagreatdoor", sum := "3795c54c68c015b84e05abf011fd7e0b02737b4b3ea9bf47436286090e661d53", checked := Tryz.checked }
namespace Rows
def none {H : Type} : Left H := { results := [], args := [] }

/- WHAT THE LISTED PACKAGE-LEVEL VARIABLES READ AS WHEN THE CALL BEGINS. Each datum BY PROGRAM (the guide's laid-datum.mjs) off the statement by which the dump's own 'gosem.cut.vars' lays the variable. In a bare row this is a premise. The card (YtfcihnpmeabacaaGreatDoorCards.lean) ties it to the program's text. -/
def laid_math_bits_deBruijn32tab {H : Type} : DataW H := .agg [.lit (.int .u8 0), .lit (.int .u8 1), .lit (.int .u8 28), .lit (.int .u8 2), .lit (.int .u8 29), .lit (.int .u8 14), .lit (.int .u8 24), .lit (.int .u8 3), .lit (.int .u8 30), .lit (.int .u8 22), .lit (.int .u8 20), .lit (.int .u8 15), .lit (.int .u8 25), .lit (.int .u8 17), .lit (.int .u8 4), .lit (.int .u8 8), .lit (.int .u8 31), .lit (.int .u8 27), .lit (.int .u8 13), .lit (.int .u8 23), .lit (.int .u8 21), .lit (.int .u8 19), .lit (.int .u8 16), .lit (.int .u8 7), .lit (.int .u8 26), .lit (.int .u8 12), .lit (.int .u8 18), .lit (.int .u8 6), .lit (.int .u8 11), .lit (.int .u8 5), .lit (.int .u8 10), .lit (.int .u8 9)]

/-- 'parllaw3.MeanCounts': WHATEVER THE INPUT: true; the input reads as it did. -/
def meanCountsSpec : ChangeSpec := { name := "meanCounts", fn := fun _ => fun
  | [d1, d2, d3] => { results := [.lit (.bool true)], args := [d1, d2, d3] }
  | _ => none }
def meanCountsRow : OpenClaim := { program := "ytfcihnpmeabacaagreatdoor", sum := "3795c54c68c015b84e05abf011fd7e0b02737b4b3ea9bf47436286090e661d53", func := "parlance/parllaw3.MeanCounts", spec := "meanCounts", unfollowed := true, recurses := true, named := ["math/bits.deBruijn32tab"], plainKeys := false, apart := false, laid := [("math/bits.deBruijn32tab", laid_math_bits_deBruijn32tab)] }
def MeanCountsSaid : Prop := meanCountsRow.holds Tryz.pinned (OpenSpec.ofChange meanCountsSpec)

/-- ITS FALSE NEIGHBOUR: 'it returns false'. Refute it at one input. -/
def meanCountsWrong : ChangeSpec := { name := "meanCounts", fn := fun _ => fun
  | [d1, d2, d3] => { results := [.lit (.bool false)], args := [d1, d2, d3] }
  | _ => none }
def MeanCountsWrongFalsely : Prop := meanCountsRow.holds Tryz.pinned (OpenSpec.ofChange meanCountsWrong)

/-- 'parllaw3.MeanTrees': WHATEVER THE INPUT: true; the input reads as it did. -/
def meanTreesSpec : ChangeSpec := { name := "meanTrees", fn := fun _ => fun
  | [d1, d2, d3, d4] => { results := [.lit (.bool true)], args := [d1, d2, d3, d4] }
  | _ => none }
def meanTreesRow : OpenClaim := { program := "ytfcihnpmeabacaagreatdoor", sum := "3795c54c68c015b84e05abf011fd7e0b02737b4b3ea9bf47436286090e661d53", func := "parlance/parllaw3.MeanTrees", spec := "meanTrees", unfollowed := true, recurses := true, named := ["math/bits.deBruijn32tab"], plainKeys := false, apart := false, laid := [("math/bits.deBruijn32tab", laid_math_bits_deBruijn32tab)] }
def MeanTreesSaid : Prop := meanTreesRow.holds Tryz.pinned (OpenSpec.ofChange meanTreesSpec)

/-- ITS FALSE NEIGHBOUR: 'it returns false'. Refute it at one input. -/
def meanTreesWrong : ChangeSpec := { name := "meanTrees", fn := fun _ => fun
  | [d1, d2, d3, d4] => { results := [.lit (.bool false)], args := [d1, d2, d3, d4] }
  | _ => none }
def MeanTreesWrongFalsely : Prop := meanTreesRow.holds Tryz.pinned (OpenSpec.ofChange meanTreesWrong)

/-- 'parllaw3.ForestCounts': WHATEVER THE INPUT: true; the input reads as it did. -/
def forestCountsSpec : ChangeSpec := { name := "forestCounts", fn := fun _ => fun
  | [d1, d2, d3, d4, d5, d6] => { results := [.lit (.bool true)], args := [d1, d2, d3, d4, d5, d6] }
  | _ => none }
def forestCountsRow : OpenClaim := { program := "ytfcihnpmeabacaagreatdoor", sum := "3795c54c68c015b84e05abf011fd7e0b02737b4b3ea9bf47436286090e661d53", func := "parlance/parllaw3.ForestCounts", spec := "forestCounts", unfollowed := true, recurses := true, named := ["math/bits.deBruijn32tab"], plainKeys := false, apart := false, laid := [("math/bits.deBruijn32tab", laid_math_bits_deBruijn32tab)] }
def ForestCountsSaid : Prop := forestCountsRow.holds Tryz.pinned (OpenSpec.ofChange forestCountsSpec)

/-- ITS FALSE NEIGHBOUR: 'it returns false'. Refute it at one input. -/
def forestCountsWrong : ChangeSpec := { name := "forestCounts", fn := fun _ => fun
  | [d1, d2, d3, d4, d5, d6] => { results := [.lit (.bool false)], args := [d1, d2, d3, d4, d5, d6] }
  | _ => none }
def ForestCountsWrongFalsely : Prop := forestCountsRow.holds Tryz.pinned (OpenSpec.ofChange forestCountsWrong)

/- THE SECOND FORM. 'bulk': how many values and letters a reading holds, each counted each time it is reached (what is shared counts as often as it is met; a slice's spare places count too). A statement '..UptoSaid' is the law's where the arguments, and the package variables that the reading takes, are together of bulk at most 1048576: NARROWER than '..Said'. Prove '..Said' where nothing that the law and all that it calls make is longer than what came in: it says more and counts as full. Else prove '..UptoSaid'. A law counts once. -/
mutual
def uptoBulk {H : Type} : DataW H → Nat
  | .lit (.string bytes) => bytes.length + 1
  | .lit _ => 1
  | .nil => 1
  | .ptr d => uptoBulk d + 1
  | .slice elems spare => uptoBulkAll elems + uptoBulkAll spare + 1
  | .agg parts => uptoBulkAll parts + 1
  | .iface _ d => uptoBulk d + 1
  | .map entries => uptoBulkEntries entries + 1
  | .held _ => 1
def uptoBulkAll {H : Type} : List (DataW H) → Nat
  | [] => 0
  | d :: r => uptoBulk d + uptoBulkAll r
def uptoBulkEntries {H : Type} : List (Lit × DataW H) → Nat
  | [] => 0
  | x :: r => uptoBulkEntry x + uptoBulkEntries r
def uptoBulkEntry {H : Type} : Lit × DataW H → Nat
  | (.string bytes, d) => bytes.length + uptoBulk d + 1
  | (_, d) => uptoBulk d + 1
 end
def uptoSmall : (H : Type) → List (DataW H) → Bool := fun _ ds => decide (uptoBulkAll ds ≤ 1048576)
def OpenSpec.upto (s : _root_.Go.ChangeSpec) : _root_.Go.OpenSpec := { _root_.Go.OpenSpec.ofChange s with cond := some uptoSmall }

/-- 'parllaw3.MeanCounts', WHERE WHAT IT READS IS OF BULK AT MOST 1048576: true; the input reads as it did. -/
def meanCountsUptoRow : OpenClaim := { program := "ytfcihnpmeabacaagreatdoor", sum := "3795c54c68c015b84e05abf011fd7e0b02737b4b3ea9bf47436286090e661d53", func := "parlance/parllaw3.MeanCounts", spec := "meanCounts", unfollowed := true, recurses := true, named := ["math/bits.deBruijn32tab"], plainKeys := false, apart := false, laid := [("math/bits.deBruijn32tab", laid_math_bits_deBruijn32tab)], narrowed := true }
def MeanCountsUptoSaid : Prop := meanCountsUptoRow.holds Tryz.pinned (OpenSpec.upto meanCountsSpec)

/-- 'parllaw3.MeanTrees', WHERE WHAT IT READS IS OF BULK AT MOST 1048576: true; the input reads as it did. -/
def meanTreesUptoRow : OpenClaim := { program := "ytfcihnpmeabacaagreatdoor", sum := "3795c54c68c015b84e05abf011fd7e0b02737b4b3ea9bf47436286090e661d53", func := "parlance/parllaw3.MeanTrees", spec := "meanTrees", unfollowed := true, recurses := true, named := ["math/bits.deBruijn32tab"], plainKeys := false, apart := false, laid := [("math/bits.deBruijn32tab", laid_math_bits_deBruijn32tab)], narrowed := true }
def MeanTreesUptoSaid : Prop := meanTreesUptoRow.holds Tryz.pinned (OpenSpec.upto meanTreesSpec)

/-- 'parllaw3.ForestCounts', WHERE WHAT IT READS IS OF BULK AT MOST 1048576: true; the input reads as it did. -/
def forestCountsUptoRow : OpenClaim := { program := "ytfcihnpmeabacaagreatdoor", sum := "3795c54c68c015b84e05abf011fd7e0b02737b4b3ea9bf47436286090e661d53", func := "parlance/parllaw3.ForestCounts", spec := "forestCounts", unfollowed := true, recurses := true, named := ["math/bits.deBruijn32tab"], plainKeys := false, apart := false, laid := [("math/bits.deBruijn32tab", laid_math_bits_deBruijn32tab)], narrowed := true }
def ForestCountsUptoSaid : Prop := forestCountsUptoRow.holds Tryz.pinned (OpenSpec.upto forestCountsSpec)

end Rows
end Go.Proofs.YtfcihnpmeabacaaGreatDoor
