/-
  No cell of these rows narrows 'for every input' (looked for: loops, veiled, ifaces, maps, wideKeys, modest, calm, conditions, laid).
  DERIVED. THE GIVEN ROWS OF THIS SEAT. 8 by the template 'for every input the law returns true; each argument reads behind the call as it read before'; 0 by the template 'total and deterministic' (their statements: YtdccgeiniockpaaTotals.lean).
  GIVEN WITH THE SEED: the statements are not yours to turn. If you find one false, say at which input.
  Laid BY PROGRAM, IN A SANDBOX (cutbox-rows.mjs): the forced cells as the released guide's own fill.sh prints them over the translation 542d9a84c22d3022… (all of the seat's roots in one cut). By AI agents, Wed Nov 11 2026. No macro, syntax, notation, axiom, sorry.
-/
import Derived.Test.YtdccgeiniockpaaChecked
import GoSem.Claim
import GoSem.ClaimJoined
import GoSem.ClaimMapViews
import Derived.JoinedTies
import Derived.KernelRfl
namespace Go.Proofs.Ytdccgeiniockpaa
/- THE CELL 'sum', in the pinned program and in every row, IS THE sha256 OF THE DUMP (.gsa) THAT YtdccgeiniockpaaProg.lean LOADS. Nothing in Lean hashes anything: it is a label: what it is worth is what the hold of that sum in a sandbox is worth. -/
noncomputable def Try.pinned : Pinned := { name := "ytdccgeiniockpaa", sum := "542d9a84c22d3022c77691c3158027a15270e8bd4cbcf924e399135ec11a0c79", checked := Try.checked }
namespace Rows
def none {H : Type} : Left H := { results := [], args := [] }

/-- 'parlkeep4.EditUndone': WHATEVER THE INPUT: true; the input reads as it did. -/
def editUndoneSpec : ChangeSpec := { name := "editUndone", fn := fun _ => fun
  | [d1, d2] => { results := [.lit (.bool true)], args := [d1, d2] }
  | _ => none }
def editUndoneRow : OpenClaim := { program := "ytdccgeiniockpaa", sum := "542d9a84c22d3022c77691c3158027a15270e8bd4cbcf924e399135ec11a0c79", func := "parlance/parlkeep4.EditUndone", spec := "editUndone", apart := false }
def EditUndoneSaid : Prop := editUndoneRow.holds Try.pinned (OpenSpec.ofChange editUndoneSpec)

/-- ITS FALSE NEIGHBOUR: 'it returns false'. Refute it at one input. -/
def editUndoneWrong : ChangeSpec := { name := "editUndone", fn := fun _ => fun
  | [d1, d2] => { results := [.lit (.bool false)], args := [d1, d2] }
  | _ => none }
def EditUndoneWrongFalsely : Prop := editUndoneRow.holds Try.pinned (OpenSpec.ofChange editUndoneWrong)

/-- 'parlkeep4.TreePutAt': WHATEVER THE INPUT: true; the input reads as it did. -/
def treePutAtSpec : ChangeSpec := { name := "treePutAt", fn := fun _ => fun
  | [d1, d2, d3, d4] => { results := [.lit (.bool true)], args := [d1, d2, d3, d4] }
  | _ => none }
def treePutAtRow : OpenClaim := { program := "ytdccgeiniockpaa", sum := "542d9a84c22d3022c77691c3158027a15270e8bd4cbcf924e399135ec11a0c79", func := "parlance/parlkeep4.TreePutAt", spec := "treePutAt", unfollowed := true, recurses := true, apart := false }
def TreePutAtSaid : Prop := treePutAtRow.holds Try.pinned (OpenSpec.ofChange treePutAtSpec)

/-- ITS FALSE NEIGHBOUR: 'it returns false'. Refute it at one input. -/
def treePutAtWrong : ChangeSpec := { name := "treePutAt", fn := fun _ => fun
  | [d1, d2, d3, d4] => { results := [.lit (.bool false)], args := [d1, d2, d3, d4] }
  | _ => none }
def TreePutAtWrongFalsely : Prop := treePutAtRow.holds Try.pinned (OpenSpec.ofChange treePutAtWrong)

/-- 'parlkeep4.EditComposed': WHATEVER THE INPUT: true; the input reads as it did. -/
def editComposedSpec : ChangeSpec := { name := "editComposed", fn := fun _ => fun
  | [d1, d2, d3, d4] => { results := [.lit (.bool true)], args := [d1, d2, d3, d4] }
  | _ => none }
def editComposedRow : OpenClaim := { program := "ytdccgeiniockpaa", sum := "542d9a84c22d3022c77691c3158027a15270e8bd4cbcf924e399135ec11a0c79", func := "parlance/parlkeep4.EditComposed", spec := "editComposed", apart := false }
def EditComposedSaid : Prop := editComposedRow.holds Try.pinned (OpenSpec.ofChange editComposedSpec)

/-- ITS FALSE NEIGHBOUR: 'it returns false'. Refute it at one input. -/
def editComposedWrong : ChangeSpec := { name := "editComposed", fn := fun _ => fun
  | [d1, d2, d3, d4] => { results := [.lit (.bool false)], args := [d1, d2, d3, d4] }
  | _ => none }
def EditComposedWrongFalsely : Prop := editComposedRow.holds Try.pinned (OpenSpec.ofChange editComposedWrong)

/-- 'parlkeep4.EditDiamond': WHATEVER THE INPUT: true; the input reads as it did. -/
def editDiamondSpec : ChangeSpec := { name := "editDiamond", fn := fun _ => fun
  | [d1, d2, d3] => { results := [.lit (.bool true)], args := [d1, d2, d3] }
  | _ => none }
def editDiamondRow : OpenClaim := { program := "ytdccgeiniockpaa", sum := "542d9a84c22d3022c77691c3158027a15270e8bd4cbcf924e399135ec11a0c79", func := "parlance/parlkeep4.EditDiamond", spec := "editDiamond", apart := false }
def EditDiamondSaid : Prop := editDiamondRow.holds Try.pinned (OpenSpec.ofChange editDiamondSpec)

/-- ITS FALSE NEIGHBOUR: 'it returns false'. Refute it at one input. -/
def editDiamondWrong : ChangeSpec := { name := "editDiamond", fn := fun _ => fun
  | [d1, d2, d3] => { results := [.lit (.bool false)], args := [d1, d2, d3] }
  | _ => none }
def EditDiamondWrongFalsely : Prop := editDiamondRow.holds Try.pinned (OpenSpec.ofChange editDiamondWrong)

/-- 'parlkeep4.RepairRun': WHATEVER THE INPUT: true; the input reads as it did. -/
def repairRunSpec : ChangeSpec := { name := "repairRun", fn := fun _ => fun
  | [d1, d2, d3] => { results := [.lit (.bool true)], args := [d1, d2, d3] }
  | _ => none }
def repairRunRow : OpenClaim := { program := "ytdccgeiniockpaa", sum := "542d9a84c22d3022c77691c3158027a15270e8bd4cbcf924e399135ec11a0c79", func := "parlance/parlkeep4.RepairRun", spec := "repairRun", unfollowed := true, recurses := true, apart := false }
def RepairRunSaid : Prop := repairRunRow.holds Try.pinned (OpenSpec.ofChange repairRunSpec)

/-- ITS FALSE NEIGHBOUR: 'it returns false'. Refute it at one input. -/
def repairRunWrong : ChangeSpec := { name := "repairRun", fn := fun _ => fun
  | [d1, d2, d3] => { results := [.lit (.bool false)], args := [d1, d2, d3] }
  | _ => none }
def RepairRunWrongFalsely : Prop := repairRunRow.holds Try.pinned (OpenSpec.ofChange repairRunWrong)

/-- 'parlkeep4.TreeOrderTotal': WHATEVER THE INPUT: true; the input reads as it did. -/
def treeOrderTotalSpec : ChangeSpec := { name := "treeOrderTotal", fn := fun _ => fun
  | [d1, d2, d3, d4] => { results := [.lit (.bool true)], args := [d1, d2, d3, d4] }
  | _ => none }
def treeOrderTotalRow : OpenClaim := { program := "ytdccgeiniockpaa", sum := "542d9a84c22d3022c77691c3158027a15270e8bd4cbcf924e399135ec11a0c79", func := "parlance/parlkeep4.TreeOrderTotal", spec := "treeOrderTotal", unfollowed := true, recurses := true, apart := false }
def TreeOrderTotalSaid : Prop := treeOrderTotalRow.holds Try.pinned (OpenSpec.ofChange treeOrderTotalSpec)

/-- ITS FALSE NEIGHBOUR: 'it returns false'. Refute it at one input. -/
def treeOrderTotalWrong : ChangeSpec := { name := "treeOrderTotal", fn := fun _ => fun
  | [d1, d2, d3, d4] => { results := [.lit (.bool false)], args := [d1, d2, d3, d4] }
  | _ => none }
def TreeOrderTotalWrongFalsely : Prop := treeOrderTotalRow.holds Try.pinned (OpenSpec.ofChange treeOrderTotalWrong)

/-- 'parlkeep4.TreePlaced': WHATEVER THE INPUT: true; the input reads as it did. -/
def treePlacedSpec : ChangeSpec := { name := "treePlaced", fn := fun _ => fun
  | [d1, d2, d3, d4] => { results := [.lit (.bool true)], args := [d1, d2, d3, d4] }
  | _ => none }
def treePlacedRow : OpenClaim := { program := "ytdccgeiniockpaa", sum := "542d9a84c22d3022c77691c3158027a15270e8bd4cbcf924e399135ec11a0c79", func := "parlance/parlkeep4.TreePlaced", spec := "treePlaced", unfollowed := true, recurses := true, apart := false }
def TreePlacedSaid : Prop := treePlacedRow.holds Try.pinned (OpenSpec.ofChange treePlacedSpec)

/-- ITS FALSE NEIGHBOUR: 'it returns false'. Refute it at one input. -/
def treePlacedWrong : ChangeSpec := { name := "treePlaced", fn := fun _ => fun
  | [d1, d2, d3, d4] => { results := [.lit (.bool false)], args := [d1, d2, d3, d4] }
  | _ => none }
def TreePlacedWrongFalsely : Prop := treePlacedRow.holds Try.pinned (OpenSpec.ofChange treePlacedWrong)

/-- 'parlkeep4.EditLeast': WHATEVER THE INPUT: true; the input reads as it did. -/
def editLeastSpec : ChangeSpec := { name := "editLeast", fn := fun _ => fun
  | [d1, d2, d3] => { results := [.lit (.bool true)], args := [d1, d2, d3] }
  | _ => none }
def editLeastRow : OpenClaim := { program := "ytdccgeiniockpaa", sum := "542d9a84c22d3022c77691c3158027a15270e8bd4cbcf924e399135ec11a0c79", func := "parlance/parlkeep4.EditLeast", spec := "editLeast", unfollowed := true, recurses := true, apart := false }
def EditLeastSaid : Prop := editLeastRow.holds Try.pinned (OpenSpec.ofChange editLeastSpec)

/-- ITS FALSE NEIGHBOUR: 'it returns false'. Refute it at one input. -/
def editLeastWrong : ChangeSpec := { name := "editLeast", fn := fun _ => fun
  | [d1, d2, d3] => { results := [.lit (.bool false)], args := [d1, d2, d3] }
  | _ => none }
def EditLeastWrongFalsely : Prop := editLeastRow.holds Try.pinned (OpenSpec.ofChange editLeastWrong)

/- THE SECOND FORM. 'bulk': how many values and letters a reading holds, each counted each time it is reached (what is shared counts as often as it is met; a slice's spare places count too). A statement '..UptoSaid' is the law's where the arguments, and the package variables that the reading takes, are together of bulk at most 1048576: NARROWER than '..Said'. Prove '..Said' where nothing that the law and all that it calls make is longer than what came in: it says more and counts as full. Else prove '..UptoSaid'. A law counts once. -/
mutual
def uptoBulk {H : Type} : DataW H → Nat
  | .lit (.string bytes) => bytes.length + 1
  | .lit _ => 1
  | .nil => 1
  | .ptr d => uptoBulk d + 1
  | .slice elems spare => uptoBulkAll elems + uptoBulkAll spare + 1
  | .agg parts => uptoBulkAll parts + 1
  | .iface _ d => uptoBulk d + 1
  | .map entries => uptoBulkEntries entries + 1
  | .held _ => 1
def uptoBulkAll {H : Type} : List (DataW H) → Nat
  | [] => 0
  | d :: r => uptoBulk d + uptoBulkAll r
def uptoBulkEntries {H : Type} : List (Lit × DataW H) → Nat
  | [] => 0
  | x :: r => uptoBulkEntry x + uptoBulkEntries r
def uptoBulkEntry {H : Type} : Lit × DataW H → Nat
  | (.string bytes, d) => bytes.length + uptoBulk d + 1
  | (_, d) => uptoBulk d + 1
 end
def uptoSmall : (H : Type) → List (DataW H) → Bool := fun _ ds => decide (uptoBulkAll ds ≤ 1048576)
def OpenSpec.upto (s : _root_.Go.ChangeSpec) : _root_.Go.OpenSpec := { _root_.Go.OpenSpec.ofChange s with cond := some uptoSmall }

/-- 'parlkeep4.EditUndone', WHERE WHAT IT READS IS OF BULK AT MOST 1048576: true; the input reads as it did. -/
def editUndoneUptoRow : OpenClaim := { program := "ytdccgeiniockpaa", sum := "542d9a84c22d3022c77691c3158027a15270e8bd4cbcf924e399135ec11a0c79", func := "parlance/parlkeep4.EditUndone", spec := "editUndone", apart := false, narrowed := true }
def EditUndoneUptoSaid : Prop := editUndoneUptoRow.holds Try.pinned (OpenSpec.upto editUndoneSpec)

/-- 'parlkeep4.TreePutAt', WHERE WHAT IT READS IS OF BULK AT MOST 1048576: true; the input reads as it did. -/
def treePutAtUptoRow : OpenClaim := { program := "ytdccgeiniockpaa", sum := "542d9a84c22d3022c77691c3158027a15270e8bd4cbcf924e399135ec11a0c79", func := "parlance/parlkeep4.TreePutAt", spec := "treePutAt", unfollowed := true, recurses := true, apart := false, narrowed := true }
def TreePutAtUptoSaid : Prop := treePutAtUptoRow.holds Try.pinned (OpenSpec.upto treePutAtSpec)

/-- 'parlkeep4.EditComposed', WHERE WHAT IT READS IS OF BULK AT MOST 1048576: true; the input reads as it did. -/
def editComposedUptoRow : OpenClaim := { program := "ytdccgeiniockpaa", sum := "542d9a84c22d3022c77691c3158027a15270e8bd4cbcf924e399135ec11a0c79", func := "parlance/parlkeep4.EditComposed", spec := "editComposed", apart := false, narrowed := true }
def EditComposedUptoSaid : Prop := editComposedUptoRow.holds Try.pinned (OpenSpec.upto editComposedSpec)

/-- 'parlkeep4.EditDiamond', WHERE WHAT IT READS IS OF BULK AT MOST 1048576: true; the input reads as it did. -/
def editDiamondUptoRow : OpenClaim := { program := "ytdccgeiniockpaa", sum := "542d9a84c22d3022c77691c3158027a15270e8bd4cbcf924e399135ec11a0c79", func := "parlance/parlkeep4.EditDiamond", spec := "editDiamond", apart := false, narrowed := true }
def EditDiamondUptoSaid : Prop := editDiamondUptoRow.holds Try.pinned (OpenSpec.upto editDiamondSpec)

/-- 'parlkeep4.RepairRun', WHERE WHAT IT READS IS OF BULK AT MOST 1048576: true; the input reads as it did. -/
def repairRunUptoRow : OpenClaim := { program := "ytdccgeiniockpaa", sum := "542d9a84c22d3022c77691c3158027a15270e8bd4cbcf924e399135ec11a0c79", func := "parlance/parlkeep4.RepairRun", spec := "repairRun", unfollowed := true, recurses := true, apart := false, narrowed := true }
def RepairRunUptoSaid : Prop := repairRunUptoRow.holds Try.pinned (OpenSpec.upto repairRunSpec)

/-- 'parlkeep4.TreeOrderTotal', WHERE WHAT IT READS IS OF BULK AT MOST 1048576: true; the input reads as it did. -/
def treeOrderTotalUptoRow : OpenClaim := { program := "ytdccgeiniockpaa", sum := "542d9a84c22d3022c77691c3158027a15270e8bd4cbcf924e399135ec11a0c79", func := "parlance/parlkeep4.TreeOrderTotal", spec := "treeOrderTotal", unfollowed := true, recurses := true, apart := false, narrowed := true }
def TreeOrderTotalUptoSaid : Prop := treeOrderTotalUptoRow.holds Try.pinned (OpenSpec.upto treeOrderTotalSpec)

/-- 'parlkeep4.TreePlaced', WHERE WHAT IT READS IS OF BULK AT MOST 1048576: true; the input reads as it did. -/
def treePlacedUptoRow : OpenClaim := { program := "ytdccgeiniockpaa", sum := "542d9a84c22d3022c77691c3158027a15270e8bd4cbcf924e399135ec11a0c79", func := "parlance/parlkeep4.TreePlaced", spec := "treePlaced", unfollowed := true, recurses := true, apart := false, narrowed := true }
def TreePlacedUptoSaid : Prop := treePlacedUptoRow.holds Try.pinned (OpenSpec.upto treePlacedSpec)

/-- 'parlkeep4.EditLeast', WHERE WHAT IT READS IS OF BULK AT MOST 1048576: true; the input reads as it did. -/
def editLeastUptoRow : OpenClaim := { program := "ytdccgeiniockpaa", sum := "542d9a84c22d3022c77691c3158027a15270e8bd4cbcf924e399135ec11a0c79", func := "parlance/parlkeep4.EditLeast", spec := "editLeast", unfollowed := true, recurses := true, apart := false, narrowed := true }
def EditLeastUptoSaid : Prop := editLeastUptoRow.holds Try.pinned (OpenSpec.upto editLeastSpec)

end Rows
end Go.Proofs.Ytdccgeiniockpaa
