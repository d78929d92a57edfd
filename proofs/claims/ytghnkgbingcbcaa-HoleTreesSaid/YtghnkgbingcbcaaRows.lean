/-
  No cell of these rows narrows 'for every input' (looked for: loops, veiled, ifaces, maps, wideKeys, modest, calm, conditions, laid).
  DERIVED. THE GIVEN ROWS OF THIS SEAT. 3 by the template 'for every input the law returns true; each argument reads behind the call as it read before'; 0 by the template 'total and deterministic' (their statements: YtghnkgbingcbcaaTotals.lean).
  GIVEN WITH THE SEED: the statements are not yours to turn. If you find one false, say at which input.
  Laid BY PROGRAM, IN A SANDBOX (cutbox-rows.mjs): the forced cells as the released guide's own fill.sh prints them over the translation cd6e1a158939785b… (all of the seat's roots in one cut). By AI agents, Wed Nov 11 2026. No macro, syntax, notation, axiom, sorry.
-/
import Derived.Test.YtghnkgbingcbcaaChecked
import GoSem.Claim
import GoSem.ClaimJoined
import GoSem.ClaimMapViews
import Derived.JoinedTies
import Derived.KernelRfl
namespace Go.Proofs.Ytghnkgbingcbcaa
/- THE CELL 'sum', in the pinned program and in every row, IS THE sha256 OF THE DUMP (.gsa) THAT YtghnkgbingcbcaaProg.lean LOADS. Nothing in Lean hashes anything: it is a label: what it is worth is what the hold of that sum in a sandbox is worth. -/
noncomputable def Try.pinned : Pinned := { name := "ytghnkgbingcbcaa", sum := "cd6e1a158939785bb8aeef57a15134461e4fd4e54f75c73743380873e85a6c9f", checked := Try.checked }
namespace Rows
def none {H : Type} : Left H := { results := [], args := [] }

/-- 'parlkeep4.RepairNear': WHATEVER THE INPUT: true; the input reads as it did. -/
def repairNearSpec : ChangeSpec := { name := "repairNear", fn := fun _ => fun
  | [d1, d2, d3, d4] => { results := [.lit (.bool true)], args := [d1, d2, d3, d4] }
  | _ => none }
def repairNearRow : OpenClaim := { program := "ytghnkgbingcbcaa", sum := "cd6e1a158939785bb8aeef57a15134461e4fd4e54f75c73743380873e85a6c9f", func := "parlance/parlkeep4.RepairNear", spec := "repairNear", unfollowed := true, recurses := true, apart := false }
def RepairNearSaid : Prop := repairNearRow.holds Try.pinned (OpenSpec.ofChange repairNearSpec)

/-- ITS FALSE NEIGHBOUR: 'it returns false'. Refute it at one input. -/
def repairNearWrong : ChangeSpec := { name := "repairNear", fn := fun _ => fun
  | [d1, d2, d3, d4] => { results := [.lit (.bool false)], args := [d1, d2, d3, d4] }
  | _ => none }
def RepairNearWrongFalsely : Prop := repairNearRow.holds Try.pinned (OpenSpec.ofChange repairNearWrong)

/-- 'parlkeep4.HoleMayFill': WHATEVER THE INPUT: true; the input reads as it did. -/
def holeMayFillSpec : ChangeSpec := { name := "holeMayFill", fn := fun _ => fun
  | [d1, d2, d3] => { results := [.lit (.bool true)], args := [d1, d2, d3] }
  | _ => none }
def holeMayFillRow : OpenClaim := { program := "ytghnkgbingcbcaa", sum := "cd6e1a158939785bb8aeef57a15134461e4fd4e54f75c73743380873e85a6c9f", func := "parlance/parlkeep4.HoleMayFill", spec := "holeMayFill", unfollowed := true, recurses := true, apart := false }
def HoleMayFillSaid : Prop := holeMayFillRow.holds Try.pinned (OpenSpec.ofChange holeMayFillSpec)

/-- ITS FALSE NEIGHBOUR: 'it returns false'. Refute it at one input. -/
def holeMayFillWrong : ChangeSpec := { name := "holeMayFill", fn := fun _ => fun
  | [d1, d2, d3] => { results := [.lit (.bool false)], args := [d1, d2, d3] }
  | _ => none }
def HoleMayFillWrongFalsely : Prop := holeMayFillRow.holds Try.pinned (OpenSpec.ofChange holeMayFillWrong)

/-- 'parlkeep4.HoleTrees': WHATEVER THE INPUT: true; the input reads as it did. -/
def holeTreesSpec : ChangeSpec := { name := "holeTrees", fn := fun _ => fun
  | [d1, d2, d3] => { results := [.lit (.bool true)], args := [d1, d2, d3] }
  | _ => none }
def holeTreesRow : OpenClaim := { program := "ytghnkgbingcbcaa", sum := "cd6e1a158939785bb8aeef57a15134461e4fd4e54f75c73743380873e85a6c9f", func := "parlance/parlkeep4.HoleTrees", spec := "holeTrees", unfollowed := true, recurses := true, apart := false }
def HoleTreesSaid : Prop := holeTreesRow.holds Try.pinned (OpenSpec.ofChange holeTreesSpec)

/-- ITS FALSE NEIGHBOUR: 'it returns false'. Refute it at one input. -/
def holeTreesWrong : ChangeSpec := { name := "holeTrees", fn := fun _ => fun
  | [d1, d2, d3] => { results := [.lit (.bool false)], args := [d1, d2, d3] }
  | _ => none }
def HoleTreesWrongFalsely : Prop := holeTreesRow.holds Try.pinned (OpenSpec.ofChange holeTreesWrong)

/- THE SECOND FORM. 'bulk': how many values and letters a reading holds, each counted each time it is reached (what is shared counts as often as it is met; a slice's spare places count too). A statement '..UptoSaid' is the law's where the arguments, and the package variables that the reading takes, are together of bulk at most 1048576: NARROWER than '..Said'. Prove '..Said' where nothing that the law and all that it calls make is longer than what came in: it says more and counts as full. Else prove '..UptoSaid'. A law counts once. -/
mutual
def uptoBulk {H : Type} : DataW H → Nat
  | .lit (.string bytes) => bytes.length + 1
  | .lit _ => 1
  | .nil => 1
  | .ptr d => uptoBulk d + 1
  | .slice elems spare => uptoBulkAll elems + uptoBulkAll spare + 1
  | .agg parts => uptoBulkAll parts + 1
  | .iface _ d => uptoBulk d + 1
  | .map entries => uptoBulkEntries entries + 1
  | .held _ => 1
def uptoBulkAll {H : Type} : List (DataW H) → Nat
  | [] => 0
  | d :: r => uptoBulk d + uptoBulkAll r
def uptoBulkEntries {H : Type} : List (Lit × DataW H) → Nat
  | [] => 0
  | x :: r => uptoBulkEntry x + uptoBulkEntries r
def uptoBulkEntry {H : Type} : Lit × DataW H → Nat
  | (.string bytes, d) => bytes.length + uptoBulk d + 1
  | (_, d) => uptoBulk d + 1
 end
def uptoSmall : (H : Type) → List (DataW H) → Bool := fun _ ds => decide (uptoBulkAll ds ≤ 1048576)
def OpenSpec.upto (s : _root_.Go.ChangeSpec) : _root_.Go.OpenSpec := { _root_.Go.OpenSpec.ofChange s with cond := some uptoSmall }

/-- 'parlkeep4.RepairNear', WHERE WHAT IT READS IS OF BULK AT MOST 1048576: true; the input reads as it did. -/
def repairNearUptoRow : OpenClaim := { program := "ytghnkgbingcbcaa", sum := "cd6e1a158939785bb8aeef57a15134461e4fd4e54f75c73743380873e85a6c9f", func := "parlance/parlkeep4.RepairNear", spec := "repairNear", unfollowed := true, recurses := true, apart := false, narrowed := true }
def RepairNearUptoSaid : Prop := repairNearUptoRow.holds Try.pinned (OpenSpec.upto repairNearSpec)

/-- 'parlkeep4.HoleMayFill', WHERE WHAT IT READS IS OF BULK AT MOST 1048576: true; the input reads as it did. -/
def holeMayFillUptoRow : OpenClaim := { program := "ytghnkgbingcbcaa", sum := "cd6e1a158939785bb8aeef57a15134461e4fd4e54f75c73743380873e85a6c9f", func := "parlance/parlkeep4.HoleMayFill", spec := "holeMayFill", unfollowed := true, recurses := true, apart := false, narrowed := true }
def HoleMayFillUptoSaid : Prop := holeMayFillUptoRow.holds Try.pinned (OpenSpec.upto holeMayFillSpec)

/-- 'parlkeep4.HoleTrees', WHERE WHAT IT READS IS OF BULK AT MOST 1048576: true; the input reads as it did. -/
def holeTreesUptoRow : OpenClaim := { program := "ytghnkgbingcbcaa", sum := "cd6e1a158939785bb8aeef57a15134461e4fd4e54f75c73743380873e85a6c9f", func := "parlance/parlkeep4.HoleTrees", spec := "holeTrees", unfollowed := true, recurses := true, apart := false, narrowed := true }
def HoleTreesUptoSaid : Prop := holeTreesUptoRow.holds Try.pinned (OpenSpec.upto holeTreesSpec)

end Rows
end Go.Proofs.Ytghnkgbingcbcaa
