/-
  DERIVED. GIVEN WITH THE SEED: THE CARDS: each row of YtfcihnpmeabacaaGreatDoorRows.lean that lists a variable, with what it lists TIED to the program's text (the seventh form; the later family's looks); each row that meets fmt, with fmt's text TOLD by the authors' own Lean function (tested against real Go, not proved from fmt's source: count such statements apart). THE CARD IS WHAT COUNTS. Prove the row's statement (the work); the ties are given (YtfcihnpmeabacaaGreatDoorTie.lean); close each card by the builder's one call (the guide's Derived/Test/ToyasCard.lean, 'card_holds'). Laid BY PROGRAM, IN A SANDBOX (cutbox-door.mjs). By AI agents, Wed Nov 11 2026. No macro, syntax, notation, axiom, sorry.
-/
import Derived.Test.YtfcihnpmeabacaaGreatDoorRows
import GoSem.ClaimSeven
namespace Go.Proofs.YtfcihnpmeabacaaGreatDoor
namespace Rows

/-- THE TIED CARD OF 'parllaw3.MeanCounts'. -/
def meanCountsCard : Claim7 := { stood := { row := meanCountsRow, standIns := [], harness := (true, "3b3efeb1caa0e123970ab1da5db89d22fb8c6d70e04e39965a220415eed3572d"), looks := true }, kinds := [], alts := [], laidByText := true, laidKinds := [.data], laidTests := true, laidLooks := .later }
def MeanCountsCardSaid : Prop := Claim7.holds Tryz.pinned (.plain (OpenSpec.ofChange meanCountsSpec)) meanCountsCard

/-- THE TIED CARD OF 'parllaw3.MeanTrees'. -/
def meanTreesCard : Claim7 := { stood := { row := meanTreesRow, standIns := [], harness := (true, "3b3efeb1caa0e123970ab1da5db89d22fb8c6d70e04e39965a220415eed3572d"), looks := true }, kinds := [], alts := [], laidByText := true, laidKinds := [.data], laidTests := true, laidLooks := .later }
def MeanTreesCardSaid : Prop := Claim7.holds Tryz.pinned (.plain (OpenSpec.ofChange meanTreesSpec)) meanTreesCard

/-- THE TIED CARD OF 'parllaw3.ForestCounts'. -/
def forestCountsCard : Claim7 := { stood := { row := forestCountsRow, standIns := [], harness := (true, "3b3efeb1caa0e123970ab1da5db89d22fb8c6d70e04e39965a220415eed3572d"), looks := true }, kinds := [], alts := [], laidByText := true, laidKinds := [.data], laidTests := true, laidLooks := .later }
def ForestCountsCardSaid : Prop := Claim7.holds Tryz.pinned (.plain (OpenSpec.ofChange forestCountsSpec)) forestCountsCard

/-- THE SECOND FORM's CARD OF 'parllaw3.MeanCounts'. -/
def meanCountsUptoCard : Claim7 := { stood := { row := meanCountsUptoRow, standIns := [], harness := (true, "3b3efeb1caa0e123970ab1da5db89d22fb8c6d70e04e39965a220415eed3572d"), looks := true }, kinds := [], alts := [], laidByText := true, laidKinds := [.data], laidTests := true, laidLooks := .later }
def MeanCountsUptoCardSaid : Prop := Claim7.holds Tryz.pinned (.plain (OpenSpec.upto meanCountsSpec)) meanCountsUptoCard

/-- THE SECOND FORM's CARD OF 'parllaw3.MeanTrees'. -/
def meanTreesUptoCard : Claim7 := { stood := { row := meanTreesUptoRow, standIns := [], harness := (true, "3b3efeb1caa0e123970ab1da5db89d22fb8c6d70e04e39965a220415eed3572d"), looks := true }, kinds := [], alts := [], laidByText := true, laidKinds := [.data], laidTests := true, laidLooks := .later }
def MeanTreesUptoCardSaid : Prop := Claim7.holds Tryz.pinned (.plain (OpenSpec.upto meanTreesSpec)) meanTreesUptoCard

/-- THE SECOND FORM's CARD OF 'parllaw3.ForestCounts'. -/
def forestCountsUptoCard : Claim7 := { stood := { row := forestCountsUptoRow, standIns := [], harness := (true, "3b3efeb1caa0e123970ab1da5db89d22fb8c6d70e04e39965a220415eed3572d"), looks := true }, kinds := [], alts := [], laidByText := true, laidKinds := [.data], laidTests := true, laidLooks := .later }
def ForestCountsUptoCardSaid : Prop := Claim7.holds Tryz.pinned (.plain (OpenSpec.upto forestCountsSpec)) forestCountsUptoCard
end Rows
end Go.Proofs.YtfcihnpmeabacaaGreatDoor
