/-
  DERIVED. GIVEN WITH THE SEED: THE CARDS: each row of YtbfcnfgkccgbiaaGreatDoorRows.lean that lists a variable, with what it lists TIED to the program's text (the seventh form; the later family's looks); each row that meets fmt, with fmt's text TOLD by the authors' own Lean function (tested against real Go, not proved from fmt's source: count such statements apart). THE CARD IS WHAT COUNTS. Prove the row's statement (the work); the ties are given (YtbfcnfgkccgbiaaGreatDoorTie.lean); close each card by the builder's one call (the guide's Derived/Test/ToyasCard.lean, 'card_holds'). Laid BY PROGRAM, IN A SANDBOX (cutbox-door.mjs). By AI agents, Wed Nov 11 2026. No macro, syntax, notation, axiom, sorry.
-/
import Derived.Test.YtbfcnfgkccgbiaaGreatDoorRows
import GoSem.ClaimSeven
namespace Go.Proofs.YtbfcnfgkccgbiaaGreatDoor
namespace Rows

/-- THE TIED CARD OF 'parllaw3.EarleySays'. -/
def earleySaysCard : Claim7 := { stood := { row := earleySaysRow, standIns := [], harness := (true, "6d25f3214e59e0133ccabee57f2a56ab5955a2d90ca567fa9b3508d1c6b11690"), looks := false }, kinds := [], alts := [], laidByText := true, laidKinds := [.data], laidTests := true, laidLooks := .later }
def EarleySaysCardSaid : Prop := Claim7.holds Tryz.pinned (.plain (OpenSpec.ofChange earleySaysSpec)) earleySaysCard

/-- THE TIED CARD OF 'parllaw3.ForestBuilds'. -/
def forestBuildsCard : Claim7 := { stood := { row := forestBuildsRow, standIns := [], harness := (true, "6d25f3214e59e0133ccabee57f2a56ab5955a2d90ca567fa9b3508d1c6b11690"), looks := false }, kinds := [], alts := [], laidByText := true, laidKinds := [.data], laidTests := true, laidLooks := .later }
def ForestBuildsCardSaid : Prop := Claim7.holds Tryz.pinned (.plain (OpenSpec.ofChange forestBuildsSpec)) forestBuildsCard

/-- THE SECOND FORM's CARD OF 'parllaw3.EarleySays'. -/
def earleySaysUptoCard : Claim7 := { stood := { row := earleySaysUptoRow, standIns := [], harness := (true, "6d25f3214e59e0133ccabee57f2a56ab5955a2d90ca567fa9b3508d1c6b11690"), looks := false }, kinds := [], alts := [], laidByText := true, laidKinds := [.data], laidTests := true, laidLooks := .later }
def EarleySaysUptoCardSaid : Prop := Claim7.holds Tryz.pinned (.plain (OpenSpec.upto earleySaysSpec)) earleySaysUptoCard

/-- THE SECOND FORM's CARD OF 'parllaw3.ForestBuilds'. -/
def forestBuildsUptoCard : Claim7 := { stood := { row := forestBuildsUptoRow, standIns := [], harness := (true, "6d25f3214e59e0133ccabee57f2a56ab5955a2d90ca567fa9b3508d1c6b11690"), looks := false }, kinds := [], alts := [], laidByText := true, laidKinds := [.data], laidTests := true, laidLooks := .later }
def ForestBuildsUptoCardSaid : Prop := Claim7.holds Tryz.pinned (.plain (OpenSpec.upto forestBuildsSpec)) forestBuildsUptoCard
end Rows
end Go.Proofs.YtbfcnfgkccgbiaaGreatDoor
