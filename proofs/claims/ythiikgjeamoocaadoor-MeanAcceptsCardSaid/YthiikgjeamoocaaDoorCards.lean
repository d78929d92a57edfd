/-
  DERIVED. GIVEN WITH THE SEED: THE CARDS: each row of YthiikgjeamoocaaDoorRows.lean that lists a variable, with what it lists TIED to the program's text (the seventh form; the later family's looks); each row that meets fmt, with fmt's text TOLD by the authors' own Lean function (tested against real Go, not proved from fmt's source: count such statements apart). THE CARD IS WHAT COUNTS. Prove the row's statement (the work); the ties are given (YthiikgjeamoocaaDoorTie.lean); close each card by the builder's one call (the guide's Derived/Test/ToyasCard.lean, 'card_holds'). Laid BY PROGRAM, IN A SANDBOX (cutbox-door.mjs). By AI agents, Wed Nov 11 2026. No macro, syntax, notation, axiom, sorry.
-/
import Derived.Test.YthiikgjeamoocaaDoorRows
import GoSem.ClaimSeven
namespace Go.Proofs.YthiikgjeamoocaaDoor
namespace Rows

/-- THE TIED CARD OF 'parllaw3.MeanAccepts'. -/
def meanAcceptsCard : Claim7 := { stood := { row := meanAcceptsRow, standIns := [], harness := (true, "32730802f0de46503d8fee34966281bdb55e3e62d72f1602d62334bb8ecaea67"), looks := true }, kinds := [], alts := [], laidByText := true, laidKinds := [.data], laidTests := true, laidLooks := .later }
def MeanAcceptsCardSaid : Prop := Claim7.holds Tryd.pinned (.plain (OpenSpec.ofChange meanAcceptsSpec)) meanAcceptsCard

/-- THE SECOND FORM's CARD OF 'parllaw3.MeanAccepts'. -/
def meanAcceptsUptoCard : Claim7 := { stood := { row := meanAcceptsUptoRow, standIns := [], harness := (true, "32730802f0de46503d8fee34966281bdb55e3e62d72f1602d62334bb8ecaea67"), looks := true }, kinds := [], alts := [], laidByText := true, laidKinds := [.data], laidTests := true, laidLooks := .later }
def MeanAcceptsUptoCardSaid : Prop := Claim7.holds Tryd.pinned (.plain (OpenSpec.upto meanAcceptsSpec)) meanAcceptsUptoCard
end Rows
end Go.Proofs.YthiikgjeamoocaaDoor
