/-
  DERIVED. GIVEN WITH THE SEED: THE CARDS: each row of YtfmnmgnhanogmaaDoorRows.lean that lists a variable, with what it lists TIED to the program's text (the seventh form; the later family's looks); each row that meets fmt, with fmt's text TOLD by the authors' own Lean function (tested against real Go, not proved from fmt's source: count such statements apart). THE CARD IS WHAT COUNTS. Prove the row's statement (the work); the ties are given (YtfmnmgnhanogmaaDoorTie.lean); close each card by the builder's one call (the guide's Derived/Test/ToyasCard.lean, 'card_holds'). Laid BY PROGRAM, IN A SANDBOX (cutbox-door.mjs). By AI agents, Wed Nov 11 2026. No macro, syntax, notation, axiom, sorry.
-/
import Derived.Test.YtfmnmgnhanogmaaDoorRows
import GoSem.ClaimSeven
namespace Go.Proofs.YtfmnmgnhanogmaaDoor
namespace Rows

/-- THE TIED CARD OF 'parllaw3.DescentSays'. -/
def descentSaysCard : Claim7 := { stood := { row := descentSaysRow, standIns := [], harness := (true, "25e1ece026c71f0e91bcf1be9a0c8253878b407c9a5002de390398ce6934af29"), looks := false }, kinds := [], alts := [], laidByText := true, laidKinds := [.data], laidTests := true, laidLooks := .later }
def DescentSaysCardSaid : Prop := Claim7.holds Tryd.pinned (.plain (OpenSpec.ofChange descentSaysSpec)) descentSaysCard

/-- THE TIED CARD OF 'parllaw3.PackratSays'. -/
def packratSaysCard : Claim7 := { stood := { row := packratSaysRow, standIns := [], harness := (true, "25e1ece026c71f0e91bcf1be9a0c8253878b407c9a5002de390398ce6934af29"), looks := false }, kinds := [], alts := [], laidByText := true, laidKinds := [.data], laidTests := true, laidLooks := .later }
def PackratSaysCardSaid : Prop := Claim7.holds Tryd.pinned (.plain (OpenSpec.ofChange packratSaysSpec)) packratSaysCard

/-- THE SECOND FORM's CARD OF 'parllaw3.DescentSays'. -/
def descentSaysUptoCard : Claim7 := { stood := { row := descentSaysUptoRow, standIns := [], harness := (true, "25e1ece026c71f0e91bcf1be9a0c8253878b407c9a5002de390398ce6934af29"), looks := false }, kinds := [], alts := [], laidByText := true, laidKinds := [.data], laidTests := true, laidLooks := .later }
def DescentSaysUptoCardSaid : Prop := Claim7.holds Tryd.pinned (.plain (OpenSpec.upto descentSaysSpec)) descentSaysUptoCard

/-- THE SECOND FORM's CARD OF 'parllaw3.PackratSays'. -/
def packratSaysUptoCard : Claim7 := { stood := { row := packratSaysUptoRow, standIns := [], harness := (true, "25e1ece026c71f0e91bcf1be9a0c8253878b407c9a5002de390398ce6934af29"), looks := false }, kinds := [], alts := [], laidByText := true, laidKinds := [.data], laidTests := true, laidLooks := .later }
def PackratSaysUptoCardSaid : Prop := Claim7.holds Tryd.pinned (.plain (OpenSpec.upto packratSaysSpec)) packratSaysUptoCard
end Rows
end Go.Proofs.YtfmnmgnhanogmaaDoor
