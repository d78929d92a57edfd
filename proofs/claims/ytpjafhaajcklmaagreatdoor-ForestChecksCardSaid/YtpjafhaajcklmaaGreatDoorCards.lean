/-
  DERIVED. GIVEN WITH THE SEED: THE CARDS: each row of YtpjafhaajcklmaaGreatDoorRows.lean that lists a variable, with what it lists TIED to the program's text (the seventh form; the later family's looks); each row that meets fmt, with fmt's text TOLD by the authors' own Lean function (tested against real Go, not proved from fmt's source: count such statements apart). THE CARD IS WHAT COUNTS. Prove the row's statement (the work); the ties are given (YtpjafhaajcklmaaGreatDoorTie.lean); close each card by the builder's one call (the guide's Derived/Test/ToyasCard.lean, 'card_holds'). Laid BY PROGRAM, IN A SANDBOX (cutbox-door.mjs). By AI agents, Wed Nov 11 2026. No macro, syntax, notation, axiom, sorry.
-/
import Derived.Test.YtpjafhaajcklmaaGreatDoorRows
import GoSem.ClaimSeven
namespace Go.Proofs.YtpjafhaajcklmaaGreatDoor
namespace Rows

/-- THE TIED CARD OF 'parllaw3.CykSays'. -/
def cykSaysCard : Claim7 := { stood := { row := cykSaysRow, standIns := [], harness := (true, "8cc4209f7d7b3864fb2ccde3693b232a64939823c080640703ce183618749146"), looks := false }, kinds := [], alts := [], laidByText := true, laidKinds := [.data], laidTests := true, laidLooks := .later }
def CykSaysCardSaid : Prop := Claim7.holds Tryz.pinned (.plain (OpenSpec.ofChange cykSaysSpec)) cykSaysCard

/-- THE TIED CARD OF 'parllaw3.EarleySays'. -/
def earleySaysCard : Claim7 := { stood := { row := earleySaysRow, standIns := [], harness := (true, "8cc4209f7d7b3864fb2ccde3693b232a64939823c080640703ce183618749146"), looks := false }, kinds := [], alts := [], laidByText := true, laidKinds := [.data], laidTests := true, laidLooks := .later }
def EarleySaysCardSaid : Prop := Claim7.holds Tryz.pinned (.plain (OpenSpec.ofChange earleySaysSpec)) earleySaysCard

/-- THE TIED CARD OF 'parllaw3.ForestOf'. -/
def forestOfCard : Claim7 := { stood := { row := forestOfRow, standIns := [], harness := (true, "8cc4209f7d7b3864fb2ccde3693b232a64939823c080640703ce183618749146"), looks := false }, kinds := [], alts := [], laidByText := true, laidKinds := [.data], laidTests := true, laidLooks := .later }
def ForestOfCardSaid : Prop := Claim7.holds Tryz.pinned (.plain (OpenSpec.ofChange forestOfSpec)) forestOfCard

/-- THE TIED CARD OF 'parllaw3.ForestChecks'. -/
def forestChecksCard : Claim7 := { stood := { row := forestChecksRow, standIns := [], harness := (true, "8cc4209f7d7b3864fb2ccde3693b232a64939823c080640703ce183618749146"), looks := false }, kinds := [], alts := [], laidByText := true, laidKinds := [.data], laidTests := true, laidLooks := .later }
def ForestChecksCardSaid : Prop := Claim7.holds Tryz.pinned (.plain (OpenSpec.ofChange forestChecksSpec)) forestChecksCard

/-- THE TIED CARD OF 'parllaw3.ForestBuilds'. -/
def forestBuildsCard : Claim7 := { stood := { row := forestBuildsRow, standIns := [], harness := (true, "8cc4209f7d7b3864fb2ccde3693b232a64939823c080640703ce183618749146"), looks := false }, kinds := [], alts := [], laidByText := true, laidKinds := [.data], laidTests := true, laidLooks := .later }
def ForestBuildsCardSaid : Prop := Claim7.holds Tryz.pinned (.plain (OpenSpec.ofChange forestBuildsSpec)) forestBuildsCard

/-- THE SECOND FORM's CARD OF 'parllaw3.CykSays'. -/
def cykSaysUptoCard : Claim7 := { stood := { row := cykSaysUptoRow, standIns := [], harness := (true, "8cc4209f7d7b3864fb2ccde3693b232a64939823c080640703ce183618749146"), looks := false }, kinds := [], alts := [], laidByText := true, laidKinds := [.data], laidTests := true, laidLooks := .later }
def CykSaysUptoCardSaid : Prop := Claim7.holds Tryz.pinned (.plain (OpenSpec.upto cykSaysSpec)) cykSaysUptoCard

/-- THE SECOND FORM's CARD OF 'parllaw3.EarleySays'. -/
def earleySaysUptoCard : Claim7 := { stood := { row := earleySaysUptoRow, standIns := [], harness := (true, "8cc4209f7d7b3864fb2ccde3693b232a64939823c080640703ce183618749146"), looks := false }, kinds := [], alts := [], laidByText := true, laidKinds := [.data], laidTests := true, laidLooks := .later }
def EarleySaysUptoCardSaid : Prop := Claim7.holds Tryz.pinned (.plain (OpenSpec.upto earleySaysSpec)) earleySaysUptoCard

/-- THE SECOND FORM's CARD OF 'parllaw3.ForestOf'. -/
def forestOfUptoCard : Claim7 := { stood := { row := forestOfUptoRow, standIns := [], harness := (true, "8cc4209f7d7b3864fb2ccde3693b232a64939823c080640703ce183618749146"), looks := false }, kinds := [], alts := [], laidByText := true, laidKinds := [.data], laidTests := true, laidLooks := .later }
def ForestOfUptoCardSaid : Prop := Claim7.holds Tryz.pinned (.plain (OpenSpec.upto forestOfSpec)) forestOfUptoCard

/-- THE SECOND FORM's CARD OF 'parllaw3.ForestChecks'. -/
def forestChecksUptoCard : Claim7 := { stood := { row := forestChecksUptoRow, standIns := [], harness := (true, "8cc4209f7d7b3864fb2ccde3693b232a64939823c080640703ce183618749146"), looks := false }, kinds := [], alts := [], laidByText := true, laidKinds := [.data], laidTests := true, laidLooks := .later }
def ForestChecksUptoCardSaid : Prop := Claim7.holds Tryz.pinned (.plain (OpenSpec.upto forestChecksSpec)) forestChecksUptoCard

/-- THE SECOND FORM's CARD OF 'parllaw3.ForestBuilds'. -/
def forestBuildsUptoCard : Claim7 := { stood := { row := forestBuildsUptoRow, standIns := [], harness := (true, "8cc4209f7d7b3864fb2ccde3693b232a64939823c080640703ce183618749146"), looks := false }, kinds := [], alts := [], laidByText := true, laidKinds := [.data], laidTests := true, laidLooks := .later }
def ForestBuildsUptoCardSaid : Prop := Claim7.holds Tryz.pinned (.plain (OpenSpec.upto forestBuildsSpec)) forestBuildsUptoCard
end Rows
end Go.Proofs.YtpjafhaajcklmaaGreatDoor
