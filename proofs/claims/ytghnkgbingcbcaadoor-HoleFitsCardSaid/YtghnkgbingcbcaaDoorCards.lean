/-
  DERIVED. GIVEN WITH THE SEED: THE CARDS: each row of YtghnkgbingcbcaaDoorRows.lean that lists a variable, with what it lists TIED to the program's text (the seventh form; the later family's looks); each row that meets fmt, with fmt's text TOLD by the authors' own Lean function (tested against real Go, not proved from fmt's source: count such statements apart). THE CARD IS WHAT COUNTS. Prove the row's statement (the work); the ties are given (YtghnkgbingcbcaaDoorTie.lean); close each card by the builder's one call (the guide's Derived/Test/ToyasCard.lean, 'card_holds'). Laid BY PROGRAM, IN A SANDBOX (cutbox-door.mjs). By AI agents, Wed Nov 11 2026. No macro, syntax, notation, axiom, sorry.
-/
import Derived.Test.YtghnkgbingcbcaaDoorRows
import GoSem.ClaimSeven
namespace Go.Proofs.YtghnkgbingcbcaaDoor
namespace Rows

/-- THE TIED CARD OF 'parlkeep4.RepairZero'. -/
def repairZeroCard : Claim7 := { stood := { row := repairZeroRow, standIns := [], harness := (true, "98cdd1fced1a2bd10ad5e33c3c949758b768b7d89deae5d1203fab89fafe776b"), looks := false }, kinds := [], alts := [], laidByText := true, laidKinds := [.data], laidTests := true, laidLooks := .later }
def RepairZeroCardSaid : Prop := Claim7.holds Tryd.pinned (.plain (OpenSpec.ofChange repairZeroSpec)) repairZeroCard

/-- THE TIED CARD OF 'parlkeep4.HoleFits'. -/
def holeFitsCard : Claim7 := { stood := { row := holeFitsRow, standIns := [], harness := (true, "98cdd1fced1a2bd10ad5e33c3c949758b768b7d89deae5d1203fab89fafe776b"), looks := false }, kinds := [], alts := [], laidByText := true, laidKinds := [.data], laidTests := true, laidLooks := .later }
def HoleFitsCardSaid : Prop := Claim7.holds Tryd.pinned (.plain (OpenSpec.ofChange holeFitsSpec)) holeFitsCard

/-- THE SECOND FORM's CARD OF 'parlkeep4.RepairZero'. -/
def repairZeroUptoCard : Claim7 := { stood := { row := repairZeroUptoRow, standIns := [], harness := (true, "98cdd1fced1a2bd10ad5e33c3c949758b768b7d89deae5d1203fab89fafe776b"), looks := false }, kinds := [], alts := [], laidByText := true, laidKinds := [.data], laidTests := true, laidLooks := .later }
def RepairZeroUptoCardSaid : Prop := Claim7.holds Tryd.pinned (.plain (OpenSpec.upto repairZeroSpec)) repairZeroUptoCard

/-- THE SECOND FORM's CARD OF 'parlkeep4.HoleFits'. -/
def holeFitsUptoCard : Claim7 := { stood := { row := holeFitsUptoRow, standIns := [], harness := (true, "98cdd1fced1a2bd10ad5e33c3c949758b768b7d89deae5d1203fab89fafe776b"), looks := false }, kinds := [], alts := [], laidByText := true, laidKinds := [.data], laidTests := true, laidLooks := .later }
def HoleFitsUptoCardSaid : Prop := Claim7.holds Tryd.pinned (.plain (OpenSpec.upto holeFitsSpec)) holeFitsUptoCard
end Rows
end Go.Proofs.YtghnkgbingcbcaaDoor
