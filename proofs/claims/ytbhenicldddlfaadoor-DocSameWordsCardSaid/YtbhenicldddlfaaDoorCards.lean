/-
  DERIVED. GIVEN WITH THE SEED: THE CARDS: each row of YtbhenicldddlfaaDoorRows.lean that lists a variable, with what it lists TIED to the program's text (the seventh form; the later family's looks); each row that meets fmt, with fmt's text TOLD by the authors' own Lean function (tested against real Go, not proved from fmt's source: count such statements apart). THE CARD IS WHAT COUNTS. Prove the row's statement (the work); the ties are given (YtbhenicldddlfaaDoorTie.lean); close each card by the builder's one call (the guide's Derived/Test/ToyasCard.lean, 'card_holds'). Laid BY PROGRAM, IN A SANDBOX (cutbox-door.mjs). By AI agents, Wed Nov 11 2026. No macro, syntax, notation, axiom, sorry.
-/
import Derived.Test.YtbhenicldddlfaaDoorRows
import GoSem.ClaimSeven
namespace Go.Proofs.YtbhenicldddlfaaDoor
namespace Rows

/-- THE TIED CARD OF 'parlkeep4.DocSameWords'. -/
def docSameWordsCard : Claim7 := { stood := { row := docSameWordsRow, standIns := [], harness := (true, "185c3df572c0acbcd2b92cd29bdcb4626b962b6c7651af2857a3f1db283dd770"), looks := false }, kinds := [], alts := [], laidByText := true, laidKinds := [.data, .pinned], laidTests := true, laidLooks := .later }
def DocSameWordsCardSaid : Prop := Claim7.holds Tryd.pinned (.plain (OpenSpec.ofChange docSameWordsSpec)) docSameWordsCard

/-- THE SECOND FORM's CARD OF 'parlkeep4.DocSameWords'. -/
def docSameWordsUptoCard : Claim7 := { stood := { row := docSameWordsUptoRow, standIns := [], harness := (true, "185c3df572c0acbcd2b92cd29bdcb4626b962b6c7651af2857a3f1db283dd770"), looks := false }, kinds := [], alts := [], laidByText := true, laidKinds := [.data, .pinned], laidTests := true, laidLooks := .later }
def DocSameWordsUptoCardSaid : Prop := Claim7.holds Tryd.pinned (.plain (OpenSpec.upto docSameWordsSpec)) docSameWordsUptoCard
end Rows
end Go.Proofs.YtbhenicldddlfaaDoor
