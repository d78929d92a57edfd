/- Texts ZJ, laid together. -/
import Derived.Test.YtdmecijpioljaaaZ1


namespace Go.Proofs.Ytdmecijpioljaaa
open Go.RowKit

/-- the words of two rows that lie in b and bn -/
def Z2 (ok : Nat → Prop) (lo b bn : Nat) : Nat → Prop := fun x => (ok x ∨ lo ≤ x) ∧ x ≠ b ∧ x ≠ bn
section
variable {ok : Nat → Prop} {w wr wa : World} {n b bn bs j : Nat} {rc : Array Value} {sy : Sy} {fat fnx : Nat → Way}
end
section
variable {ok : Nat → Prop} {w wn wm : World} {n b bn bs : Nat} {rc : Array Value} {sy : Sy} {fat fnx : Nat → Way} {y : Way} {yv : WyV}
end

end Go.Proofs.Ytdmecijpioljaaa

