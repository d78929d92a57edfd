/- Texts NE, laid together. -/
import Derived.Test.YtbhenicldddlfaaN4
import Derived.Test.YtbhenicldddlfaaE5



namespace Go.Proofs.Ytbhenicldddlfaa
open Go.RowKit

theorem layM_run (W : Nat) (t : Dc) (m : Nat) : layM W (t.ops 0 0) m = (t.run W (fun k => !(m.testBit k)) 0 0 0).1 := by
  unfold layM
  rw [Dc.run_set (q := fun k => !(m.testBit k)) (p := maskP m) (fun _ _ _ => rfl) (t.ops 0 0) t 0 0 0 0 (fun j o e => by rw [Nat.zero_add]; exact e), setF_end (by omega)]
  simp [Ly.then_, Ly.after]
theorem layM_nrm (W : Nat) {t : Dc} (h : t.Ok) (m : Nat) : layM W (t.nrm.ops 0 0) m = layM W (t.ops 0 0) m := by
  rw [layM_run, layM_run, run_nrm W _ t h]
theorem allN_nrm (W : Nat) {t : Dc} (h : t.Ok) (n : Nat) : allN W (t.nrm.ops 0 0) n = allN W (t.ops 0 0) n := by
  unfold allN
  have e : okM W (t.nrm.ops 0 0) = okM W (t.ops 0 0) := funext fun m => by unfold okM; rw [layM_nrm W h]
  rw [e]
  exact List.map_congr_left fun m _ => by rw [layM_nrm W h]
end Go.Proofs.Ytbhenicldddlfaa

