/- The closure get of AttrConstant. -/
import Derived.Test.YtgclibfikdonoaaYK
import Derived.Test.YtgclibfikdonoaaYL
namespace Go.Proofs.Ytgclibfikdonoaa
open Go.RowKit

def getN (seed : Int) (a b : Nat) : Nat := (belowI (wrap64 (wrap64 (seed + wrap64 (31 * (a : Int))) + wrap64 (7 * (b : Int)))) 100).toNat
theorem getN_lt (seed : Int) (a b : Nat) : getN seed a b < 1000003 := by
  have h := belowI_hi (wrap64 (wrap64 (seed + wrap64 (31 * (a : Int))) + wrap64 (7 * (b : Int)))) 100 (by omega)
  unfold getN; omega
theorem getN_int (seed : Int) (a b : Nat) : (getN seed a b : Int) = belowI (wrap64 (wrap64 (seed + wrap64 (31 * (a : Int))) + wrap64 (7 * (b : Int)))) 100 :=
  Int.toNat_of_nonneg (belowI_lo _ 100 (by omega))
set_option maxRecDepth 100000 in
set_option maxHeartbeats 400000 in
theorem get_c (bs : Nat) (seed : Int) (a b : Nat) (w : World) (hI : Blk w bs 3 #[.int .i64 seed]) :
    Calls Try.prog 7 #[.agg #[.int .i64 (a : Int), .int .i64 (b : Int)], .pointer (some ⟨bs, 0, none⟩)] w (FunP w (getN seed a b)) := by
  have hb := (Below.refl w.heap.size w).al (.cells #[.int .i64 (a : Int), .int .i64 (b : Int)] 25)
  have B0 := hI.al (.cells #[.int .i64 (a : Int), .int .i64 (b : Int)] 25)
  have B1 := Blk.new w 25 #[.int .i64 (a : Int), .int .i64 (b : Int)]
  have HB := Lib.hid hb
  clear hb hI
  have cB0 := B0.cell
  have fB0 := B0.frozen
  have lB0 := B0.lt
  have cB1 := B1.cell
  have fB1 := B1.frozen
  have lB1 := B1.lt
  go_enter Try.func7, Try.ntmps7
  go_wp2_with fail
  refine (below_c _ 100 _ (by omega) (by omega)).mono ?_
  rintro e w' ⟨rfl, rfl⟩
  go_wp2_with fail
  go_ret
  exact ⟨by rw [getN_int]; rfl, HB.out⟩
end Go.Proofs.Ytgclibfikdonoaa
