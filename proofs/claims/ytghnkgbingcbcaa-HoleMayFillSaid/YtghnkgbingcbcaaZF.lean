/- repair.then. -/
import Derived.Test.YtghnkgbingcbcaaZE
namespace Go.Proofs.Ytghnkgbingcbcaa
open Go.RowKit

def WayP (w : World) (x : Way) (e : Ending) (w' : World) : Prop := ∃ v, e = .returned (wyVal v) ∧ WayR (fun b => w.heap.size ≤ b) w' v x ∧ Below w.heap.size w w'
def World.set4 (w : World) (r : Nat) (v : WyV) : World :=
  (((w.setCell ⟨r, 0, none⟩ (.int .i64 v.1)).setCell ⟨r, 1, none⟩ (.int .i64 v.2.1)).setCell ⟨r, 2, none⟩ (.slice v.2.2.1.1 v.2.2.1.2.1 v.2.2.1.2.2)).setCell ⟨r, 3, none⟩ (.bool v.2.2.2)
section
variable {ok : Nat → Prop} {w w0 : World} {r : Nat} {v : WyV}
theorem agr_set4 (hk : ∀ b, ok b → b ≠ r) : Agr ok w (World.set4 w r v) :=
  (((Agr.setCell _ hk).trans (Agr.setCell _ hk)).trans (Agr.setCell _ hk)).trans (Agr.setCell _ hk)
theorem below_set4 {B : Nat} (h : Below B w0 w) (hr : B ≤ r) : Below B w0 (World.set4 w r v) :=
  (((h.setCell hr _).setCell hr _).setCell hr _).setCell hr _
theorem size_set4 : (World.set4 w r v).heap.size = w.heap.size := by simp [World.set4]
end
set_option maxRecDepth 100000 in
set_option maxHeartbeats 4000000 in
theorem then_c (ok ok' : Nat → Prop) (ac as_ : Int) (A : Option Addr) (n c : Nat) (ao : Bool) (bc bs : Int) (B : Option Addr) (m d : Nat) (bo : Bool) (x y : Way) (w : World)
    (h1 : WayR ok w (ac, as_, (A, n, c), ao) x) (h2 : WayR ok' w (bc, bs, (B, m, d), bo) y) (hx : Bnd 10000000000 x) (hy : Bnd 10000000000 y) :
    Calls Try.prog 58 #[.agg #[.int .i64 ac, .int .i64 as_, .slice A n c, .bool ao], .agg #[.int .i64 bc, .int .i64 bs, .slice B m d, .bool bo]] w (WayP w (thenW x y)) := by
  obtain ⟨rfl, rfl, rfl, hA⟩ := h1
  obtain ⟨rfl, rfl, rfl, hC⟩ := h2
  have b1 := hx.c0; have b2 := hx.c1; have b3 := hx.s0; have b4 := hx.s1
  have b5 := hy.c0; have b6 := hy.c1; have b7 := hy.s0; have b8 := hy.s1
  have l1 : n ≤ 2000 := Nat.le_trans (Nat.le_of_eq hA.len.symm) hx.short
  have l2 : m ≤ 2000 := Nat.le_trans (Nat.le_of_eq hC.len.symm) hy.short
  clear hx hy
  obtain ⟨xc, xs, xw, xo⟩ := x
  obtain ⟨yc, ys, yw, yo⟩ := y
  simp only at b1 b2 b3 b4 b5 b6 b7 b8 hA hC ⊢
  have nok : ∀ (b : Bool) (w' : World), (xo && yo) = b → (b = true → ¬ xs + ys ≤ 2000) → WayR (fun b => w.heap.size ≤ b) w' (xc + yc, xs + ys, (none, 0, 0), b) (thenW ⟨xc, xs, xw, xo⟩ ⟨yc, ys, yw, yo⟩) := by
    intro b w' e h
    subst e
    refine ⟨rfl, rfl, rfl, ?_⟩
    have : (thenW ⟨xc, xs, xw, xo⟩ ⟨yc, ys, yw, yo⟩).w = [] := by
      simp only [thenW]; rw [if_neg]; intro h2; rw [Bool.and_eq_true, decide_eq_true_eq] at h2; exact h h2.1 h2.2
    rw [this]; exact Sl.nil 0
  have NOK := Lib.hid nok
  clear nok
  cases hxo : xo <;> cases hyo : yo <;> subst hxo hyo
  iterate 3
    · clear hA hC
      go_enter Try.func58, Try.ntmps58
      go_wp2_with fail
      exact bodyPost_ret (v := .agg #[.int .i64 (xc + yc), .int .i64 (xs + ys), .slice none 0 0, .bool false]) (by simp [results, Try.results58, go_sem]) rfl ⟨(xc + yc, xs + ys, (none, 0, 0), false), rfl, NOK.out _ _ rfl fun h => (by cases h), ((((Below.refl _ _).al _).al _).al _).al _⟩
  · by_cases hs : xs + ys ≤ 2000
    · have hB := (((((Below.refl w.heap.size w).al (.cells #[.int .i64 xc, .int .i64 xs, .slice A n c, .bool true] 78)).al (.cells #[.int .i64 yc, .int .i64 ys, .slice B m d, .bool true] 78)).al (.cells #[.int .i64 0, .int .i64 0, .slice none 0 0, .bool false] 78)).al (.cells #[.int .i64 (xc + yc), .int .i64 (xs + ys), .slice none 0 0, .bool true] 78)).al (.cells #[.slice A n c, .slice B m d] 22)
      have B2 := ((Blk.new ((w.alloc (.cells #[.int .i64 xc, .int .i64 xs, .slice A n c, .bool true] 78)).alloc (.cells #[.int .i64 yc, .int .i64 ys, .slice B m d, .bool true] 78)) 78 #[.int .i64 0, .int .i64 0, .slice none 0 0, .bool false]).al (.cells #[.int .i64 (xc + yc), .int .i64 (xs + ys), .slice none 0 0, .bool true] 78)).al (.cells #[.slice A n c, .slice B m d] 22)
      have B3 := (Blk.new (((w.alloc (.cells #[.int .i64 xc, .int .i64 xs, .slice A n c, .bool true] 78)).alloc (.cells #[.int .i64 yc, .int .i64 ys, .slice B m d, .bool true] 78)).alloc (.cells #[.int .i64 0, .int .i64 0, .slice none 0 0, .bool false] 78)) 78 #[.int .i64 (xc + yc), .int .i64 (xs + ys), .slice none 0 0, .bool true]).al (.cells #[.slice A n c, .slice B m d] 22)
      have B4 := Blk.new ((((w.alloc (.cells #[.int .i64 xc, .int .i64 xs, .slice A n c, .bool true] 78)).alloc (.cells #[.int .i64 yc, .int .i64 ys, .slice B m d, .bool true] 78)).alloc (.cells #[.int .i64 0, .int .i64 0, .slice none 0 0, .bool false] 78)).alloc (.cells #[.int .i64 (xc + yc), .int .i64 (xs + ys), .slice none 0 0, .bool true] 78)) 22 #[.slice A n c, .slice B m d]
      simp only [World.size_alloc] at B2 B3 B4
      have HA := Lib.hid (hA.ints.keep hB (Nat.le_refl _))
      have HC := Lib.hid (hC.ints.keep hB (Nat.le_refl _))
      have HB2 := Lib.hid B2
      have HB3 := Lib.hid B3
      have HB4 := Lib.hid B4
      have HB := Lib.hid hB
      have l3 := Lib.hid (show xw.length = n from hA.len)
      have l4 := Lib.hid (show yw.length = m from hC.len)
      clear hA hC hB B2 B3 B4
      go_enter Try.func58, Try.ntmps58
      go_wp2_with fail
      generalize ((((w.alloc (.cells #[.int .i64 xc, .int .i64 xs, .slice A n c, .bool true] 78)).alloc (.cells #[.int .i64 yc, .int .i64 ys, .slice B m d, .bool true] 78)).alloc (.cells #[.int .i64 0, .int .i64 0, .slice none 0 0, .bool false] 78)).alloc (.cells #[.int .i64 (xc + yc), .int .i64 (xs + ys), .slice none 0 0, .bool true] 78)).alloc (.cells #[.slice A n c, .slice B m d] 22) = W at *
      refine (concat2_c _ A B n c m d xw yw W HA.out HC.out HB4.out (by omega) (by omega)).mono ?_
      rintro e w1 ⟨A1, c1, rfl, hS, hb⟩
      have B2 := HB2.out.via hb
      have B3 := HB3.out.via hb
      have HBF := Lib.hid (HB.out.via hb)
      have hW := HB.out.size
      have hz := HB4.out.lt
      have HS := Lib.hid hS
      clear hb hS HB HB2 HB3 HB4 HA HC
      have cB2 := B2.cell
      have fB2 := B2.frozen
      have lB2 := B2.lt
      have cB3 := B3.cell
      have fB3 := B3.frozen
      have lB3 := B3.lt
      go_wp2_with fail
      refine bodyPost_ret (v := .agg #[.int .i64 (xc + yc), .int .i64 (xs + ys), .slice A1 (n + m) c1, .bool true]) (by simp [results, Try.results58, go_sem, cB2]) rfl ⟨(xc + yc, xs + ys, (A1, n + m, c1), true), rfl, ⟨rfl, rfl, rfl, ?_⟩, below_set4 (r := w.heap.size + 1 + 1) (v := (xc + yc, xs + ys, (A1, n + m, c1), true)) (HBF.out.setCell (by simp; omega) _) (by omega)⟩
      have e : (thenW ⟨xc, xs, xw, true⟩ ⟨yc, ys, yw, true⟩).w = xw ++ yw := by simp [thenW, hs]
      rw [e]
      exact (HS.out.agr ((Agr.setCell _ fun b hb => by show b ≠ w.heap.size + 1 + 1 + 1; omega).trans (agr_set4 (r := w.heap.size + 1 + 1) (v := (xc + yc, xs + ys, (A1, n + m, c1), true)) fun b hb => by omega))).mono fun b _ hb => by omega
    · clear hA hC
      go_enter Try.func58, Try.ntmps58
      go_wp2_with fail
      exact bodyPost_ret (v := .agg #[.int .i64 (xc + yc), .int .i64 (xs + ys), .slice none 0 0, .bool true]) (by simp [results, Try.results58, go_sem]) rfl ⟨(xc + yc, xs + ys, (none, 0, 0), true), rfl, NOK.out _ _ rfl fun _ => hs, ((((Below.refl _ _).al _).al _).al _).al _⟩
end Go.Proofs.Ytghnkgbingcbcaa
