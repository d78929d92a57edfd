/- repair.corrector.rule. -/
import Derived.Test.YtghnkgbingcbcaaZH
namespace Go.Proofs.Ytghnkgbingcbcaa
open Go.RowKit

def emptyRow (c1 : Int) (i jj : Nat) : Nat → Way := fun q => if i ≤ q ∧ q < jj then ⟨((q : Int) - (i : Int)) * c1, 0, [], true⟩ else Way.no
theorem emptyRow_start (c1 : Int) (i : Nat) : emptyRow c1 i i = fun _ => Way.no := by funext q; unfold emptyRow; rw [if_neg (by omega)]
theorem emptyRow_next (c1 : Int) {i jj : Nat} (h : i ≤ jj) : upd (emptyRow c1 i jj) jj ⟨((jj : Int) - (i : Int)) * c1, 0, [], true⟩ = emptyRow c1 i (jj + 1) := by
  funext q
  by_cases e : q = jj
  · subst e; rw [upd_same, emptyRow, if_pos ⟨h, by omega⟩]
  · rw [upd_ne _ _ e, emptyRow, emptyRow]
    by_cases e2 : i ≤ q ∧ q < jj
    · rw [if_pos e2, if_pos ⟨e2.1, by omega⟩]
    · rw [if_neg e2, if_neg (by omega)]
/-- the words of a row that is being made in block b: old ones that are good, new ones, none in b -/
def Zb (ok : Nat → Prop) (lo b : Nat) : Nat → Prop := fun x => (ok x ∨ lo ≤ x) ∧ x ≠ b
def RuleP (ok : Nat → Prop) (w : World) (n : Nat) (f : Nat → Way) (e : Ending) (w' : World) : Prop :=
  ∃ b, e = .returned (.slice (some ⟨b, 0, none⟩) (n + 1) (n + 1)) ∧ w.heap.size ≤ b ∧ WRow (Zb ok w.heap.size b) w' b n f ∧ Below w.heap.size w w'

set_option maxRecDepth 100000 in
set_option maxHeartbeats 4000000 in
theorem rule_empty (ok : Nat → Prop) (bc : Nat) (v : CorV) (xs : List Int) (left rc i : Nat) (rA : Option Addr) (st : WSt) (w : World) (hb : Blk w bc 71 v.cells) (hx : Ints w v.A v.n v.c xs)
    (h1 : 1 ≤ v.c1 ∧ v.c1 ≤ 100) (hn : v.n ≤ 12) (hi : i ≤ v.n) :
    Calls Try.prog 28 #[.pointer (some ⟨bc, 0, none⟩), .agg #[.int .i64 (left : Int), .slice rA 0 rc], .int .i64 (i : Int)] w (RuleP ok w v.n (ruleW v.c0 v.c1 v.c2 xs st v.n i [])) := by
  have hmk := mk_ways v.n (by omega)
  have HX := Lib.hid hx.len
  clear hx
  obtain ⟨gt, gn, gs, gA, gl, gc, A, n, c, c0, c1, c2, bA, bn, bcc⟩ := v
  simp only [CorV.cells] at hb HX h1 hn hi hmk ⊢
  have lb := hb.lt
  have cb0 := hb.cell
  have B1 := hb.al (.cells #[.int .i64 (left : Int), .slice rA 0 rc] 75)
  have HB := Lib.hid (B1.al (.cells (wayCells n) 78))
  have hR := WRow.made (Zb ok w.heap.size (w.heap.size + 1)) (w.alloc (.cells #[.int .i64 (left : Int), .slice rA 0 rc] 75)) n
  rw [World.size_alloc] at hR
  have HR := Lib.hid hR
  have HW := Lib.hid (((Below.refl w.heap.size w).al (.cells #[.int .i64 (left : Int), .slice rA 0 rc] 75)).al (.cells (wayCells n) 78))
  clear hb B1 hR
  go_enter Try.func28, Try.ntmps28
  go_wp2_with fail
  clear cb0 hmk
  generalize (w.alloc (.cells #[.int .i64 (left : Int), .slice rA 0 rc] 75)).alloc (.cells (wayCells n) 78) = W at *
  go_loopw [9] (fun q wr => ∃ jj : Nat, q = .int .i64 jj ∧ i ≤ jj ∧ jj ≤ n + 1 ∧ WRow (Zb ok w.heap.size (w.heap.size + 1)) wr (w.heap.size + 1) n (emptyRow c1 i jj) ∧ Blk wr bc 71 #[.int .i64 (gt : Int), .int .i64 (gn : Int), .int .i64 (gs : Int), .slice gA gl gc, .slice A n c, .int .i64 c0, .int .i64 c1, .int .i64 c2, .slice bA bn bcc] ∧ Below w.heap.size w wr) (fun q _ => n + 1 - (intOf q).toNat)
  case atStart => exact ⟨i, rfl, Nat.le_refl _, by omega, by rw [emptyRow_start]; exact HR.out, HB.out, HW.out⟩
  case round =>
    obtain ⟨jj, rfl, hij, hjn, hR, hC, hW⟩ := hrel
    clear HR HB HW
    by_cases hlt : jj ≤ n
    · obtain ⟨vv, -, d0, d1, d2, d3⟩ := hR.at_ hlt
      have fr := hR.frozen
      have cC := hC.cell
      have i0 : (0 : Int) ≤ (jj : Int) := by omega
      have i1 : (jj : Int) < (n : Int) + 1 := by omega
      have q2 : ((jj : Int) - (i : Int)) * c1 ≤ 12 * 100 := Int.mul_le_mul (by omega) h1.2 (by omega) (by omega)
      have q3 : 0 ≤ ((jj : Int) - (i : Int)) * c1 := Int.mul_nonneg (by omega) (by omega)
      have HRP := Lib.hid (hR.put hlt (v := (((jj : Int) - (i : Int)) * c1, 0, (none, 0, 0), true)) (y := ⟨((jj : Int) - (i : Int)) * c1, 0, [], true⟩) ⟨rfl, rfl, rfl, Sl.nil 0⟩ (fun x h => h.2))
      have HCP := Lib.hid ((heap_put4 (w := wr) (b := w.heap.size + 1) (o := jj * 4) (v := (((jj : Int) - (i : Int)) * c1, 0, (none, 0, 0), true)) (g := bc) (by omega)).trans hC)
      have HWP := Lib.hid (below_put4 (b := w.heap.size + 1) (o := jj * 4) (v := (((jj : Int) - (i : Int)) * c1, 0, (none, 0, 0), true)) hW (by omega))
      clear hR hC hW
      go_wp2_with fail
      refine ⟨⟨jj + 1, by go_num, by omega, by omega, by rw [← emptyRow_next c1 hij]; exact HRP.out, HCP.out, HWP.out⟩, by simp [intOf]; omega⟩
    · have HR := Lib.hid hR
      have HW := Lib.hid hW
      have HJ := Lib.hid (show jj = n + 1 by omega)
      clear hR hC hW
      go_wp2_with fail
      go_ret
      refine ⟨w.heap.size + 1, rfl, by omega, ?_, HW.out⟩
      have e : ruleW c0 c1 c2 xs st n i [] = emptyRow c1 i jj := by
        funext q; rw [ruleW, if_pos rfl, emptyRow, HJ.out]
        by_cases e : i ≤ q ∧ q ≤ n
        · rw [if_pos e, if_pos (by omega)]
        · rw [if_neg e, if_neg (by omega)]
      rw [e]; exact HR.out
end Go.Proofs.Ytghnkgbingcbcaa
