/- parlmake's stream: next. -/
import Derived.Test.YtghnkgbingcbcaaKO
import Derived.Laws.StructEq
namespace Go.Proofs.Ytghnkgbingcbcaa
open Go.RowKit

set_option maxHeartbeats 1000000 in
theorem snext_c1 (w0 w : World) (b : Nat) (n : Int) (A : Option Addr) (m c : Nat) (ls : List Int) (hI : Ints w0 A m c ls) (hB : Below w0.heap.size w0 w)
    (hcell : w.cell? ⟨b, 0, none⟩ = some (.slice A m c)) (hf : w.frozen? ⟨b, 0, none⟩ = false) (hn : n ≤ 1000000000) (hn1 : 1 ≤ n) :
    Calls Try.prog 31 #[.pointer (some ⟨b, 0, none⟩), .int .i64 n] w (NextP1 w0 w m b n) := by
  by_cases h0 : m = 0
  · have hfin : NextP1 w0 w m b n (.returned (.int .i64 0)) w := ⟨0, A, m, c, ls, rfl, by omega, by omega, Nat.le_refl _, (setCell_self hcell).symm, hI⟩
    have hfin' := Lib.hid hfin
    clear hfin hI
    subst h0
    go_enter Try.func31, Try.ntmps31
    go_wp2
    go_ret
    exact hfin'.out
  · have h1 : 0 < m := by omega
    have h2 : 1 ≤ n := hn1
    clear h0
    obtain ⟨b1, off, hA, hb1, hx⟩ := hI.at_ h1
    have hx' : w.cell? ⟨b1, off, none⟩ = some (.int .i64 (ls.getD 0 0)) := (hB.cell (p := ⟨b1, off, none⟩) hb1).trans hx
    have hcut := Ints.cut (l := 1) (m := m) hI (by omega) (Nat.le_refl _)
    have hcut' := Lib.hid hcut
    have hlo := belowI_lo (ls.getD 0 0) n h2
    have hhi := belowI_hi (ls.getD 0 0) n h2
    subst hA
    generalize ls.getD 0 0 = x at *
    clear hcut hI hB hx
    have k1 : ((m : Int) == 0) = false := by simp; omega
    have k2 : decide (n < 1) = false := by simp; omega
    go_enter Try.func31, Try.ntmps31
    go_wp2_with (go_at_call 17; refine (below_c x n _ (by omega) (by omega)).mono ?_; rintro e w' ⟨rfl, rfl⟩)
    all_goals
      go_ret
      refine ⟨_, _, _, _, (ls.take m).drop 1, rfl, hlo, hhi, Nat.sub_le _ _, rfl, ?_⟩
      simpa [*, Addr.add] using hcut'.out

/-- one number, as a natural number -/
def NextN (w0 w : World) (m0 : Nat) (b : Nat) (n : Nat) (e : Ending) (w' : World) : Prop :=
  ∃ (v : Nat) (A : Option Addr) (m c : Nat) (ls : List Int), e = .returned (.int .i64 (v : Int)) ∧ v < n ∧ m ≤ m0 ∧ w' = w.setCell ⟨b, 0, none⟩ (.slice A m c) ∧ Ints w0 A m c ls
theorem snext_n (w0 w : World) (b : Nat) (n : Nat) (q : Int) (hq : q = (n : Int)) (A : Option Addr) (m c : Nat) (ls : List Int) (hI : Ints w0 A m c ls) (hB : Below w0.heap.size w0 w)
    (hcell : w.cell? ⟨b, 0, none⟩ = some (.slice A m c)) (hf : w.frozen? ⟨b, 0, none⟩ = false) (hn : n ≤ 1000000000) (hn1 : 1 ≤ n) :
    Calls Try.prog 31 #[.pointer (some ⟨b, 0, none⟩), .int .i64 q] w (NextN w0 w m b n) := by
  subst hq
  refine (snext_c1 w0 w b n A m c ls hI hB hcell hf (by omega) (by omega)).mono ?_
  rintro e w' ⟨v, A', m', c', l', rfl, h2, h3, h4⟩
  exact ⟨v.toNat, A', m', c', l', by rw [Int.toNat_of_nonneg h2], by omega, h4⟩
theorem rnext_n (w0 w : World) (b : Nat) (n : Nat) (q : Int) (hq : q = (n : Int)) (A : Option Addr) (m c : Nat) (ls : List Int) (hI : Ints w0 A m c ls) (hB : Below w0.heap.size w0 w)
    (hcell : w.cell? ⟨b, 0, none⟩ = some (.slice A m c)) (hf : w.frozen? ⟨b, 0, none⟩ = false) (hn : n ≤ 1000000000) (hn1 : 1 ≤ n) :
    Calls Try.prog 33 #[.pointer (some ⟨b, 0, none⟩), .int .i64 q] w (NextN w0 w m b n) := by
  subst hq
  refine (next_c1 w0 w b n A m c ls hI hB hcell hf (by omega) (by omega)).mono ?_
  rintro e w' ⟨v, A', m', c', l', rfl, h2, h3, h4⟩
  exact ⟨v.toNat, A', m', c', l', by rw [Int.toNat_of_nonneg h2], by omega, h4⟩
end Go.Proofs.Ytghnkgbingcbcaa
