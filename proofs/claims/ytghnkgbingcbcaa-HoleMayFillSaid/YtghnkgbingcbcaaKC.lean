/- parlkeep4's reader: next. -/
import Derived.Test.YtghnkgbingcbcaaKB
namespace Go.Proofs.Ytghnkgbingcbcaa
open Go.RowKit

theorem setCell_self {w : World} {b i : Nat} {v : Value} (h : w.cell? ⟨b, i, none⟩ = some v) : w.setCell ⟨b, i, none⟩ v = w := by
  unfold World.cell? at h
  split at h
  · rename_i c e f hb
    have hc : c[i]? = some v := by simpa using h
    have : w.heap.modify b (fun x => match x with | .cells c elem frozen => .cells (c.setIfInBounds i v) elem frozen | o => o) = w.heap := by
      apply Array.ext_getElem?
      intro k
      rw [Array.getElem?_modify]
      split
      · rename_i hk
        subst hk
        rw [hb]
        simp only [Option.map_some, Option.some.injEq, Obj.cells.injEq, and_true]
        apply Array.ext_getElem?
        intro j
        rw [Array.getElem?_setIfInBounds]
        split
        · rename_i hj
          subst hj
          obtain ⟨hlt, _⟩ := Array.getElem?_eq_some_iff.1 hc
          rw [if_pos hlt, hc]
        · rfl
      · rfl
    unfold World.setCell
    simp only [Option.isSome_none, Bool.false_eq_true, if_false]
    exact congrArg (fun hp => ({ w with heap := hp } : World)) this
  · cases h

/-- one number of the reader; the reader's own slice lies in w0's memory -/
def NextP (w0 w : World) (m0 : Nat) (b : Nat) (n : Int) (e : Ending) (w' : World) : Prop :=
  ∃ v A m c ls, e = .returned (.int .i64 v) ∧ 0 ≤ v ∧ (v < n ∨ v = 0) ∧ m ≤ m0 ∧ w' = w.setCell ⟨b, 0, none⟩ (.slice A m c) ∧ Ints w0 A m c ls

set_option maxHeartbeats 1000000 in
theorem next_c (w0 w : World) (b : Nat) (n : Int) (A : Option Addr) (m c : Nat) (ls : List Int) (hI : Ints w0 A m c ls) (hB : Below w0.heap.size w0 w)
    (hcell : w.cell? ⟨b, 0, none⟩ = some (.slice A m c)) (hf : w.frozen? ⟨b, 0, none⟩ = false) (hn : n ≤ 1000000000) :
    Calls Try.prog 33 #[.pointer (some ⟨b, 0, none⟩), .int .i64 n] w (NextP w0 w m b n) := by
  by_cases h0 : m = 0 ∨ n < 1
  · have hfin : NextP w0 w m b n (.returned (.int .i64 0)) w := ⟨0, A, m, c, ls, rfl, by omega, by omega, Nat.le_refl _, (setCell_self hcell).symm, hI⟩
    have hfin' := Lib.hid hfin
    clear hfin hI
    by_cases h1 : m = 0
    · subst h1
      go_enter Try.func33, Try.ntmps33
      go_wp2
      go_ret
      exact hfin'.out
    · have h2 : n < 1 := by omega
      have h1' : ((m : Int) == 0) = false := by simpa using h1
      clear h0
      go_enter Try.func33, Try.ntmps33
      go_wp2
      go_ret
      exact hfin'.out
  · have h1 : 0 < m := by omega
    have h2 : 1 ≤ n := by omega
    clear h0
    obtain ⟨b1, off, hA, hb1, hx⟩ := hI.at_ h1
    have hx' : w.cell? ⟨b1, off, none⟩ = some (.int .i64 (ls.getD 0 0)) := (hB.cell (p := ⟨b1, off, none⟩) hb1).trans hx
    have hcut := Ints.cut (l := 1) (m := m) hI (by omega) (Nat.le_refl _)
    have hcut' := Lib.hid hcut
    have hlo := belowI_lo (ls.getD 0 0) n h2
    have hhi := belowI_hi (ls.getD 0 0) n h2
    subst hA
    generalize ls.getD 0 0 = x at *
    clear hcut hI hB hx
    have k1 : ((m : Int) == 0) = false := by simp; omega
    have k2 : decide (n < 1) = false := by simp; omega
    go_enter Try.func33, Try.ntmps33
    go_wp2_with (go_at_call 17; refine (below_c x n _ (by omega) (by omega)).mono ?_; rintro e w' ⟨rfl, rfl⟩)
    all_goals
      go_ret
      refine ⟨_, _, _, _, (ls.take m).drop 1, rfl, hlo, Or.inl hhi, Nat.sub_le _ _, rfl, ?_⟩
      simpa [*, Addr.add] using hcut'.out

/-- .. where n is at least 1 -/
def NextP1 (w0 w : World) (m0 : Nat) (b : Nat) (n : Int) (e : Ending) (w' : World) : Prop :=
  ∃ v A m c ls, e = .returned (.int .i64 v) ∧ 0 ≤ v ∧ v < n ∧ m ≤ m0 ∧ w' = w.setCell ⟨b, 0, none⟩ (.slice A m c) ∧ Ints w0 A m c ls
theorem next_c1 (w0 w : World) (b : Nat) (n : Int) (A : Option Addr) (m c : Nat) (ls : List Int) (hI : Ints w0 A m c ls) (hB : Below w0.heap.size w0 w)
    (hcell : w.cell? ⟨b, 0, none⟩ = some (.slice A m c)) (hf : w.frozen? ⟨b, 0, none⟩ = false) (hn : n ≤ 1000000000) (hn1 : 1 ≤ n) :
    Calls Try.prog 33 #[.pointer (some ⟨b, 0, none⟩), .int .i64 n] w (NextP1 w0 w m b n) :=
  (next_c w0 w b n A m c ls hI hB hcell hf hn).mono fun e w' ⟨v, A', m', c', l', h1, h2, h3, h4⟩ => ⟨v, A', m', c', l', h1, h2, by omega, h4⟩
end Go.Proofs.Ytghnkgbingcbcaa

