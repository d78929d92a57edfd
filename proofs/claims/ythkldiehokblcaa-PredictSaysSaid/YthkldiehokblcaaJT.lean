/- Texts JT, laid together. -/
import Derived.Test.YthkldiehokblcaaJR


namespace Go.Proofs.Ythkldiehokblcaa
open Go.RowKit

/-- is rule i possible for n at t? -/
noncomputable def isPos (g : Gr) (n t i : Nat) : Bool := match g.rules[i]? with
  | some u => @decide (u.1 = n ∧ Pos g u t) (Classical.propDecidable _)
  | none => false
theorem isPos_t {g : Gr} {n t k : Nat} {u : Ru} (hu : g.rules[k]? = some u) (h : u.1 = n ∧ Pos g u t) : isPos g n t k = true := by
  unfold isPos; rw [hu]; exact @decide_eq_true _ (Classical.propDecidable _) h
theorem isPos_f {g : Gr} {n t k : Nat} {u : Ru} (hu : g.rules[k]? = some u) (h : ¬ (u.1 = n ∧ Pos g u t)) : isPos g n t k = false := by
  unfold isPos; rw [hu]; exact @decide_eq_false _ (Classical.propDecidable _) h
/-- the first k rules that are possible for n at t, rising -/
noncomputable def posK (g : Gr) (n t k : Nat) : List Nat := (List.range k).filter (isPos g n t)
noncomputable def posL (g : Gr) (n t : Nat) : List Nat := posK g n t g.rules.length
theorem posK_hit {g : Gr} {n t k : Nat} {u : Ru} (hu : g.rules[k]? = some u) (h : u.1 = n ∧ Pos g u t) : posK g n t (k + 1) = posK g n t k ++ [k] := by
  unfold posK
  rw [List.range_succ, List.filter_append]
  simp [isPos_t hu h]
theorem posK_miss {g : Gr} {n t k : Nat} {u : Ru} (hu : g.rules[k]? = some u) (h : ¬ (u.1 = n ∧ Pos g u t)) : posK g n t (k + 1) = posK g n t k := by
  unfold posK
  rw [List.range_succ, List.filter_append]
  simp [isPos_f hu h]
theorem posK_len (g : Gr) (n t k : Nat) : (posK g n t k).length ≤ k := by
  unfold posK
  exact Nat.le_trans (List.length_filter_le _ _) (by simp)
theorem posL_mem {g : Gr} {n t i : Nat} : i ∈ posL g n t ↔ ∃ u, g.rules[i]? = some u ∧ u.1 = n ∧ Pos g u t := by
  unfold posL posK
  rw [List.mem_filter, List.mem_range]
  constructor
  · rintro ⟨hi, h⟩
    have hu : g.rules[i]? = some g.rules[i] := List.getElem?_eq_getElem hi
    refine ⟨_, hu, Classical.byContradiction fun q => ?_⟩
    rw [isPos_f hu q] at h; cases h
  · rintro ⟨u, hu, h⟩
    exact ⟨(List.getElem?_eq_some_iff.1 hu).1, isPos_t hu h⟩
/-- the cell of the table: the first possible rule, or -1 -/
def headI : List Nat → Int
  | [] => -1
  | i :: _ => (i : Int)
noncomputable def rowP (g : Gr) (n k : Nat) : List Int := (List.range k).map fun t => headI (posL g n t)
noncomputable def tabT (g : Gr) (k : Nat) : List (List Int) := (List.range k).map fun n => rowP g n (g.terms + 1)
/-- the clashes of the first k terminals of n -/
noncomputable def clK (g : Gr) (n k : Nat) : List (Nat × Nat × List Nat) := (List.range k).filterMap fun t => if 1 < (posL g n t).length then some (n, t, posL g n t) else none
noncomputable def clN (g : Gr) (k : Nat) : List (Nat × Nat × List Nat) := (List.range k).flatMap fun n => clK g n (g.terms + 1)
theorem clK_hit {g : Gr} {n k : Nat} (h : 1 < (posL g n k).length) : clK g n (k + 1) = clK g n k ++ [(n, k, posL g n k)] := by
  unfold clK; rw [List.range_succ, List.filterMap_append]; simp [h]
theorem clK_miss {g : Gr} {n k : Nat} (h : ¬ 1 < (posL g n k).length) : clK g n (k + 1) = clK g n k := by
  unfold clK; rw [List.range_succ, List.filterMap_append]; simp [h]
theorem clN_next (g : Gr) (k : Nat) : clN g (k + 1) = clN g k ++ clK g k (g.terms + 1) := by
  unfold clN; rw [List.range_succ, List.flatMap_append]; simp
theorem clK_len (g : Gr) (n k : Nat) : (clK g n k).length ≤ k := by
  unfold clK
  exact Nat.le_trans (List.length_filterMap_le _ _) (by simp)
/-- no clash at all: at most one rule is possible -/
theorem clN_none {g : Gr} {n t : Nat} (h : clN g g.nons = []) (hn : n < g.nons) (ht : t ≤ g.terms) : (posL g n t).length ≤ 1 := by
  apply Classical.byContradiction
  intro hc
  have hm : (n, t, posL g n t) ∈ clN g g.nons := by
    unfold clN clK
    rw [List.mem_flatMap]
    refine ⟨n, List.mem_range.2 hn, List.mem_filterMap.2 ⟨t, List.mem_range.2 (by omega), by rw [if_pos (by omega)]⟩⟩
  rw [h] at hm; cases hm
end Go.Proofs.Ythkldiehokblcaa

