/- leaves, Leaf, Cover: plain functions and laws. -/
import Derived.Test.YtdccgeiniockpaaGG
namespace Go.Proofs.Ytdccgeiniockpaa
open Go.RowKit

mutual
/-- the path of the leaf number n -/
def Tr.leafQ : Tr → Nat → List Nat
  | .leaf _, _ => []
  | .node _ ks, n => Tr.leafQs ks 0 n
def Tr.leafQs : List Tr → Nat → Nat → List Nat
  | [], _, _ => []
  | t :: ts, i, n => if n < t.wds.length then i :: t.leafQ n else Tr.leafQs ts (i + 1) (n - t.wds.length)
end
theorem wdsL_cons (t : Tr) (ts : List Tr) : wdsL (t :: ts) = t.wds ++ wdsL ts := by simp [wdsL]
theorem wdsL_take {ks : List Tr} {k : Nat} {y : Tr} (h : ks[k]? = some y) : wdsL (ks.take (k + 1)) = wdsL (ks.take k) ++ y.wds := by
  have hl := List.getElem?_eq_some_iff.1 h
  rw [List.take_succ_eq_append_getElem hl.1, hl.2]
  simp [wdsL]
theorem Tr.wds_kids {t : Tr} (h : t.rl ≠ -1) : t.wds = wdsL t.kids := by
  cases t with
  | leaf k => exact absurd rfl h
  | node r ks => exact Tr.wds_node r ks

mutual
theorem Tr.leafQ_at : ∀ (t : Tr) (n : Nat) (_ : n < t.wds.length), ∃ k, t.at? (t.leafQ n) = some (.leaf k) ∧ t.wds[n]? = some (k : Int)
  | .leaf k, n, h => by
    rw [Tr.wds_leaf] at h ⊢
    have : n = 0 := by simp at h; omega
    subst this
    exact ⟨k, rfl, rfl⟩
  | .node r ks, n, h => by
    rw [Tr.wds_node] at h ⊢
    obtain ⟨j, k, y, h1, h2, h3, h4⟩ := Tr.leafQs_at ks 0 n h
    refine ⟨k, ?_, h4⟩
    simp only [Tr.leafQ, h1, Tr.at?, Tr.kids]
    rw [Nat.zero_add, h2]
    exact h3
theorem Tr.leafQs_at : ∀ (ks : List Tr) (i n : Nat) (_ : n < (wdsL ks).length), ∃ (j k : Nat) (y : List Nat × Tr), Tr.leafQs ks i n = (i + j) :: y.1 ∧ ks[j]? = some y.2 ∧ Tr.at? y.2 y.1 = some (.leaf k) ∧ (wdsL ks)[n]? = some (k : Int)
  | [], i, n, h => by simp [wdsL] at h
  | t :: ts, i, n, h => by
    rw [wdsL_cons] at h ⊢
    rw [Tr.leafQs]
    by_cases hn : n < t.wds.length
    · obtain ⟨k, h1, h2⟩ := Tr.leafQ_at t n hn
      exact ⟨0, k, (t.leafQ n, t), by rw [if_pos hn, Nat.add_zero], rfl, h1, by rw [List.getElem?_append_left hn]; exact h2⟩
    · obtain ⟨j, k, y, h1, h2, h3, h4⟩ := Tr.leafQs_at ts (i + 1) (n - t.wds.length) (by simp at h; omega)
      exact ⟨j + 1, k, y, by rw [if_neg hn, h1]; congr 1; omega, h2, h3, by rw [List.getElem?_append_right (by omega)]; exact h4⟩
end

/-- the tree x, found at a path, has the terminals of t from 'off' on -/
def Tr.Part (t x : Tr) (off : Nat) : Prop := ∃ a b, t.wds = a ++ x.wds ++ b ∧ a.length = off
theorem Tr.Part.self (t : Tr) : Tr.Part t t 0 := ⟨[], [], by simp, rfl⟩
theorem wdsL_split {ks : List Tr} {k : Nat} {y : Tr} (h : ks[k]? = some y) : wdsL ks = wdsL (ks.take k) ++ y.wds ++ wdsL (ks.drop (k + 1)) := by
  have hl := List.getElem?_eq_some_iff.1 h
  have e := List.take_append_drop (k + 1) ks
  rw [← wdsL_take h]
  conv => lhs; rw [← e]
  exact List.flatMap_append
theorem Tr.Part.kid {t x y : Tr} {off k : Nat} (h : Tr.Part t x off) (hr : x.rl ≠ -1) (hk : x.kids[k]? = some y) : Tr.Part t y (off + (wdsL (x.kids.take k)).length) := by
  obtain ⟨a, b, e, l⟩ := h
  rw [Tr.wds_kids hr, wdsL_split hk] at e
  exact ⟨a ++ wdsL (x.kids.take k), wdsL (x.kids.drop (k + 1)) ++ b, by rw [e]; simp [List.append_assoc], by simp [l]⟩
theorem wdsL_take_le {ks : List Tr} {k : Nat} {y : Tr} (h : ks[k]? = some y) : (wdsL (ks.take k)).length + y.wds.length ≤ (wdsL ks).length := by
  rw [wdsL_split h]; simp
theorem Tr.kid_rl {x y : Tr} {k : Nat} (h : x.kids[k]? = some y) : x.rl ≠ -1 := by
  cases x with
  | leaf a => simp [Tr.kids] at h
  | node r ks => show (r : Int) ≠ -1; omega
theorem Tr.kids_empty {x : Tr} (h : x.rl = -1) : x.kids = [] := by
  cases x with
  | leaf a => rfl
  | node r ks => have : (r : Int) = -1 := h; omega
theorem Tr.leafQ_step {ks : List Tr} {j n i : Nat} {y : Tr} (h : ks[j]? = some y) : Tr.leafQs (ks.drop j) i n = if n < y.wds.length then i :: y.leafQ n else Tr.leafQs (ks.drop (j + 1)) (i + 1) (n - y.wds.length) := by
  have hl := List.getElem?_eq_some_iff.1 h
  rw [List.drop_eq_getElem_cons hl.1, hl.2, Tr.leafQs]
end Go.Proofs.Ytdccgeiniockpaa
