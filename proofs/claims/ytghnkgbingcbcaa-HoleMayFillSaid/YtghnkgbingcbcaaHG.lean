/- The lengths of the shortest words: plain. -/
import Derived.Test.YtghnkgbingcbcaaHF
namespace Go.Proofs.Ytghnkgbingcbcaa

/-- how many numbers are set (not below zero) -/
def cntS : List Int → Nat
  | [] => 0
  | x :: l => (if x < 0 then 0 else 1) + cntS l
/-- what can still go down: T for a number that is not set -/
def muS (T : Nat) : List Int → Nat
  | [] => 0
  | x :: l => (if x < 0 then T else x.toNat) + muS T l
theorem cntS_le : ∀ xs : List Int, cntS xs ≤ xs.length
  | [] => Nat.le_refl _
  | x :: l => by have := cntS_le l; simp only [cntS, List.length_cons]; split <;> omega
theorem cntS_lt : ∀ {xs : List Int} {i : Nat} {x : Int}, xs[i]? = some x → x < 0 → cntS xs < xs.length
  | [], i, x, h, _ => by simp at h
  | y :: l, 0, x, h, hx => by
    simp at h; subst h
    have := cntS_le l
    simp only [cntS, List.length_cons, if_pos hx]; omega
  | y :: l, i + 1, x, h, hx => by
    have := cntS_lt (xs := l) (i := i) (by simpa using h) hx
    simp only [cntS, List.length_cons]; split <;> omega
theorem cntS_set : ∀ {xs : List Int} {i : Nat} {x v : Int}, xs[i]? = some x → 0 ≤ v → cntS (xs.set i v) = cntS xs + (if x < 0 then 1 else 0)
  | [], i, x, v, h, _ => by simp at h
  | y :: l, 0, x, v, h, hv => by
    simp at h; subst h
    simp only [List.set_cons_zero, cntS, if_neg (show ¬ v < 0 by omega)]; split <;> omega
  | y :: l, i + 1, x, v, h, hv => by
    have := cntS_set (xs := l) (i := i) (by simpa using h) hv
    simp only [List.set_cons_succ, cntS, this]; omega
theorem muS_set (T : Nat) : ∀ {xs : List Int} {i : Nat} {x v : Int}, xs[i]? = some x → 0 ≤ v → muS T (xs.set i v) + (if x < 0 then T else x.toNat) = muS T xs + v.toNat
  | [], i, x, v, h, _ => by simp at h
  | y :: l, 0, x, v, h, hv => by
    simp at h; subst h
    simp only [List.set_cons_zero, muS, if_neg (show ¬ v < 0 by omega)]; omega
  | y :: l, i + 1, x, v, h, hv => by
    have := muS_set T (xs := l) (i := i) (by simpa using h) hv
    simp only [List.set_cons_succ, muS]; omega
/-- the numbers of a table: -1 or a length, not above 4 to the count of the set ones -/
structure LenG (nons : Nat) (xs : List Int) : Prop where
  len : xs.length = nons
  bnd : ∀ x ∈ xs, -1 ≤ x ∧ x ≤ ((4 ^ cntS xs : Nat) : Int)
theorem LenG.start (n : Nat) : LenG n (List.replicate n (-1)) :=
  ⟨by simp, fun x hx => by rw [List.eq_of_mem_replicate hx]; exact ⟨by omega, by have := Int.natCast_nonneg (4 ^ cntS (List.replicate n (-1))); omega⟩⟩
theorem LenG.top {n : Nat} {xs : List Int} (h : LenG n xs) : (4 ^ cntS xs : Nat) ≤ 4 ^ n := Nat.pow_le_pow_right (by omega) (by rw [← h.len]; exact cntS_le xs)
theorem LenG.put {n i : Nat} {xs : List Int} {x v : Int} (h : LenG n xs) (hi : xs[i]? = some x) (h0 : 0 ≤ v) (hv : v ≤ ((4 * 4 ^ cntS xs : Nat) : Int)) (hx : x < 0 ∨ v < x) :
    LenG n (xs.set i v) ∧ muS (4 ^ n + 1) (xs.set i v) < muS (4 ^ n + 1) xs := by
  have hc := cntS_set hi h0
  have hm := muS_set (4 ^ n + 1) hi h0
  by_cases e : x < 0
  · rw [if_pos e] at hc hm
    have hlt : cntS xs + 1 ≤ n := by rw [← h.len]; exact cntS_lt hi e
    have h4 : (4 ^ (cntS xs + 1) : Nat) ≤ 4 ^ n := Nat.pow_le_pow_right (by omega) hlt
    have h5 : (4 ^ (cntS xs + 1) : Nat) = 4 * 4 ^ cntS xs := by rw [Nat.pow_succ]; omega
    refine ⟨⟨by rw [List.length_set]; exact h.len, fun y hy => ?_⟩, by omega⟩
    rw [hc, h5]
    rcases List.mem_or_eq_of_mem_set hy with hy | rfl
    · have := h.bnd y hy; omega
    · omega
  · rw [if_neg e] at hc hm
    have hvx : v < x := by rcases hx with hx | hx <;> omega
    refine ⟨⟨by rw [List.length_set]; exact h.len, fun y hy => ?_⟩, by omega⟩
    rw [hc, Nat.add_zero]
    rcases List.mem_or_eq_of_mem_set hy with hy | rfl
    · exact h.bnd y hy
    · have := h.bnd x (List.mem_of_getElem? hi); omega
/-- the sum over the first j symbols of a right side -/
def SumB (xs : List Int) (j : Nat) (s : Int) : Prop := -1 ≤ s ∧ s ≤ ((j * 4 ^ cntS xs : Nat) : Int)
theorem SumB.start (xs : List Int) : SumB xs 0 0 := ⟨by omega, by simp⟩
theorem SumB.no (xs : List Int) (j : Nat) : SumB xs j (-1) := ⟨by omega, by omega⟩
theorem SumB.one {xs : List Int} {j : Nat} {s : Int} (h : SumB xs j s) : SumB xs (j + 1) (s + 1) := by
  have h1 : 1 ≤ 4 ^ cntS xs := Nat.pow_pos (by omega)
  have h2 : (j + 1) * 4 ^ cntS xs = j * 4 ^ cntS xs + 4 ^ cntS xs := by rw [Nat.add_mul]; omega
  unfold SumB at *
  rw [h2]; omega
theorem SumB.add {xs : List Int} {n j : Nat} {s x : Int} (h : SumB xs j s) (hg : LenG n xs) (hx : x ∈ xs) (h0 : 0 ≤ x) : SumB xs (j + 1) (s + x) := by
  have h1 := hg.bnd x hx
  have h2 : (j + 1) * 4 ^ cntS xs = j * 4 ^ cntS xs + 4 ^ cntS xs := by rw [Nat.add_mul]; omega
  unfold SumB at *
  rw [h2]; omega
theorem SumB.small {xs : List Int} {n j : Nat} {s : Int} (h : SumB xs j s) (hg : LenG n xs) (hj : j ≤ 4) (hn : n ≤ 12) : s ≤ 67108864 := by
  have h1 := hg.top
  have h2 : (4 ^ n : Nat) ≤ 4 ^ 12 := Nat.pow_le_pow_right (by omega) hn
  have h3 : j * 4 ^ cntS xs ≤ 4 * 4 ^ cntS xs := Nat.mul_le_mul_right _ hj
  have h4 := h.2
  have h5 : (4 ^ 12 : Nat) = 16777216 := by decide
  omega
theorem SumB.four {xs : List Int} {j : Nat} {s : Int} (h : SumB xs j s) (hj : j ≤ 4) : s ≤ ((4 * 4 ^ cntS xs : Nat) : Int) := by
  have h3 : j * 4 ^ cntS xs ≤ 4 * 4 ^ cntS xs := Nat.mul_le_mul_right _ hj
  have := h.2; omega
end Go.Proofs.Ytghnkgbingcbcaa
