/- Texts BG, laid together. -/
import Derived.Test.YtbfcnfgkccgbiaaGreatDoorBA


namespace Go.Proofs.YtbfcnfgkccgbiaaGreatDoor
open Go.RowKit

theorem low_bit2 {x : Nat} (h0 : x ≠ 0) (h : x < 4294967296) : ∃ k, k = Lib.ctz 32 x ∧ k < 32 ∧ x &&& (x - 1) < x ∧ (∀ p, x.testBit p = true ↔ p = k ∨ (x &&& (x - 1)).testBit p = true) ∧ (∀ p, p < k → x.testBit p = false) ∧ (x &&& (x - 1)).testBit k = false := by
  obtain ⟨m, hm, hk⟩ := Lib.ctzFrom_spec 32 x (by omega) (by omega)
  have e : Lib.ctz 32 x = Lib.ctzFrom 32 x := by simp [Lib.ctz, h0]
  rw [e]
  generalize Lib.ctzFrom 32 x = k at *
  have hp : 0 < 2 ^ k := Nat.pos_of_ne_zero (by simp)
  have key : ∀ p, (x - 1).testBit p = if p < k then true else if p = k then false else x.testBit p := by
    intro p
    have e1 : x - 1 = 2 ^ k * (2 * m) + (2 ^ k - 1) := by rw [hm, Nat.mul_add]; omega
    rw [e1, Nat.testBit_two_pow_mul_add _ (by omega), Nat.testBit_two_pow_sub_one]
    by_cases h1 : p < k
    · simp [h1]
    · rw [if_neg h1, if_neg h1, hm, Nat.mul_comm (2 ^ k), Nat.testBit_mul_two_pow]
      by_cases h2 : p = k
      · subst h2; simp [Nat.testBit_zero]
      · obtain ⟨q, rfl⟩ : ∃ q, p = k + (q + 1) := ⟨p - k - 1, by omega⟩
        rw [if_neg h2]
        have e2 : k + (q + 1) - k = q + 1 := by omega
        rw [e2, Nat.testBit_succ, Nat.testBit_succ]
        have d1 : 2 * m / 2 = m := by omega
        have d2 : (2 * m + 1) / 2 = m := by omega
        rw [d1, d2]; simp
  have hx : ∀ p, x.testBit p = if p < k then false else if p = k then true else x.testBit p := by
    intro p
    by_cases h1 : p < k
    · rw [if_pos h1, hm, Nat.mul_comm (2 ^ k), Nat.testBit_mul_two_pow]; simp; omega
    · rw [if_neg h1]
      by_cases h2 : p = k
      · subst h2; rw [if_pos rfl, hm, Nat.mul_comm (2 ^ p), Nat.testBit_mul_two_pow]; simp [Nat.testBit_zero]
      · rw [if_neg h2]
  refine ⟨k, rfl, hk, ?_, fun p => ?_, fun p hp => ?_, ?_⟩
  · have := Nat.and_le_right (n := x) (m := x - 1); omega
  · rw [Nat.testBit_and, key]
    by_cases h1 : p < k
    · have := hx p; rw [if_pos h1] at this
      simp [h1, this]; omega
    · rw [if_neg h1]
      by_cases h2 : p = k
      · subst h2
        have := hx p; rw [if_neg h1, if_pos rfl] at this
        simp [this]
      · simp [h2]
  · have := hx p; rw [if_pos hp] at this; exact this
  · rw [Nat.testBit_and, key]; simp
def bitsL (x : Nat) : List Nat := (List.range 32).filter fun p => x.testBit p
theorem bitsL_zero : bitsL 0 = [] := by simp [bitsL]
theorem filter_low {k n : Nat} (f g : Nat → Bool) (hk : k < n) (h1 : ∀ p, p < k → f p = false) (h2 : f k = true) (h3 : ∀ p, p ≤ k → g p = false) (h4 : ∀ p, k < p → f p = g p) : (List.range n).filter f = k :: (List.range n).filter g := by
  induction n with
  | zero => omega
  | succ n ih =>
    rw [List.range_succ, List.filter_append, List.filter_append]
    rcases Nat.lt_or_ge k n with hkn | hkn
    · rw [ih hkn]
      simp only [List.cons_append, List.cons.injEq, true_and]
      congr 1
      simp only [List.filter_cons, List.filter_nil, h4 n hkn]
    · obtain rfl : k = n := by omega
      have e1 : (List.range k).filter f = [] := List.filter_eq_nil_iff.2 fun p hp => by rw [h1 p (List.mem_range.1 hp)]; simp
      have e2 : (List.range k).filter g = [] := List.filter_eq_nil_iff.2 fun p hp => by rw [h3 p (by have := List.mem_range.1 hp; omega)]; simp
      rw [e1, e2]
      simp [h2, h3 k (Nat.le_refl _)]
theorem bitsL_step {x : Nat} (h0 : x ≠ 0) (h : x < 4294967296) : bitsL x = Lib.ctz 32 x :: bitsL (x &&& (x - 1)) := by
  obtain ⟨k, hk, hk32, hlt, hb, hlow, hnk⟩ := low_bit2 h0 h
  rw [← hk]
  have hkk : x.testBit k = true := (hb k).2 (Or.inl rfl)
  refine filter_low _ _ hk32 hlow hkk (fun p hp => ?_) (fun p hp => ?_)
  · cases hx : (x &&& (x - 1)).testBit p with
    | false => rfl
    | true =>
      exfalso
      have h1 := (hb p).2 (Or.inr hx)
      rcases Nat.lt_or_ge p k with hlt2 | hge
      · rw [hlow p hlt2] at h1; cases h1
      · obtain rfl : p = k := by omega
        rw [hnk] at hx; cases hx
  · exact Bool.eq_iff_iff.2 ((hb p).trans ⟨fun h => h.resolve_left (by omega), Or.inr⟩)
theorem range_split (i n : Nat) : List.range (i + n) = List.range i ++ (List.range n).map (i + ·) := List.range_add
/-- from the bits to the ways -/
theorem ways_bits {D : Ky → Bool} {s : Sy} {l : List Sy} {i j x : Nat} (hx : ∀ p, x.testBit p = D (s, i, p)) (hD : ∀ p, D (s, i, p) = true → i ≤ p) (hj : j < 32) (hi : i ≤ 32) :
    (bitsL x).flatMap (fun p => if p ≤ j then (waysF D l p j).map ((s, i, p) :: ·) else []) = waysF D (s :: l) i j := by
  have e1 : bitsL x = ((List.range (32 - i)).map (i + ·)).filter fun p => x.testBit p := by
    unfold bitsL
    have : (32 : Nat) = i + (32 - i) := by omega
    conv => lhs; rw [this, range_split, List.filter_append]
    have e : (List.range i).filter (fun p => x.testBit p) = [] := List.filter_eq_nil_iff.2 fun p hp => by
      have := List.mem_range.1 hp
      intro h
      rw [hx] at h
      have := hD p h; omega
    rw [e, List.nil_append]
  rw [e1, List.filter_map, List.flatMap_map, waysF]
  have e2 : ∀ q, (fun p => if p ≤ j then (waysF D l p j).map ((s, i, p) :: ·) else []) (i + q) = if i + q ≤ j then (waysF D l (i + q) j).map ((s, i, i + q) :: ·) else [] := fun q => rfl
  have key : ∀ L : List Nat, (List.filter ((fun p => x.testBit p) ∘ fun q => i + q) L).flatMap (fun q => if i + q ≤ j then (waysF D l (i + q) j).map ((s, i, i + q) :: ·) else []) =
      L.flatMap fun q => if i + q ≤ j then (if (D (s, i, i + q) && someF D l (i + q) j) = true then (waysF D l (i + q) j).map ((s, i, i + q) :: ·) else []) else [] := by
    intro L
    induction L with
    | nil => rfl
    | cons q L ih =>
      simp only [List.filter_cons, Function.comp, List.flatMap_cons] at ih ⊢
      have hxq := hx (i + q)
      cases hd : D (s, i, i + q) with
      | false =>
        rw [hd] at hxq
        rw [if_neg (by rw [hxq]; simp)]
        simp only [Bool.false_and]
        rw [ih]
        simp
      | true =>
        rw [hd] at hxq
        rw [if_pos hxq, List.flatMap_cons, ih]
        simp only [Bool.true_and]
        congr 1
        split
        · cases hs : someF D l (i + q) j with
          | true => simp
          | false => simp [ways_nil hs]
        · rfl
  rw [key]
  have e3 : ∀ f : Nat → List (List Ky), (List.range (32 - i)).flatMap (fun q => if i + q ≤ j then f q else []) = (List.range (j + 1 - i)).flatMap f := by
    intro f
    have : 32 - i = (j + 1 - i) + (32 - i - (j + 1 - i)) := by omega
    rw [this, range_split, List.flatMap_append]
    have h1 : (List.range (j + 1 - i)).flatMap (fun q => if i + q ≤ j then f q else []) = (List.range (j + 1 - i)).flatMap f := by
      have : ∀ L : List Nat, (∀ q ∈ L, i + q ≤ j) → L.flatMap (fun q => if i + q ≤ j then f q else []) = L.flatMap f := by
        intro L
        induction L with
        | nil => intro _; rfl
        | cons q L ih =>
          intro h
          rw [List.flatMap_cons, List.flatMap_cons, if_pos (h q (by simp)), ih fun q' hq' => h q' (by simp [hq'])]
      exact this _ fun q hq => by have := List.mem_range.1 hq; omega
    rw [h1]
    have h2 : ((List.range (32 - i - (j + 1 - i))).map (j + 1 - i + ·)).flatMap (fun q => if i + q ≤ j then f q else []) = [] := by
      rw [List.flatMap_eq_nil_iff]
      intro q hq
      obtain ⟨r, -, rfl⟩ := List.mem_map.1 hq
      rw [if_neg (by omega)]
    rw [h2, List.append_nil]
  rw [e3]
end Go.Proofs.YtbfcnfgkccgbiaaGreatDoor

