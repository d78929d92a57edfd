/- Texts DV, laid together. -/
import Derived.Test.YtbhenicldddlfaaDoorE7


namespace Go.Proofs.YtbhenicldddlfaaDoor
open Go.RowKit

theorem cmpI_anti (x y : Int) : cmpI x y = - cmpI y x := by
  unfold cmpI; split <;> split <;> first | rfl | omega
theorem cmpI_zero {x y : Int} : cmpI x y = 0 ↔ x = y := by
  unfold cmpI; constructor
  · intro h; split at h
    · omega
    · split at h <;> omega
  · rintro rfl; simp
theorem cmpI_self (x : Int) : cmpI x x = 0 := cmpI_zero.2 rfl
theorem cmpI_le {x y : Int} : cmpI x y ≤ 0 ↔ x ≤ y := by
  unfold cmpI; constructor
  · intro h; split at h
    · omega
    · split at h <;> omega
  · intro h; split
    · omega
    · rw [if_neg (by omega)]; omega
theorem cmpL_anti : ∀ xs ys : List Int, cmpL xs ys = - cmpL ys xs
  | [], [] => rfl
  | [], _ :: _ => rfl
  | _ :: _, [] => rfl
  | x :: xs, y :: ys => by
    rw [cmpL, cmpL, cmpI_anti x y, cmpL_anti xs ys]
    by_cases h : cmpI y x = 0
    · rw [h]; simp
    · rw [if_neg (by omega), if_neg h]
theorem cmpL_zero : ∀ {xs ys : List Int}, cmpL xs ys = 0 ↔ xs = ys
  | [], [] => by simp [cmpL]
  | [], _ :: _ => by simp [cmpL]
  | _ :: _, [] => by simp [cmpL]
  | x :: xs, y :: ys => by
    rw [cmpL]
    by_cases h : cmpI x y = 0
    · rw [if_pos h, cmpL_zero, cmpI_zero.1 h]; simp
    · rw [if_neg h]
      constructor
      · intro e; exact absurd e h
      · intro e; cases e; exact absurd (cmpI_self x) h
theorem cmpL_trans : ∀ {xs ys zs : List Int}, cmpL xs ys ≤ 0 → cmpL ys zs ≤ 0 → cmpL xs zs ≤ 0
  | [], _, [] => by simp [cmpL]
  | [], _, _ :: _ => by simp [cmpL]
  | _ :: _, [], _ => by intro h; simp [cmpL] at h
  | _ :: _, _ :: _, [] => by intro _ h; simp [cmpL] at h
  | x :: xs, y :: ys, z :: zs => by
    rw [cmpL, cmpL, cmpL]
    intro h1 h2
    by_cases e1 : cmpI x y = 0
    · rw [if_pos e1] at h1
      have := cmpI_zero.1 e1; subst this
      by_cases e2 : cmpI x z = 0
      · rw [if_pos e2] at h2 ⊢
        exact cmpL_trans h1 h2
      · rw [if_neg e2] at h2 ⊢; exact h2
    · rw [if_neg e1] at h1
      have n1 := cmpI_le.1 h1
      by_cases e2 : cmpI y z = 0
      · have := cmpI_zero.1 e2; subst this
        rw [if_neg e1]; exact h1
      · rw [if_neg e2] at h2
        have n2 := cmpI_le.1 h2
        have m1 : x ≠ y := fun e => e1 (cmpI_zero.2 e)
        rw [if_neg (fun e => by have := cmpI_zero.1 e; omega)]
        exact cmpI_le.2 (by omega)
def Lz.key (x : Lz) : List Int := (x.ex : Int) :: (x.ln : Int) :: x.ch
theorem or3_key (a b c d : Int) (xs ys : List Int) : orL [cmpI a b, cmpI c d, cmpL xs ys] = cmpL (a :: c :: xs) (b :: d :: ys) := by
  simp only [orL, cmpL]
  split
  · split
    · split
      · rename_i h; exact h.symm
      · rfl
    · rfl
  · rfl
theorem lzC_key (x y : Lz) : lzC x y = cmpL x.key y.key := or3_key _ _ _ _ _ _
theorem cmpL_self (xs : List Int) : cmpL xs xs = 0 := cmpL_zero.2 rfl
theorem cmpL_lt_trans {xs ys zs : List Int} (h1 : cmpL xs ys < 0) (h2 : cmpL ys zs < 0) : cmpL xs zs < 0 := by
  have h3 := cmpL_trans (xs := xs) (ys := ys) (zs := zs) (by omega) (by omega)
  have h4 : cmpL xs zs ≠ 0 := fun e => by
    have e2 := cmpL_zero.1 e
    subst e2
    rw [cmpL_anti] at h2
    omega
  omega
end Go.Proofs.YtbhenicldddlfaaDoor

