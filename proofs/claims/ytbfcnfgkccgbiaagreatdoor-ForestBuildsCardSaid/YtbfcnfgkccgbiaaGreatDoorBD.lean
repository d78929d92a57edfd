/- Texts BD, laid together. -/
import Derived.Test.YtbfcnfgkccgbiaaGreatDoorBA
import Derived.Test.YtbfcnfgkccgbiaaGreatDoorC2



namespace Go.Proofs.YtbfcnfgkccgbiaaGreatDoor
open Go.RowKit

theorem cmpI_anti (x y : Int) : cmpI x y = - cmpI y x := by
  unfold cmpI; split <;> split <;> first | rfl | omega
theorem cmpI_z0 {x y : Int} : cmpI x y = 0 ↔ x = y := by
  unfold cmpI; constructor
  · intro h; split at h
    · omega
    · split at h <;> omega
  · rintro rfl; simp
theorem cmpI_self (x : Int) : cmpI x x = 0 := cmpI_z0.2 rfl
theorem cmpI_le2 {x y : Int} : cmpI x y ≤ 0 ↔ x ≤ y := by
  unfold cmpI; constructor
  · intro h; split at h
    · omega
    · split at h <;> omega
  · intro h; split
    · omega
    · rw [if_neg (by omega)]; omega
theorem cmpL_anti : ∀ xs ys : List Int, cmpL xs ys = - cmpL ys xs
  | [], [] => rfl
  | [], _ :: _ => rfl
  | _ :: _, [] => rfl
  | x :: xs, y :: ys => by
    rw [cmpL, cmpL, cmpI_anti x y, cmpL_anti xs ys]
    by_cases h : cmpI y x = 0
    · rw [h]; simp
    · rw [if_neg (by omega), if_neg h]
theorem cmpL_zero : ∀ {xs ys : List Int}, cmpL xs ys = 0 ↔ xs = ys
  | [], [] => by simp [cmpL]
  | [], _ :: _ => by simp [cmpL]
  | _ :: _, [] => by simp [cmpL]
  | x :: xs, y :: ys => by
    rw [cmpL]
    by_cases h : cmpI x y = 0
    · rw [if_pos h, cmpL_zero, cmpI_z0.1 h]; simp
    · rw [if_neg h]
      constructor
      · intro e; exact absurd e h
      · intro e; cases e; exact absurd (cmpI_self x) h
theorem cmpL_trans : ∀ {xs ys zs : List Int}, cmpL xs ys ≤ 0 → cmpL ys zs ≤ 0 → cmpL xs zs ≤ 0
  | [], _, [] => by simp [cmpL]
  | [], _, _ :: _ => by simp [cmpL]
  | _ :: _, [], _ => by intro h; simp [cmpL] at h
  | _ :: _, _ :: _, [] => by intro _ h; simp [cmpL] at h
  | x :: xs, y :: ys, z :: zs => by
    rw [cmpL, cmpL, cmpL]
    intro h1 h2
    by_cases e1 : cmpI x y = 0
    · rw [if_pos e1] at h1
      have := cmpI_z0.1 e1; subst this
      by_cases e2 : cmpI x z = 0
      · rw [if_pos e2] at h2 ⊢
        exact cmpL_trans h1 h2
      · rw [if_neg e2] at h2 ⊢; exact h2
    · rw [if_neg e1] at h1
      have n1 := cmpI_le2.1 h1
      by_cases e2 : cmpI y z = 0
      · have := cmpI_z0.1 e2; subst this
        rw [if_neg e1]; exact h1
      · rw [if_neg e2] at h2
        have n2 := cmpI_le2.1 h2
        have m1 : x ≠ y := fun e => e1 (cmpI_z0.2 e)
        rw [if_neg (fun e => by have := cmpI_z0.1 e; omega)]
        exact cmpI_le2.2 (by omega)
theorem or3_key (a b c d : Int) (xs ys : List Int) : orL [cmpI a b, cmpI c d, cmpL xs ys] = cmpL (a :: c :: xs) (b :: d :: ys) := by
  simp only [orL, cmpL]
  split
  · split
    · split
      · rename_i h; exact h.symm
      · rfl
    · rfl
  · rfl
theorem cmpL_self (xs : List Int) : cmpL xs xs = 0 := cmpL_zero.2 rfl


def intsN (l : List Nat) : List Int := l.map fun i : Nat => (i : Int)
/-- a pack as a list of numbers -/
def pkL (p : Nat × List Nat) : List Int := (p.1 : Int) :: intsN p.2
theorem cmpL_cons_lt {x y : Int} {xs ys : List Int} (h : x < y) : cmpL (x :: xs) (y :: ys) < 0 := by
  have e : cmpI x y = -1 := by unfold cmpI; rw [if_pos h]
  rw [cmpL, e]; simp
theorem cmpL_cons_eq {x : Int} {xs ys : List Int} : cmpL (x :: xs) (x :: ys) = cmpL xs ys := by
  rw [cmpL, cmpI_self]; simp
section
variable {D : Ky → Bool} {idx : Ky → Nat} {P : Ky → Prop}
theorem ways_sorted (hm : ∀ a b, P a → P b → kyN a < kyN b → idx a < idx b) : ∀ {l : List Sy} {i j : Nat}, (∀ w ∈ waysF D l i j, ∀ q ∈ w, P q) → ((waysF D l i j).map fun w => intsN (w.map idx)).Pairwise fun a b => cmpL a b < 0 := by
  intro l
  induction l with
  | nil =>
    intro i j _
    simp only [waysF]
    split <;> simp
  | cons s l ih =>
    intro i j hP
    rw [List.pairwise_map]
    have key : ∀ q, q < j + 1 - i → ∀ a ∈ (if (D (s, i, i + q) && someF D l (i + q) j) = true then (waysF D l (i + q) j).map ((s, i, i + q) :: ·) else []), a ∈ waysF D (s :: l) i j ∧ ∃ w, w ∈ waysF D l (i + q) j ∧ a = (s, i, i + q) :: w := by
      intro q hq a ha
      refine ⟨?_, ?_⟩
      · simp only [waysF, List.mem_flatMap, List.mem_range]
        exact ⟨q, hq, ha⟩
      · split at ha
        · obtain ⟨w, hw, rfl⟩ := List.mem_map.1 ha; exact ⟨w, hw, rfl⟩
        · simp at ha
    rw [waysF, List.pairwise_flatMap]
    constructor
    · intro q hq
      have hq' := List.mem_range.1 hq
      have hk := key q hq'
      split
      · rename_i hc
        rw [if_pos hc] at hk
        rw [List.pairwise_map]
        have h1 := ih (i := i + q) (j := j) (fun w hw x hx => hP _ (hk ((s, i, i + q) :: w) (List.mem_map.2 ⟨w, hw, rfl⟩)).1 x (by simp [hx]))
        rw [List.pairwise_map] at h1
        refine h1.imp fun {a b} hab => ?_
        simp only [intsN, List.map_cons]
        rw [cmpL_cons_eq]; exact hab
      · exact List.Pairwise.nil
    · rw [List.pairwise_iff_getElem]
      intro a b ha hb hab x hx y hy
      simp only [List.getElem_range] at hx hy
      simp only [List.length_range] at ha hb
      obtain ⟨hx1, w, -, rfl⟩ := key a ha x hx
      obtain ⟨hy1, v, -, rfl⟩ := key b hb y hy
      simp only [intsN, List.map_cons]
      refine cmpL_cons_lt ?_
      have := hm (s, i, i + a) (s, i, i + b) (hP _ hx1 _ (by simp)) (hP _ hy1 _ (by simp)) (by simp only [kyN]; omega)
      omega
theorem packs_sorted (hm : ∀ a b, P a → P b → kyN a < kyN b → idx a < idx b) {R : List Ru} {k : Ky} (hP : ∀ p ∈ packsF D R k, ∀ q ∈ p.2, P q) : ((packsF D R k).map fun p => pkL (p.1, p.2.map idx)).Pairwise fun a b => cmpL a b < 0 := by
  unfold packsF packT
  rw [List.pairwise_map, List.pairwise_flatMap]
  constructor
  · intro n hn
    have hin : ∀ p ∈ packN D R k n, p ∈ packsF D R k := fun p hp => by unfold packsF packT; exact List.mem_flatMap.2 ⟨n, hn, hp⟩
    unfold packN at hin ⊢
    cases hu : R[n]? with
    | none => simp
    | some u =>
      rw [hu] at hin
      simp only at hin ⊢
      by_cases e : u.1 = k.1.2 ∧ k.1.1 = false
      · rw [if_pos e] at hin ⊢
        rw [List.pairwise_map]
        have h1 := ways_sorted (D := D) hm (l := u.2) (i := k.2.1) (j := k.2.2) (fun w hw q hq => hP _ (hin (n, w) (List.mem_map.2 ⟨w, hw, rfl⟩)) q hq)
        rw [List.pairwise_map] at h1
        refine h1.imp fun {a b} hab => ?_
        simp only [pkL]
        rw [cmpL_cons_eq]; exact hab
      · rw [if_neg e]; exact List.Pairwise.nil
  · rw [List.pairwise_iff_getElem]
    intro a b ha hb hab x hx y hy
    simp only [List.getElem_range] at hx hy
    obtain ⟨e1, -⟩ := packN_mem hx
    obtain ⟨e2, -⟩ := packN_mem hy
    simp only [pkL]
    refine cmpL_cons_lt ?_
    rw [e1, e2]; omega
end
end Go.Proofs.YtbfcnfgkccgbiaaGreatDoor

