/- The distance of edits: symmetric, the triangle inequality, no greater than any way. Plain laws. -/
import Derived.Test.YtdccgeiniockpaaLL
namespace Go.Proofs.Ytdccgeiniockpaa
open Go.RowKit

def gE (_a b c : Int) : Int := if c < b then c + 1 else b + 1
theorem gE_least : Least 1 1 gE where
  p0 := by omega
  p1 := by omega
  lo a b c := by unfold gE; intros; split <;> omega
  hi a b c := by unfold gE; split <;> omega
/-- the distance -/
def dE (xs ys : List Int) : Int := dpT 1 1 gE xs ys
theorem dE_nil (ys : List Int) : dE [] ys = ys.length := by simp [dE, dpT_nil]
theorem dE_nil2 (xs : List Int) : dE xs [] = xs.length := by simp [dE, dpT_nil2]
theorem dE_eq (x : Int) (xs ys : List Int) : dE (x :: xs) (x :: ys) = dE xs ys := dpT_eq x xs ys
theorem dE_ne {x y : Int} (h : x ≠ y) (xs ys : List Int) : dE (x :: xs) (y :: ys) = gE 0 (dE xs (y :: ys)) (dE (x :: xs) ys) := dpT_ne h xs ys
theorem dE_symm : ∀ xs ys : List Int, dE xs ys = dE ys xs
  | [], ys => by rw [dE_nil, dE_nil2]
  | x :: xs, [] => by rw [dE_nil, dE_nil2]
  | x :: xs, y :: ys => by
    by_cases h : x = y
    · subst h; rw [dE_eq, dE_eq, dE_symm xs ys]
    · rw [dE_ne h, dE_ne (Ne.symm h), dE_symm xs (y :: ys), dE_symm (x :: xs) ys]
      unfold gE; split <;> split <;> omega
/-- a step in one word changes the distance by at most 1 -/
theorem dE_lip (N : Nat) : ∀ (xs ys : List Int), xs.length + ys.length ≤ N → ∀ x : Int, dE (x :: xs) ys ≤ dE xs ys + 1 ∧ dE xs ys ≤ dE (x :: xs) ys + 1 := by
  induction N with
  | zero =>
    intro xs ys h x
    have h1 : xs = [] := List.eq_nil_of_length_eq_zero (by omega)
    have h2 : ys = [] := List.eq_nil_of_length_eq_zero (by omega)
    subst h1 h2
    simp [dE_nil2]
  | succ N ih =>
    intro xs ys h x
    cases ys with
    | nil => simp only [dE_nil2, List.length_cons]; omega
    | cons y ys =>
      simp only [List.length_cons] at h
      by_cases hxy : x = y
      · subst hxy
        rw [dE_eq]
        have h1 := ih ys xs (by omega) x
        rw [dE_symm ys xs, dE_symm (x :: ys) xs] at h1
        omega
      · rw [dE_ne hxy]
        have h1 := ih xs ys (by omega) x
        have h2 := ih ys xs (by omega) y
        rw [dE_symm ys xs, dE_symm (y :: ys) xs] at h2
        unfold gE
        split <;> omega
theorem dE_cons (x : Int) (xs ys : List Int) : dE (x :: xs) ys ≤ dE xs ys + 1 := (dE_lip _ xs ys (Nat.le_refl _) x).1
theorem dE_cons2 (y : Int) (xs ys : List Int) : dE xs (y :: ys) ≤ dE xs ys + 1 := by rw [dE_symm xs (y :: ys), dE_symm xs ys]; exact dE_cons y ys xs

/-- a way from one word to another one, of a cost -/
inductive Way : List Int → List Int → Nat → Prop
  | nil : Way [] [] 0
  | keep (x : Int) {xs ys : List Int} {k : Nat} : Way xs ys k → Way (x :: xs) (x :: ys) k
  | del (x : Int) {xs ys : List Int} {k : Nat} : Way xs ys k → Way (x :: xs) ys (k + 1)
  | ins (y : Int) {xs ys : List Int} {k : Nat} : Way xs ys k → Way xs (y :: ys) (k + 1)
theorem Way.least {xs ys : List Int} {k : Nat} (h : Way xs ys k) : dE xs ys ≤ k := by
  induction h with
  | nil => simp [dE_nil]
  | keep x _ ih => rw [dE_eq]; exact ih
  | del x _ ih => have := dE_cons x ‹List Int› ‹List Int›; rename_i xs ys k _; have := dE_cons x xs ys; omega
  | ins y _ ih => rename_i xs ys k _; have := dE_cons2 y xs ys; omega
theorem Way.dels (xs : List Int) : Way xs [] xs.length := by
  induction xs with
  | nil => exact .nil
  | cons x xs ih => exact .del x ih
theorem Way.inss (ys : List Int) : Way [] ys ys.length := by
  induction ys with
  | nil => exact .nil
  | cons y ys ih => exact .ins y ih
theorem Way.self (xs : List Int) : Way xs xs 0 := by
  induction xs with
  | nil => exact .nil
  | cons x xs ih => exact .keep x ih
theorem Way.append {xs ys us vs : List Int} {k l : Nat} (h : Way xs ys k) (h2 : Way us vs l) : Way (xs ++ us) (ys ++ vs) (k + l) := by
  induction h with
  | nil => simpa using h2
  | keep x _ ih => exact .keep x ih
  | del x _ ih => rename_i k _; rw [show k + 1 + l = k + l + 1 from by omega]; exact .del x ih
  | ins y _ ih => rename_i k _; rw [show k + 1 + l = k + l + 1 from by omega]; exact .ins y ih
/-- the distance is the cost of a way -/
theorem Way.dist : ∀ xs ys : List Int, ∃ k : Nat, Way xs ys k ∧ (k : Int) = dE xs ys
  | [], ys => ⟨ys.length, Way.inss ys, by rw [dE_nil]⟩
  | x :: xs, [] => ⟨(x :: xs).length, Way.dels _, by rw [dE_nil2]⟩
  | x :: xs, y :: ys => by
    by_cases h : x = y
    · subst h
      obtain ⟨k, h1, h2⟩ := Way.dist xs ys
      exact ⟨k, .keep x h1, by rw [dE_eq]; exact h2⟩
    · rw [dE_ne h]
      obtain ⟨k, h1, h2⟩ := Way.dist xs (y :: ys)
      obtain ⟨l, h3, h4⟩ := Way.dist (x :: xs) ys
      unfold gE
      split
      · exact ⟨l + 1, .ins y h3, by omega⟩
      · exact ⟨k + 1, .del x h1, by omega⟩
theorem Way.trans {ys zs : List Int} {l : Nat} (h2 : Way ys zs l) : ∀ {xs : List Int} {k : Nat}, Way xs ys k → ∃ m, m ≤ k + l ∧ Way xs zs m := by
  induction h2 with
  | nil => intro xs k h; exact ⟨k, by omega, h⟩
  | ins y _ ih => intro xs k h; obtain ⟨m, h1, h2⟩ := ih h; exact ⟨m + 1, by omega, .ins y h2⟩
  | keep x hw ih =>
    rename_i ys zs l
    intro xs k h
    generalize hq : x :: ys = q at h
    induction h generalizing ys zs with
    | nil => cases hq
    | keep z h1 _ =>
      cases hq
      obtain ⟨m, h3, h4⟩ := ih h1
      exact ⟨m, h3, .keep _ h4⟩
    | del z h1 ih2 =>
      obtain ⟨m, h3, h4⟩ := ih2 hw ih hq
      exact ⟨m + 1, by omega, .del z h4⟩
    | ins z h1 _ =>
      cases hq
      obtain ⟨m, h3, h4⟩ := ih h1
      exact ⟨m + 1, by omega, .ins _ h4⟩
  | del x hw ih =>
    rename_i ys zs l
    intro xs k h
    generalize hq : x :: ys = q at h
    induction h generalizing ys zs with
    | nil => cases hq
    | keep z h1 _ =>
      cases hq
      obtain ⟨m, h3, h4⟩ := ih h1
      exact ⟨m + 1, by omega, .del _ h4⟩
    | del z h1 ih2 =>
      obtain ⟨m, h3, h4⟩ := ih2 hw ih hq
      exact ⟨m + 1, by omega, .del z h4⟩
    | ins z h1 _ =>
      cases hq
      obtain ⟨m, h3, h4⟩ := ih h1
      exact ⟨m, by omega, h4⟩
theorem dE_triangle (xs ys zs : List Int) : dE xs zs ≤ dE xs ys + dE ys zs := by
  obtain ⟨k, h1, h2⟩ := Way.dist xs ys
  obtain ⟨l, h3, h4⟩ := Way.dist ys zs
  obtain ⟨m, h5, h6⟩ := Way.trans h3 h1
  have := h6.least
  omega
/-- a common beginning of n elements and a common end of k elements -/
theorem dE_between {xs ys : List Int} {n k : Nat} (h1 : n + k ≤ xs.length) (h2 : n + k ≤ ys.length) (h3 : xs.take n = ys.take n) (h4 : xs.drop (xs.length - k) = ys.drop (ys.length - k)) :
    dE xs ys ≤ ((xs.length : Int) - (k : Int) - (n : Int)) + ((ys.length : Int) - (k : Int) - (n : Int)) := by
  have e : ∀ l : List Int, n + k ≤ l.length → l = l.take n ++ ((l.take (l.length - k)).drop n ++ l.drop (l.length - k)) := fun l hl => by
    rw [← List.append_assoc]
    have : l.take n ++ (l.take (l.length - k)).drop n = l.take (l.length - k) := by
      have := List.take_append_drop n (l.take (l.length - k))
      rwa [List.take_take, Nat.min_eq_left (by omega)] at this
    rw [this, List.take_append_drop]
  have w := ((Way.self (xs.take n)).append (((Way.dels ((xs.take (xs.length - k)).drop n)).append (Way.inss ((ys.take (ys.length - k)).drop n))).append (Way.self (xs.drop (xs.length - k)))))
  rw [List.append_nil, List.nil_append, ← e xs h1] at w
  rw [h3, h4, ← e ys h2] at w
  have := w.least
  simp only [List.length_drop, List.length_take] at this
  omega
end Go.Proofs.Ytdccgeiniockpaa
