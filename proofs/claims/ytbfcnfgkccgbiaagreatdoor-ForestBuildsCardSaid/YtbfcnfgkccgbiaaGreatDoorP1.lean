/- Texts ZA, ZB, ZC, HP, laid together. -/
import Derived.Test.YtbfcnfgkccgbiaaGreatDoorC3


namespace Go.Proofs.YtbfcnfgkccgbiaaGreatDoor
open Go.RowKit

/-! ### alignments: w is turned into v at cost k (c0: insert, c1: delete, c2: replace) -/
inductive Al (c0 c1 c2 : Int) : List Int → List Int → Int → Prop
  | nil : Al c0 c1 c2 [] [] 0
  | keep (x : Int) {w v : List Int} {k : Int} (h : Al c0 c1 c2 w v k) : Al c0 c1 c2 (x :: w) (x :: v) k
  | ins (y : Int) {w v : List Int} {k : Int} (h : Al c0 c1 c2 w v k) : Al c0 c1 c2 w (y :: v) (c0 + k)
  | del (x : Int) {w v : List Int} {k : Int} (h : Al c0 c1 c2 w v k) : Al c0 c1 c2 (x :: w) v (c1 + k)
  | rep (x y : Int) {w v : List Int} {k : Int} (h : Al c0 c1 c2 w v k) : Al c0 c1 c2 (x :: w) (y :: v) (c2 + k)
section
variable {c0 c1 c2 : Int}
theorem Al.append {w v w' v' : List Int} {k k' : Int} (h : Al c0 c1 c2 w v k) (h' : Al c0 c1 c2 w' v' k') : Al c0 c1 c2 (w ++ w') (v ++ v') (k + k') := by
  induction h with
  | nil => simpa using h'
  | keep x _ ih => exact .keep x ih
  | ins y _ ih => rw [Int.add_assoc]; exact .ins y ih
  | del x _ ih => rw [Int.add_assoc]; exact .del x ih
  | rep x y _ ih => rw [Int.add_assoc]; exact .rep x y ih
theorem Al.split {w v : List Int} {k : Int} (h : Al c0 c1 c2 w v k) : ∀ v1 v2, v = v1 ++ v2 → ∃ w1 w2 k1 k2, w = w1 ++ w2 ∧ Al c0 c1 c2 w1 v1 k1 ∧ Al c0 c1 c2 w2 v2 k2 ∧ k = k1 + k2 := by
  induction h with
  | nil =>
    intro v1 v2 e
    have e1 : v1 = [] := by cases v1 with | nil => rfl | cons a b => simp at e
    have e2 : v2 = [] := by subst e1; simpa using e.symm
    subst e1 e2
    exact ⟨[], [], 0, 0, rfl, .nil, .nil, rfl⟩
  | @keep x w v k h ih =>
    intro v1 v2 e
    cases v1 with
    | nil => exact ⟨[], x :: w, 0, k, rfl, .nil, by simp at e; subst e; exact .keep x h, by omega⟩
    | cons a v1 =>
      simp at e
      obtain ⟨rfl, e⟩ := e
      obtain ⟨w1, w2, k1, k2, rfl, h1, h2, rfl⟩ := ih v1 v2 e
      exact ⟨x :: w1, w2, k1, k2, rfl, .keep x h1, h2, rfl⟩
  | @ins y w v k h ih =>
    intro v1 v2 e
    cases v1 with
    | nil => exact ⟨[], w, 0, c0 + k, rfl, .nil, by simp at e; subst e; exact .ins y h, by omega⟩
    | cons a v1 =>
      simp at e
      obtain ⟨rfl, e⟩ := e
      obtain ⟨w1, w2, k1, k2, rfl, h1, h2, rfl⟩ := ih v1 v2 e
      exact ⟨w1, w2, c0 + k1, k2, rfl, .ins y h1, h2, by omega⟩
  | @del x w v k h ih =>
    intro v1 v2 e
    obtain ⟨w1, w2, k1, k2, rfl, h1, h2, rfl⟩ := ih v1 v2 e
    exact ⟨x :: w1, w2, c1 + k1, k2, rfl, .del x h1, h2, by omega⟩
  | @rep x y w v k h ih =>
    intro v1 v2 e
    cases v1 with
    | nil => exact ⟨[], x :: w, 0, c2 + k, rfl, .nil, by simp at e; subst e; exact .rep x y h, by omega⟩
    | cons a v1 =>
      simp at e
      obtain ⟨rfl, e⟩ := e
      obtain ⟨w1, w2, k1, k2, rfl, h1, h2, rfl⟩ := ih v1 v2 e
      exact ⟨x :: w1, w2, c2 + k1, k2, rfl, .rep x y h1, h2, by omega⟩
theorem mul_succ_len (c : Int) (x : Int) (w : List Int) : ((x :: w).length : Int) * c = (w.length : Int) * c + c := by
  rw [List.length_cons, Int.natCast_add, Int.add_mul]; simp
theorem Al.dels (w : List Int) : Al c0 c1 c2 w [] ((w.length : Int) * c1) := by
  induction w with
  | nil => simpa using Al.nil
  | cons x w ih => rw [mul_succ_len, Int.add_comm]; exact .del x ih
theorem Al.of_nil {w v : List Int} {k : Int} (h : Al c0 c1 c2 w v k) : v = [] → k = (w.length : Int) * c1 := by
  induction h with
  | nil => intro _; simp
  | keep x _ _ => intro e; cases e
  | ins y _ _ => intro e; cases e
  | del x _ ih => intro e; rw [ih e, mul_succ_len]; omega
  | rep x y _ _ => intro e; cases e
theorem Al.pos (h0 : 0 ≤ c0) (h1 : 0 ≤ c1) (h2 : 0 ≤ c2) {w v : List Int} {k : Int} (h : Al c0 c1 c2 w v k) : 0 ≤ k := by
  induction h <;> omega
theorem Al.len (h0 : 1 ≤ c0) (h1 : 1 ≤ c1) (h2 : 1 ≤ c2) {w v : List Int} {k : Int} (h : Al c0 c1 c2 w v k) : (v.length : Int) ≤ k + w.length := by
  induction h <;> simp only [List.length_cons, List.length_nil] at * <;> omega
theorem Al.zero (h0 : 1 ≤ c0) (h1 : 1 ≤ c1) (h2 : 1 ≤ c2) {w v : List Int} {k : Int} (h : Al c0 c1 c2 w v k) : k = 0 → w = v := by
  induction h with
  | nil => intro _; rfl
  | keep x _ ih => intro e; rw [ih e]
  | ins y h _ => intro e; have := h.pos (by omega) (by omega) (by omega); omega
  | del x h _ => intro e; have := h.pos (by omega) (by omega) (by omega); omega
  | rep x y h _ => intro e; have := h.pos (by omega) (by omega) (by omega); omega
theorem Al.same (w : List Int) : Al c0 c1 c2 w w 0 := by
  induction w with
  | nil => exact .nil
  | cons x w ih => exact .keep x ih
/-- without the first letter of w -/
theorem Al.less (h0 : 0 ≤ c0) (h1 : 0 ≤ c1) (h2 : 0 ≤ c2) {w v : List Int} {k : Int} (h : Al c0 c1 c2 w v k) : ∀ x u, w = x :: u → ∃ k', k' ≤ c0 + k ∧ Al c0 c1 c2 u v k' := by
  induction h with
  | nil => intro x u e; cases e
  | @keep a w v k h ih => intro x u e; cases e; exact ⟨c0 + k, Int.le_refl _, .ins a h⟩
  | @ins y w v k h ih => intro x u e; obtain ⟨k', hk, h'⟩ := ih x u e; exact ⟨c0 + k', by omega, .ins y h'⟩
  | @del a w v k h ih => intro x u e; cases e; exact ⟨k, by omega, h⟩
  | @rep a y w v k h ih => intro x u e; cases e; exact ⟨c0 + k, by omega, .ins y h⟩
/-- without the first letter of v -/
theorem Al.less2 (h0 : 0 ≤ c0) (h1 : 0 ≤ c1) (h2 : 0 ≤ c2) {w v : List Int} {k : Int} (h : Al c0 c1 c2 w v k) : ∀ x u, v = x :: u → ∃ k', k' ≤ c1 + k ∧ Al c0 c1 c2 w u k' := by
  induction h with
  | nil => intro x u e; cases e
  | @keep a w v k h ih => intro x u e; cases e; exact ⟨c1 + k, Int.le_refl _, .del a h⟩
  | @ins y w v k h ih => intro x u e; cases e; exact ⟨k, by omega, h⟩
  | @del a w v k h ih => intro x u e; obtain ⟨k', hk, h'⟩ := ih x u e; exact ⟨c1 + k', by omega, .del a h'⟩
  | @rep a y w v k h ih => intro x u e; cases e; exact ⟨c1 + k, by omega, .del a h⟩
theorem Al.dp : ∀ xs ys : List Int, Al c0 c1 c2 xs ys (dpT c0 c1 (gR c0 c1 c2) xs ys)
  | [], ys => by
    rw [dpT_nil]
    induction ys with
    | nil => simpa using Al.nil
    | cons y ys ih => have e : c0 * ((y :: ys).length : Int) = c0 + c0 * (ys.length : Int) := by simp [Int.mul_add]; omega
                      rw [e]; exact .ins y ih
  | x :: xs, [] => by rw [dpT_nil2, Int.mul_comm]; exact Al.dels _
  | x :: xs, y :: ys => by
    by_cases h : x = y
    · subst h; rw [dpT_eq]; exact .keep x (Al.dp xs ys)
    · rw [dpT_ne h]
      have a := Al.rep (c0 := c0) (c1 := c1) (c2 := c2) x y (Al.dp xs ys)
      have b := Al.del (c0 := c0) (c1 := c1) (c2 := c2) x (Al.dp xs (y :: ys))
      have c := Al.ins (c0 := c0) (c1 := c1) (c2 := c2) y (Al.dp (x :: xs) ys)
      rw [Int.add_comm] at a b c
      unfold gR
      split <;> split <;> assumption
  termination_by xs ys => xs.length + ys.length
theorem gR_le (a b c : Int) : gR c0 c1 c2 a b c ≤ a + c2 ∧ gR c0 c1 c2 a b c ≤ b + c1 ∧ gR c0 c1 c2 a b c ≤ c + c0 := by
  unfold gR; split <;> split <;> omega
theorem Al.least (h0 : 0 ≤ c0) (h1 : 0 ≤ c1) (h2 : 0 ≤ c2) (N : Nat) : ∀ (xs ys : List Int) (k : Int), xs.length + ys.length ≤ N → Al c0 c1 c2 xs ys k → dpT c0 c1 (gR c0 c1 c2) xs ys ≤ k := by
  induction N with
  | zero =>
    intro xs ys k hl h
    cases h with
    | nil => simp [dpT]
    | keep x _ => simp at hl
    | ins y _ => simp at hl
    | del x _ => simp at hl
    | rep x y _ => simp at hl
  | succ N ih =>
    intro xs ys k hl h
    cases xs with
    | nil =>
      rw [dpT_nil]
      cases h with
      | nil => simp
      | @ins y _ ys k h =>
        have := ih [] ys k (by simp at hl ⊢; omega) h
        rw [dpT_nil] at this
        have e : c0 * ((y :: ys).length : Int) = c0 + c0 * (ys.length : Int) := by simp [Int.mul_add]; omega
        omega
    | cons x xs =>
      cases ys with
      | nil =>
        have := h.of_nil rfl
        rw [dpT_nil2, this, Int.mul_comm]; exact Int.le_refl _
      | cons y ys =>
        by_cases e : x = y
        · subst e
          rw [dpT_eq]
          have : ∃ k', k' ≤ k ∧ Al c0 c1 c2 xs ys k' := by
            cases h with
            | keep _ h => exact ⟨k, Int.le_refl _, h⟩
            | ins _ h => exact h.less h0 h1 h2 _ _ rfl
            | del _ h => exact h.less2 h0 h1 h2 _ _ rfl
            | @rep _ _ _ _ k' h => exact ⟨k', by omega, h⟩
          obtain ⟨k', hk, h'⟩ := this
          have := ih xs ys k' (by simp at hl; omega) h'
          omega
        · rw [dpT_ne e]
          obtain ⟨g1, g2, g3⟩ := gR_le (c0 := c0) (c1 := c1) (c2 := c2) (dpT c0 c1 (gR c0 c1 c2) xs ys) (dpT c0 c1 (gR c0 c1 c2) xs (y :: ys)) (dpT c0 c1 (gR c0 c1 c2) (x :: xs) ys)
          cases h with
          | keep _ h => exact absurd rfl e
          | @ins _ _ _ k' h => have := ih (x :: xs) ys k' (by simp at hl ⊢; omega) h; omega
          | @del _ _ _ k' h => have := ih xs (y :: ys) k' (by simp at hl ⊢; omega) h; omega
          | @rep _ _ _ _ k' h => have := ih xs ys k' (by simp at hl ⊢; omega) h; omega

/-! ### one letter -/
def mn (a b : Int) : Int := if b < a then b else a
theorem mn_le (a b : Int) : mn a b ≤ a ∧ mn a b ≤ b := by unfold mn; split <;> omega
theorem mn_or (a b : Int) : mn a b = a ∨ mn a b = b := by unfold mn; split <;> omega
/-- the least cost of turning a part into one letter -/
def oneC (c0 c1 c2 t : Int) (p : List Int) : Int :=
  if t ∈ p then mn (mn (c0 + (p.length : Int) * c1) (c2 + ((p.length : Int) - 1) * c1)) (((p.length : Int) - 1) * c1)
  else if p = [] then c0 + (p.length : Int) * c1 else mn (c0 + (p.length : Int) * c1) (c2 + ((p.length : Int) - 1) * c1)
theorem pred_len (c x : Int) (w : List Int) : (((x :: w).length : Int) - 1) * c = (w.length : Int) * c := by rw [List.length_cons]; congr 1; omega
theorem Al.oneKeep {t : Int} {p : List Int} (h : t ∈ p) : Al c0 c1 c2 p [t] (((p.length : Int) - 1) * c1) := by
  induction p with
  | nil => cases h
  | cons x p ih =>
    rw [pred_len]
    by_cases e : t = x
    · subst e; exact .keep t (Al.dels p)
    · have := ih ((List.mem_cons.1 h).resolve_left e)
      have e2 : (p.length : Int) * c1 = c1 + ((p.length : Int) - 1) * c1 := by rw [Int.sub_mul]; omega
      rw [e2]; exact .del x this
theorem Al.one (t : Int) (p : List Int) : Al c0 c1 c2 p [t] (oneC c0 c1 c2 t p) := by
  have a : Al c0 c1 c2 p [t] (c0 + (p.length : Int) * c1) := .ins t (Al.dels p)
  have b : p ≠ [] → Al c0 c1 c2 p [t] (c2 + ((p.length : Int) - 1) * c1) := by
    cases p with
    | nil => intro h; exact absurd rfl h
    | cons x p => intro _; rw [pred_len]; exact .rep x t (Al.dels p)
  unfold oneC
  split
  · rename_i h
    have hp : p ≠ [] := by intro e; subst e; cases h
    rcases mn_or (mn (c0 + (p.length : Int) * c1) (c2 + ((p.length : Int) - 1) * c1)) (((p.length : Int) - 1) * c1) with e | e
    · rw [e]; rcases mn_or (c0 + (p.length : Int) * c1) (c2 + ((p.length : Int) - 1) * c1) with e | e
      · rw [e]; exact a
      · rw [e]; exact b hp
    · rw [e]; exact Al.oneKeep h
  · split
    · exact a
    · rename_i hp; rcases mn_or (c0 + (p.length : Int) * c1) (c2 + ((p.length : Int) - 1) * c1) with e | e
      · rw [e]; exact a
      · rw [e]; exact b hp
theorem oneC_le (t : Int) (p : List Int) : oneC c0 c1 c2 t p ≤ c0 + (p.length : Int) * c1 ∧ (p ≠ [] → oneC c0 c1 c2 t p ≤ c2 + ((p.length : Int) - 1) * c1) ∧ (t ∈ p → oneC c0 c1 c2 t p ≤ ((p.length : Int) - 1) * c1) := by
  have g1 := mn_le (c0 + (p.length : Int) * c1) (c2 + ((p.length : Int) - 1) * c1)
  have g2 := mn_le (mn (c0 + (p.length : Int) * c1) (c2 + ((p.length : Int) - 1) * c1)) (((p.length : Int) - 1) * c1)
  unfold oneC
  split
  · exact ⟨by omega, fun _ => by omega, fun _ => g2.2⟩
  · rename_i h
    split
    · rename_i hp; exact ⟨Int.le_refl _, fun h => absurd hp h, fun h' => absurd h' h⟩
    · exact ⟨g1.1, fun _ => g1.2, fun h' => absurd h' h⟩
theorem oneC_cons (t x : Int) (p : List Int) : oneC c0 c1 c2 t (x :: p) ≤ c1 + oneC c0 c1 c2 t p := by
  obtain ⟨g1, g2, g3⟩ := oneC_le (c0 := c0) (c1 := c1) (c2 := c2) t (x :: p)
  rw [pred_len] at g2 g3
  rw [mul_succ_len] at g1
  have g2' := g2 (by simp)
  have e2 : (p.length : Int) * c1 = c1 + ((p.length : Int) - 1) * c1 := by rw [Int.sub_mul]; omega
  have hv : oneC c0 c1 c2 t p = c0 + (p.length : Int) * c1 ∨ (p ≠ [] ∧ oneC c0 c1 c2 t p = c2 + ((p.length : Int) - 1) * c1) ∨ (t ∈ p ∧ oneC c0 c1 c2 t p = ((p.length : Int) - 1) * c1) := by
    unfold oneC
    split
    · rename_i h
      have hp : p ≠ [] := by intro e; subst e; cases h
      rcases mn_or (mn (c0 + (p.length : Int) * c1) (c2 + ((p.length : Int) - 1) * c1)) (((p.length : Int) - 1) * c1) with e | e
      · rw [e]; rcases mn_or (c0 + (p.length : Int) * c1) (c2 + ((p.length : Int) - 1) * c1) with e | e
        · exact Or.inl e
        · exact Or.inr (Or.inl ⟨hp, e⟩)
      · exact Or.inr (Or.inr ⟨h, e⟩)
    · split
      · exact Or.inl rfl
      · rename_i hp; rcases mn_or (c0 + (p.length : Int) * c1) (c2 + ((p.length : Int) - 1) * c1) with e | e
        · exact Or.inl e
        · exact Or.inr (Or.inl ⟨hp, e⟩)
  rcases hv with e | ⟨_, e⟩ | ⟨hm, e⟩
  · omega
  · omega
  · have := g3 (List.mem_cons_of_mem _ hm); omega
theorem Al.one_le {t : Int} {w v : List Int} {k : Int} (h : Al c0 c1 c2 w v k) : v = [t] → oneC c0 c1 c2 t w ≤ k := by
  induction h with
  | nil => intro e; cases e
  | @keep x w v k h ih =>
    intro e
    simp at e
    obtain ⟨rfl, e⟩ := e
    rw [h.of_nil e]
    have := (oneC_le (c0 := c0) (c1 := c1) (c2 := c2) x (x :: w)).2.2 (List.mem_cons_self ..)
    rwa [pred_len] at this
  | @ins y w v k h ih =>
    intro e
    simp at e
    obtain ⟨rfl, e⟩ := e
    rw [h.of_nil e]
    exact (oneC_le (c0 := c0) (c1 := c1) (c2 := c2) y w).1
  | @del x w v k h ih => intro e; have := ih e; have := oneC_cons (c0 := c0) (c1 := c1) (c2 := c2) t x w; omega
  | @rep x y w v k h ih =>
    intro e
    simp at e
    obtain ⟨rfl, e⟩ := e
    rw [h.of_nil e]
    have := (oneC_le (c0 := c0) (c1 := c1) (c2 := c2) y (x :: w)).2.1 (by simp)
    rwa [pred_len] at this
end
/-! ### words of lists of symbols -/
inductive Dv (rules : List Ru) : List Sy → List Int → Prop
  | nil : Dv rules [] []
  | term (t : Nat) {l : List Sy} {v : List Int} (h : Dv rules l v) : Dv rules ((true, t) :: l) ((t : Int) :: v)
  | non (N : Nat) {rhs l : List Sy} {u v : List Int} (hr : (N, rhs) ∈ rules) (h1 : Dv rules rhs u) (h2 : Dv rules l v) : Dv rules ((false, N) :: l) (u ++ v)
section
variable {rules : List Ru}
theorem Dv.append {a b : List Sy} {u v : List Int} (h : Dv rules a u) (k : Dv rules b v) : Dv rules (a ++ b) (u ++ v) := by
  induction h with
  | nil => simpa using k
  | term t _ ih => exact .term t ih
  | non N hr h1 _ _ ih => rw [List.append_assoc]; exact .non N hr h1 ih
theorem Dv.nil_inv {v : List Int} (h : Dv rules [] v) : v = [] := by cases h; rfl
theorem Dv.one {s : Nat} {rhs : List Sy} {v : List Int} (hr : (s, rhs) ∈ rules) (h : Dv rules rhs v) : Dv rules [(false, s)] v := by
  have := Dv.non s hr h (Dv.nil (rules := rules))
  simpa using this
theorem Dv.letter (t : Nat) : Dv rules [(true, t)] [(t : Int)] := .term t .nil
end

/-! ### ways -/
structure Way where
  cost : Int
  size : Int
  w : List Int
  ok : Bool
def Way.no : Way := ⟨0, 0, [], false⟩
def wcmp (a b : Way) : Int := orL [cmpI a.cost b.cost, cmpI a.size b.size, cmpL a.w b.w]
def lessW (a b : Way) : Bool := if !b.ok || !a.ok then a.ok else decide (wcmp a b < 0)
def thenW (a b : Way) : Way := ⟨a.cost + b.cost, a.size + b.size, if (a.ok && b.ok) && decide (a.size + b.size ≤ 2000) then a.w ++ b.w else [], a.ok && b.ok⟩
def hopeW (a b t : Way) : Bool := if !a.ok || !b.ok then true else t.ok && decide (orL [cmpI (a.cost + b.cost) t.cost, cmpI (a.size + b.size) t.size] > 0)
theorem cmpI_neg {x y : Int} : cmpI x y < 0 ↔ x < y := by unfold cmpI; split <;> (try split) <;> omega
theorem cmpI_pos {x y : Int} : cmpI x y > 0 ↔ y < x := by unfold cmpI; split <;> (try split) <;> omega
theorem cmpI_zero {x y : Int} : cmpI x y = 0 ↔ x = y := by unfold cmpI; split <;> (try split) <;> omega
theorem lessW_ok {a b : Way} (h : lessW a b = true) : a.ok = true := by
  unfold lessW at h; split at h
  · exact h
  · rename_i h2; cases ha : a.ok <;> simp_all
theorem orL_neg {x : Int} {l : List Int} (h : orL (x :: l) < 0) : x ≤ 0 := by
  unfold orL at h; split at h <;> omega
theorem orL_not {x : Int} {l : List Int} (h : ¬ orL (x :: l) < 0) : 0 ≤ x := by
  unfold orL at h; split at h <;> omega
theorem orL_pos {x : Int} {l : List Int} (h : orL (x :: l) > 0) : 0 ≤ x := by
  unfold orL at h; split at h <;> omega
theorem cmpI_le {x y : Int} (h : cmpI x y ≤ 0) : x ≤ y := by have := cmpI_pos (x := x) (y := y); omega
theorem cmpI_ge {x y : Int} (h : 0 ≤ cmpI x y) : y ≤ x := by have := cmpI_neg (x := x) (y := y); omega
theorem lessW_both {a b : Way} (h : lessW a b = true) (hb : b.ok = true) : wcmp a b < 0 := by
  have ha := lessW_ok h
  rw [lessW, if_neg (by simp [ha, hb])] at h
  exact of_decide_eq_true h
theorem lessW_cost {a b : Way} (h : lessW a b = true) (hb : b.ok = true) : a.cost ≤ b.cost := cmpI_le (orL_neg (lessW_both h hb))
theorem lessW_not {a b : Way} (h : lessW a b = false) (ha : a.ok = true) : b.ok = true ∧ b.cost ≤ a.cost := by
  by_cases hb : b.ok = true
  · rw [lessW, if_neg (by simp [ha, hb])] at h
    exact ⟨hb, cmpI_ge (orL_not (of_decide_eq_false h))⟩
  · rw [lessW, if_pos (by simp [hb])] at h
    rw [ha] at h; cases h
theorem hopeW_true {a b t : Way} (h : hopeW a b t = true) (ha : a.ok = true) (hb : b.ok = true) : t.ok = true ∧ t.cost ≤ a.cost + b.cost := by
  rw [hopeW, if_neg (by simp [ha, hb]), Bool.and_eq_true] at h
  exact ⟨h.1, cmpI_ge (orL_pos (of_decide_eq_true h.2)) |> fun h => by omega⟩
theorem hopeW_false {a b t : Way} (h : hopeW a b t = false) : a.ok = true ∧ b.ok = true := by
  unfold hopeW at h
  cases ha : a.ok <;> cases hb : b.ok <;> simp_all

/-! ### rows of ways -/
def upd (f : Nat → Way) (j : Nat) (y : Way) : Nat → Way := fun i => if i = j then y else f i
theorem upd_same (f : Nat → Way) (j : Nat) (y : Way) : upd f j y j = y := by simp [upd]
theorem upd_ne (f : Nat → Way) {j i : Nat} (y : Way) (h : i ≠ j) : upd f j y i = f i := by simp [upd, h]
/-- one step: a, then the way x of the next symbol, at place j -/
def goJ (a x : Way) (next : Nat → Way) (j : Nat) : Nat → Way :=
  if hopeW a x (next j) then next else if lessW (thenW a x) (next j) then upd next j (thenW a x) else next
/-- m steps from place k on -/
def rowJ (a : Way) (sym : Nat → Way) (k : Nat) (next : Nat → Way) : Nat → Nat → Way
  | 0 => next
  | m + 1 => goJ a (sym (k + m)) (rowJ a sym k next m) (k + m)
/-- from m places on, the first one i; the last place is n -/
def rowK (at_ : Nat → Way) (sym : Nat → Nat → Way) (n i : Nat) : Nat → Nat → Way
  | 0 => fun _ => Way.no
  | m + 1 => if (at_ (i + m)).ok then rowJ (at_ (i + m)) (sym (i + m)) (i + m) (rowK at_ sym n i m) (n + 1 - (i + m)) else rowK at_ sym n i m
def symW (c0 c1 c2 : Int) (w : List Int) (st : Nat → Nat → Nat → Way) (s : Sy) (i j : Nat) : Way :=
  if s.1 then ⟨oneC c0 c1 c2 (s.2 : Int) ((w.take j).drop i), 1, [(s.2 : Int)], true⟩ else st s.2 i j
def ruleAt (c0 c1 c2 : Int) (w : List Int) (st : Nat → Nat → Nat → Way) (n i : Nat) : List Sy → (Nat → Way)
  | l => l.foldl (fun f s => rowK f (symW c0 c1 c2 w st s) n i (n + 1 - i)) (upd (fun _ => Way.no) i ⟨0, 0, [], true⟩)
def ruleW (c0 c1 c2 : Int) (w : List Int) (st : Nat → Nat → Nat → Way) (n i : Nat) (l : List Sy) : Nat → Way :=
  if l = [] then (fun j => if i ≤ j ∧ j ≤ n then ⟨((j : Int) - (i : Int)) * c1, 0, [], true⟩ else Way.no) else ruleAt c0 c1 c2 w st n i l

/-- x is at least as good as y -/
def Bet (x y : Way) : Prop := y.ok = true → x.ok = true ∧ x.cost ≤ y.cost
theorem Bet.refl (x : Way) : Bet x x := fun h => ⟨h, Int.le_refl _⟩
theorem Bet.trans {x y z : Way} (h : Bet x y) (k : Bet y z) : Bet x z := fun hz => by
  obtain ⟨h1, h2⟩ := k hz; obtain ⟨h3, h4⟩ := h h1; exact ⟨h3, by omega⟩
theorem goJ_bet (a x : Way) (f : Nat → Way) (j i : Nat) : Bet (goJ a x f j i) (f i) := by
  unfold goJ
  split
  · exact .refl _
  · split
    · rename_i hl
      by_cases e : i = j
      · subst e; rw [upd_same]; exact fun h => ⟨lessW_ok hl, lessW_cost hl h⟩
      · rw [upd_ne _ _ e]; exact .refl _
    · exact .refl _
theorem goJ_at {a x : Way} (f : Nat → Way) (j : Nat) (ha : a.ok = true) (hx : x.ok = true) : (goJ a x f j j).ok = true ∧ (goJ a x f j j).cost ≤ a.cost + x.cost := by
  unfold goJ
  have ht : (thenW a x).ok = true := by simp [thenW, ha, hx]
  split
  · rename_i h; exact hopeW_true h ha hx
  · split
    · rw [upd_same]; exact ⟨ht, Int.le_refl _⟩
    · rename_i h; exact lessW_not (by simpa using h) ht
/-- what holds of all places of a row holds behind a step -/
theorem goJ_inv {P : Nat → Way → Prop} {a x : Way} {f : Nat → Way} {j : Nat} (h : ∀ i, P i (f i)) (hs : a.ok = true → x.ok = true → P j (thenW a x)) : ∀ i, P i (goJ a x f j i) := by
  intro i
  unfold goJ
  split
  · exact h i
  · rename_i hh
    obtain ⟨ha, hx⟩ := hopeW_false (by simpa using hh)
    split
    · by_cases e : i = j
      · subst e; rw [upd_same]; exact hs ha hx
      · rw [upd_ne _ _ e]; exact h i
    · exact h i
theorem rowJ_bet (a : Way) (sym : Nat → Way) (k : Nat) (f : Nat → Way) (m i : Nat) : Bet (rowJ a sym k f m i) (f i) := by
  induction m with
  | zero => exact .refl _
  | succ m ih => exact (goJ_bet _ _ _ _ _).trans ih
theorem rowJ_at {a : Way} {sym : Nat → Way} (k : Nat) (f : Nat → Way) {m j : Nat} (ha : a.ok = true) (h1 : k ≤ j) (h2 : j < k + m) (hx : (sym j).ok = true) : (rowJ a sym k f m j).ok = true ∧ (rowJ a sym k f m j).cost ≤ a.cost + (sym j).cost := by
  induction m with
  | zero => omega
  | succ m ih =>
    by_cases e : j = k + m
    · subst e; exact goJ_at _ _ ha hx
    · obtain ⟨h3, h4⟩ := ih (by omega)
      obtain ⟨h5, h6⟩ := goJ_bet a (sym (k + m)) (rowJ a sym k f m) (k + m) j h3
      exact ⟨h5, by show (goJ _ _ _ _ _).cost ≤ _; omega⟩
theorem rowJ_inv {P : Nat → Way → Prop} {a : Way} {sym : Nat → Way} {k : Nat} {f : Nat → Way} {m : Nat} (h : ∀ i, P i (f i)) (hs : ∀ j, k ≤ j → j < k + m → a.ok = true → (sym j).ok = true → P j (thenW a (sym j))) : ∀ i, P i (rowJ a sym k f m i) := by
  induction m with
  | zero => exact h
  | succ m ih => exact goJ_inv (ih fun j h1 h2 => hs j h1 (by omega)) (hs _ (by omega) (by omega))
theorem rowK_bet (at_ : Nat → Way) (sym : Nat → Nat → Way) (n i m i' : Nat) : Bet (rowK at_ sym n i (m + 1) i') (rowK at_ sym n i m i') := by
  rw [rowK]; split
  · exact rowJ_bet _ _ _ _ _ _
  · exact .refl _
theorem rowK_at {at_ : Nat → Way} {sym : Nat → Nat → Way} {n i m k j : Nat} (h1 : i ≤ k) (h2 : k < i + m) (h3 : k ≤ j) (h4 : j ≤ n) (ha : (at_ k).ok = true) (hx : (sym k j).ok = true) :
    (rowK at_ sym n i m j).ok = true ∧ (rowK at_ sym n i m j).cost ≤ (at_ k).cost + (sym k j).cost := by
  induction m with
  | zero => omega
  | succ m ih =>
    by_cases e : k = i + m
    · subst e; rw [rowK, if_pos ha]; exact rowJ_at _ _ ha h3 (by omega) hx
    · obtain ⟨h5, h6⟩ := ih (by omega)
      obtain ⟨h7, h8⟩ := rowK_bet at_ sym n i m j h5
      exact ⟨h7, by omega⟩
theorem rowK_inv {P : Nat → Way → Prop} {at_ : Nat → Way} {sym : Nat → Nat → Way} {n i m : Nat} (h0 : ∀ j, P j Way.no)
    (hs : ∀ k j, i ≤ k → k < i + m → k ≤ j → j ≤ n → (at_ k).ok = true → (sym k j).ok = true → P j (thenW (at_ k) (sym k j))) : ∀ j, P j (rowK at_ sym n i m j) := by
  induction m with
  | zero => exact h0
  | succ m ih =>
    have ih' := ih fun k j h1 h2 => hs k j h1 (by omega)
    rw [rowK]; split
    · exact rowJ_inv ih' fun j h1 h2 ha hx => hs _ j (by omega) (by omega) h1 (by omega) ha hx
    · exact ih'
end Go.Proofs.YtbfcnfgkccgbiaaGreatDoor



namespace Go.Proofs.YtbfcnfgkccgbiaaGreatDoor
open Go.RowKit

/-! ### the fixed point knows every word: completeness -/
def part (w : List Int) (i j : Nat) : List Int := (w.take j).drop i
theorem part_len {w : List Int} {i j : Nat} (h2 : j ≤ w.length) : (part w i j).length = j - i := by simp [part]; omega
theorem part_split {w p1 p2 : List Int} {i j : Nat} (h1 : i ≤ j) (h2 : j ≤ w.length) (h : part w i j = p1 ++ p2) : ∃ m, i ≤ m ∧ m ≤ j ∧ part w i m = p1 ∧ part w m j = p2 := by
  have hl := part_len (i := i) h2
  rw [h, List.length_append] at hl
  refine ⟨i + p1.length, by omega, by omega, ?_, ?_⟩
  · have e : part w i (i + p1.length) = (part w i j).take p1.length := by
      unfold part
      rw [List.take_drop, List.take_take]
      congr 2; omega
    rw [e, h]; simp
  · have e : part w (i + p1.length) j = (part w i j).drop p1.length := by
      unfold part; rw [List.drop_drop]
    rw [e, h]; simp
theorem part_all (w : List Int) : part w 0 w.length = w := by simp [part]
theorem part_same (w : List Int) (i : Nat) : part w i i = [] := by simp [part]
theorem part_append {w : List Int} {i m j : Nat} (h1 : i ≤ m) (h2 : m ≤ j) : part w i m ++ part w m j = part w i j := by
  have e : (w.take j).drop i = ((w.take j).drop i).take (m - i) ++ ((w.take j).drop i).drop (m - i) := (List.take_append_drop _ _).symm
  unfold part
  rw [e, List.drop_drop, List.take_drop, List.take_take]
  congr 2 <;> (congr 1; omega)

inductive Cov (cell : Sy → Nat → Nat → Way) : List Sy → Nat → Nat → Int → Prop
  | nil (i : Nat) : Cov cell [] i i 0
  | cons (s : Sy) {l : List Sy} {i m j : Nat} {k : Int} (h1 : i ≤ m) (h2 : m ≤ j) (hs : (cell s i m).ok = true) (h : Cov cell l m j k) : Cov cell (s :: l) i j ((cell s i m).cost + k)
theorem Cov.le {cell : Sy → Nat → Nat → Way} {l : List Sy} {i j : Nat} {k : Int} (h : Cov cell l i j k) : i ≤ j := by
  induction h <;> omega
theorem Cov.snoc {cell : Sy → Nat → Nat → Way} {s : Sy} : ∀ {ss : List Sy} {i j : Nat} {k : Int}, Cov cell (ss ++ [s]) i j k →
    ∃ m k1, i ≤ m ∧ m ≤ j ∧ Cov cell ss i m k1 ∧ (cell s m j).ok = true ∧ k = k1 + (cell s m j).cost
  | [], i, j, k, h => by
    cases h with
    | cons _ h1 h2 hs h =>
      cases h
      exact ⟨i, 0, Nat.le_refl _, h1, .nil i, hs, by omega⟩
  | a :: ss, i, j, k, h => by
    cases h with
    | cons _ h1 h2 hs h =>
      obtain ⟨m, k1, h3, h4, h5, h6, rfl⟩ := Cov.snoc h
      exact ⟨m, _, by omega, h4, .cons a h1 h3 hs h5, h6, by omega⟩

section
variable {c0 c1 c2 : Int} {w : List Int} {st : Nat → Nat → Nat → Way} {n i : Nat}
theorem ruleAt_snoc (l : List Sy) (s : Sy) : ruleAt c0 c1 c2 w st n i (l ++ [s]) = rowK (ruleAt c0 c1 c2 w st n i l) (symW c0 c1 c2 w st s) n i (n + 1 - i) := by
  simp [ruleAt, List.foldl_append]
theorem snoc_induction {α : Type} {P : List α → Prop} (h0 : P []) (hs : ∀ l a, P l → P (l ++ [a])) (l : List α) : P l := by
  have : ∀ (k : Nat) (l : List α), l.length = k → P l := by
    intro k
    induction k with
    | zero => intro l h; rw [List.length_eq_zero_iff.1 h]; exact h0
    | succ k ih =>
      intro l h
      rcases List.eq_nil_or_concat l with rfl | ⟨a, b, rfl⟩
      · exact h0
      · rw [List.concat_eq_append]
        exact hs a b (ih a (by simp at h; exact h))
  exact this _ l rfl
theorem ruleAt_cov (l : List Sy) : ∀ {j : Nat} {k : Int}, j ≤ n → Cov (symW c0 c1 c2 w st) l i j k → (ruleAt c0 c1 c2 w st n i l j).ok = true ∧ (ruleAt c0 c1 c2 w st n i l j).cost ≤ k := by
  induction l using snoc_induction with
  | h0 =>
    intro j k _ h
    cases h
    simp [ruleAt, upd_same]
  | hs l s ih =>
    intro j k hj h
    obtain ⟨m, k1, h1, h2, h3, h4, rfl⟩ := h.snoc
    obtain ⟨h5, h6⟩ := ih (by omega) h3
    rw [ruleAt_snoc]
    obtain ⟨h7, h8⟩ := rowK_at (at_ := ruleAt c0 c1 c2 w st n i l) (sym := symW c0 c1 c2 w st s) (n := n) (i := i) (m := n + 1 - i) h1 (by omega) h2 hj h5 h4
    exact ⟨h7, by omega⟩
theorem ruleW_cov {l : List Sy} {j : Nat} {k : Int} (hl : l ≠ []) (hj : j ≤ n) (h : Cov (symW c0 c1 c2 w st) l i j k) : (ruleW c0 c1 c2 w st n i l j).ok = true ∧ (ruleW c0 c1 c2 w st n i l j).cost ≤ k := by
  rw [ruleW, if_neg hl]; exact ruleAt_cov l hj h
end
/-- no rule gives anything better -/
def Fixd (c0 c1 c2 : Int) (rules : List Ru) (w : List Int) (st : Nat → Nat → Nat → Way) (n : Nat) : Prop :=
  ∀ r ∈ rules, ∀ i j, i ≤ j → j ≤ n → lessW (ruleW c0 c1 c2 w st n i r.2 j) (st r.1 i j) = false
section
variable {c0 c1 c2 : Int} {rules : List Ru} {w : List Int} {st : Nat → Nat → Nat → Way}
theorem Fixd.cov (hf : Fixd c0 c1 c2 rules w st w.length) {l : List Sy} {v : List Int} (h : Dv rules l v) :
    ∀ (i j : Nat) (k : Int), i ≤ j → j ≤ w.length → Al c0 c1 c2 (part w i j) v k → l ≠ [] → ∃ k', k' ≤ k ∧ Cov (symW c0 c1 c2 w st) l i j k' := by
  induction h with
  | nil => intro i j k _ _ _ h; exact absurd rfl h
  | @term t l v h ih =>
    intro i j k hi hj ha _
    by_cases hl : l = []
    · subst hl
      have hv := h.nil_inv
      subst hv
      refine ⟨oneC c0 c1 c2 t (part w i j) + 0, by have := ha.one_le rfl; omega, ?_⟩
      exact Cov.cons (cell := symW c0 c1 c2 w st) (true, t) hi (Nat.le_refl _) (by simp [symW]) (.nil j)
    · obtain ⟨p1, p2, k1, k2, hp, h1, h2, rfl⟩ := ha.split [(t : Int)] v rfl
      obtain ⟨m, m1, m2, rfl, rfl⟩ := part_split hi hj hp
      obtain ⟨k', hk, hc⟩ := ih m j k2 m2 hj h2 hl
      refine ⟨oneC c0 c1 c2 t (part w i m) + k', by have := h1.one_le rfl; omega, ?_⟩
      exact Cov.cons (cell := symW c0 c1 c2 w st) (true, t) m1 m2 (by simp [symW]) hc
  | @non N rhs l u v hr hu hv ih1 ih2 =>
    intro i j k hi hj ha _
    have key : ∀ m k1, i ≤ m → m ≤ w.length → Al c0 c1 c2 (part w i m) u k1 → (st N i m).ok = true ∧ (st N i m).cost ≤ k1 := by
      intro m k1 hm hmj h1
      have hfx : lessW (ruleW c0 c1 c2 w st w.length i rhs m) (st N i m) = false := hf _ hr i m hm hmj
      have hrule : (ruleW c0 c1 c2 w st w.length i rhs m).ok = true ∧ (ruleW c0 c1 c2 w st w.length i rhs m).cost ≤ k1 := by
        by_cases hl : rhs = []
        · subst hl
          have := h1.of_nil hu.nil_inv
          rw [part_len hmj] at this
          rw [ruleW, if_pos rfl, if_pos ⟨hm, hmj⟩]
          refine ⟨rfl, ?_⟩
          show ((m : Int) - (i : Int)) * c1 ≤ k1
          rw [this, show ((m - i : Nat) : Int) = (m : Int) - (i : Int) by omega]; exact Int.le_refl _
        · obtain ⟨k', hk, hc⟩ := ih1 i m k1 hm hmj h1 hl
          obtain ⟨h3, h4⟩ := ruleW_cov hl hmj hc
          exact ⟨h3, by omega⟩
      obtain ⟨h5, h6⟩ := lessW_not hfx hrule.1
      exact ⟨h5, by have := hrule.2; omega⟩
    by_cases hl : l = []
    · subst hl
      have hv0 := hv.nil_inv
      subst hv0
      rw [List.append_nil] at ha
      obtain ⟨h1, h2⟩ := key j k hi hj ha
      exact ⟨(st N i j).cost + 0, by omega, Cov.cons (cell := symW c0 c1 c2 w st) (false, N) hi (Nat.le_refl _) (by simpa [symW] using h1) (.nil j)⟩
    · obtain ⟨p1, p2, k1, k2, hp, h1, h2, rfl⟩ := ha.split u v rfl
      obtain ⟨m, m1, m2, rfl, rfl⟩ := part_split hi hj hp
      obtain ⟨k', hk, hc⟩ := ih2 m j k2 m2 hj h2 hl
      obtain ⟨h3, h4⟩ := key m k1 m1 (by omega) h1
      exact ⟨(st N i m).cost + k', by omega, Cov.cons (cell := symW c0 c1 c2 w st) (false, N) m1 m2 (by simpa [symW] using h3) hc⟩
theorem Fixd.least (hf : Fixd c0 c1 c2 rules w st w.length) {N : Nat} {v : List Int} {k : Int} (h : Dv rules [(false, N)] v) (ha : Al c0 c1 c2 w v k) : (st N 0 w.length).ok = true ∧ (st N 0 w.length).cost ≤ k := by
  obtain ⟨k', hk, hc⟩ := hf.cov h 0 w.length k (Nat.zero_le _) (Nat.le_refl _) (by rw [part_all]; exact ha) (by simp)
  cases hc with
  | cons _ h1 h2 hs h =>
    cases h
    simp only [symW, Bool.false_eq_true, if_false] at hs hk
    exact ⟨hs, by omega⟩
end

/-! ### what is kept is the way to a word: soundness -/
def Snd (c0 c1 c2 : Int) (rules : List Ru) (w : List Int) (l : List Sy) (i j : Nat) (x : Way) : Prop :=
  x.ok = true → i ≤ j ∧ j ≤ w.length ∧ ∃ v, Dv rules l v ∧ Al c0 c1 c2 (part w i j) v x.cost ∧ x.size = (v.length : Int) ∧ x.w = if v.length ≤ 2000 then v else []
section
variable {c0 c1 c2 : Int} {rules : List Ru} {w : List Int} {st : Nat → Nat → Nat → Way}
theorem Snd.no (l : List Sy) (i j : Nat) : Snd c0 c1 c2 rules w l i j Way.no := fun h => by cases h
theorem Snd.then_ {l l' : List Sy} {i m j : Nat} {a b : Way} (h : Snd c0 c1 c2 rules w l i m a) (k : Snd c0 c1 c2 rules w l' m j b) : Snd c0 c1 c2 rules w (l ++ l') i j (thenW a b) := by
  intro ho
  have ha : a.ok = true := by simp [thenW] at ho; exact ho.1
  have hb : b.ok = true := by simp [thenW] at ho; exact ho.2
  obtain ⟨h1, h2, u, h3, h4, h5, h6⟩ := h ha
  obtain ⟨k1, k2, v, k3, k4, k5, k6⟩ := k hb
  refine ⟨by omega, k2, u ++ v, h3.append k3, ?_, ?_, ?_⟩
  · rw [← part_append h1 k1]; exact h4.append k4
  · simp only [thenW, h5, k5, List.length_append]; omega
  · simp only [thenW, ha, hb, h5, k5, List.length_append, Bool.and_self, Bool.true_and, decide_eq_true_eq]
    by_cases e : u.length + v.length ≤ 2000
    · rw [if_pos e, if_pos (by omega), h6, k6, if_pos (by omega), if_pos (by omega)]
    · rw [if_neg e, if_neg (by omega)]
theorem Snd.sym (hst : ∀ N i j, Snd c0 c1 c2 rules w [(false, N)] i j (st N i j)) (s : Sy) {i j : Nat} (h1 : i ≤ j) (h2 : j ≤ w.length) : Snd c0 c1 c2 rules w [s] i j (symW c0 c1 c2 w st s i j) := by
  obtain ⟨b, t⟩ := s
  cases b with
  | false => exact hst t i j
  | true =>
    intro _
    exact ⟨h1, h2, [(t : Int)], Dv.letter t, Al.one _ _, rfl, rfl⟩
theorem Snd.ruleAt (hst : ∀ N i j, Snd c0 c1 c2 rules w [(false, N)] i j (st N i j)) {i : Nat} (hi : i ≤ w.length) (l : List Sy) : ∀ j, Snd c0 c1 c2 rules w l i j (ruleAt c0 c1 c2 w st w.length i l j) := by
  induction l using snoc_induction with
  | h0 =>
    intro j
    by_cases e : j = i
    · subst e
      intro _
      refine ⟨Nat.le_refl _, hi, [], .nil, ?_, ?_, ?_⟩
      · rw [part_same]; simpa [Go.Proofs.YtbfcnfgkccgbiaaGreatDoor.ruleAt, upd_same] using Al.nil
      · simp [Go.Proofs.YtbfcnfgkccgbiaaGreatDoor.ruleAt, upd_same]
      · simp [Go.Proofs.YtbfcnfgkccgbiaaGreatDoor.ruleAt, upd_same]
    · have : Go.Proofs.YtbfcnfgkccgbiaaGreatDoor.ruleAt c0 c1 c2 w st w.length i [] j = Way.no := by simp [Go.Proofs.YtbfcnfgkccgbiaaGreatDoor.ruleAt, upd_ne _ _ e]
      rw [this]; exact .no _ _ _
  | hs l s ih =>
    rw [ruleAt_snoc]
    exact rowK_inv (P := fun j x => Snd c0 c1 c2 rules w (l ++ [s]) i j x) (fun j => .no _ _ _) fun k j _ _ h3 h4 _ _ => (ih k).then_ (Snd.sym hst s h3 h4)
theorem Snd.rule (hst : ∀ N i j, Snd c0 c1 c2 rules w [(false, N)] i j (st N i j)) {i : Nat} (hi : i ≤ w.length) (l : List Sy) (j : Nat) : Snd c0 c1 c2 rules w l i j (ruleW c0 c1 c2 w st w.length i l j) := by
  by_cases hl : l = []
  · subst hl
    rw [ruleW, if_pos rfl]
    by_cases e : i ≤ j ∧ j ≤ w.length
    · intro _
      rw [if_pos e]
      refine ⟨e.1, e.2, [], .nil, ?_, rfl, rfl⟩
      have := Al.dels (c0 := c0) (c1 := c1) (c2 := c2) (part w i j)
      rwa [part_len e.2, show ((j - i : Nat) : Int) = (j : Int) - (i : Int) by omega] at this
    · rw [if_neg e]; exact .no _ _ _
  · rw [ruleW, if_neg hl]; exact Snd.ruleAt hst hi l j
theorem Snd.fold {r : Ru} (hr : r ∈ rules) {i j : Nat} {x : Way} (h : Snd c0 c1 c2 rules w r.2 i j x) : Snd c0 c1 c2 rules w [(false, r.1)] i j x := fun ho => by
  obtain ⟨h1, h2, v, h3, h4⟩ := h ho
  exact ⟨h1, h2, v, Dv.one hr h3, h4⟩
end
/-! ### bounds -/
structure Bnd (M : Int) (x : Way) : Prop where
  c0 : 0 ≤ x.cost
  c1 : x.cost ≤ M
  s0 : 0 ≤ x.size
  s1 : x.size ≤ M
  len : (x.w.length : Int) ≤ x.size
  short : x.w.length ≤ 2000
theorem Bnd.no {M : Int} (h : 0 ≤ M) : Bnd M Way.no := ⟨by simp [Way.no], by simpa [Way.no] using h, by simp [Way.no], by simpa [Way.no] using h, by simp [Way.no], by simp [Way.no]⟩
theorem Bnd.mono {M M' : Int} {x : Way} (h : Bnd M x) (k : M ≤ M') : Bnd M' x := ⟨h.c0, by have := h.c1; omega, h.s0, by have := h.s1; omega, h.len, h.short⟩
theorem Bnd.then_ {A B : Int} {a b : Way} (h : Bnd A a) (k : Bnd B b) : Bnd (A + B) (thenW a b) := by
  have h1 := h.c0; have h2 := h.c1; have h3 := h.s0; have h4 := h.s1; have h5 := h.len
  have k1 := k.c0; have k2 := k.c1; have k3 := k.s0; have k4 := k.s1; have k5 := k.len
  refine ⟨by simp only [thenW]; omega, by simp only [thenW]; omega, by simp only [thenW]; omega, by simp only [thenW]; omega, ?_, ?_⟩
  · simp only [thenW]; split
    · simp only [List.length_append]; omega
    · simp; omega
  · simp only [thenW]; split
    · rename_i e
      simp only [Bool.and_eq_true, decide_eq_true_eq] at e
      simp only [List.length_append]; omega
    · simp
theorem Bnd.rowJ {A B : Int} {a : Way} {sym : Nat → Way} {k m : Nat} {f : Nat → Way} (ha : Bnd A a) (hs : ∀ j, k ≤ j → j < k + m → Bnd B (sym j)) (hf : ∀ j, Bnd (A + B) (f j)) (j : Nat) : Bnd (A + B) (rowJ a sym k f m j) :=
  rowJ_inv (P := fun _ x => Bnd (A + B) x) hf (fun j h1 h2 _ _ => ha.then_ (hs j h1 h2)) j
theorem Bnd.rowK {A B : Int} {at_ : Nat → Way} {sym : Nat → Nat → Way} {n i m : Nat} (h0 : 0 ≤ A + B) (ha : ∀ k, Bnd A (at_ k)) (hs : ∀ k j, i ≤ k → k ≤ j → j ≤ n → Bnd B (sym k j)) (j : Nat) : Bnd (A + B) (rowK at_ sym n i m j) :=
  rowK_inv (P := fun _ x => Bnd (A + B) x) (fun _ => .no h0) (fun k j h1 _ h3 h4 _ _ => (ha k).then_ (hs k j h1 h3 h4)) j
section
variable {c0 c1 c2 : Int} {w : List Int} {st : Nat → Nat → Nat → Way}
theorem oneC_bound (h0 : 1 ≤ c0 ∧ c0 ≤ 100) (h1 : 1 ≤ c1 ∧ c1 ≤ 100) (h2 : 1 ≤ c2 ∧ c2 ≤ 100) (t : Int) {p : List Int} (hp : p.length ≤ 12) : 0 ≤ oneC c0 c1 c2 t p ∧ oneC c0 c1 c2 t p ≤ 1300 := by
  refine ⟨(Al.one t p).pos (by omega) (by omega) (by omega), ?_⟩
  have := (oneC_le (c0 := c0) (c1 := c1) (c2 := c2) t p).1
  have h3 : (p.length : Int) * c1 ≤ 12 * 100 := Int.mul_le_mul (by omega) h1.2 (by omega) (by omega)
  omega
theorem part_short (w : List Int) (i j : Nat) (h : w.length ≤ 12) : (part w i j).length ≤ 12 := by unfold part; simp; omega
theorem Bnd.sym {M : Int} (h0 : 1 ≤ c0 ∧ c0 ≤ 100) (h1 : 1 ≤ c1 ∧ c1 ≤ 100) (h2 : 1 ≤ c2 ∧ c2 ≤ 100) (hw : w.length ≤ 12) (hM : 1300 ≤ M) (hst : ∀ N i j, Bnd M (st N i j)) (s : Sy) (i j : Nat) : Bnd M (symW c0 c1 c2 w st s i j) := by
  obtain ⟨b, t⟩ := s
  cases b with
  | false => exact hst t i j
  | true =>
    have := oneC_bound h0 h1 h2 (t : Int) (part_short w i j hw)
    unfold part at this
    exact ⟨by simp only [symW, if_true]; omega, by simp only [symW, if_true]; omega, by simp [symW], by simp [symW]; omega, by simp [symW], by simp [symW]⟩
theorem Bnd.ruleAt {M : Int} {n i : Nat} (hM : 0 ≤ M) (hs : ∀ s k j, i ≤ k → k ≤ j → j ≤ n → Bnd M (symW c0 c1 c2 w st s k j)) (l : List Sy) : ∀ j, Bnd ((l.length : Int) * M) (ruleAt c0 c1 c2 w st n i l j) := by
  induction l using snoc_induction with
  | h0 =>
    intro j
    by_cases e : j = i
    · subst e; simp only [Go.Proofs.YtbfcnfgkccgbiaaGreatDoor.ruleAt, List.foldl_nil, upd_same]; exact ⟨by simp, by simp, by simp, by simp, by simp, by simp⟩
    · simp only [Go.Proofs.YtbfcnfgkccgbiaaGreatDoor.ruleAt, List.foldl_nil, upd_ne _ _ e]; exact .no (by simp)
  | hs l s ih =>
    intro j
    rw [ruleAt_snoc]
    have e : ((l ++ [s]).length : Int) * M = (l.length : Int) * M + M := by simp [Int.add_mul]
    rw [e]
    exact Bnd.rowK (by have : 0 ≤ (l.length : Int) * M := Int.mul_nonneg (by omega) hM; omega) ih (hs s) j
end

/-! ### states: which nonterminals have a way, and what it costs at the most -/
structure Pm where
  c0 : Int
  c1 : Int
  c2 : Int
  nons : Nat
  rules : List Ru
  w : List Int
structure Pm.Ok (p : Pm) : Prop where
  c0 : 1 ≤ p.c0 ∧ p.c0 ≤ 100
  c1 : 1 ≤ p.c1 ∧ p.c1 ≤ 100
  c2 : 1 ≤ p.c2 ∧ p.c2 ≤ 100
  nons : p.nons ≤ 10
  left : ∀ r ∈ p.rules, r.1 < p.nons
  right : ∀ r ∈ p.rules, r.2.length ≤ 4
  lets : ∀ r ∈ p.rules, ∀ s ∈ r.2, s.1 = true → s.2 < 8
  len : p.w.length ≤ 12
abbrev WSt := Nat → Nat → Nat → Way
def Pm.rule (p : Pm) (st : WSt) (i : Nat) (l : List Sy) : Nat → Way := ruleW p.c0 p.c1 p.c2 p.w st p.w.length i l
def Pm.sym (p : Pm) (st : WSt) (s : Sy) (i j : Nat) : Way := symW p.c0 p.c1 p.c2 p.w st s i j
def Pm.Snd (p : Pm) (l : List Sy) (i j : Nat) (x : Way) : Prop := Go.Proofs.YtbfcnfgkccgbiaaGreatDoor.Snd p.c0 p.c1 p.c2 p.rules p.w l i j x
def cnt (nons : Nat) (st : WSt) : Nat := ((List.range nons).filter fun N => (st N 0 0).ok).length
def lev (p : Pm) (st : WSt) : Int := 1300 * 4 ^ cnt p.nons st
structure Good (p : Pm) (st : WSt) : Prop where
  snd : ∀ N i j, p.Snd [(false, N)] i j (st N i j)
  pat : ∀ N i j, (st N i j).ok = true ↔ (i ≤ j ∧ j ≤ p.w.length ∧ (st N 0 0).ok = true)
  bnd : ∀ N i j, (st N i j).ok = true → (st N i j).cost ≤ lev p st
  no : ∀ N i j, (st N i j).ok = false → st N i j = Way.no
  out : ∀ N i j, p.nons ≤ N → (st N i j).ok = false
def Flag (st1 : WSt) (r : Ru) : Prop := ∀ s ∈ r.2, s.1 = false → (st1 s.2 0 0).ok = true
structure Mid (p : Pm) (st1 : WSt) (r : Ru) (i j : Nat) (st : WSt) : Prop where
  snd : ∀ N i j, p.Snd [(false, N)] i j (st N i j)
  no : ∀ N i j, (st N i j).ok = false → st N i j = Way.no
  oth : ∀ N, N ≠ r.1 → st N = st1 N
  keep : ∀ a b, (st1 r.1 a b).ok = true → (st r.1 a b).ok = true
  new : ∀ a b, (st r.1 a b).ok = true → (st1 r.1 a b).ok = true ∨ (a ≤ b ∧ b ≤ p.w.length ∧ Flag st1 r)
  bnd : ∀ a b, (st r.1 a b).ok = true → (st r.1 a b).cost ≤ lev p st1 * (if (st1 r.1 0 0).ok then 1 else 4)
  done : Flag st1 r → ∀ a b, a ≤ b → b ≤ p.w.length → (a < i ∨ a = i ∧ b < j) → (st r.1 a b).ok = true
def updS (st : WSt) (N i j : Nat) (x : Way) : WSt := fun a b c => if a = N ∧ b = i ∧ c = j then x else st a b c
theorem updS_same (st : WSt) (N i j : Nat) (x : Way) : updS st N i j x N i j = x := by simp [updS]
theorem updS_ne (st : WSt) {N i j a b c : Nat} (x : Way) (h : ¬ (a = N ∧ b = i ∧ c = j)) : updS st N i j x a b c = st a b c := by simp only [updS, if_neg h]
theorem lev_pos (p : Pm) (st : WSt) : 1300 ≤ lev p st := by
  have : 1 ≤ (4 : Int) ^ cnt p.nons st := by
    have : (1 : Nat) ≤ 4 ^ cnt p.nons st := Nat.one_le_pow _ _ (by omega)
    exact_mod_cast this
  unfold lev; omega
section
variable {p : Pm} {st st1 stI : WSt} {r : Ru} {i j : Nat}
theorem Mid.start (h : Good p st1) (r : Ru) : Mid p st1 r 0 0 st1 := by
  refine ⟨h.snd, h.no, fun _ _ => rfl, fun _ _ h => h, fun _ _ h => Or.inl h, fun a b hk => ?_, fun _ a b _ _ h => by omega⟩
  have := h.bnd _ _ _ hk
  have := lev_pos p st1
  split <;> omega
theorem Mid.row (h : Mid p st1 r i (p.w.length + 1) st) : Mid p st1 r (i + 1) 0 st :=
  ⟨h.snd, h.no, h.oth, h.keep, h.new, h.bnd, fun hf a b h1 h2 _ => h.done hf a b h1 h2 (by omega)⟩
theorem ruleW_sym_ok {c0 c1 c2 : Int} {w : List Int} {n i j : Nat} {l : List Sy} (h : (ruleW c0 c1 c2 w st n i l j).ok = true) : ∀ s ∈ l, s.1 = false → ∃ a b, (st s.2 a b).ok = true := by
  by_cases hl : l = []
  · subst hl; intro s hs; cases hs
  · rw [ruleW, if_neg hl] at h
    have : ∀ l : List Sy, ∀ j, (ruleAt c0 c1 c2 w st n i l j).ok = true → ∀ s ∈ l, s.1 = false → ∃ a b, (st s.2 a b).ok = true := by
      intro l
      induction l using snoc_induction with
      | h0 => intro j _ s hs; cases hs
      | hs l x ih =>
        rw [ruleAt_snoc]
        refine rowK_inv (P := fun _ y => y.ok = true → ∀ s ∈ l ++ [x], s.1 = false → ∃ a b, (st s.2 a b).ok = true) (fun j h => by cases h) fun k j _ _ _ _ h5 h6 _ s hs hb => ?_
        rcases List.mem_append.1 hs with hs | hs
        · exact ih k h5 s hs hb
        · rw [List.mem_singleton.1 hs] at hb ⊢
          rw [symW, if_neg (by simp [hb])] at h6
          exact ⟨k, j, h6⟩
    exact this l j h
theorem ruleW_cost {c0 c1 c2 X : Int} {w : List Int} {n i j : Nat} {l : List Sy} (hX : 0 ≤ X) (he : l = [] → ((j : Int) - (i : Int)) * c1 ≤ X)
    (hs : ∀ s ∈ l, ∀ a b, i ≤ a → a ≤ b → b ≤ n → (symW c0 c1 c2 w st s a b).ok = true → (symW c0 c1 c2 w st s a b).cost ≤ X) (h : (ruleW c0 c1 c2 w st n i l j).ok = true) (h4 : l.length ≤ 4) :
    (ruleW c0 c1 c2 w st n i l j).cost ≤ X * 4 := by
  by_cases hl : l = []
  · subst hl
    rw [ruleW, if_pos rfl] at h ⊢
    by_cases e : i ≤ j ∧ j ≤ n
    · rw [if_pos e]; have := he rfl; show ((j : Int) - (i : Int)) * c1 ≤ X * 4; omega
    · rw [if_neg e] at h; cases h
  · rw [ruleW, if_neg hl] at h ⊢
    have : ∀ l' : List Sy, (∀ s ∈ l', s ∈ l) → ∀ j, (ruleAt c0 c1 c2 w st n i l' j).ok = true → (ruleAt c0 c1 c2 w st n i l' j).cost ≤ (l'.length : Int) * X := by
      intro l'
      induction l' using snoc_induction with
      | h0 =>
        intro _ j h
        by_cases e : j = i
        · subst e; simp [ruleAt, upd_same]
        · simp [ruleAt, upd_ne _ _ e, Way.no] at h
      | hs l' x ih =>
        intro hm
        rw [ruleAt_snoc]
        refine rowK_inv (P := fun _ y => y.ok = true → y.cost ≤ ((l' ++ [x]).length : Int) * X) (fun j h => by cases h) fun k j h1 _ h3 h4 h5 h6 _ => ?_
        have e1 := ih (fun s hs => hm s (List.mem_append_left _ hs)) k h5
        have e2 := hs x (hm x (by simp)) k j h1 h3 h4 h6
        have e : ((l' ++ [x]).length : Int) * X = (l'.length : Int) * X + X := by simp [Int.add_mul]
        rw [e]; show (ruleAt c0 c1 c2 w st n i l' k).cost + _ ≤ _; omega
    have h5 := this l (fun s h => h) j h
    have h6 : (l.length : Int) * X ≤ 4 * X := Int.mul_le_mul_of_nonneg_right (by omega) hX
    omega
theorem Cov.exists_ {cell : Sy → Nat → Nat → Way} {l : List Sy} {n i j : Nat} (hj : j ≤ n) (hi : i ≤ j) (h : ∀ s ∈ l, ∀ a b, i ≤ a → a ≤ b → b ≤ n → (cell s a b).ok = true) (hl : l ≠ []) : ∃ k, Cov cell l i j k := by
  have h2 : ∀ l' : List Sy, (∀ s ∈ l', s ∈ l) → ∃ k, Cov cell l' j j k := by
    intro l'
    induction l' with
    | nil => intro _; exact ⟨0, .nil j⟩
    | cons s l' ih =>
      intro hm
      obtain ⟨k, hk⟩ := ih fun s hs => hm s (List.mem_cons_of_mem _ hs)
      exact ⟨_, .cons s (Nat.le_refl _) (Nat.le_refl _) (h s (hm s (List.mem_cons_self ..)) j j hi (Nat.le_refl _) hj) hk⟩
  cases l with
  | nil => exact absurd rfl hl
  | cons s l =>
    obtain ⟨k, hk⟩ := h2 l fun s hs => List.mem_cons_of_mem _ hs
    exact ⟨_, .cons s hi (Nat.le_refl _) (h s (List.mem_cons_self ..) i j (Nat.le_refl _) hi hj) hk⟩
theorem rule_flag (hg : Good p st1) (hI : Mid p st1 r i 0 stI) (h : (p.rule stI i r.2 j).ok = true) : Flag st1 r := by
  intro s hs hb
  obtain ⟨a, b, hab⟩ := ruleW_sym_ok h s hs hb
  by_cases e : s.2 = r.1
  · rw [e] at hab ⊢
    rcases hI.new a b hab with h1 | ⟨_, _, hf⟩
    · exact ((hg.pat _ _ _).1 h1).2.2
    · have := hf s hs hb; rwa [e] at this
  · rw [hI.oth _ e] at hab
    exact ((hg.pat _ _ _).1 hab).2.2
theorem rule_ok_of_flag (hg : Good p st1) (hI : Mid p st1 r i 0 stI) (hf : Flag st1 r) (hi : i ≤ j) (hj : j ≤ p.w.length) : (p.rule stI i r.2 j).ok = true := by
  by_cases hl : r.2 = []
  · rw [Pm.rule, hl, ruleW, if_pos rfl, if_pos ⟨hi, hj⟩]
  · have : ∃ k, Cov (symW p.c0 p.c1 p.c2 p.w stI) r.2 i j k := by
      refine Cov.exists_ hj hi (fun s hs a b h1 h2 h3 => ?_) hl
      cases hb : s.1 with
      | true => simp [symW, hb]
      | false =>
        rw [symW, if_neg (by simp [hb])]
        have h4 : (st1 s.2 a b).ok = true := (hg.pat _ _ _).2 ⟨h2, h3, hf s hs hb⟩
        by_cases e : s.2 = r.1
        · rw [e] at h4 ⊢; exact hI.keep _ _ h4
        · rw [hI.oth _ e]; exact h4
    obtain ⟨k, hk⟩ := this
    exact (ruleW_cov hl hj hk).1
theorem Mid.put (hp : p.Ok) (hr : r ∈ p.rules) (hg : Good p st1) (hI : Mid p st1 r i 0 stI) (h : Mid p st1 r i j st) (hi : i ≤ p.w.length) (hx : lessW (p.rule stI i r.2 j) (st r.1 i j) = true) :
    Mid p st1 r i (j + 1) (updS st r.1 i j (p.rule stI i r.2 j)) := by
  have hok := lessW_ok hx
  have hf := rule_flag hg hI hok
  have hs : p.Snd [(false, r.1)] i j (p.rule stI i r.2 j) := Snd.fold hr (Snd.rule hI.snd hi r.2 j)
  obtain ⟨h1, h2, -⟩ := hs hok
  have hc : (p.rule stI i r.2 j).cost ≤ lev p st1 * (if (st1 r.1 0 0).ok then 1 else 4) := by
    cases ho : (st1 r.1 0 0).ok with
    | true =>
      have h3 := h.keep i j ((hg.pat _ _ _).2 ⟨h1, h2, ho⟩)
      have h4 := lessW_cost hx h3
      have h5 := h.bnd i j h3
      rw [ho] at h5
      exact Int.le_trans h4 h5
    | false =>
      have hL := lev_pos p st1
      refine ruleW_cost (by omega) (fun _ => ?_) (fun s hs a b k1 k2 k3 ho2 => ?_) hok (hp.right r hr)
      · have h6 : ((j : Int) - (i : Int)) * p.c1 ≤ 12 * 100 := Int.mul_le_mul (by have := hp.len; omega) hp.c1.2 (by have := hp.c1.1; omega) (by omega)
        omega
      · cases hb : s.1 with
        | true =>
          rw [symW, if_pos hb]
          have := (oneC_bound hp.c0 hp.c1 hp.c2 (s.2 : Int) (part_short p.w a b hp.len)).2
          unfold part at this
          show oneC _ _ _ _ _ ≤ _
          omega
        | false =>
          rw [symW, if_neg (by simp [hb])] at ho2 ⊢
          have e : s.2 ≠ r.1 := fun e => by have := hf s hs hb; rw [e, ho] at this; cases this
          rw [hI.oth _ e] at ho2 ⊢
          exact hg.bnd _ _ _ ho2
  constructor
  · intro N a b
    by_cases e : N = r.1 ∧ a = i ∧ b = j
    · obtain ⟨rfl, rfl, rfl⟩ := e; rw [updS_same]; exact hs
    · rw [updS_ne _ _ e]; exact h.snd N a b
  · intro N a b hn
    by_cases e : N = r.1 ∧ a = i ∧ b = j
    · obtain ⟨rfl, rfl, rfl⟩ := e; rw [updS_same] at hn; rw [hok] at hn; cases hn
    · rw [updS_ne _ _ e] at hn ⊢; exact h.no N a b hn
  · intro N hN
    funext a b
    rw [updS_ne _ _ (fun e => hN e.1), h.oth N hN]
  · intro a b hab
    by_cases e : r.1 = r.1 ∧ a = i ∧ b = j
    · obtain ⟨_, rfl, rfl⟩ := e; rw [updS_same]; exact hok
    · rw [updS_ne _ _ e]; exact h.keep a b hab
  · intro a b hab
    by_cases e : r.1 = r.1 ∧ a = i ∧ b = j
    · obtain ⟨_, rfl, rfl⟩ := e; exact Or.inr ⟨h1, h2, hf⟩
    · rw [updS_ne _ _ e] at hab; exact h.new a b hab
  · intro a b hab
    by_cases e : r.1 = r.1 ∧ a = i ∧ b = j
    · obtain ⟨_, rfl, rfl⟩ := e; rw [updS_same]; exact hc
    · rw [updS_ne _ _ e] at hab ⊢; exact h.bnd a b hab
  · intro _ a b h3 h4 h5
    by_cases e : r.1 = r.1 ∧ a = i ∧ b = j
    · obtain ⟨_, rfl, rfl⟩ := e; rw [updS_same]; exact hok
    · rw [updS_ne _ _ e]; exact h.done hf a b h3 h4 (by rcases h5 with h5 | ⟨h5, h6⟩; exact Or.inl h5; exact Or.inr ⟨h5, by by_cases e2 : b = j; exact absurd ⟨rfl, h5, e2⟩ e; omega⟩)
theorem Mid.skip (hg : Good p st1) (hI : Mid p st1 r i 0 stI) (h : Mid p st1 r i j st) (hx : lessW (p.rule stI i r.2 j) (st r.1 i j) = false) : Mid p st1 r i (j + 1) st := by
  refine ⟨h.snd, h.no, h.oth, h.keep, h.new, h.bnd, fun hf a b h1 h2 h3 => ?_⟩
  by_cases e : a = i ∧ b = j
  · obtain ⟨rfl, rfl⟩ := e
    exact (lessW_not hx (rule_ok_of_flag hg hI hf h1 h2)).1
  · exact h.done hf a b h1 h2 (by omega)
theorem cnt_le (nons : Nat) (st : WSt) : cnt nons st ≤ nons := by
  unfold cnt; have := List.length_filter_le (fun N => (st N 0 0).ok) (List.range nons); simpa using this
theorem cnt_mono {nons : Nat} {st st' : WSt} (h : ∀ N, (st N 0 0).ok = true → (st' N 0 0).ok = true) : cnt nons st ≤ cnt nons st' := by
  unfold cnt
  induction List.range nons with
  | nil => simp
  | cons a l ih =>
    rw [List.filter_cons, List.filter_cons]
    by_cases e : (st a 0 0).ok = true
    · rw [if_pos e, if_pos (h a e)]; simp; exact ih
    · rw [if_neg e]; split
      · simp; omega
      · exact ih
theorem cnt_lt {nons : Nat} {st st' : WSt} (h : ∀ N, (st N 0 0).ok = true → (st' N 0 0).ok = true) {N : Nat} (hN : N < nons) (h0 : (st N 0 0).ok = false) (h1 : (st' N 0 0).ok = true) : cnt nons st + 1 ≤ cnt nons st' := by
  have hm : ∀ l : List Nat, (l.filter fun N => (st N 0 0).ok).length ≤ (l.filter fun N => (st' N 0 0).ok).length := by
    intro l
    induction l with
    | nil => simp
    | cons a l ih =>
      rw [List.filter_cons, List.filter_cons]
      by_cases e : (st a 0 0).ok = true
      · rw [if_pos e, if_pos (h a e)]; simp; exact ih
      · rw [if_neg e]; split
        · simp; omega
        · exact ih
  have : ∀ l : List Nat, N ∈ l → (l.filter fun N => (st N 0 0).ok).length + 1 ≤ (l.filter fun N => (st' N 0 0).ok).length := by
    intro l
    induction l with
    | nil => intro h; cases h
    | cons a l ih =>
      intro hm'
      rw [List.filter_cons, List.filter_cons]
      rcases List.mem_cons.1 hm' with rfl | hm'
      · rw [if_neg (by simp [h0]), if_pos h1]; have := hm l; simp; omega
      · have := ih hm'
        by_cases e : (st a 0 0).ok = true
        · rw [if_pos e, if_pos (h a e)]; simp; omega
        · rw [if_neg e]; split
          · simp; omega
          · exact this
  exact this _ (List.mem_range.2 hN)
theorem lev_mono {st st' : WSt} (h : cnt p.nons st ≤ cnt p.nons st') : lev p st ≤ lev p st' := by
  have : (4 : Nat) ^ cnt p.nons st ≤ 4 ^ cnt p.nons st' := Nat.pow_le_pow_right (by omega) h
  have h2 : (4 : Int) ^ cnt p.nons st ≤ 4 ^ cnt p.nons st' := by exact_mod_cast this
  unfold lev; omega
theorem Mid.end_ (hp : p.Ok) (hr : r ∈ p.rules) (hg : Good p st1) (h : Mid p st1 r (p.w.length + 1) 0 st) : Good p st := by
  have hup : ∀ N, (st1 N 0 0).ok = true → (st N 0 0).ok = true := fun N hN => by
    by_cases e : N = r.1
    · subst e; exact h.keep 0 0 hN
    · rw [h.oth N e]; exact hN
  have hmono := lev_mono (p := p) (cnt_mono (nons := p.nons) hup)
  have hpat : ∀ a b, (st r.1 a b).ok = true ↔ (a ≤ b ∧ b ≤ p.w.length ∧ (st r.1 0 0).ok = true) := by
    intro a b
    constructor
    · intro hab
      rcases h.new a b hab with h1 | ⟨h1, h2, hf⟩
      · obtain ⟨h2, h3, h4⟩ := (hg.pat _ _ _).1 h1; exact ⟨h2, h3, h.keep 0 0 h4⟩
      · exact ⟨h1, h2, h.done hf 0 0 (Nat.le_refl _) (Nat.zero_le _) (by omega)⟩
    · rintro ⟨h1, h2, h3⟩
      rcases h.new 0 0 h3 with h4 | ⟨_, _, hf⟩
      · exact h.keep a b ((hg.pat _ _ _).2 ⟨h1, h2, h4⟩)
      · exact h.done hf a b h1 h2 (by omega)
  refine ⟨h.snd, fun N a b => ?_, fun N a b hab => ?_, h.no, fun N a b hN => ?_⟩
  · by_cases e : N = r.1
    · subst e; exact hpat a b
    · rw [h.oth N e]; exact hg.pat N a b
  · by_cases e : N = r.1
    · subst e
      have h1 := h.bnd a b hab
      cases ho : (st1 r.1 0 0).ok with
      | true => rw [ho] at h1; simp only [if_true] at h1; omega
      | false =>
        rw [ho] at h1
        simp only [Bool.false_eq_true, if_false] at h1
        have h2 := cnt_lt (nons := p.nons) hup (hp.left r hr) ho ((hpat a b).1 hab).2.2
        have h3 : (4 : Nat) ^ (cnt p.nons st1 + 1) ≤ 4 ^ cnt p.nons st := Nat.pow_le_pow_right (by omega) h2
        have h4 : (4 : Int) ^ cnt p.nons st1 * 4 ≤ 4 ^ cnt p.nons st := by rw [Nat.pow_succ] at h3; exact_mod_cast h3
        unfold lev at h1 ⊢; omega
    · rw [h.oth N e] at hab ⊢; have := hg.bnd N a b hab; omega
  · by_cases e : N = r.1
    · have := hp.left r hr; omega
    · rw [h.oth N e]; exact hg.out N a b hN
/-- no way at all is good -/
theorem Good.start (p : Pm) : Good p (fun _ _ _ => Way.no) :=
  ⟨fun _ _ _ => .no _ _ _, fun N i j => by simp [Way.no], fun N i j h => (by cases h), fun _ _ _ _ => rfl, fun _ _ _ _ => rfl⟩
end
end Go.Proofs.YtbfcnfgkccgbiaaGreatDoor



namespace Go.Proofs.YtbfcnfgkccgbiaaGreatDoor
open Go.RowKit

/-! ### every step makes a state smaller -/
def numW (B : Nat) : List Int → Nat
  | [] => 0
  | x :: xs => x.toNat * B ^ xs.length + numW B xs
theorem numW_lt {B : Nat} : ∀ {xs : List Int}, (∀ x ∈ xs, 0 ≤ x ∧ x < (B : Int)) → numW B xs < B ^ xs.length
  | [], _ => by simp [numW]
  | x :: xs, h => by
    have h1 := numW_lt (B := B) (xs := xs) fun y hy => h y (List.mem_cons_of_mem _ hy)
    have h2 := h x (List.mem_cons_self ..)
    have h3 : x.toNat + 1 ≤ B := by omega
    have h4 : (x.toNat + 1) * B ^ xs.length ≤ B * B ^ xs.length := Nat.mul_le_mul_right _ h3
    have h5 : (x.toNat + 1) * B ^ xs.length = x.toNat * B ^ xs.length + B ^ xs.length := by rw [Nat.add_mul, Nat.one_mul]
    have h6 : B ^ (x :: xs).length = B * B ^ xs.length := by rw [List.length_cons, Nat.pow_succ, Nat.mul_comm]
    rw [numW, h6]; omega
theorem numW_mono {B : Nat} : ∀ {xs ys : List Int}, xs.length = ys.length → (∀ x ∈ xs, 0 ≤ x ∧ x < (B : Int)) → (∀ x ∈ ys, 0 ≤ x ∧ x < (B : Int)) → cmpL xs ys < 0 → numW B xs < numW B ys
  | [], [], _, _, _, h => by simp [cmpL] at h
  | [], _ :: _, hl, _, _, _ => by simp at hl
  | _ :: _, [], hl, _, _, _ => by simp at hl
  | x :: xs, y :: ys, hl, hx, hy, h => by
    have hl' : xs.length = ys.length := by simpa using hl
    rw [cmpL] at h
    rw [numW, numW, hl']
    split at h
    · rename_i e
      have := numW_mono hl' (fun z hz => hx z (List.mem_cons_of_mem _ hz)) (fun z hz => hy z (List.mem_cons_of_mem _ hz)) h
      rw [cmpI_zero.1 e]; omega
    · have h1 := cmpI_neg.1 h
      have h2 := numW_lt (B := B) (xs := xs) fun z hz => hx z (List.mem_cons_of_mem _ hz)
      have hx0 := hx x (List.mem_cons_self ..)
      have h3 : x.toNat + 1 ≤ y.toNat := by omega
      have h4 : (x.toNat + 1) * B ^ ys.length ≤ y.toNat * B ^ ys.length := Nat.mul_le_mul_right _ h3
      rw [Nat.add_mul, Nat.one_mul] at h4
      rw [hl'] at h2
      omega
theorem lex_lt {a a' b b' P : Nat} (h : a < a' ∨ a = a' ∧ b < b') (hb : b < P) : a * P + b < a' * P + b' := by
  rcases h with h | ⟨rfl, h⟩
  · have : (a + 1) * P ≤ a' * P := Nat.mul_le_mul_right _ h
    rw [Nat.add_mul, Nat.one_mul] at this; omega
  · omega
def long : Nat := 2000
def rankW (M B : Nat) (x : Way) : Nat := if x.ok then (x.cost.toNat * (M + 1) + x.size.toNat) * B ^ long + numW B x.w else ((M + 1) * (M + 1)) * B ^ long
/-- the form of a way: its word has as many letters as it says, or is not kept -/
structure Frm (M B : Nat) (x : Way) : Prop where
  c : 0 ≤ x.cost ∧ x.cost ≤ (M : Int)
  s : 0 ≤ x.size ∧ x.size ≤ (M : Int)
  l : x.w.length = if x.size ≤ 2000 then x.size.toNat else 0
  a : ∀ y ∈ x.w, 0 ≤ y ∧ y < (B : Int)
theorem Frm.num {M B : Nat} (hB : 1 ≤ B) {x : Way} (h : Frm M B x) : numW B x.w < B ^ long := by
  refine Nat.lt_of_lt_of_le (numW_lt h.a) (Nat.pow_le_pow_right hB ?_)
  have := h.l; unfold long; split at this <;> omega
theorem rankW_lt {M B : Nat} (hB : 1 ≤ B) {x y : Way} (hx : x.ok = true → Frm M B x) (hy : y.ok = true → Frm M B y) (h : lessW x y = true) : rankW M B x < rankW M B y := by
  have ho := lessW_ok h
  have fx := hx ho
  have nx := fx.num hB
  have := fx.c; have := fx.s
  unfold rankW
  rw [if_pos ho]
  have hM : x.cost.toNat * (M + 1) + x.size.toNat < (M + 1) * (M + 1) := by
    have : x.cost.toNat * (M + 1) ≤ M * (M + 1) := Nat.mul_le_mul_right _ (by omega)
    have e : (M + 1) * (M + 1) = M * (M + 1) + (M + 1) := by rw [Nat.add_mul, Nat.one_mul]
    omega
  cases hyo : y.ok with
  | false =>
    rw [if_neg (by simp)]
    have := lex_lt (b' := 0) (P := B ^ long) (Or.inl hM) nx
    omega
  | true =>
    rw [if_pos rfl]
    have fy := hy hyo
    have := fy.c; have := fy.s
    have hc := lessW_both h hyo
    refine lex_lt ?_ nx
    unfold wcmp at hc
    by_cases e1 : cmpI x.cost y.cost = 0
    · by_cases e2 : cmpI x.size y.size = 0
      · have e3 := cmpI_zero.1 e1; have e4 := cmpI_zero.1 e2
        right
        refine ⟨by rw [e3, e4], ?_⟩
        refine numW_mono (by rw [fx.l, fy.l, e4]) fx.a fy.a ?_
        simp only [orL, e1, e2, if_true] at hc
        split at hc <;> omega
      · have e3 := cmpI_zero.1 e1
        left
        rw [e3]
        simp only [orL, e1, if_true, e2, if_false] at hc
        have := cmpI_neg.1 hc
        omega
    · left
      simp only [orL, e1, if_false] at hc
      have h1 := cmpI_neg.1 hc
      refine lex_lt (P := M + 1) (Or.inl ?_) ?_ <;> omega
def sumTo (f : Nat → Nat) : Nat → Nat
  | 0 => 0
  | n + 1 => sumTo f n + f n
theorem sumTo_le {f g : Nat → Nat} (n : Nat) (h : ∀ k, f k ≤ g k) : sumTo f n ≤ sumTo g n := by
  induction n with
  | zero => exact Nat.le_refl _
  | succ n ih => have := h n; simp only [sumTo]; omega
theorem sumTo_lt {f g : Nat → Nat} {n k : Nat} (h : ∀ k, f k ≤ g k) (hk : k < n) (hl : f k < g k) : sumTo f n < sumTo g n := by
  induction n with
  | zero => omega
  | succ n ih =>
    simp only [sumTo]
    by_cases e : k = n
    · subst e; have := sumTo_le (f := f) (g := g) k h; omega
    · have := ih (by omega); have := h n; omega
def total (M B nons n : Nat) (st : WSt) : Nat := sumTo (fun N => sumTo (fun i => sumTo (fun j => rankW M B (st N i j)) (n + 1)) (n + 1)) nons
theorem total_lt {M B nons n : Nat} {st : WSt} {N i j : Nat} {x : Way} (hN : N < nons) (hi : i ≤ n) (hj : j ≤ n) (h : rankW M B x < rankW M B (st N i j)) : total M B nons n (updS st N i j x) < total M B nons n st := by
  have hle : ∀ a b c, rankW M B (updS st N i j x a b c) ≤ rankW M B (st a b c) := fun a b c => by
    by_cases e : a = N ∧ b = i ∧ c = j
    · obtain ⟨rfl, rfl, rfl⟩ := e; rw [updS_same]; omega
    · rw [updS_ne _ _ e]; exact Nat.le_refl _
  refine sumTo_lt (fun a => sumTo_le _ fun b => sumTo_le _ fun c => hle a b c) hN ?_
  refine sumTo_lt (fun b => sumTo_le _ fun c => hle N b c) (k := i) (by omega) ?_
  refine sumTo_lt (fun c => hle N i c) (k := j) (by omega) ?_
  rw [updS_same]; exact h
/-- the letters of a word -/
theorem Dv.lets {rules : List Ru} {B : Nat} (hr : ∀ r ∈ rules, ∀ s ∈ r.2, s.1 = true → s.2 < B) {l : List Sy} {v : List Int} (h : Dv rules l v) : (∀ s ∈ l, s.1 = true → s.2 < B) → ∀ y ∈ v, 0 ≤ y ∧ y < (B : Int) := by
  induction h with
  | nil => intro _ y hy; cases hy
  | @term t l v h ih =>
    intro hl y hy
    rcases List.mem_cons.1 hy with rfl | hy
    · have := hl (true, t) (List.mem_cons_self ..) rfl
      simp only at this; omega
    · exact ih (fun s hs => hl s (List.mem_cons_of_mem _ hs)) y hy
  | @non N rhs l u v hm h1 h2 ih1 ih2 =>
    intro hl y hy
    rcases List.mem_append.1 hy with hy | hy
    · exact ih1 (hr _ hm) y hy
    · exact ih2 (fun s hs => hl s (List.mem_cons_of_mem _ hs)) y hy
section
variable {p : Pm} {st st1 stI : WSt} {r : Ru} {i j : Nat}
def big : Nat := 2000000000
theorem four_pow {k : Nat} (h : k ≤ 10) : (4 : Int) ^ k ≤ 1048576 := by
  have : (4 : Nat) ^ k ≤ 4 ^ 10 := Nat.pow_le_pow_right (by omega) h
  have h2 : (4 : Int) ^ k ≤ 4 ^ 10 := by exact_mod_cast this
  exact h2
theorem Snd.frm (hp : p.Ok) {N i j : Nat} {x : Way} {X : Int} (h : p.Snd [(false, N)] i j x) (hc : x.cost ≤ X) (hX : X ≤ 1363148800) (ho : x.ok = true) : Frm big 8 x := by
  obtain ⟨h1, h2, v, h3, h4, h5, h6⟩ := h ho
  have k1 := h4.pos (by have := hp.c0; omega) (by have := hp.c1; omega) (by have := hp.c2; omega)
  have k2 := h4.len (by have := hp.c0; omega) (by have := hp.c1; omega) (by have := hp.c2; omega)
  rw [part_len h2] at k2
  have k3 := hp.len
  refine ⟨⟨k1, by unfold big; omega⟩, ⟨by omega, by unfold big; omega⟩, ?_, ?_⟩
  · rw [h6, h5]; split
    · rw [if_pos (by omega)]; simp
    · rw [if_neg (by omega)]; rfl
  · rw [h6]; split
    · exact h3.lets hp.lets fun s hs hb => by rw [List.mem_singleton.1 hs] at hb; cases hb
    · intro y hy; cases hy
theorem Frm.bnd {x : Way} (h : Frm big 8 x) : Bnd 2000000000 x :=
  ⟨h.c.1, h.c.2, h.s.1, h.s.2, by rw [h.l]; have := h.s; split <;> omega, by rw [h.l]; split <;> omega⟩
theorem Good.cost (h : Good p st) (hp : p.Ok) {N i j : Nat} (ho : (st N i j).ok = true) : (st N i j).cost ≤ 1363148800 := by
  have h1 := h.bnd N i j ho
  have h2 := four_pow (Nat.le_trans (cnt_le p.nons st) hp.nons)
  unfold lev at h1; omega
theorem Mid.cost (h : Mid p st1 r i j st) (hg : Good p st1) (hp : p.Ok) (hr : r ∈ p.rules) {N a b : Nat} (ho : (st N a b).ok = true) : (st N a b).cost ≤ 1363148800 := by
  by_cases e : N = r.1
  · subst e
    have h1 := h.bnd a b ho
    cases hk : (st1 r.1 0 0).ok with
    | true =>
      rw [hk] at h1
      have h2 := four_pow (Nat.le_trans (cnt_le p.nons st1) hp.nons)
      simp only [if_true] at h1
      unfold lev at h1; omega
    | false =>
      rw [hk] at h1
      simp only [Bool.false_eq_true, if_false] at h1
      have hlt : cnt p.nons st1 + 1 ≤ cnt p.nons (fun N a b => if N = r.1 then ⟨0, 0, [], true⟩ else st1 N a b) :=
        cnt_lt (fun N hN => by split; rfl; exact hN) (hp.left r hr) hk (by simp)
      have h2 := four_pow (Nat.le_trans (Nat.le_trans hlt (cnt_le _ _)) hp.nons)
      rw [Int.pow_succ] at h2
      unfold lev at h1; omega
  · rw [h.oth N e] at ho ⊢; exact hg.cost hp ho
theorem Good.frm (h : Good p st) (hp : p.Ok) (N i j : Nat) (ho : (st N i j).ok = true) : Frm big 8 (st N i j) := Snd.frm hp (h.snd N i j) (h.cost hp ho) (Int.le_refl _) ho
theorem Mid.frm (h : Mid p st1 r i j st) (hg : Good p st1) (hp : p.Ok) (hr : r ∈ p.rules) (N a b : Nat) (ho : (st N a b).ok = true) : Frm big 8 (st N a b) := Snd.frm hp (h.snd N a b) (h.cost hg hp hr ho) (Int.le_refl _) ho
theorem Mid.bnds (h : Mid p st1 r i j st) (hg : Good p st1) (hp : p.Ok) (hr : r ∈ p.rules) (N a b : Nat) : Bnd 2000000000 (st N a b) := by
  cases ho : (st N a b).ok with
  | true => exact (h.frm hg hp hr N a b ho).bnd
  | false => rw [h.no N a b ho]; exact .no (by omega)
/-- what the loops have seen: nothing has changed and every rule so far gave nothing better, or the state is smaller -/
structure Prg (p : Pm) (st0 st : WSt) (again : Bool) (V : Ru → Nat → Nat → Prop) : Prop where
  no : again = false → st = st0 ∧ ∀ r i j, V r i j → lessW (p.rule st0 i r.2 j) (st0 r.1 i j) = false
  yes : again = true → total big 8 p.nons p.w.length st < total big 8 p.nons p.w.length st0
theorem Prg.put {st0 : WSt} {again : Bool} {V V' : Ru → Nat → Nat → Prop} (hp : p.Ok) (hr : r ∈ p.rules) (hg : Good p st1) (hI : Mid p st1 r i 0 stI) (hm : Mid p st1 r i j st) (h : Prg p st0 st again V) (hi : i ≤ p.w.length) (hj : j ≤ p.w.length)
    (hx : lessW (p.rule stI i r.2 j) (st r.1 i j) = true) : Prg p st0 (updS st r.1 i j (p.rule stI i r.2 j)) true V' := by
  refine ⟨fun h => by (cases h), fun _ => ?_⟩
  have hput := Mid.put hp hr hg hI hm hi hx
  have h1 : rankW big 8 (p.rule stI i r.2 j) < rankW big 8 (st r.1 i j) := by
    refine rankW_lt (by omega) (fun ho => ?_) (fun ho => hm.frm hg hp hr r.1 i j ho) hx
    have := hput.frm hg hp hr r.1 i j (by rw [updS_same]; exact ho)
    rwa [updS_same] at this
  have h2 := total_lt (nons := p.nons) (n := p.w.length) (st := st) (hp.left r hr) hi hj h1
  cases ha : again with
  | false => obtain ⟨rfl, -⟩ := h.no ha; exact h2
  | true => exact Nat.lt_trans h2 (h.yes ha)
theorem Prg.skip {st0 : WSt} {again : Bool} {V V' : Ru → Nat → Nat → Prop} (h : Prg p st0 st again V) (hI : again = false → stI = st0) (hx : lessW (p.rule stI i r.2 j) (st r.1 i j) = false)
    (hV : ∀ r' i' j', V' r' i' j' → V r' i' j' ∨ (r' = r ∧ i' = i ∧ j' = j)) : Prg p st0 st again V' := by
  refine ⟨fun ha => ?_, h.yes⟩
  obtain ⟨rfl, h2⟩ := h.no ha
  have := hI ha
  subst this
  refine ⟨rfl, fun r' i' j' hv => ?_⟩
  rcases hV r' i' j' hv with h3 | ⟨rfl, rfl, rfl⟩
  · exact h2 r' i' j' h3
  · exact hx
theorem Prg.mono {st0 : WSt} {again : Bool} {V V' : Ru → Nat → Nat → Prop} (h : Prg p st0 st again V) (hV : ∀ r' i' j', V' r' i' j' → V r' i' j') : Prg p st0 st again V' :=
  ⟨fun ha => ⟨(h.no ha).1, fun r i j hv => (h.no ha).2 r i j (hV r i j hv)⟩, h.yes⟩
theorem Prg.start (st : WSt) : Prg p st st false (fun _ _ _ => False) := ⟨fun _ => ⟨rfl, fun _ _ _ h => h.elim⟩, fun h => by (cases h)⟩
end
end Go.Proofs.YtbfcnfgkccgbiaaGreatDoor



namespace Go.Proofs.YtbfcnfgkccgbiaaGreatDoor
open Go.RowKit

/-! ### rows by folding -/
def foldRow (sym : Sy → Nat → Nat → Way) (n i : Nat) (l : List Sy) : Nat → Way := l.foldl (fun f s => rowK f (sym s) n i (n + 1 - i)) (upd (fun _ => Way.no) i ⟨0, 0, [], true⟩)
theorem foldRow_snoc (sym : Sy → Nat → Nat → Way) (n i : Nat) (l : List Sy) (s : Sy) : foldRow sym n i (l ++ [s]) = rowK (foldRow sym n i l) (sym s) n i (n + 1 - i) := by simp [foldRow, List.foldl_append]
theorem foldRow_cov {sym : Sy → Nat → Nat → Way} {n i : Nat} (l : List Sy) : ∀ {j : Nat} {k : Int}, j ≤ n → Cov sym l i j k → (foldRow sym n i l j).ok = true ∧ (foldRow sym n i l j).cost ≤ k := by
  induction l using snoc_induction with
  | h0 => intro j k _ h; cases h; simp [foldRow, upd_same]
  | hs l s ih =>
    intro j k hj h
    obtain ⟨m, k1, h1, h2, h3, h4, rfl⟩ := h.snoc
    obtain ⟨h5, h6⟩ := ih (by omega) h3
    rw [foldRow_snoc]
    obtain ⟨h7, h8⟩ := rowK_at (at_ := foldRow sym n i l) (sym := sym s) (n := n) (i := i) (m := n + 1 - i) h1 (by omega) h2 hj h5 h4
    exact ⟨h7, by omega⟩

/-! ### cells, and words that fit them -/
abbrev Ce := Bool × Int
def isC (s : Sy) (c : Ce) : Bool := decide (c = (s.1, (s.2 : Int))) || (s.1 && decide (c = (true, -1)))
def gpart {α : Type} (w : List α) (i j : Nat) : List α := (w.take j).drop i
section
variable {α : Type}
theorem gpart_len {w : List α} {i j : Nat} (h2 : j ≤ w.length) : (gpart w i j).length = j - i := by simp [gpart]; omega
theorem gpart_split {w p1 p2 : List α} {i j : Nat} (h1 : i ≤ j) (h2 : j ≤ w.length) (h : gpart w i j = p1 ++ p2) : ∃ m, m = i + p1.length ∧ i ≤ m ∧ m ≤ j ∧ gpart w i m = p1 ∧ gpart w m j = p2 := by
  have hl := gpart_len (i := i) h2
  rw [h, List.length_append] at hl
  refine ⟨i + p1.length, rfl, by omega, by omega, ?_, ?_⟩
  · have e : gpart w i (i + p1.length) = (gpart w i j).take p1.length := by
      unfold gpart
      rw [List.take_drop, List.take_take]
      congr 2; omega
    rw [e, h]; simp
  · have e : gpart w (i + p1.length) j = (gpart w i j).drop p1.length := by
      unfold gpart; rw [List.drop_drop]
    rw [e, h]; simp
theorem gpart_all (w : List α) : gpart w 0 w.length = w := by simp [gpart]
theorem gpart_same (w : List α) (i : Nat) : gpart w i i = [] := by simp [gpart]
theorem gpart_append {w : List α} {i m j : Nat} (h1 : i ≤ m) (h2 : m ≤ j) : gpart w i m ++ gpart w m j = gpart w i j := by
  have e : (w.take j).drop i = ((w.take j).drop i).take (m - i) ++ ((w.take j).drop i).drop (m - i) := (List.take_append_drop _ _).symm
  unfold gpart
  rw [e, List.drop_drop, List.take_drop, List.take_take]
  congr 2 <;> (congr 1; omega)
theorem gpart_one {w : List α} {i : Nat} {c : α} (h : gpart w i (i + 1) = [c]) : w[i]? = some c := by
  have : (gpart w i (i + 1))[0]? = some c := by rw [h]; rfl
  unfold gpart at this
  rw [List.getElem?_drop, List.getElem?_take, if_pos (by omega)] at this
  exact this
theorem gpart_at {w : List α} {i : Nat} {c : α} (h : w[i]? = some c) : gpart w i (i + 1) = [c] := by
  have hl := List.getElem?_eq_some_iff.1 h
  have hl1 := hl.1
  unfold gpart
  rw [List.take_succ_eq_append_getElem hl.1, List.drop_append_of_le_length (by rw [List.length_take]; omega), List.drop_of_length_le (by rw [List.length_take]; omega), hl.2]; rfl
end
inductive Ms (rules : List Ru) : List Sy → List Ce → List Int → Prop
  | nil : Ms rules [] [] []
  | term (t : Nat) (c : Ce) (hc : isC (true, t) c = true) {l : List Sy} {cs : List Ce} {v : List Int} (h : Ms rules l cs v) : Ms rules ((true, t) :: l) (c :: cs) ((t : Int) :: v)
  | non (N : Nat) {rhs l : List Sy} {c1 c2 : List Ce} {u v : List Int} (hr : (N, rhs) ∈ rules) (h1 : Ms rules rhs c1 u) (h2 : Ms rules l c2 v) : Ms rules ((false, N) :: l) (c1 ++ c2) (u ++ v)
section
variable {rules : List Ru}
theorem Ms.append {a b : List Sy} {c d : List Ce} {u v : List Int} (h : Ms rules a c u) (k : Ms rules b d v) : Ms rules (a ++ b) (c ++ d) (u ++ v) := by
  induction h with
  | nil => simpa using k
  | term t c hc _ ih => exact .term t c hc ih
  | non N hr h1 _ _ ih => rw [List.append_assoc, List.append_assoc]; exact .non N hr h1 ih
theorem Ms.len {a : List Sy} {c : List Ce} {v : List Int} (h : Ms rules a c v) : v.length = c.length := by
  induction h with
  | nil => rfl
  | term t c hc _ ih => simp [ih]
  | non N hr _ _ ih1 ih2 => simp [ih1, ih2]
theorem Ms.one {N : Nat} {rhs : List Sy} {c : List Ce} {v : List Int} (hr : (N, rhs) ∈ rules) (h : Ms rules rhs c v) : Ms rules [(false, N)] c v := by
  have := Ms.non N hr h (Ms.nil (rules := rules))
  simpa using this
theorem Ms.lets {B : Nat} (hr : ∀ r ∈ rules, ∀ s ∈ r.2, s.1 = true → s.2 < B) {l : List Sy} {c : List Ce} {v : List Int} (h : Ms rules l c v) : (∀ s ∈ l, s.1 = true → s.2 < B) → ∀ y ∈ v, 0 ≤ y ∧ y < (B : Int) := by
  induction h with
  | nil => intro _ y hy; cases hy
  | @term t c hc l cs v h ih =>
    intro hl y hy
    rcases List.mem_cons.1 hy with rfl | hy
    · have := hl (true, t) (List.mem_cons_self ..) rfl
      simp only at this; omega
    · exact ih (fun s hs => hl s (List.mem_cons_of_mem _ hs)) y hy
  | @non N rhs l c1 c2 u v hm h1 h2 ih1 ih2 =>
    intro hl y hy
    rcases List.mem_append.1 hy with hy | hy
    · exact ih1 (hr _ hm) y hy
    · exact ih2 (fun s hs => hl s (List.mem_cons_of_mem _ hs)) y hy
end

/-! ### the table of hole -/
def symH (cells : List Ce) (st : WSt) (s : Sy) (i j : Nat) : Way :=
  if s.1 then (if j = i + 1 ∧ (cells[i]?.map (isC s)) = some true then ⟨0, 1, [(s.2 : Int)], true⟩ else Way.no) else st s.2 i j
def ruleH (cells : List Ce) (st : WSt) (i : Nat) (l : List Sy) : Nat → Way := foldRow (symH cells st) cells.length i l
def FixH (rules : List Ru) (cells : List Ce) (st : WSt) : Prop := ∀ r ∈ rules, ∀ i j, i ≤ j → j ≤ cells.length → lessW (ruleH cells st i r.2 j) (st r.1 i j) = false
theorem FixH.cov {rules : List Ru} {cells : List Ce} {st : WSt} (hf : FixH rules cells st) {l : List Sy} {cs : List Ce} {v : List Int} (h : Ms rules l cs v) :
    ∀ i j, i ≤ j → j ≤ cells.length → cs = gpart cells i j → ∃ k, Cov (symH cells st) l i j k := by
  induction h with
  | nil =>
    intro i j h1 h2 e
    have := gpart_len (i := i) h2
    rw [← e] at this
    simp at this
    have : i = j := by omega
    subst this
    exact ⟨0, .nil i⟩
  | @term t c hc l cs v h ih =>
    intro i j h1 h2 e
    obtain ⟨m, hm, m1, m2, e1, e2⟩ := gpart_split (p1 := [c]) h1 h2 e.symm
    simp at hm
    subst hm
    obtain ⟨k, hk⟩ := ih (i + 1) j m2 h2 e2.symm
    exact ⟨_, Cov.cons (cell := symH cells st) (true, t) m1 m2 (by rw [symH, if_pos rfl, if_pos ⟨rfl, by rw [gpart_one e1]; simp [hc]⟩]) hk⟩
  | @non N rhs l c1 c2 u v hr hu hv ih1 ih2 =>
    intro i j h1 h2 e
    obtain ⟨m, -, m1, m2, e1, e2⟩ := gpart_split h1 h2 e.symm
    obtain ⟨k1, hk1⟩ := ih1 i m m1 (by omega) e1.symm
    obtain ⟨k2, hk2⟩ := ih2 m j m2 h2 e2.symm
    have hrule := (foldRow_cov (sym := symH cells st) (n := cells.length) rhs (by omega) hk1).1
    have hfx : lessW (ruleH cells st i rhs m) (st N i m) = false := hf _ hr i m m1 (by omega)
    have hst := (lessW_not hfx hrule).1
    exact ⟨_, Cov.cons (cell := symH cells st) (false, N) m1 m2 (by rw [symH, if_neg (by simp)]; exact hst) hk2⟩
theorem FixH.least {rules : List Ru} {cells : List Ce} {st : WSt} (hf : FixH rules cells st) {N : Nat} {v : List Int} (h : Ms rules [(false, N)] cells v) : (st N 0 cells.length).ok = true := by
  obtain ⟨k, hk⟩ := hf.cov h 0 cells.length (Nat.zero_le _) (Nat.le_refl _) (gpart_all cells).symm
  cases hk with
  | cons _ h1 h2 hs h =>
    cases h
    rwa [symH, if_neg (by simp)] at hs
def SndH (rules : List Ru) (cells : List Ce) (l : List Sy) (i j : Nat) (x : Way) : Prop :=
  x.ok = true → i ≤ j ∧ j ≤ cells.length ∧ x.cost = 0 ∧ ∃ v, Ms rules l (gpart cells i j) v ∧ x.size = (v.length : Int) ∧ x.w = v
section
variable {rules : List Ru} {cells : List Ce} {st : WSt}
theorem SndH.no (l : List Sy) (i j : Nat) : SndH rules cells l i j Way.no := fun h => by cases h
theorem SndH.then_ (hc : cells.length ≤ 2000) {l l' : List Sy} {i m j : Nat} {a b : Way} (h : SndH rules cells l i m a) (k : SndH rules cells l' m j b) : SndH rules cells (l ++ l') i j (thenW a b) := by
  intro ho
  have ha : a.ok = true := by simp [thenW] at ho; exact ho.1
  have hb : b.ok = true := by simp [thenW] at ho; exact ho.2
  obtain ⟨h1, h2, h0, u, h3, h5, h6⟩ := h ha
  obtain ⟨k1, k2, k0, v, k3, k5, k6⟩ := k hb
  have hl := h3.len
  have kl := k3.len
  rw [gpart_len h2] at hl
  rw [gpart_len k2] at kl
  refine ⟨by omega, k2, by simp only [thenW, h0, k0]; rfl, u ++ v, ?_, ?_, ?_⟩
  · rw [← gpart_append h1 k1]; exact h3.append k3
  · simp only [thenW, h5, k5, List.length_append]; omega
  · simp only [thenW, ha, hb, h5, k5, Bool.and_self, Bool.true_and, decide_eq_true_eq]
    rw [if_pos (by omega), h6, k6]
theorem SndH.sym (hst : ∀ N i j, SndH rules cells [(false, N)] i j (st N i j)) (s : Sy) {i j : Nat} (h2 : j ≤ cells.length) : SndH rules cells [s] i j (symH cells st s i j) := by
  obtain ⟨b, t⟩ := s
  cases b with
  | false => exact hst t i j
  | true =>
    rw [symH, if_pos rfl]
    by_cases e : j = i + 1 ∧ (cells[i]?.map (isC (true, t))) = some true
    · rw [if_pos e]
      intro _
      obtain ⟨rfl, e2⟩ := e
      cases hci : cells[i]? with
      | none => rw [hci] at e2; simp at e2
      | some c =>
        rw [hci] at e2
        simp at e2
        refine ⟨by omega, h2, rfl, [(t : Int)], ?_, rfl, rfl⟩
        rw [gpart_at hci]
        exact .term t c e2 .nil
    · rw [if_neg e]; exact .no _ _ _
theorem SndH.rule (hc : cells.length ≤ 2000) (hst : ∀ N i j, SndH rules cells [(false, N)] i j (st N i j)) {i : Nat} (hi : i ≤ cells.length) (l : List Sy) : ∀ j, SndH rules cells l i j (ruleH cells st i l j) := by
  unfold ruleH
  induction l using snoc_induction with
  | h0 =>
    intro j
    by_cases e : j = i
    · subst e
      intro _
      have e : foldRow (symH cells st) cells.length j [] j = ⟨0, 0, [], true⟩ := by simp [foldRow, upd_same]
      rw [e]
      exact ⟨Nat.le_refl _, hi, rfl, [], by rw [gpart_same]; exact .nil, rfl, rfl⟩
    · simp only [foldRow, List.foldl_nil, upd_ne _ _ e]; exact .no _ _ _
  | hs l s ih =>
    rw [foldRow_snoc]
    exact rowK_inv (P := fun j x => SndH rules cells (l ++ [s]) i j x) (fun j => .no _ _ _) fun k j _ _ h3 h4 _ _ => (ih k).then_ hc (SndH.sym hst s h4)
theorem SndH.fold {r : Ru} (hr : r ∈ rules) {i j : Nat} {x : Way} (h : SndH rules cells r.2 i j x) : SndH rules cells [(false, r.1)] i j x := fun ho => by
  obtain ⟨h1, h2, h0, v, h3, h4⟩ := h ho
  exact ⟨h1, h2, h0, v, Ms.one hr h3, h4⟩
end
/-- states of hole -/
structure GoodH (rules : List Ru) (cells : List Ce) (st : WSt) : Prop where
  snd : ∀ N i j, SndH rules cells [(false, N)] i j (st N i j)
  no : ∀ N i j, (st N i j).ok = false → st N i j = Way.no
section
variable {rules : List Ru} {cells : List Ce} {st stI : WSt} {r : Ru} {i j nons : Nat}
theorem GoodH.start (rules : List Ru) (cells : List Ce) : GoodH rules cells (fun _ _ _ => Way.no) := ⟨fun _ _ _ => .no _ _ _, fun _ _ _ _ => rfl⟩
theorem GoodH.put (hc : cells.length ≤ 2000) (hr : r ∈ rules) (hI : GoodH rules cells stI) (h : GoodH rules cells st) (hi : i ≤ cells.length) (hx : lessW (ruleH cells stI i r.2 j) (st r.1 i j) = true) : GoodH rules cells (updS st r.1 i j (ruleH cells stI i r.2 j)) := by
  refine ⟨fun N a b => ?_, fun N a b hn => ?_⟩
  · by_cases e : N = r.1 ∧ a = i ∧ b = j
    · obtain ⟨rfl, rfl, rfl⟩ := e; rw [updS_same]; exact SndH.fold hr (SndH.rule hc hI.snd hi r.2 b)
    · rw [updS_ne _ _ e]; exact h.snd N a b
  · by_cases e : N = r.1 ∧ a = i ∧ b = j
    · obtain ⟨rfl, rfl, rfl⟩ := e; rw [updS_same] at hn; rw [lessW_ok hx] at hn; cases hn
    · rw [updS_ne _ _ e] at hn ⊢; exact h.no N a b hn
theorem SndH.frm (hc : cells.length ≤ 12) (hl : ∀ r ∈ rules, ∀ s ∈ r.2, s.1 = true → s.2 < 8) {N : Nat} {x : Way} (h : SndH rules cells [(false, N)] i j x) (ho : x.ok = true) : Frm big 8 x := by
  obtain ⟨h1, h2, h0, v, h3, h4, h5⟩ := h ho
  have hv := h3.len
  rw [gpart_len h2] at hv
  refine ⟨by rw [h0]; unfold big; omega, by rw [h4]; unfold big; omega, ?_, ?_⟩
  · rw [h5, h4, if_pos (by omega)]; simp
  · rw [h5]; exact h3.lets hl fun s hs hb => by rw [List.mem_singleton.1 hs] at hb; cases hb
theorem GoodH.bnds (h : GoodH rules cells st) (hc : cells.length ≤ 12) (hl : ∀ r ∈ rules, ∀ s ∈ r.2, s.1 = true → s.2 < 8) (N i j : Nat) : Bnd 2000000000 (st N i j) := by
  cases ho : (st N i j).ok with
  | true => exact (SndH.frm hc hl (h.snd N i j) ho).bnd
  | false => rw [h.no N i j ho]; exact .no (by omega)
theorem Bnd.symH {M : Int} (hM : 1 ≤ M) (hst : ∀ N i j, Bnd M (st N i j)) (s : Sy) (i j : Nat) : Bnd M (symH cells st s i j) := by
  unfold Go.Proofs.YtbfcnfgkccgbiaaGreatDoor.symH
  split
  · split
    · exact ⟨by simp, by simp; omega, by simp, by simp; omega, by simp, by simp⟩
    · exact .no (by omega)
  · exact hst _ _ _
theorem Bnd.foldRow {sym : Sy → Nat → Nat → Way} {M : Int} {n i : Nat} (hM : 0 ≤ M) (hs : ∀ s k j, Bnd M (sym s k j)) (l : List Sy) : ∀ j, Bnd ((l.length : Int) * M) (foldRow sym n i l j) := by
  induction l using snoc_induction with
  | h0 =>
    intro j
    by_cases e : j = i
    · subst e; simp only [Go.Proofs.YtbfcnfgkccgbiaaGreatDoor.foldRow, List.foldl_nil, upd_same]; exact ⟨by simp, by simp, by simp, by simp, by simp, by simp⟩
    · simp only [Go.Proofs.YtbfcnfgkccgbiaaGreatDoor.foldRow, List.foldl_nil, upd_ne _ _ e]; exact .no (by simp)
  | hs l s ih =>
    intro j
    rw [foldRow_snoc]
    have e : ((l ++ [s]).length : Int) * M = (l.length : Int) * M + M := by simp [Int.add_mul]
    rw [e]
    exact Bnd.rowK (by have : 0 ≤ (l.length : Int) * M := Int.mul_nonneg (by omega) hM; omega) ih (fun k j _ _ _ => hs s k j) j
structure PrgH (cells : List Ce) (nons : Nat) (st0 st : WSt) (again : Bool) (V : Ru → Nat → Nat → Prop) : Prop where
  no : again = false → st = st0 ∧ ∀ r i j, V r i j → lessW (ruleH cells st0 i r.2 j) (st0 r.1 i j) = false
  yes : again = true → total big 8 nons cells.length st < total big 8 nons cells.length st0
theorem PrgH.put {st0 : WSt} {again : Bool} {V V' : Ru → Nat → Nat → Prop} (hc : cells.length ≤ 12) (hl : ∀ r ∈ rules, ∀ s ∈ r.2, s.1 = true → s.2 < 8) (hr : r ∈ rules) (hn : r.1 < nons) (hI : GoodH rules cells stI) (hm : GoodH rules cells st) (h : PrgH cells nons st0 st again V)
    (hi : i ≤ cells.length) (hj : j ≤ cells.length) (hx : lessW (ruleH cells stI i r.2 j) (st r.1 i j) = true) : PrgH cells nons st0 (updS st r.1 i j (ruleH cells stI i r.2 j)) true V' := by
  refine ⟨fun h => by (cases h), fun _ => ?_⟩
  have h1 : rankW big 8 (ruleH cells stI i r.2 j) < rankW big 8 (st r.1 i j) :=
    rankW_lt (by omega) (fun ho => SndH.frm hc hl (SndH.fold hr (SndH.rule (by omega) hI.snd hi r.2 j)) ho) (fun ho => SndH.frm hc hl (hm.snd r.1 i j) ho) hx
  have h2 := total_lt (nons := nons) (n := cells.length) (st := st) hn hi hj h1
  cases ha : again with
  | false => obtain ⟨rfl, -⟩ := h.no ha; exact h2
  | true => exact Nat.lt_trans h2 (h.yes ha)
theorem PrgH.skip {st0 : WSt} {again : Bool} {V V' : Ru → Nat → Nat → Prop} (h : PrgH cells nons st0 st again V) (hI : again = false → stI = st0) (hx : lessW (ruleH cells stI i r.2 j) (st r.1 i j) = false)
    (hV : ∀ r' i' j', V' r' i' j' → V r' i' j' ∨ (r' = r ∧ i' = i ∧ j' = j)) : PrgH cells nons st0 st again V' := by
  refine ⟨fun ha => ?_, h.yes⟩
  obtain ⟨rfl, h2⟩ := h.no ha
  have := hI ha
  subst this
  refine ⟨rfl, fun r' i' j' hv => ?_⟩
  rcases hV r' i' j' hv with h3 | ⟨rfl, rfl, rfl⟩
  · exact h2 r' i' j' h3
  · exact hx
theorem PrgH.mono {st0 : WSt} {again : Bool} {V V' : Ru → Nat → Nat → Prop} (h : PrgH cells nons st0 st again V) (hV : ∀ r' i' j', V' r' i' j' → V r' i' j') : PrgH cells nons st0 st again V' :=
  ⟨fun ha => ⟨(h.no ha).1, fun r i j hv => (h.no ha).2 r i j (hV r i j hv)⟩, h.yes⟩
theorem PrgH.start (st : WSt) : PrgH cells nons st st false (fun _ _ _ => False) := ⟨fun _ => ⟨rfl, fun _ _ _ h => h.elim⟩, fun h => by (cases h)⟩
end
end Go.Proofs.YtbfcnfgkccgbiaaGreatDoor

