/- Alignments of words and their costs; ways and rows of ways: plain laws. -/
import Derived.Test.YtghnkgbingcbcaaRM
namespace Go.Proofs.Ytghnkgbingcbcaa
open Go.RowKit

/-! ### alignments: w is turned into v at cost k (c0: insert, c1: delete, c2: replace) -/
inductive Al (c0 c1 c2 : Int) : List Int → List Int → Int → Prop
  | nil : Al c0 c1 c2 [] [] 0
  | keep (x : Int) {w v : List Int} {k : Int} (h : Al c0 c1 c2 w v k) : Al c0 c1 c2 (x :: w) (x :: v) k
  | ins (y : Int) {w v : List Int} {k : Int} (h : Al c0 c1 c2 w v k) : Al c0 c1 c2 w (y :: v) (c0 + k)
  | del (x : Int) {w v : List Int} {k : Int} (h : Al c0 c1 c2 w v k) : Al c0 c1 c2 (x :: w) v (c1 + k)
  | rep (x y : Int) {w v : List Int} {k : Int} (h : Al c0 c1 c2 w v k) : Al c0 c1 c2 (x :: w) (y :: v) (c2 + k)
section
variable {c0 c1 c2 : Int}
theorem Al.append {w v w' v' : List Int} {k k' : Int} (h : Al c0 c1 c2 w v k) (h' : Al c0 c1 c2 w' v' k') : Al c0 c1 c2 (w ++ w') (v ++ v') (k + k') := by
  induction h with
  | nil => simpa using h'
  | keep x _ ih => exact .keep x ih
  | ins y _ ih => rw [Int.add_assoc]; exact .ins y ih
  | del x _ ih => rw [Int.add_assoc]; exact .del x ih
  | rep x y _ ih => rw [Int.add_assoc]; exact .rep x y ih
theorem Al.split {w v : List Int} {k : Int} (h : Al c0 c1 c2 w v k) : ∀ v1 v2, v = v1 ++ v2 → ∃ w1 w2 k1 k2, w = w1 ++ w2 ∧ Al c0 c1 c2 w1 v1 k1 ∧ Al c0 c1 c2 w2 v2 k2 ∧ k = k1 + k2 := by
  induction h with
  | nil =>
    intro v1 v2 e
    have e1 : v1 = [] := by cases v1 with | nil => rfl | cons a b => simp at e
    have e2 : v2 = [] := by subst e1; simpa using e.symm
    subst e1 e2
    exact ⟨[], [], 0, 0, rfl, .nil, .nil, rfl⟩
  | @keep x w v k h ih =>
    intro v1 v2 e
    cases v1 with
    | nil => exact ⟨[], x :: w, 0, k, rfl, .nil, by simp at e; subst e; exact .keep x h, by omega⟩
    | cons a v1 =>
      simp at e
      obtain ⟨rfl, e⟩ := e
      obtain ⟨w1, w2, k1, k2, rfl, h1, h2, rfl⟩ := ih v1 v2 e
      exact ⟨x :: w1, w2, k1, k2, rfl, .keep x h1, h2, rfl⟩
  | @ins y w v k h ih =>
    intro v1 v2 e
    cases v1 with
    | nil => exact ⟨[], w, 0, c0 + k, rfl, .nil, by simp at e; subst e; exact .ins y h, by omega⟩
    | cons a v1 =>
      simp at e
      obtain ⟨rfl, e⟩ := e
      obtain ⟨w1, w2, k1, k2, rfl, h1, h2, rfl⟩ := ih v1 v2 e
      exact ⟨w1, w2, c0 + k1, k2, rfl, .ins y h1, h2, by omega⟩
  | @del x w v k h ih =>
    intro v1 v2 e
    obtain ⟨w1, w2, k1, k2, rfl, h1, h2, rfl⟩ := ih v1 v2 e
    exact ⟨x :: w1, w2, c1 + k1, k2, rfl, .del x h1, h2, by omega⟩
  | @rep x y w v k h ih =>
    intro v1 v2 e
    cases v1 with
    | nil => exact ⟨[], x :: w, 0, c2 + k, rfl, .nil, by simp at e; subst e; exact .rep x y h, by omega⟩
    | cons a v1 =>
      simp at e
      obtain ⟨rfl, e⟩ := e
      obtain ⟨w1, w2, k1, k2, rfl, h1, h2, rfl⟩ := ih v1 v2 e
      exact ⟨x :: w1, w2, c2 + k1, k2, rfl, .rep x y h1, h2, by omega⟩
theorem mul_succ_len (c : Int) (x : Int) (w : List Int) : ((x :: w).length : Int) * c = (w.length : Int) * c + c := by
  rw [List.length_cons, Int.natCast_add, Int.add_mul]; simp
theorem Al.dels (w : List Int) : Al c0 c1 c2 w [] ((w.length : Int) * c1) := by
  induction w with
  | nil => simpa using Al.nil
  | cons x w ih => rw [mul_succ_len, Int.add_comm]; exact .del x ih
theorem Al.of_nil {w v : List Int} {k : Int} (h : Al c0 c1 c2 w v k) : v = [] → k = (w.length : Int) * c1 := by
  induction h with
  | nil => intro _; simp
  | keep x _ _ => intro e; cases e
  | ins y _ _ => intro e; cases e
  | del x _ ih => intro e; rw [ih e, mul_succ_len]; omega
  | rep x y _ _ => intro e; cases e
theorem Al.pos (h0 : 0 ≤ c0) (h1 : 0 ≤ c1) (h2 : 0 ≤ c2) {w v : List Int} {k : Int} (h : Al c0 c1 c2 w v k) : 0 ≤ k := by
  induction h <;> omega
theorem Al.len (h0 : 1 ≤ c0) (h1 : 1 ≤ c1) (h2 : 1 ≤ c2) {w v : List Int} {k : Int} (h : Al c0 c1 c2 w v k) : (v.length : Int) ≤ k + w.length := by
  induction h <;> simp only [List.length_cons, List.length_nil] at * <;> omega
theorem Al.zero (h0 : 1 ≤ c0) (h1 : 1 ≤ c1) (h2 : 1 ≤ c2) {w v : List Int} {k : Int} (h : Al c0 c1 c2 w v k) : k = 0 → w = v := by
  induction h with
  | nil => intro _; rfl
  | keep x _ ih => intro e; rw [ih e]
  | ins y h _ => intro e; have := h.pos (by omega) (by omega) (by omega); omega
  | del x h _ => intro e; have := h.pos (by omega) (by omega) (by omega); omega
  | rep x y h _ => intro e; have := h.pos (by omega) (by omega) (by omega); omega
theorem Al.same (w : List Int) : Al c0 c1 c2 w w 0 := by
  induction w with
  | nil => exact .nil
  | cons x w ih => exact .keep x ih
/-- without the first letter of w -/
theorem Al.less (h0 : 0 ≤ c0) (h1 : 0 ≤ c1) (h2 : 0 ≤ c2) {w v : List Int} {k : Int} (h : Al c0 c1 c2 w v k) : ∀ x u, w = x :: u → ∃ k', k' ≤ c0 + k ∧ Al c0 c1 c2 u v k' := by
  induction h with
  | nil => intro x u e; cases e
  | @keep a w v k h ih => intro x u e; cases e; exact ⟨c0 + k, Int.le_refl _, .ins a h⟩
  | @ins y w v k h ih => intro x u e; obtain ⟨k', hk, h'⟩ := ih x u e; exact ⟨c0 + k', by omega, .ins y h'⟩
  | @del a w v k h ih => intro x u e; cases e; exact ⟨k, by omega, h⟩
  | @rep a y w v k h ih => intro x u e; cases e; exact ⟨c0 + k, by omega, .ins y h⟩
/-- without the first letter of v -/
theorem Al.less2 (h0 : 0 ≤ c0) (h1 : 0 ≤ c1) (h2 : 0 ≤ c2) {w v : List Int} {k : Int} (h : Al c0 c1 c2 w v k) : ∀ x u, v = x :: u → ∃ k', k' ≤ c1 + k ∧ Al c0 c1 c2 w u k' := by
  induction h with
  | nil => intro x u e; cases e
  | @keep a w v k h ih => intro x u e; cases e; exact ⟨c1 + k, Int.le_refl _, .del a h⟩
  | @ins y w v k h ih => intro x u e; cases e; exact ⟨k, by omega, h⟩
  | @del a w v k h ih => intro x u e; obtain ⟨k', hk, h'⟩ := ih x u e; exact ⟨c1 + k', by omega, .del a h'⟩
  | @rep a y w v k h ih => intro x u e; cases e; exact ⟨c1 + k, by omega, .del a h⟩
theorem Al.dp : ∀ xs ys : List Int, Al c0 c1 c2 xs ys (dpT c0 c1 (gR c0 c1 c2) xs ys)
  | [], ys => by
    rw [dpT_nil]
    induction ys with
    | nil => simpa using Al.nil
    | cons y ys ih => have e : c0 * ((y :: ys).length : Int) = c0 + c0 * (ys.length : Int) := by simp [Int.mul_add]; omega
                      rw [e]; exact .ins y ih
  | x :: xs, [] => by rw [dpT_nil2, Int.mul_comm]; exact Al.dels _
  | x :: xs, y :: ys => by
    by_cases h : x = y
    · subst h; rw [dpT_eq]; exact .keep x (Al.dp xs ys)
    · rw [dpT_ne h]
      have a := Al.rep (c0 := c0) (c1 := c1) (c2 := c2) x y (Al.dp xs ys)
      have b := Al.del (c0 := c0) (c1 := c1) (c2 := c2) x (Al.dp xs (y :: ys))
      have c := Al.ins (c0 := c0) (c1 := c1) (c2 := c2) y (Al.dp (x :: xs) ys)
      rw [Int.add_comm] at a b c
      unfold gR
      split <;> split <;> assumption
  termination_by xs ys => xs.length + ys.length
theorem gR_le (a b c : Int) : gR c0 c1 c2 a b c ≤ a + c2 ∧ gR c0 c1 c2 a b c ≤ b + c1 ∧ gR c0 c1 c2 a b c ≤ c + c0 := by
  unfold gR; split <;> split <;> omega
theorem Al.least (h0 : 0 ≤ c0) (h1 : 0 ≤ c1) (h2 : 0 ≤ c2) (N : Nat) : ∀ (xs ys : List Int) (k : Int), xs.length + ys.length ≤ N → Al c0 c1 c2 xs ys k → dpT c0 c1 (gR c0 c1 c2) xs ys ≤ k := by
  induction N with
  | zero =>
    intro xs ys k hl h
    cases h with
    | nil => simp [dpT]
    | keep x _ => simp at hl
    | ins y _ => simp at hl
    | del x _ => simp at hl
    | rep x y _ => simp at hl
  | succ N ih =>
    intro xs ys k hl h
    cases xs with
    | nil =>
      rw [dpT_nil]
      cases h with
      | nil => simp
      | @ins y _ ys k h =>
        have := ih [] ys k (by simp at hl ⊢; omega) h
        rw [dpT_nil] at this
        have e : c0 * ((y :: ys).length : Int) = c0 + c0 * (ys.length : Int) := by simp [Int.mul_add]; omega
        omega
    | cons x xs =>
      cases ys with
      | nil =>
        have := h.of_nil rfl
        rw [dpT_nil2, this, Int.mul_comm]; exact Int.le_refl _
      | cons y ys =>
        by_cases e : x = y
        · subst e
          rw [dpT_eq]
          have : ∃ k', k' ≤ k ∧ Al c0 c1 c2 xs ys k' := by
            cases h with
            | keep _ h => exact ⟨k, Int.le_refl _, h⟩
            | ins _ h => exact h.less h0 h1 h2 _ _ rfl
            | del _ h => exact h.less2 h0 h1 h2 _ _ rfl
            | @rep _ _ _ _ k' h => exact ⟨k', by omega, h⟩
          obtain ⟨k', hk, h'⟩ := this
          have := ih xs ys k' (by simp at hl; omega) h'
          omega
        · rw [dpT_ne e]
          obtain ⟨g1, g2, g3⟩ := gR_le (c0 := c0) (c1 := c1) (c2 := c2) (dpT c0 c1 (gR c0 c1 c2) xs ys) (dpT c0 c1 (gR c0 c1 c2) xs (y :: ys)) (dpT c0 c1 (gR c0 c1 c2) (x :: xs) ys)
          cases h with
          | keep _ h => exact absurd rfl e
          | @ins _ _ _ k' h => have := ih (x :: xs) ys k' (by simp at hl ⊢; omega) h; omega
          | @del _ _ _ k' h => have := ih xs (y :: ys) k' (by simp at hl ⊢; omega) h; omega
          | @rep _ _ _ _ k' h => have := ih xs ys k' (by simp at hl ⊢; omega) h; omega

/-! ### one letter -/
def mn (a b : Int) : Int := if b < a then b else a
theorem mn_le (a b : Int) : mn a b ≤ a ∧ mn a b ≤ b := by unfold mn; split <;> omega
theorem mn_or (a b : Int) : mn a b = a ∨ mn a b = b := by unfold mn; split <;> omega
/-- the least cost of turning a part into one letter -/
def oneC (c0 c1 c2 t : Int) (p : List Int) : Int :=
  if t ∈ p then mn (mn (c0 + (p.length : Int) * c1) (c2 + ((p.length : Int) - 1) * c1)) (((p.length : Int) - 1) * c1)
  else if p = [] then c0 + (p.length : Int) * c1 else mn (c0 + (p.length : Int) * c1) (c2 + ((p.length : Int) - 1) * c1)
theorem pred_len (c x : Int) (w : List Int) : (((x :: w).length : Int) - 1) * c = (w.length : Int) * c := by rw [List.length_cons]; congr 1; omega
theorem Al.oneKeep {t : Int} {p : List Int} (h : t ∈ p) : Al c0 c1 c2 p [t] (((p.length : Int) - 1) * c1) := by
  induction p with
  | nil => cases h
  | cons x p ih =>
    rw [pred_len]
    by_cases e : t = x
    · subst e; exact .keep t (Al.dels p)
    · have := ih ((List.mem_cons.1 h).resolve_left e)
      have e2 : (p.length : Int) * c1 = c1 + ((p.length : Int) - 1) * c1 := by rw [Int.sub_mul]; omega
      rw [e2]; exact .del x this
theorem Al.one (t : Int) (p : List Int) : Al c0 c1 c2 p [t] (oneC c0 c1 c2 t p) := by
  have a : Al c0 c1 c2 p [t] (c0 + (p.length : Int) * c1) := .ins t (Al.dels p)
  have b : p ≠ [] → Al c0 c1 c2 p [t] (c2 + ((p.length : Int) - 1) * c1) := by
    cases p with
    | nil => intro h; exact absurd rfl h
    | cons x p => intro _; rw [pred_len]; exact .rep x t (Al.dels p)
  unfold oneC
  split
  · rename_i h
    have hp : p ≠ [] := by intro e; subst e; cases h
    rcases mn_or (mn (c0 + (p.length : Int) * c1) (c2 + ((p.length : Int) - 1) * c1)) (((p.length : Int) - 1) * c1) with e | e
    · rw [e]; rcases mn_or (c0 + (p.length : Int) * c1) (c2 + ((p.length : Int) - 1) * c1) with e | e
      · rw [e]; exact a
      · rw [e]; exact b hp
    · rw [e]; exact Al.oneKeep h
  · split
    · exact a
    · rename_i hp; rcases mn_or (c0 + (p.length : Int) * c1) (c2 + ((p.length : Int) - 1) * c1) with e | e
      · rw [e]; exact a
      · rw [e]; exact b hp
theorem oneC_le (t : Int) (p : List Int) : oneC c0 c1 c2 t p ≤ c0 + (p.length : Int) * c1 ∧ (p ≠ [] → oneC c0 c1 c2 t p ≤ c2 + ((p.length : Int) - 1) * c1) ∧ (t ∈ p → oneC c0 c1 c2 t p ≤ ((p.length : Int) - 1) * c1) := by
  have g1 := mn_le (c0 + (p.length : Int) * c1) (c2 + ((p.length : Int) - 1) * c1)
  have g2 := mn_le (mn (c0 + (p.length : Int) * c1) (c2 + ((p.length : Int) - 1) * c1)) (((p.length : Int) - 1) * c1)
  unfold oneC
  split
  · exact ⟨by omega, fun _ => by omega, fun _ => g2.2⟩
  · rename_i h
    split
    · rename_i hp; exact ⟨Int.le_refl _, fun h => absurd hp h, fun h' => absurd h' h⟩
    · exact ⟨g1.1, fun _ => g1.2, fun h' => absurd h' h⟩
theorem oneC_cons (t x : Int) (p : List Int) : oneC c0 c1 c2 t (x :: p) ≤ c1 + oneC c0 c1 c2 t p := by
  obtain ⟨g1, g2, g3⟩ := oneC_le (c0 := c0) (c1 := c1) (c2 := c2) t (x :: p)
  rw [pred_len] at g2 g3
  rw [mul_succ_len] at g1
  have g2' := g2 (by simp)
  have e2 : (p.length : Int) * c1 = c1 + ((p.length : Int) - 1) * c1 := by rw [Int.sub_mul]; omega
  have hv : oneC c0 c1 c2 t p = c0 + (p.length : Int) * c1 ∨ (p ≠ [] ∧ oneC c0 c1 c2 t p = c2 + ((p.length : Int) - 1) * c1) ∨ (t ∈ p ∧ oneC c0 c1 c2 t p = ((p.length : Int) - 1) * c1) := by
    unfold oneC
    split
    · rename_i h
      have hp : p ≠ [] := by intro e; subst e; cases h
      rcases mn_or (mn (c0 + (p.length : Int) * c1) (c2 + ((p.length : Int) - 1) * c1)) (((p.length : Int) - 1) * c1) with e | e
      · rw [e]; rcases mn_or (c0 + (p.length : Int) * c1) (c2 + ((p.length : Int) - 1) * c1) with e | e
        · exact Or.inl e
        · exact Or.inr (Or.inl ⟨hp, e⟩)
      · exact Or.inr (Or.inr ⟨h, e⟩)
    · split
      · exact Or.inl rfl
      · rename_i hp; rcases mn_or (c0 + (p.length : Int) * c1) (c2 + ((p.length : Int) - 1) * c1) with e | e
        · exact Or.inl e
        · exact Or.inr (Or.inl ⟨hp, e⟩)
  rcases hv with e | ⟨_, e⟩ | ⟨hm, e⟩
  · omega
  · omega
  · have := g3 (List.mem_cons_of_mem _ hm); omega
theorem Al.one_le {t : Int} {w v : List Int} {k : Int} (h : Al c0 c1 c2 w v k) : v = [t] → oneC c0 c1 c2 t w ≤ k := by
  induction h with
  | nil => intro e; cases e
  | @keep x w v k h ih =>
    intro e
    simp at e
    obtain ⟨rfl, e⟩ := e
    rw [h.of_nil e]
    have := (oneC_le (c0 := c0) (c1 := c1) (c2 := c2) x (x :: w)).2.2 (List.mem_cons_self ..)
    rwa [pred_len] at this
  | @ins y w v k h ih =>
    intro e
    simp at e
    obtain ⟨rfl, e⟩ := e
    rw [h.of_nil e]
    exact (oneC_le (c0 := c0) (c1 := c1) (c2 := c2) y w).1
  | @del x w v k h ih => intro e; have := ih e; have := oneC_cons (c0 := c0) (c1 := c1) (c2 := c2) t x w; omega
  | @rep x y w v k h ih =>
    intro e
    simp at e
    obtain ⟨rfl, e⟩ := e
    rw [h.of_nil e]
    have := (oneC_le (c0 := c0) (c1 := c1) (c2 := c2) y (x :: w)).2.1 (by simp)
    rwa [pred_len] at this
end
/-! ### words of lists of symbols -/
inductive Dv (rules : List Ru) : List Sy → List Int → Prop
  | nil : Dv rules [] []
  | term (t : Nat) {l : List Sy} {v : List Int} (h : Dv rules l v) : Dv rules ((true, t) :: l) ((t : Int) :: v)
  | non (N : Nat) {rhs l : List Sy} {u v : List Int} (hr : (N, rhs) ∈ rules) (h1 : Dv rules rhs u) (h2 : Dv rules l v) : Dv rules ((false, N) :: l) (u ++ v)
section
variable {rules : List Ru}
theorem Dv.append {a b : List Sy} {u v : List Int} (h : Dv rules a u) (k : Dv rules b v) : Dv rules (a ++ b) (u ++ v) := by
  induction h with
  | nil => simpa using k
  | term t _ ih => exact .term t ih
  | non N hr h1 _ _ ih => rw [List.append_assoc]; exact .non N hr h1 ih
theorem Dv.nil_inv {v : List Int} (h : Dv rules [] v) : v = [] := by cases h; rfl
theorem Dv.one {s : Nat} {rhs : List Sy} {v : List Int} (hr : (s, rhs) ∈ rules) (h : Dv rules rhs v) : Dv rules [(false, s)] v := by
  have := Dv.non s hr h (Dv.nil (rules := rules))
  simpa using this
theorem Dv.letter (t : Nat) : Dv rules [(true, t)] [(t : Int)] := .term t .nil
end

/-! ### ways -/
structure Way where
  cost : Int
  size : Int
  w : List Int
  ok : Bool
def Way.no : Way := ⟨0, 0, [], false⟩
def wcmp (a b : Way) : Int := orL [cmpI a.cost b.cost, cmpI a.size b.size, cmpL a.w b.w]
def lessW (a b : Way) : Bool := if !b.ok || !a.ok then a.ok else decide (wcmp a b < 0)
def thenW (a b : Way) : Way := ⟨a.cost + b.cost, a.size + b.size, if (a.ok && b.ok) && decide (a.size + b.size ≤ 2000) then a.w ++ b.w else [], a.ok && b.ok⟩
def hopeW (a b t : Way) : Bool := if !a.ok || !b.ok then true else t.ok && decide (orL [cmpI (a.cost + b.cost) t.cost, cmpI (a.size + b.size) t.size] > 0)
theorem cmpI_neg {x y : Int} : cmpI x y < 0 ↔ x < y := by unfold cmpI; split <;> (try split) <;> omega
theorem cmpI_pos {x y : Int} : cmpI x y > 0 ↔ y < x := by unfold cmpI; split <;> (try split) <;> omega
theorem cmpI_zero {x y : Int} : cmpI x y = 0 ↔ x = y := by unfold cmpI; split <;> (try split) <;> omega
theorem lessW_ok {a b : Way} (h : lessW a b = true) : a.ok = true := by
  unfold lessW at h; split at h
  · exact h
  · rename_i h2; cases ha : a.ok <;> simp_all
theorem orL_neg {x : Int} {l : List Int} (h : orL (x :: l) < 0) : x ≤ 0 := by
  unfold orL at h; split at h <;> omega
theorem orL_not {x : Int} {l : List Int} (h : ¬ orL (x :: l) < 0) : 0 ≤ x := by
  unfold orL at h; split at h <;> omega
theorem orL_pos {x : Int} {l : List Int} (h : orL (x :: l) > 0) : 0 ≤ x := by
  unfold orL at h; split at h <;> omega
theorem cmpI_le {x y : Int} (h : cmpI x y ≤ 0) : x ≤ y := by have := cmpI_pos (x := x) (y := y); omega
theorem cmpI_ge {x y : Int} (h : 0 ≤ cmpI x y) : y ≤ x := by have := cmpI_neg (x := x) (y := y); omega
theorem lessW_both {a b : Way} (h : lessW a b = true) (hb : b.ok = true) : wcmp a b < 0 := by
  have ha := lessW_ok h
  rw [lessW, if_neg (by simp [ha, hb])] at h
  exact of_decide_eq_true h
theorem lessW_cost {a b : Way} (h : lessW a b = true) (hb : b.ok = true) : a.cost ≤ b.cost := cmpI_le (orL_neg (lessW_both h hb))
theorem lessW_not {a b : Way} (h : lessW a b = false) (ha : a.ok = true) : b.ok = true ∧ b.cost ≤ a.cost := by
  by_cases hb : b.ok = true
  · rw [lessW, if_neg (by simp [ha, hb])] at h
    exact ⟨hb, cmpI_ge (orL_not (of_decide_eq_false h))⟩
  · rw [lessW, if_pos (by simp [hb])] at h
    rw [ha] at h; cases h
theorem hopeW_true {a b t : Way} (h : hopeW a b t = true) (ha : a.ok = true) (hb : b.ok = true) : t.ok = true ∧ t.cost ≤ a.cost + b.cost := by
  rw [hopeW, if_neg (by simp [ha, hb]), Bool.and_eq_true] at h
  exact ⟨h.1, cmpI_ge (orL_pos (of_decide_eq_true h.2)) |> fun h => by omega⟩
theorem hopeW_false {a b t : Way} (h : hopeW a b t = false) : a.ok = true ∧ b.ok = true := by
  unfold hopeW at h
  cases ha : a.ok <;> cases hb : b.ok <;> simp_all

/-! ### rows of ways -/
def upd (f : Nat → Way) (j : Nat) (y : Way) : Nat → Way := fun i => if i = j then y else f i
theorem upd_same (f : Nat → Way) (j : Nat) (y : Way) : upd f j y j = y := by simp [upd]
theorem upd_ne (f : Nat → Way) {j i : Nat} (y : Way) (h : i ≠ j) : upd f j y i = f i := by simp [upd, h]
/-- one step: a, then the way x of the next symbol, at place j -/
def goJ (a x : Way) (next : Nat → Way) (j : Nat) : Nat → Way :=
  if hopeW a x (next j) then next else if lessW (thenW a x) (next j) then upd next j (thenW a x) else next
/-- m steps from place k on -/
def rowJ (a : Way) (sym : Nat → Way) (k : Nat) (next : Nat → Way) : Nat → Nat → Way
  | 0 => next
  | m + 1 => goJ a (sym (k + m)) (rowJ a sym k next m) (k + m)
/-- from m places on, the first one i; the last place is n -/
def rowK (at_ : Nat → Way) (sym : Nat → Nat → Way) (n i : Nat) : Nat → Nat → Way
  | 0 => fun _ => Way.no
  | m + 1 => if (at_ (i + m)).ok then rowJ (at_ (i + m)) (sym (i + m)) (i + m) (rowK at_ sym n i m) (n + 1 - (i + m)) else rowK at_ sym n i m
def symW (c0 c1 c2 : Int) (w : List Int) (st : Nat → Nat → Nat → Way) (s : Sy) (i j : Nat) : Way :=
  if s.1 then ⟨oneC c0 c1 c2 (s.2 : Int) ((w.take j).drop i), 1, [(s.2 : Int)], true⟩ else st s.2 i j
def ruleAt (c0 c1 c2 : Int) (w : List Int) (st : Nat → Nat → Nat → Way) (n i : Nat) : List Sy → (Nat → Way)
  | l => l.foldl (fun f s => rowK f (symW c0 c1 c2 w st s) n i (n + 1 - i)) (upd (fun _ => Way.no) i ⟨0, 0, [], true⟩)
def ruleW (c0 c1 c2 : Int) (w : List Int) (st : Nat → Nat → Nat → Way) (n i : Nat) (l : List Sy) : Nat → Way :=
  if l = [] then (fun j => if i ≤ j ∧ j ≤ n then ⟨((j : Int) - (i : Int)) * c1, 0, [], true⟩ else Way.no) else ruleAt c0 c1 c2 w st n i l

/-- x is at least as good as y -/
def Bet (x y : Way) : Prop := y.ok = true → x.ok = true ∧ x.cost ≤ y.cost
theorem Bet.refl (x : Way) : Bet x x := fun h => ⟨h, Int.le_refl _⟩
theorem Bet.trans {x y z : Way} (h : Bet x y) (k : Bet y z) : Bet x z := fun hz => by
  obtain ⟨h1, h2⟩ := k hz; obtain ⟨h3, h4⟩ := h h1; exact ⟨h3, by omega⟩
theorem goJ_bet (a x : Way) (f : Nat → Way) (j i : Nat) : Bet (goJ a x f j i) (f i) := by
  unfold goJ
  split
  · exact .refl _
  · split
    · rename_i hl
      by_cases e : i = j
      · subst e; rw [upd_same]; exact fun h => ⟨lessW_ok hl, lessW_cost hl h⟩
      · rw [upd_ne _ _ e]; exact .refl _
    · exact .refl _
theorem goJ_at {a x : Way} (f : Nat → Way) (j : Nat) (ha : a.ok = true) (hx : x.ok = true) : (goJ a x f j j).ok = true ∧ (goJ a x f j j).cost ≤ a.cost + x.cost := by
  unfold goJ
  have ht : (thenW a x).ok = true := by simp [thenW, ha, hx]
  split
  · rename_i h; exact hopeW_true h ha hx
  · split
    · rw [upd_same]; exact ⟨ht, Int.le_refl _⟩
    · rename_i h; exact lessW_not (by simpa using h) ht
/-- what holds of all places of a row holds behind a step -/
theorem goJ_inv {P : Nat → Way → Prop} {a x : Way} {f : Nat → Way} {j : Nat} (h : ∀ i, P i (f i)) (hs : a.ok = true → x.ok = true → P j (thenW a x)) : ∀ i, P i (goJ a x f j i) := by
  intro i
  unfold goJ
  split
  · exact h i
  · rename_i hh
    obtain ⟨ha, hx⟩ := hopeW_false (by simpa using hh)
    split
    · by_cases e : i = j
      · subst e; rw [upd_same]; exact hs ha hx
      · rw [upd_ne _ _ e]; exact h i
    · exact h i
theorem rowJ_bet (a : Way) (sym : Nat → Way) (k : Nat) (f : Nat → Way) (m i : Nat) : Bet (rowJ a sym k f m i) (f i) := by
  induction m with
  | zero => exact .refl _
  | succ m ih => exact (goJ_bet _ _ _ _ _).trans ih
theorem rowJ_at {a : Way} {sym : Nat → Way} (k : Nat) (f : Nat → Way) {m j : Nat} (ha : a.ok = true) (h1 : k ≤ j) (h2 : j < k + m) (hx : (sym j).ok = true) : (rowJ a sym k f m j).ok = true ∧ (rowJ a sym k f m j).cost ≤ a.cost + (sym j).cost := by
  induction m with
  | zero => omega
  | succ m ih =>
    by_cases e : j = k + m
    · subst e; exact goJ_at _ _ ha hx
    · obtain ⟨h3, h4⟩ := ih (by omega)
      obtain ⟨h5, h6⟩ := goJ_bet a (sym (k + m)) (rowJ a sym k f m) (k + m) j h3
      exact ⟨h5, by show (goJ _ _ _ _ _).cost ≤ _; omega⟩
theorem rowJ_inv {P : Nat → Way → Prop} {a : Way} {sym : Nat → Way} {k : Nat} {f : Nat → Way} {m : Nat} (h : ∀ i, P i (f i)) (hs : ∀ j, k ≤ j → j < k + m → a.ok = true → (sym j).ok = true → P j (thenW a (sym j))) : ∀ i, P i (rowJ a sym k f m i) := by
  induction m with
  | zero => exact h
  | succ m ih => exact goJ_inv (ih fun j h1 h2 => hs j h1 (by omega)) (hs _ (by omega) (by omega))
theorem rowK_bet (at_ : Nat → Way) (sym : Nat → Nat → Way) (n i m i' : Nat) : Bet (rowK at_ sym n i (m + 1) i') (rowK at_ sym n i m i') := by
  rw [rowK]; split
  · exact rowJ_bet _ _ _ _ _ _
  · exact .refl _
theorem rowK_at {at_ : Nat → Way} {sym : Nat → Nat → Way} {n i m k j : Nat} (h1 : i ≤ k) (h2 : k < i + m) (h3 : k ≤ j) (h4 : j ≤ n) (ha : (at_ k).ok = true) (hx : (sym k j).ok = true) :
    (rowK at_ sym n i m j).ok = true ∧ (rowK at_ sym n i m j).cost ≤ (at_ k).cost + (sym k j).cost := by
  induction m with
  | zero => omega
  | succ m ih =>
    by_cases e : k = i + m
    · subst e; rw [rowK, if_pos ha]; exact rowJ_at _ _ ha h3 (by omega) hx
    · obtain ⟨h5, h6⟩ := ih (by omega)
      obtain ⟨h7, h8⟩ := rowK_bet at_ sym n i m j h5
      exact ⟨h7, by omega⟩
theorem rowK_inv {P : Nat → Way → Prop} {at_ : Nat → Way} {sym : Nat → Nat → Way} {n i m : Nat} (h0 : ∀ j, P j Way.no)
    (hs : ∀ k j, i ≤ k → k < i + m → k ≤ j → j ≤ n → (at_ k).ok = true → (sym k j).ok = true → P j (thenW (at_ k) (sym k j))) : ∀ j, P j (rowK at_ sym n i m j) := by
  induction m with
  | zero => exact h0
  | succ m ih =>
    have ih' := ih fun k j h1 h2 => hs k j h1 (by omega)
    rw [rowK]; split
    · exact rowJ_inv ih' fun j h1 h2 ha hx => hs _ j (by omega) (by omega) h1 (by omega) ha hx
    · exact ih'
end Go.Proofs.Ytghnkgbingcbcaa
