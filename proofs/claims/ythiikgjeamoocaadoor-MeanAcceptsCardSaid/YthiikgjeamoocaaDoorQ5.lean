/- Texts AC, BE, BG, laid together. -/
import Derived.Test.YthiikgjeamoocaaDoorQ4
import Derived.Test.YthiikgjeamoocaaDoorQ3
import Derived.Lib.TrailingZeros
import Derived.Laws.BitsAllLaws




namespace Go.Proofs.YthiikgjeamoocaaDoor
open Go.RowKit

/-! ### the or of some masks, one for each bit -/
def gath (C : Nat → Nat) : Nat → Nat → Nat
  | 0, _ => 0
  | m + 1, y => if y.testBit m then gath C m y ||| C m else gath C m y
theorem gath_bit (C : Nat → Nat) (y j : Nat) : ∀ m, (gath C m y).testBit j = true ↔ ∃ p, p < m ∧ y.testBit p = true ∧ (C p).testBit j = true
  | 0 => by simp [gath]
  | m + 1 => by
    rw [gath]
    by_cases hm : y.testBit m = true
    · rw [if_pos hm, Nat.testBit_or, Bool.or_eq_true, gath_bit C y j m]
      constructor
      · rintro (⟨p, h1, h2, h3⟩ | h)
        · exact ⟨p, by omega, h2, h3⟩
        · exact ⟨m, by omega, hm, h⟩
      · rintro ⟨p, h1, h2, h3⟩
        by_cases e : p = m
        · subst e; exact Or.inr h3
        · exact Or.inl ⟨p, by omega, h2, h3⟩
    · rw [if_neg hm, gath_bit C y j m]
      constructor
      · rintro ⟨p, h1, h2, h3⟩; exact ⟨p, by omega, h2, h3⟩
      · rintro ⟨p, h1, h2, h3⟩
        by_cases e : p = m
        · subst e; exact absurd h2 hm
        · exact ⟨p, by omega, h2, h3⟩
theorem gath_zero (C : Nat → Nat) : ∀ m, gath C m 0 = 0
  | 0 => rfl
  | m + 1 => by rw [gath, if_neg (by simp), gath_zero C m]
/-- the lowest bit taken away -/
theorem low_bit {x : Nat} (h0 : x ≠ 0) (h : x < 4294967296) : ∃ k, k = Lib.ctz 32 x ∧ k < 32 ∧ x &&& (x - 1) < x ∧ ∀ p, x.testBit p = true ↔ p = k ∨ (x &&& (x - 1)).testBit p = true := by
  obtain ⟨m, hm, hk⟩ := Lib.ctzFrom_spec 32 x (by omega) (by omega)
  have e : Lib.ctz 32 x = Lib.ctzFrom 32 x := by simp [Lib.ctz, h0]
  rw [e]
  generalize Lib.ctzFrom 32 x = k at *
  have hp : 0 < 2 ^ k := Nat.pos_of_ne_zero (by simp)
  have key : ∀ p, (x - 1).testBit p = if p < k then true else if p = k then false else x.testBit p := by
    intro p
    have e1 : x - 1 = 2 ^ k * (2 * m) + (2 ^ k - 1) := by rw [hm, Nat.mul_add]; omega
    rw [e1, Nat.testBit_two_pow_mul_add _ (by omega), Nat.testBit_two_pow_sub_one]
    by_cases h1 : p < k
    · simp [h1]
    · rw [if_neg h1, if_neg h1, hm, Nat.mul_comm (2 ^ k), Nat.testBit_mul_two_pow]
      by_cases h2 : p = k
      · subst h2; simp [Nat.testBit_zero]
      · obtain ⟨q, rfl⟩ : ∃ q, p = k + (q + 1) := ⟨p - k - 1, by omega⟩
        rw [if_neg h2]
        have e2 : k + (q + 1) - k = q + 1 := by omega
        rw [e2, Nat.testBit_succ, Nat.testBit_succ]
        have d1 : 2 * m / 2 = m := by omega
        have d2 : (2 * m + 1) / 2 = m := by omega
        rw [d1, d2]; simp
  have hx : ∀ p, x.testBit p = if p < k then false else if p = k then true else x.testBit p := by
    intro p
    by_cases h1 : p < k
    · rw [if_pos h1, hm, Nat.mul_comm (2 ^ k), Nat.testBit_mul_two_pow]; simp; omega
    · rw [if_neg h1]
      by_cases h2 : p = k
      · subst h2; rw [if_pos rfl, hm, Nat.mul_comm (2 ^ p), Nat.testBit_mul_two_pow]; simp [Nat.testBit_zero]
      · rw [if_neg h2]
  refine ⟨k, rfl, hk, ?_, fun p => ?_⟩
  · have := Nat.and_le_right (n := x) (m := x - 1); omega
  · rw [Nat.testBit_and, key]
    by_cases h1 : p < k
    · have := hx p; rw [if_pos h1] at this
      simp [h1, this]; omega
    · rw [if_neg h1]
      by_cases h2 : p = k
      · subst h2
        have := hx p; rw [if_neg h1, if_pos rfl] at this
        simp [this]
      · simp [h2]
theorem gath_step (C : Nat → Nat) {x : Nat} (h0 : x ≠ 0) (h : x < 4294967296) : gath C 32 x = C (Lib.ctz 32 x) ||| gath C 32 (x &&& (x - 1)) := by
  obtain ⟨k, rfl, hk, _, hb⟩ := low_bit h0 h
  apply Nat.eq_of_testBit_eq
  intro j
  rw [Nat.testBit_or]
  have e1 := gath_bit C x j 32
  have e2 := gath_bit C (x &&& (x - 1)) j 32
  rw [Bool.eq_iff_iff, Bool.or_eq_true, e1, e2]
  constructor
  · rintro ⟨p, h1, h2, h3⟩
    rcases (hb p).1 h2 with rfl | h4
    · exact Or.inl h3
    · exact Or.inr ⟨p, h1, h4, h3⟩
  · rintro (h3 | ⟨p, h1, h2, h3⟩)
    · exact ⟨_, hk, (hb _).2 (Or.inl rfl), h3⟩
    · exact ⟨p, h1, (hb p).2 (Or.inr h2), h3⟩

/-! ### ends -/
abbrev EnS := Nat → Nat → Nat
def cOf (xs : List Int) (E : EnS) (s : Sy) (p : Nat) : Nat := if s.1 then (if xs[p]? = some (s.2 : Int) then 2 ^ (p + 1) else 0) else E s.2 p
def stepM (xs : List Int) (E : EnS) (s : Sy) (y : Nat) : Nat := gath (cOf xs E s) 32 y
def reachM (xs : List Int) (E : EnS) (l : List Sy) (i : Nat) : Nat := l.foldl (fun y s => stepM xs E s y) (2 ^ i)
theorem reachM_snoc (xs : List Int) (E : EnS) (l : List Sy) (s : Sy) (i : Nat) : reachM xs E (l ++ [s]) i = stepM xs E s (reachM xs E l i) := by simp [reachM, List.foldl_append]
theorem stepM_bit {xs : List Int} {E : EnS} {s : Sy} {y j : Nat} : (stepM xs E s y).testBit j = true ↔ ∃ p, p < 32 ∧ y.testBit p = true ∧ (cOf xs E s p).testBit j = true := gath_bit _ _ _ _
structure SndE (rules : List Ru) (xs : List Int) (E : EnS) : Prop where
  snd : ∀ N i j, (E N i).testBit j = true → i ≤ j ∧ j ≤ xs.length ∧ Dv rules [(false, N)] (part xs i j)
section
variable {rules : List Ru} {xs : List Int} {E : EnS}
theorem SndE.start (rules : List Ru) (xs : List Int) : SndE rules xs (fun _ _ => 0) := ⟨fun _ _ _ h => by simp at h⟩
theorem lt_of_bits {n x : Nat} (h : ∀ j, x.testBit j = true → j ≤ n) : x < 2 ^ (n + 1) :=
  Nat.lt_pow_two_of_testBit x fun j hj => by
    cases hb : x.testBit j with
    | false => rfl
    | true => have := h j hb; omega
theorem SndE.lt (h : SndE rules xs E) (N i : Nat) : E N i < 2 ^ (xs.length + 1) := lt_of_bits fun j hj => (h.snd N i j hj).2.1
theorem SndE.reach (h : SndE rules xs E) (l : List Sy) {i : Nat} (hi : i ≤ xs.length) : ∀ j, (reachM xs E l i).testBit j = true → i ≤ j ∧ j ≤ xs.length ∧ Dv rules l (part xs i j) := by
  induction l using snoc_induction with
  | h0 =>
    intro j hj
    simp only [reachM, List.foldl_nil, Nat.testBit_two_pow, decide_eq_true_eq] at hj
    subst hj
    exact ⟨Nat.le_refl _, hi, by rw [part_same]; exact .nil⟩
  | hs l s ih =>
    intro j hj
    rw [reachM_snoc, stepM_bit] at hj
    obtain ⟨p, hp, h1, h2⟩ := hj
    obtain ⟨h3, h4, h5⟩ := ih p h1
    obtain ⟨b, t⟩ := s
    cases b with
    | false =>
      simp only [cOf, Bool.false_eq_true, if_false] at h2
      obtain ⟨h6, h7, h8⟩ := h.snd _ _ _ h2
      exact ⟨by omega, h7, by rw [← part_append h3 h6]; exact h5.append h8⟩
    | true =>
      simp only [cOf, if_true] at h2
      by_cases hx : xs[p]? = some (t : Int)
      · rw [if_pos hx, Nat.testBit_two_pow, decide_eq_true_eq] at h2
        subst h2
        have hl := (List.getElem?_eq_some_iff.1 hx).1
        refine ⟨by omega, by omega, ?_⟩
        rw [← part_append h3 (Nat.le_succ p)]
        have e : part xs p (p + 1) = [(t : Int)] := gpart_at hx
        rw [e]
        exact h5.append (Dv.letter t)
      · rw [if_neg hx] at h2; simp at h2
theorem SndE.put (h : SndE rules xs E) {r : Ru} (hr : r ∈ rules) {i : Nat} (hi : i ≤ xs.length) : SndE rules xs (fun N k => if N = r.1 ∧ k = i then E r.1 i ||| reachM xs E r.2 i else E N k) := by
  refine ⟨fun N k j hj => ?_⟩
  by_cases e : N = r.1 ∧ k = i
  · obtain ⟨rfl, rfl⟩ := e
    rw [if_pos ⟨rfl, rfl⟩, Nat.testBit_or, Bool.or_eq_true] at hj
    rcases hj with hj | hj
    · exact h.snd _ _ _ hj
    · obtain ⟨h1, h2, h3⟩ := h.reach r.2 hi j hj
      exact ⟨h1, h2, Dv.one hr h3⟩
  · rw [if_neg e] at hj; exact h.snd _ _ _ hj
/-- nothing more is found -/
def FixE (rules : List Ru) (xs : List Int) (E : EnS) : Prop := ∀ r ∈ rules, ∀ i, i ≤ xs.length → ∀ j, (reachM xs E r.2 i).testBit j = true → (E r.1 i).testBit j = true
theorem FixE.all (hf : FixE rules xs E) (hl : xs.length < 32) {l : List Sy} {v : List Int} (h : Dv rules l v) : ∀ i j, i ≤ j → j ≤ xs.length → v = part xs i j → ∀ l0 a, (reachM xs E l0 a).testBit i = true → (reachM xs E (l0 ++ l) a).testBit j = true := by
  induction h with
  | nil =>
    intro i j h1 h2 e l0 a ha
    have := part_len (i := i) h2
    rw [← e] at this
    simp at this
    obtain rfl : i = j := by omega
    simpa using ha
  | @term t l v h ih =>
    intro i j h1 h2 e l0 a ha
    obtain ⟨m, m1, m2, e1, e2⟩ := part_split (p1 := [(t : Int)]) h1 h2 e.symm
    have hm : m = i + 1 := by
      have := part_len (w := xs) (i := i) (j := m) (by omega)
      rw [e1] at this; simp at this; omega
    subst hm
    have hx : xs[i]? = some (t : Int) := gpart_one e1
    have := ih (i + 1) j m2 h2 e2.symm (l0 ++ [(true, t)]) a (by
      rw [reachM_snoc, stepM_bit]
      exact ⟨i, by omega, ha, by simp [cOf, hx]⟩)
    simpa using this
  | @non N rhs l u v hr hu hv ih1 ih2 =>
    intro i j h1 h2 e l0 a ha
    obtain ⟨m, m1, m2, e1, e2⟩ := part_split h1 h2 e.symm
    have h3 := ih1 i m m1 (by omega) e1.symm [] i (by simp [reachM])
    have h4 : (E N i).testBit m = true := hf _ hr i (by omega) m (by simpa using h3)
    have := ih2 m j m2 h2 e2.symm (l0 ++ [(false, N)]) a (by
      rw [reachM_snoc, stepM_bit]
      exact ⟨i, by omega, ha, by simpa [cOf] using h4⟩)
    simpa using this
theorem ends_iff (hs : SndE rules xs E) (hf : FixE rules xs E) (hl : xs.length < 32) (N : Nat) : (E N 0).testBit xs.length = true ↔ Dv rules [(false, N)] xs := by
  constructor
  · intro h
    have := (hs.snd N 0 _ h).2.2
    rwa [part_all] at this
  · intro h
    have := hf.all hl h 0 xs.length (Nat.zero_le _) (Nat.le_refl _) (part_all xs).symm [] 0 (by simp [reachM])
    rw [List.nil_append, show [(false, N)] = [] ++ [((false, N) : Sy)] from rfl, reachM_snoc, stepM_bit] at this
    obtain ⟨p, hp, h1, h2⟩ := this
    simp only [reachM, List.foldl_nil, Nat.testBit_two_pow, decide_eq_true_eq] at h1
    subst h1
    simpa [cOf] using h2
end

/-! ### how much is still to be found -/
def totE (nons n : Nat) (E : EnS) : Nat := sumTo (fun N => sumTo (fun i => 8192 - E N i) (n + 1)) nons
theorem totE_lt {nons n : Nat} {E : EnS} {N i y : Nat} (hN : N < nons) (hi : i ≤ n) (h : E N i < y) (hy : y ≤ 8192) : totE nons n (fun a b => if a = N ∧ b = i then y else E a b) < totE nons n E := by
  have key : ∀ a b, 8192 - (if a = N ∧ b = i then y else E a b) ≤ 8192 - E a b := fun a b => by
    by_cases e : a = N ∧ b = i
    · obtain ⟨rfl, rfl⟩ := e; rw [if_pos ⟨rfl, rfl⟩]; omega
    · rw [if_neg e]; exact Nat.le_refl _
  refine sumTo_lt (k := N) (fun a => sumTo_le _ fun b => key a b) hN (sumTo_lt (k := i) (fun b => key N b) (by omega) ?_)
  show 8192 - (if N = N ∧ i = i then y else E N i) < 8192 - E N i
  rw [if_pos ⟨rfl, rfl⟩]; omega
theorem or_lt_of {e x : Nat} (h : x &&& (4294967295 - e) ≠ 0) (he : e < 4294967296) : e < e ||| x := by
  have h1 : e ≤ e ||| x := Nat.left_le_or
  rcases Nat.lt_or_eq_of_le h1 with h2 | h2
  · exact h2
  · exfalso
    apply h
    apply Nat.eq_of_testBit_eq
    intro j
    rw [Nat.zero_testBit, Nat.testBit_and, show 4294967295 - e = 2 ^ 32 - (e + 1) by omega, Nat.testBit_two_pow_sub_succ (by omega)]
    have h3 : (e ||| x).testBit j = e.testBit j := by rw [← h2]
    rw [Nat.testBit_or] at h3
    cases hx : x.testBit j with
    | false => rfl
    | true =>
      rw [hx, Bool.or_true] at h3
      rw [← h3]; simp
theorem sub_of {e x : Nat} (h : x &&& (4294967295 - e) = 0) (he : e < 4294967296) (hx : x < 4294967296) (j : Nat) (hj : x.testBit j = true) : e.testBit j = true := by
  have h1 : (x &&& (4294967295 - e)).testBit j = false := by rw [h]; simp
  rw [Nat.testBit_and, show 4294967295 - e = 2 ^ 32 - (e + 1) by omega, Nat.testBit_two_pow_sub_succ (by omega), hj] at h1
  have hjl : j < 32 := by
    rcases Nat.lt_or_ge j 32 with h2 | h2
    · exact h2
    · have := Nat.testBit_lt_two_pow (x := x) (i := j) (Nat.lt_of_lt_of_le hx (by
        have := Nat.pow_le_pow_right (n := 2) (by omega) h2
        omega))
      rw [this] at hj; cases hj
  simpa [hjl] using h1
end Go.Proofs.YthiikgjeamoocaaDoor




namespace Go.Proofs.YthiikgjeamoocaaDoor
open Go.RowKit

def dOf (xs : List Int) (E : EnS) (k : Ky) : Bool := (cOf xs E k.1 k.2.1).testBit k.2.2
/-- bits stand within the word -/
def SupE (n : Nat) (E : EnS) : Prop := ∀ N i j, (E N i).testBit j = true → i ≤ j ∧ j ≤ n
/-- a span is derived -/
def DvS (rules : List Ru) (xs : List Int) (k : Ky) : Prop := k.2.1 ≤ k.2.2 ∧ k.2.2 ≤ xs.length ∧ Dv rules [k.1] (part xs k.2.1 k.2.2)
section
variable {rules : List Ru} {xs : List Int} {E : EnS} {D : Ky → Bool}
theorem dOf_term {t i j : Nat} : dOf xs E ((true, t), i, j) = true ↔ xs[i]? = some (t : Int) ∧ j = i + 1 := by
  simp only [dOf, cOf, if_true]
  by_cases h : xs[i]? = some (t : Int)
  · rw [if_pos h, Nat.testBit_two_pow, decide_eq_true_eq]
    constructor
    · intro e; exact ⟨h, e.symm⟩
    · rintro ⟨-, e⟩; exact e.symm
  · rw [if_neg h]
    simp [h]
theorem dOf_non {N i j : Nat} : dOf xs E ((false, N), i, j) = (E N i).testBit j := by simp [dOf, cOf]
theorem dOf_le (hE : SupE xs.length E) {k : Ky} (h : dOf xs E k = true) : k.2.1 ≤ k.2.2 ∧ k.2.2 ≤ xs.length := by
  obtain ⟨⟨b, N⟩, i, j⟩ := k
  cases b with
  | true =>
    obtain ⟨h1, rfl⟩ := dOf_term.1 h
    have := (List.getElem?_eq_some_iff.1 h1).1
    simp only; omega
  | false => rw [dOf_non] at h; exact hE _ _ _ h
theorem someF_le : ∀ {l : List Sy} {i j : Nat}, someF D l i j = true → i ≤ j
  | [], i, j, h => by simp only [someF, decide_eq_true_eq] at h; omega
  | s :: l, i, j, h => by
    obtain ⟨p, h1, h2, -, -⟩ := some_iff.1 h
    omega
theorem reach_some (hE : SupE xs.length E) (hl : xs.length < 32) : ∀ (l : List Sy) (y j : Nat), (∀ p, y.testBit p = true → p ≤ xs.length) →
    ((l.foldl (fun y s => stepM xs E s y) y).testBit j = true ↔ ∃ p, y.testBit p = true ∧ someF (dOf xs E) l p j = true) := by
  intro l
  induction l with
  | nil =>
    intro y j _
    simp only [List.foldl_nil, someF, decide_eq_true_eq]
    constructor
    · intro h; exact ⟨j, h, rfl⟩
    · rintro ⟨p, h, rfl⟩; exact h
  | cons s l ih =>
    intro y j hy
    rw [List.foldl_cons, ih (stepM xs E s y) j (fun p hp => by
      obtain ⟨q, -, -, h2⟩ := stepM_bit.1 hp
      exact (dOf_le hE (k := (s, q, p)) h2).2)]
    constructor
    · rintro ⟨p, h1, h2⟩
      obtain ⟨q, hq, h3, h4⟩ := stepM_bit.1 h1
      have h5 := dOf_le hE (k := (s, q, p)) h4
      exact ⟨q, h3, some_iff.2 ⟨p, h5.1, someF_le h2, h4, h2⟩⟩
    · rintro ⟨q, h1, h2⟩
      obtain ⟨p, h3, h4, h5, h6⟩ := some_iff.1 h2
      exact ⟨p, stepM_bit.2 ⟨q, by have := hy q h1; omega, h1, h5⟩, h6⟩
theorem reach_iff (hE : SupE xs.length E) (hl : xs.length < 32) (l : List Sy) {i : Nat} (hi : i ≤ xs.length) (j : Nat) : (reachM xs E l i).testBit j = someF (dOf xs E) l i j := by
  have h := reach_some hE hl l (2 ^ i) j (fun p hp => by rw [Nat.testBit_two_pow, decide_eq_true_eq] at hp; omega)
  have h2 : (reachM xs E l i).testBit j = true ↔ someF (dOf xs E) l i j = true := by
    unfold reachM
    rw [h]
    constructor
    · rintro ⟨p, h1, h2⟩
      rw [Nat.testBit_two_pow, decide_eq_true_eq] at h1
      subst h1; exact h2
    · intro h2; exact ⟨i, by rw [Nat.testBit_two_pow]; simp, h2⟩
  exact Bool.eq_iff_iff.2 h2
theorem dv_one {t : Nat} {v : List Int} : Dv rules [(true, t)] v ↔ v = [(t : Int)] := by
  constructor
  · intro h
    cases h with
    | term t h => cases h; rfl
  · rintro rfl; exact Dv.letter t
theorem part_one {i j : Nat} (h1 : i ≤ j) (h2 : j ≤ xs.length) {t : Int} : part xs i j = [t] ↔ xs[i]? = some t ∧ j = i + 1 := by
  constructor
  · intro e
    have hj : j = i + 1 := by
      have := part_len (w := xs) (i := i) (j := j) h2
      rw [e] at this; simp at this; omega
    subst hj
    exact ⟨gpart_one e, rfl⟩
  · rintro ⟨h, rfl⟩; exact gpart_at h
theorem dOf_iff (hs : SndE rules xs E) (hf : FixE rules xs E) (hl : xs.length < 32) (k : Ky) : dOf xs E k = true ↔ DvS rules xs k := by
  obtain ⟨⟨b, N⟩, i, j⟩ := k
  cases b with
  | true =>
    rw [dOf_term]
    unfold DvS
    simp only
    constructor
    · rintro ⟨h, rfl⟩
      have := (List.getElem?_eq_some_iff.1 h).1
      exact ⟨by omega, by omega, dv_one.2 (gpart_at h)⟩
    · rintro ⟨h1, h2, h3⟩
      exact (part_one h1 h2).1 (dv_one.1 h3)
  | false =>
    rw [dOf_non]
    constructor
    · intro h; exact hs.snd N i j h
    · rintro ⟨h1, h2, h3⟩
      simp only at h1 h2 h3
      have := hf.all hl h3 i j h1 h2 rfl [] i (by simp [reachM])
      rw [List.nil_append, show [(false, N)] = [] ++ [((false, N) : Sy)] from rfl, reachM_snoc, stepM_bit] at this
      obtain ⟨p, hp, h4, h5⟩ := this
      simp only [reachM, List.foldl_nil, Nat.testBit_two_pow, decide_eq_true_eq] at h4
      subst h4
      simpa [cOf] using h5
theorem SndE.sup (h : SndE rules xs E) : SupE xs.length E := fun N i j hj => ⟨(h.snd N i j hj).1, (h.snd N i j hj).2.1⟩

/-! ### the reference's spans -/
/-- spans that have been found: sound, and the letters -/
structure SpOk (rules : List Ru) (xs : List Int) (S : Ky → Bool) : Prop where
  snd : ∀ k, S k = true → DvS rules xs k
  ltr : ∀ i t : Nat, xs[i]? = some (t : Int) → S ((true, t), i, i + 1) = true
def FixS (rules : List Ru) (n : Nat) (S : Ky → Bool) : Prop := ∀ u ∈ rules, ∀ i j, i ≤ j → j ≤ n → someF S u.2 i j = true → S ((false, u.1), i, j) = true
theorem some_dv {S : Ky → Bool} (hs : ∀ k, S k = true → DvS rules xs k) : ∀ {l : List Sy} {i j : Nat}, j ≤ xs.length → someF S l i j = true → i ≤ j ∧ Dv rules l (part xs i j) := by
  intro l
  induction l with
  | nil =>
    intro i j hj h
    simp only [someF, decide_eq_true_eq] at h
    subst h
    exact ⟨Nat.le_refl _, by rw [part_same]; exact .nil⟩
  | cons s l ih =>
    intro i j hj h
    obtain ⟨p, h1, h2, h3, h4⟩ := some_iff.1 h
    obtain ⟨-, -, h5⟩ := hs _ h3
    obtain ⟨-, h6⟩ := ih hj h4
    refine ⟨by omega, ?_⟩
    rw [← part_append h1 h2]
    exact h5.append h6
theorem dv_some {S : Ky → Bool} (ho : SpOk rules xs S) (hf : FixS rules xs.length S) {l : List Sy} {v : List Int} (h : Dv rules l v) : ∀ i j, i ≤ j → j ≤ xs.length → v = part xs i j → someF S l i j = true := by
  induction h with
  | nil =>
    intro i j h1 h2 e
    have := part_len (w := xs) (i := i) h2
    rw [← e] at this
    simp at this
    simp only [someF, decide_eq_true_eq]; omega
  | @term t l v h ih =>
    intro i j h1 h2 e
    obtain ⟨m, m1, m2, e1, e2⟩ := part_split (p1 := [(t : Int)]) h1 h2 e.symm
    obtain ⟨hx, rfl⟩ := (part_one m1 (by omega)).1 e1
    exact some_iff.2 ⟨i + 1, by omega, m2, ho.ltr i t hx, ih _ _ m2 h2 e2.symm⟩
  | @non N rhs l u v hr hu hv ih1 ih2 =>
    intro i j h1 h2 e
    obtain ⟨m, m1, m2, e1, e2⟩ := part_split h1 h2 e.symm
    exact some_iff.2 ⟨m, m1, m2, hf _ hr i m m1 (by omega) (ih1 i m m1 (by omega) e1.symm), ih2 m j m2 h2 e2.symm⟩
theorem SpOk.iff {S : Ky → Bool} (ho : SpOk rules xs S) (hf : FixS rules xs.length S) (k : Ky) : S k = true ↔ DvS rules xs k := by
  constructor
  · exact ho.snd k
  · obtain ⟨⟨b, N⟩, i, j⟩ := k
    rintro ⟨h1, h2, h3⟩
    simp only at h1 h2 h3
    have h4 := dv_some ho hf h3 i j h1 h2 rfl
    obtain ⟨p, p1, p2, p3, p4⟩ := some_iff.1 h4
    simp only [someF, decide_eq_true_eq] at p4
    subst p4; exact p3
end
end Go.Proofs.YthiikgjeamoocaaDoor



namespace Go.Proofs.YthiikgjeamoocaaDoor
open Go.RowKit

theorem low_bit2 {x : Nat} (h0 : x ≠ 0) (h : x < 4294967296) : ∃ k, k = Lib.ctz 32 x ∧ k < 32 ∧ x &&& (x - 1) < x ∧ (∀ p, x.testBit p = true ↔ p = k ∨ (x &&& (x - 1)).testBit p = true) ∧ (∀ p, p < k → x.testBit p = false) ∧ (x &&& (x - 1)).testBit k = false := by
  obtain ⟨m, hm, hk⟩ := Lib.ctzFrom_spec 32 x (by omega) (by omega)
  have e : Lib.ctz 32 x = Lib.ctzFrom 32 x := by simp [Lib.ctz, h0]
  rw [e]
  generalize Lib.ctzFrom 32 x = k at *
  have hp : 0 < 2 ^ k := Nat.pos_of_ne_zero (by simp)
  have key : ∀ p, (x - 1).testBit p = if p < k then true else if p = k then false else x.testBit p := by
    intro p
    have e1 : x - 1 = 2 ^ k * (2 * m) + (2 ^ k - 1) := by rw [hm, Nat.mul_add]; omega
    rw [e1, Nat.testBit_two_pow_mul_add _ (by omega), Nat.testBit_two_pow_sub_one]
    by_cases h1 : p < k
    · simp [h1]
    · rw [if_neg h1, if_neg h1, hm, Nat.mul_comm (2 ^ k), Nat.testBit_mul_two_pow]
      by_cases h2 : p = k
      · subst h2; simp [Nat.testBit_zero]
      · obtain ⟨q, rfl⟩ : ∃ q, p = k + (q + 1) := ⟨p - k - 1, by omega⟩
        rw [if_neg h2]
        have e2 : k + (q + 1) - k = q + 1 := by omega
        rw [e2, Nat.testBit_succ, Nat.testBit_succ]
        have d1 : 2 * m / 2 = m := by omega
        have d2 : (2 * m + 1) / 2 = m := by omega
        rw [d1, d2]; simp
  have hx : ∀ p, x.testBit p = if p < k then false else if p = k then true else x.testBit p := by
    intro p
    by_cases h1 : p < k
    · rw [if_pos h1, hm, Nat.mul_comm (2 ^ k), Nat.testBit_mul_two_pow]; simp; omega
    · rw [if_neg h1]
      by_cases h2 : p = k
      · subst h2; rw [if_pos rfl, hm, Nat.mul_comm (2 ^ p), Nat.testBit_mul_two_pow]; simp [Nat.testBit_zero]
      · rw [if_neg h2]
  refine ⟨k, rfl, hk, ?_, fun p => ?_, fun p hp => ?_, ?_⟩
  · have := Nat.and_le_right (n := x) (m := x - 1); omega
  · rw [Nat.testBit_and, key]
    by_cases h1 : p < k
    · have := hx p; rw [if_pos h1] at this
      simp [h1, this]; omega
    · rw [if_neg h1]
      by_cases h2 : p = k
      · subst h2
        have := hx p; rw [if_neg h1, if_pos rfl] at this
        simp [this]
      · simp [h2]
  · have := hx p; rw [if_pos hp] at this; exact this
  · rw [Nat.testBit_and, key]; simp
def bitsL (x : Nat) : List Nat := (List.range 32).filter fun p => x.testBit p
theorem bitsL_zero : bitsL 0 = [] := by simp [bitsL]
theorem filter_low {k n : Nat} (f g : Nat → Bool) (hk : k < n) (h1 : ∀ p, p < k → f p = false) (h2 : f k = true) (h3 : ∀ p, p ≤ k → g p = false) (h4 : ∀ p, k < p → f p = g p) : (List.range n).filter f = k :: (List.range n).filter g := by
  induction n with
  | zero => omega
  | succ n ih =>
    rw [List.range_succ, List.filter_append, List.filter_append]
    rcases Nat.lt_or_ge k n with hkn | hkn
    · rw [ih hkn]
      simp only [List.cons_append, List.cons.injEq, true_and]
      congr 1
      simp only [List.filter_cons, List.filter_nil, h4 n hkn]
    · obtain rfl : k = n := by omega
      have e1 : (List.range k).filter f = [] := List.filter_eq_nil_iff.2 fun p hp => by rw [h1 p (List.mem_range.1 hp)]; simp
      have e2 : (List.range k).filter g = [] := List.filter_eq_nil_iff.2 fun p hp => by rw [h3 p (by have := List.mem_range.1 hp; omega)]; simp
      rw [e1, e2]
      simp [h2, h3 k (Nat.le_refl _)]
theorem bitsL_step {x : Nat} (h0 : x ≠ 0) (h : x < 4294967296) : bitsL x = Lib.ctz 32 x :: bitsL (x &&& (x - 1)) := by
  obtain ⟨k, hk, hk32, hlt, hb, hlow, hnk⟩ := low_bit2 h0 h
  rw [← hk]
  have hkk : x.testBit k = true := (hb k).2 (Or.inl rfl)
  refine filter_low _ _ hk32 hlow hkk (fun p hp => ?_) (fun p hp => ?_)
  · cases hx : (x &&& (x - 1)).testBit p with
    | false => rfl
    | true =>
      exfalso
      have h1 := (hb p).2 (Or.inr hx)
      rcases Nat.lt_or_ge p k with hlt2 | hge
      · rw [hlow p hlt2] at h1; cases h1
      · obtain rfl : p = k := by omega
        rw [hnk] at hx; cases hx
  · exact Bool.eq_iff_iff.2 ((hb p).trans ⟨fun h => h.resolve_left (by omega), Or.inr⟩)
theorem range_split (i n : Nat) : List.range (i + n) = List.range i ++ (List.range n).map (i + ·) := List.range_add
/-- from the bits to the ways -/
theorem ways_bits {D : Ky → Bool} {s : Sy} {l : List Sy} {i j x : Nat} (hx : ∀ p, x.testBit p = D (s, i, p)) (hD : ∀ p, D (s, i, p) = true → i ≤ p) (hj : j < 32) (hi : i ≤ 32) :
    (bitsL x).flatMap (fun p => if p ≤ j then (waysF D l p j).map ((s, i, p) :: ·) else []) = waysF D (s :: l) i j := by
  have e1 : bitsL x = ((List.range (32 - i)).map (i + ·)).filter fun p => x.testBit p := by
    unfold bitsL
    have : (32 : Nat) = i + (32 - i) := by omega
    conv => lhs; rw [this, range_split, List.filter_append]
    have e : (List.range i).filter (fun p => x.testBit p) = [] := List.filter_eq_nil_iff.2 fun p hp => by
      have := List.mem_range.1 hp
      intro h
      rw [hx] at h
      have := hD p h; omega
    rw [e, List.nil_append]
  rw [e1, List.filter_map, List.flatMap_map, waysF]
  have e2 : ∀ q, (fun p => if p ≤ j then (waysF D l p j).map ((s, i, p) :: ·) else []) (i + q) = if i + q ≤ j then (waysF D l (i + q) j).map ((s, i, i + q) :: ·) else [] := fun q => rfl
  have key : ∀ L : List Nat, (List.filter ((fun p => x.testBit p) ∘ fun q => i + q) L).flatMap (fun q => if i + q ≤ j then (waysF D l (i + q) j).map ((s, i, i + q) :: ·) else []) =
      L.flatMap fun q => if i + q ≤ j then (if (D (s, i, i + q) && someF D l (i + q) j) = true then (waysF D l (i + q) j).map ((s, i, i + q) :: ·) else []) else [] := by
    intro L
    induction L with
    | nil => rfl
    | cons q L ih =>
      simp only [List.filter_cons, Function.comp, List.flatMap_cons] at ih ⊢
      have hxq := hx (i + q)
      cases hd : D (s, i, i + q) with
      | false =>
        rw [hd] at hxq
        rw [if_neg (by rw [hxq]; simp)]
        simp only [Bool.false_and]
        rw [ih]
        simp
      | true =>
        rw [hd] at hxq
        rw [if_pos hxq, List.flatMap_cons, ih]
        simp only [Bool.true_and]
        congr 1
        split
        · cases hs : someF D l (i + q) j with
          | true => simp
          | false => simp [ways_nil hs]
        · rfl
  rw [key]
  have e3 : ∀ f : Nat → List (List Ky), (List.range (32 - i)).flatMap (fun q => if i + q ≤ j then f q else []) = (List.range (j + 1 - i)).flatMap f := by
    intro f
    have : 32 - i = (j + 1 - i) + (32 - i - (j + 1 - i)) := by omega
    rw [this, range_split, List.flatMap_append]
    have h1 : (List.range (j + 1 - i)).flatMap (fun q => if i + q ≤ j then f q else []) = (List.range (j + 1 - i)).flatMap f := by
      have : ∀ L : List Nat, (∀ q ∈ L, i + q ≤ j) → L.flatMap (fun q => if i + q ≤ j then f q else []) = L.flatMap f := by
        intro L
        induction L with
        | nil => intro _; rfl
        | cons q L ih =>
          intro h
          rw [List.flatMap_cons, List.flatMap_cons, if_pos (h q (by simp)), ih fun q' hq' => h q' (by simp [hq'])]
      exact this _ fun q hq => by have := List.mem_range.1 hq; omega
    rw [h1]
    have h2 : ((List.range (32 - i - (j + 1 - i))).map (j + 1 - i + ·)).flatMap (fun q => if i + q ≤ j then f q else []) = [] := by
      rw [List.flatMap_eq_nil_iff]
      intro q hq
      obtain ⟨r, -, rfl⟩ := List.mem_map.1 hq
      rw [if_neg (by omega)]
    rw [h2, List.append_nil]
  rw [e3]
end Go.Proofs.YthiikgjeamoocaaDoor

