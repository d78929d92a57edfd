/- Texts AC, AD, AE, AF, laid together. -/
import Derived.Test.YtbfcnfgkccgbiaaGreatDoorP1
import Derived.Test.YtbfcnfgkccgbiaaGreatDoorG1
import Derived.Lib.TrailingZeros
import Derived.Laws.BitsAllLaws
import Derived.Shelf.Spec.TrailingZeros
import Derived.Shelf.Lay
import Derived.Ground.NamesProg
import Derived.Deep.RegionWith




namespace Go.Proofs.YtbfcnfgkccgbiaaGreatDoor
open Go.RowKit

/-! ### the or of some masks, one for each bit -/
def gath (C : Nat → Nat) : Nat → Nat → Nat
  | 0, _ => 0
  | m + 1, y => if y.testBit m then gath C m y ||| C m else gath C m y
theorem gath_bit (C : Nat → Nat) (y j : Nat) : ∀ m, (gath C m y).testBit j = true ↔ ∃ p, p < m ∧ y.testBit p = true ∧ (C p).testBit j = true
  | 0 => by simp [gath]
  | m + 1 => by
    rw [gath]
    by_cases hm : y.testBit m = true
    · rw [if_pos hm, Nat.testBit_or, Bool.or_eq_true, gath_bit C y j m]
      constructor
      · rintro (⟨p, h1, h2, h3⟩ | h)
        · exact ⟨p, by omega, h2, h3⟩
        · exact ⟨m, by omega, hm, h⟩
      · rintro ⟨p, h1, h2, h3⟩
        by_cases e : p = m
        · subst e; exact Or.inr h3
        · exact Or.inl ⟨p, by omega, h2, h3⟩
    · rw [if_neg hm, gath_bit C y j m]
      constructor
      · rintro ⟨p, h1, h2, h3⟩; exact ⟨p, by omega, h2, h3⟩
      · rintro ⟨p, h1, h2, h3⟩
        by_cases e : p = m
        · subst e; exact absurd h2 hm
        · exact ⟨p, by omega, h2, h3⟩
theorem gath_zero (C : Nat → Nat) : ∀ m, gath C m 0 = 0
  | 0 => rfl
  | m + 1 => by rw [gath, if_neg (by simp), gath_zero C m]
/-- the lowest bit taken away -/
theorem low_bit {x : Nat} (h0 : x ≠ 0) (h : x < 4294967296) : ∃ k, k = Lib.ctz 32 x ∧ k < 32 ∧ x &&& (x - 1) < x ∧ ∀ p, x.testBit p = true ↔ p = k ∨ (x &&& (x - 1)).testBit p = true := by
  obtain ⟨m, hm, hk⟩ := Lib.ctzFrom_spec 32 x (by omega) (by omega)
  have e : Lib.ctz 32 x = Lib.ctzFrom 32 x := by simp [Lib.ctz, h0]
  rw [e]
  generalize Lib.ctzFrom 32 x = k at *
  have hp : 0 < 2 ^ k := Nat.pos_of_ne_zero (by simp)
  have key : ∀ p, (x - 1).testBit p = if p < k then true else if p = k then false else x.testBit p := by
    intro p
    have e1 : x - 1 = 2 ^ k * (2 * m) + (2 ^ k - 1) := by rw [hm, Nat.mul_add]; omega
    rw [e1, Nat.testBit_two_pow_mul_add _ (by omega), Nat.testBit_two_pow_sub_one]
    by_cases h1 : p < k
    · simp [h1]
    · rw [if_neg h1, if_neg h1, hm, Nat.mul_comm (2 ^ k), Nat.testBit_mul_two_pow]
      by_cases h2 : p = k
      · subst h2; simp [Nat.testBit_zero]
      · obtain ⟨q, rfl⟩ : ∃ q, p = k + (q + 1) := ⟨p - k - 1, by omega⟩
        rw [if_neg h2]
        have e2 : k + (q + 1) - k = q + 1 := by omega
        rw [e2, Nat.testBit_succ, Nat.testBit_succ]
        have d1 : 2 * m / 2 = m := by omega
        have d2 : (2 * m + 1) / 2 = m := by omega
        rw [d1, d2]; simp
  have hx : ∀ p, x.testBit p = if p < k then false else if p = k then true else x.testBit p := by
    intro p
    by_cases h1 : p < k
    · rw [if_pos h1, hm, Nat.mul_comm (2 ^ k), Nat.testBit_mul_two_pow]; simp; omega
    · rw [if_neg h1]
      by_cases h2 : p = k
      · subst h2; rw [if_pos rfl, hm, Nat.mul_comm (2 ^ p), Nat.testBit_mul_two_pow]; simp [Nat.testBit_zero]
      · rw [if_neg h2]
  refine ⟨k, rfl, hk, ?_, fun p => ?_⟩
  · have := Nat.and_le_right (n := x) (m := x - 1); omega
  · rw [Nat.testBit_and, key]
    by_cases h1 : p < k
    · have := hx p; rw [if_pos h1] at this
      simp [h1, this]; omega
    · rw [if_neg h1]
      by_cases h2 : p = k
      · subst h2
        have := hx p; rw [if_neg h1, if_pos rfl] at this
        simp [this]
      · simp [h2]
theorem gath_step (C : Nat → Nat) {x : Nat} (h0 : x ≠ 0) (h : x < 4294967296) : gath C 32 x = C (Lib.ctz 32 x) ||| gath C 32 (x &&& (x - 1)) := by
  obtain ⟨k, rfl, hk, _, hb⟩ := low_bit h0 h
  apply Nat.eq_of_testBit_eq
  intro j
  rw [Nat.testBit_or]
  have e1 := gath_bit C x j 32
  have e2 := gath_bit C (x &&& (x - 1)) j 32
  rw [Bool.eq_iff_iff, Bool.or_eq_true, e1, e2]
  constructor
  · rintro ⟨p, h1, h2, h3⟩
    rcases (hb p).1 h2 with rfl | h4
    · exact Or.inl h3
    · exact Or.inr ⟨p, h1, h4, h3⟩
  · rintro (h3 | ⟨p, h1, h2, h3⟩)
    · exact ⟨_, hk, (hb _).2 (Or.inl rfl), h3⟩
    · exact ⟨p, h1, (hb p).2 (Or.inr h2), h3⟩

/-! ### ends -/
abbrev EnS := Nat → Nat → Nat
def cOf (xs : List Int) (E : EnS) (s : Sy) (p : Nat) : Nat := if s.1 then (if xs[p]? = some (s.2 : Int) then 2 ^ (p + 1) else 0) else E s.2 p
def stepM (xs : List Int) (E : EnS) (s : Sy) (y : Nat) : Nat := gath (cOf xs E s) 32 y
def reachM (xs : List Int) (E : EnS) (l : List Sy) (i : Nat) : Nat := l.foldl (fun y s => stepM xs E s y) (2 ^ i)
theorem reachM_snoc (xs : List Int) (E : EnS) (l : List Sy) (s : Sy) (i : Nat) : reachM xs E (l ++ [s]) i = stepM xs E s (reachM xs E l i) := by simp [reachM, List.foldl_append]
theorem stepM_bit {xs : List Int} {E : EnS} {s : Sy} {y j : Nat} : (stepM xs E s y).testBit j = true ↔ ∃ p, p < 32 ∧ y.testBit p = true ∧ (cOf xs E s p).testBit j = true := gath_bit _ _ _ _
structure SndE (rules : List Ru) (xs : List Int) (E : EnS) : Prop where
  snd : ∀ N i j, (E N i).testBit j = true → i ≤ j ∧ j ≤ xs.length ∧ Dv rules [(false, N)] (part xs i j)
section
variable {rules : List Ru} {xs : List Int} {E : EnS}
theorem SndE.start (rules : List Ru) (xs : List Int) : SndE rules xs (fun _ _ => 0) := ⟨fun _ _ _ h => by simp at h⟩
theorem lt_of_bits {n x : Nat} (h : ∀ j, x.testBit j = true → j ≤ n) : x < 2 ^ (n + 1) :=
  Nat.lt_pow_two_of_testBit x fun j hj => by
    cases hb : x.testBit j with
    | false => rfl
    | true => have := h j hb; omega
theorem SndE.lt (h : SndE rules xs E) (N i : Nat) : E N i < 2 ^ (xs.length + 1) := lt_of_bits fun j hj => (h.snd N i j hj).2.1
theorem SndE.reach (h : SndE rules xs E) (l : List Sy) {i : Nat} (hi : i ≤ xs.length) : ∀ j, (reachM xs E l i).testBit j = true → i ≤ j ∧ j ≤ xs.length ∧ Dv rules l (part xs i j) := by
  induction l using snoc_induction with
  | h0 =>
    intro j hj
    simp only [reachM, List.foldl_nil, Nat.testBit_two_pow, decide_eq_true_eq] at hj
    subst hj
    exact ⟨Nat.le_refl _, hi, by rw [part_same]; exact .nil⟩
  | hs l s ih =>
    intro j hj
    rw [reachM_snoc, stepM_bit] at hj
    obtain ⟨p, hp, h1, h2⟩ := hj
    obtain ⟨h3, h4, h5⟩ := ih p h1
    obtain ⟨b, t⟩ := s
    cases b with
    | false =>
      simp only [cOf, Bool.false_eq_true, if_false] at h2
      obtain ⟨h6, h7, h8⟩ := h.snd _ _ _ h2
      exact ⟨by omega, h7, by rw [← part_append h3 h6]; exact h5.append h8⟩
    | true =>
      simp only [cOf, if_true] at h2
      by_cases hx : xs[p]? = some (t : Int)
      · rw [if_pos hx, Nat.testBit_two_pow, decide_eq_true_eq] at h2
        subst h2
        have hl := (List.getElem?_eq_some_iff.1 hx).1
        refine ⟨by omega, by omega, ?_⟩
        rw [← part_append h3 (Nat.le_succ p)]
        have e : part xs p (p + 1) = [(t : Int)] := gpart_at hx
        rw [e]
        exact h5.append (Dv.letter t)
      · rw [if_neg hx] at h2; simp at h2
theorem SndE.put (h : SndE rules xs E) {r : Ru} (hr : r ∈ rules) {i : Nat} (hi : i ≤ xs.length) : SndE rules xs (fun N k => if N = r.1 ∧ k = i then E r.1 i ||| reachM xs E r.2 i else E N k) := by
  refine ⟨fun N k j hj => ?_⟩
  by_cases e : N = r.1 ∧ k = i
  · obtain ⟨rfl, rfl⟩ := e
    rw [if_pos ⟨rfl, rfl⟩, Nat.testBit_or, Bool.or_eq_true] at hj
    rcases hj with hj | hj
    · exact h.snd _ _ _ hj
    · obtain ⟨h1, h2, h3⟩ := h.reach r.2 hi j hj
      exact ⟨h1, h2, Dv.one hr h3⟩
  · rw [if_neg e] at hj; exact h.snd _ _ _ hj
/-- nothing more is found -/
def FixE (rules : List Ru) (xs : List Int) (E : EnS) : Prop := ∀ r ∈ rules, ∀ i, i ≤ xs.length → ∀ j, (reachM xs E r.2 i).testBit j = true → (E r.1 i).testBit j = true
theorem FixE.all (hf : FixE rules xs E) (hl : xs.length < 32) {l : List Sy} {v : List Int} (h : Dv rules l v) : ∀ i j, i ≤ j → j ≤ xs.length → v = part xs i j → ∀ l0 a, (reachM xs E l0 a).testBit i = true → (reachM xs E (l0 ++ l) a).testBit j = true := by
  induction h with
  | nil =>
    intro i j h1 h2 e l0 a ha
    have := part_len (i := i) h2
    rw [← e] at this
    simp at this
    obtain rfl : i = j := by omega
    simpa using ha
  | @term t l v h ih =>
    intro i j h1 h2 e l0 a ha
    obtain ⟨m, m1, m2, e1, e2⟩ := part_split (p1 := [(t : Int)]) h1 h2 e.symm
    have hm : m = i + 1 := by
      have := part_len (w := xs) (i := i) (j := m) (by omega)
      rw [e1] at this; simp at this; omega
    subst hm
    have hx : xs[i]? = some (t : Int) := gpart_one e1
    have := ih (i + 1) j m2 h2 e2.symm (l0 ++ [(true, t)]) a (by
      rw [reachM_snoc, stepM_bit]
      exact ⟨i, by omega, ha, by simp [cOf, hx]⟩)
    simpa using this
  | @non N rhs l u v hr hu hv ih1 ih2 =>
    intro i j h1 h2 e l0 a ha
    obtain ⟨m, m1, m2, e1, e2⟩ := part_split h1 h2 e.symm
    have h3 := ih1 i m m1 (by omega) e1.symm [] i (by simp [reachM])
    have h4 : (E N i).testBit m = true := hf _ hr i (by omega) m (by simpa using h3)
    have := ih2 m j m2 h2 e2.symm (l0 ++ [(false, N)]) a (by
      rw [reachM_snoc, stepM_bit]
      exact ⟨i, by omega, ha, by simpa [cOf] using h4⟩)
    simpa using this
theorem ends_iff (hs : SndE rules xs E) (hf : FixE rules xs E) (hl : xs.length < 32) (N : Nat) : (E N 0).testBit xs.length = true ↔ Dv rules [(false, N)] xs := by
  constructor
  · intro h
    have := (hs.snd N 0 _ h).2.2
    rwa [part_all] at this
  · intro h
    have := hf.all hl h 0 xs.length (Nat.zero_le _) (Nat.le_refl _) (part_all xs).symm [] 0 (by simp [reachM])
    rw [List.nil_append, show [(false, N)] = [] ++ [((false, N) : Sy)] from rfl, reachM_snoc, stepM_bit] at this
    obtain ⟨p, hp, h1, h2⟩ := this
    simp only [reachM, List.foldl_nil, Nat.testBit_two_pow, decide_eq_true_eq] at h1
    subst h1
    simpa [cOf] using h2
end

/-! ### how much is still to be found -/
def totE (nons n : Nat) (E : EnS) : Nat := sumTo (fun N => sumTo (fun i => 8192 - E N i) (n + 1)) nons
theorem totE_lt {nons n : Nat} {E : EnS} {N i y : Nat} (hN : N < nons) (hi : i ≤ n) (h : E N i < y) (hy : y ≤ 8192) : totE nons n (fun a b => if a = N ∧ b = i then y else E a b) < totE nons n E := by
  have key : ∀ a b, 8192 - (if a = N ∧ b = i then y else E a b) ≤ 8192 - E a b := fun a b => by
    by_cases e : a = N ∧ b = i
    · obtain ⟨rfl, rfl⟩ := e; rw [if_pos ⟨rfl, rfl⟩]; omega
    · rw [if_neg e]; exact Nat.le_refl _
  refine sumTo_lt (k := N) (fun a => sumTo_le _ fun b => key a b) hN (sumTo_lt (k := i) (fun b => key N b) (by omega) ?_)
  show 8192 - (if N = N ∧ i = i then y else E N i) < 8192 - E N i
  rw [if_pos ⟨rfl, rfl⟩]; omega
theorem or_lt_of {e x : Nat} (h : x &&& (4294967295 - e) ≠ 0) (he : e < 4294967296) : e < e ||| x := by
  have h1 : e ≤ e ||| x := Nat.left_le_or
  rcases Nat.lt_or_eq_of_le h1 with h2 | h2
  · exact h2
  · exfalso
    apply h
    apply Nat.eq_of_testBit_eq
    intro j
    rw [Nat.zero_testBit, Nat.testBit_and, show 4294967295 - e = 2 ^ 32 - (e + 1) by omega, Nat.testBit_two_pow_sub_succ (by omega)]
    have h3 : (e ||| x).testBit j = e.testBit j := by rw [← h2]
    rw [Nat.testBit_or] at h3
    cases hx : x.testBit j with
    | false => rfl
    | true =>
      rw [hx, Bool.or_true] at h3
      rw [← h3]; simp
theorem sub_of {e x : Nat} (h : x &&& (4294967295 - e) = 0) (he : e < 4294967296) (hx : x < 4294967296) (j : Nat) (hj : x.testBit j = true) : e.testBit j = true := by
  have h1 : (x &&& (4294967295 - e)).testBit j = false := by rw [h]; simp
  rw [Nat.testBit_and, show 4294967295 - e = 2 ^ 32 - (e + 1) by omega, Nat.testBit_two_pow_sub_succ (by omega), hj] at h1
  have hjl : j < 32 := by
    rcases Nat.lt_or_ge j 32 with h2 | h2
    · exact h2
    · have := Nat.testBit_lt_two_pow (x := x) (i := j) (Nat.lt_of_lt_of_le hx (by
        have := Nat.pow_le_pow_right (n := 2) (by omega) h2
        omega))
      rw [this] at hj; cases hj
  simpa [hjl] using h1
end Go.Proofs.YtbfcnfgkccgbiaaGreatDoor






namespace Go.Proofs.YtbfcnfgkccgbiaaGreatDoor
open Go.RowKit Go.Shelf
def laysTz_ren : Go.Shelf.Ren := ⟨fun | 28 => 135 | n => n, fun | 27 => 58 | 3 => 3 | 4 => 4 | 25 => 132 | 53 => 218 | 0 => 0 | 5 => 5 | n => n, fun | 0 => 0 | n => n⟩
theorem laysTz : Go.Proofs.Lays7.n28 Tryz.prog laysTz_ren := {
  mixed := by kernel_rfl
  f28 := Tryz.func135.trans (congrArg some (by kernel_rfl))
  t0 := Tryz.underlying0
  a0 := Tryz.isAgg0
  z0 := Tryz.sizeOf0
  v0 := Tryz.zeroValue0
  i0 := by kernel_rfl
  t3 := Tryz.underlying3
  a3 := Tryz.isAgg3
  z3 := Tryz.sizeOf3
  v3 := Tryz.zeroValue3
  i3 := by kernel_rfl
  t4 := Tryz.underlying4
  a4 := Tryz.isAgg4
  z4 := Tryz.sizeOf4
  v4 := Tryz.zeroValue4
  i4 := by kernel_rfl
  t5 := Tryz.underlying5
  a5 := Tryz.isAgg5
  z5 := Tryz.sizeOf5
  v5 := Tryz.zeroValue5
  i5 := by kernel_rfl
  t25 := Tryz.underlying132
  a25 := Tryz.isAgg132
  z25 := Tryz.sizeOf132
  v25 := Tryz.zeroValue132
  i25 := by kernel_rfl
  t27 := Tryz.underlying58
  a27 := Tryz.isAgg58
  z27 := Tryz.sizeOf58
  v27 := Tryz.zeroValue58
  i27 := by kernel_rfl
  t53 := Tryz.underlying218
  a53 := Tryz.isAgg218
  z53 := Tryz.sizeOf218
  v53 := Tryz.zeroValue218
  i53 := by kernel_rfl
  g0 := by kernel_rfl }
def TabW (w : World) : Prop := TabAt 0 Lib.deBruijn32tab w
theorem tz_c (x : Nat) (hx : x < 4294967296) (w : World) (hT : TabW w) :
    Calls Tryz.prog 135 #[.int .u32 x] w fun e w' => e = .returned (.int .i64 (Lib.ctz 32 x)) ∧ w' = w :=
  Any7.bits_TrailingZeros32 laysTz x hx w (fun _ => hT)

theorem stepM_le {xs : List Int} {E : EnS} {s : Sy} {y j : Nat} (hE : ∀ a p, E a p < 2 ^ (xs.length + 1)) (h : (stepM xs E s y).testBit j = true) : j ≤ xs.length := by
  obtain ⟨p, hp, h1, h2⟩ := stepM_bit.1 h
  obtain ⟨b, t⟩ := s
  cases b with
  | false =>
    simp only [cOf, Bool.false_eq_true, if_false] at h2
    rcases Nat.lt_or_ge j (xs.length + 1) with h3 | h3
    · omega
    · have := Nat.testBit_lt_two_pow (x := E t p) (i := j) (Nat.lt_of_lt_of_le (hE t p) (Nat.pow_le_pow_right (by omega) h3))
      rw [this] at h2; cases h2
  | true =>
    simp only [cOf, if_true] at h2
    by_cases hx : xs[p]? = some (t : Int)
    · rw [if_pos hx, Nat.testBit_two_pow, decide_eq_true_eq] at h2
      have hl := (List.getElem?_eq_some_iff.1 hx).1
      omega
    · rw [if_neg hx] at h2; simp at h2
theorem reachM_lt {xs : List Int} {E : EnS} (hE : ∀ a p, E a p < 2 ^ (xs.length + 1)) {i : Nat} (hi : i ≤ xs.length) (l : List Sy) : reachM xs E l i < 2 ^ (xs.length + 1) := by
  induction l using snoc_induction with
  | h0 => exact Nat.pow_lt_pow_right (by omega) (by omega)
  | hs l s ih => rw [reachM_snoc]; exact lt_of_bits fun j hj => stepM_le hE hj
theorem pow13 {n : Nat} (h : n ≤ 12) : 2 ^ (n + 1) ≤ 8192 := Nat.le_trans (Nat.pow_le_pow_right (by omega) (show n + 1 ≤ 13 by omega)) (by omega)

/-! ### the table of ends in memory -/
structure EnR (w : World) (ob N n : Nat) (rb : Nat → Nat) (E : EnS) : Prop where
  top : ∃ C : Array Value, Blk w ob 57 C ∧ ∀ a, a < N → C[a]? = some (.slice (some ⟨rb a, 0, none⟩) (n + 1) (n + 1))
  row : ∀ a, a < N → ∃ C : Array Value, Blk w (rb a) 58 C ∧ C.size = n + 1 ∧ ∀ i, i ≤ n → C[i]? = some (.int .u32 (E a i : Int))
  inj : ∀ a a', a < N → a' < N → rb a = rb a' → a = a'
  ne : ∀ a, a < N → ob ≠ rb a
section
variable {w w' : World} {ob N n : Nat} {rb : Nat → Nat} {E : EnS}
theorem EnR.via (h : EnR w ob N n rb E) (k : Below w.heap.size w w') : EnR w' ob N n rb E := by
  obtain ⟨⟨C, h1, h2⟩, h3, h4, h5⟩ := h
  exact ⟨⟨C, h1.via k, h2⟩, fun a ha => by obtain ⟨D, d1, d2, d3⟩ := h3 a ha; exact ⟨D, d1.via k, d2, d3⟩, h4, h5⟩
theorem EnR.cell1 (h : EnR w ob N n rb E) {a : Nat} (ha : a < N) : w.cell? ⟨ob, a, none⟩ = some (.slice (some ⟨rb a, 0, none⟩) (n + 1) (n + 1)) := by
  obtain ⟨⟨C, h1, h2⟩, _⟩ := h
  exact (h1.cell a).trans (h2 a ha)
theorem EnR.cell2 (h : EnR w ob N n rb E) {a i : Nat} (ha : a < N) (hi : i ≤ n) : w.cell? ⟨rb a, i, none⟩ = some (.int .u32 (E a i : Int)) := by
  obtain ⟨D, d1, d2, d3⟩ := h.row a ha
  exact (d1.cell i).trans (d3 i hi)
theorem EnR.frozen (h : EnR w ob N n rb E) {a : Nat} (ha : a < N) (i : Nat) : w.frozen? ⟨rb a, i, none⟩ = false := by
  obtain ⟨D, d1, d2, d3⟩ := h.row a ha
  exact d1.frozen i
theorem EnR.put (h : EnR w ob N n rb E) {a i : Nat} (ha : a < N) (hi : i ≤ n) (y : Nat) : EnR (w.setCell ⟨rb a, i, none⟩ (.int .u32 (y : Int))) ob N n rb (fun N k => if N = a ∧ k = i then y else E N k) := by
  obtain ⟨⟨C, h1, h2⟩, h3, h4, h5⟩ := h
  refine ⟨⟨C, (Below.heap_setCell _ _ _ _ (by show ob ≠ rb a; exact h5 a ha)).trans h1, h2⟩, fun b hb => ?_, h4, h5⟩
  by_cases e : b = a
  · subst e
    obtain ⟨D, d1, d2, d3⟩ := h3 b hb
    refine ⟨_, d1.set_ i (.int .u32 (y : Int)), by simp [d2], fun k hk => ?_⟩
    rw [Array.getElem?_setIfInBounds]
    by_cases e2 : k = i
    · subst e2; rw [if_pos rfl, if_pos (by omega), if_pos ⟨rfl, rfl⟩]
    · rw [if_neg (Ne.symm e2), if_neg (fun h => e2 h.2)]; exact d3 k hk
  · obtain ⟨D, d1, d2, d3⟩ := h3 b hb
    refine ⟨D, (Below.heap_setCell _ _ _ _ (by show rb b ≠ rb a; exact fun h => e (h4 b a hb ha h))).trans d1, d2, fun k hk => ?_⟩
    rw [if_neg (fun h => e h.1)]; exact d3 k hk
end
theorem TabW.via {w w' : World} (h : TabW w) (k : Below w.heap.size w w') : TabW w' := fun j hj => by
  have := h j hj
  exact (k.cell (p := ⟨0, j, none⟩) (World.block_lt_of_cell? w _ this)).trans this
def ReachP (w : World) (y : Nat) (e : Ending) (w' : World) : Prop := e = .returned (.int .u32 (y : Int)) ∧ Below w.heap.size w w'
/-- a table of ends that can be read: rows anywhere -/
structure EnV (w : World) (ob oo N n : Nat) (rb ro rc : Nat → Nat) (E : EnS) : Prop where
  cell1 : ∀ {a : Nat}, a < N → w.cell? ⟨ob, oo + a, none⟩ = some (.slice (some ⟨rb a, ro a, none⟩) (n + 1) (rc a))
  cell2 : ∀ {a i : Nat}, a < N → i ≤ n → w.cell? ⟨rb a, ro a + i, none⟩ = some (.int .u32 (E a i : Int))
theorem EnV.via {w w' : World} {ob oo N n : Nat} {rb ro rc : Nat → Nat} {E : EnS} (h : EnV w ob oo N n rb ro rc E) (k : Below w.heap.size w w') : EnV w' ob oo N n rb ro rc E :=
  ⟨fun ha => (k.cell (World.block_lt_of_cell? _ _ (h.cell1 ha))).trans (h.cell1 ha), fun ha hi => (k.cell (World.block_lt_of_cell? _ _ (h.cell2 ha hi))).trans (h.cell2 ha hi)⟩
theorem EnR.view {w : World} {ob N n : Nat} {rb : Nat → Nat} {E : EnS} (h : EnR w ob N n rb E) : EnV w ob 0 N n rb (fun _ => 0) (fun _ => n + 1) E :=
  ⟨fun {a} ha => by rw [Nat.zero_add]; exact h.cell1 ha, fun {a i} ha hi => by rw [Nat.zero_add]; exact h.cell2 ha hi⟩
set_option maxRecDepth 100000 in
set_option maxHeartbeats 8000000 in
theorem reach_v (ok : Nat → Prop) (A : Option Addr) (n c ob oo N oc : Nat) (rb ro rc : Nat → Nat) (E : EnS) (B : Option Addr) (m d i : Nat) (xs : List Int) (l : List Sy) (w : World) (hx : Ints w A n c xs) (hE : EnV w ob oo N n rb ro rc E) (hl : Sl SyE ok w B m d l)
    (hs : ∀ s ∈ l, s.1 = false → s.2 < N) (hi : i ≤ n) (hn : n ≤ 12) (hm : m ≤ 1000) (hb : ∀ a p, E a p < 2 ^ (n + 1)) (hT : TabW w) :
    Calls Tryz.prog 83 #[.slice A n c, .slice (some ⟨ob, oo, none⟩) N oc, .slice B m d, .int .i64 (i : Int)] w (ReachP w (reachM xs E l i)) := by
  have hxl := hx.len
  have HX := Lib.hid hx
  have HE := Lib.hid hE
  have HL := Lib.hid hl
  have HS := Lib.hid hs
  have HT := Lib.hid hT
  have hbb : ∀ a p, E a p < 2 ^ (xs.length + 1) := by rw [hxl]; exact hb
  have HBB := Lib.hid hbb
  have HXL := Lib.hid hxl
  have p13 := pow13 hn
  have HP := Lib.hid p13
  obtain ⟨y0, hy0⟩ : ∃ y0, y0 = 2 ^ i := ⟨_, rfl⟩
  have hw0 : (2 : Int) ^ i % 4294967296 = (y0 : Int) := by
    have h1 : 2 ^ i < 2 ^ (n + 1) := Nat.pow_lt_pow_right (by omega) (by omega)
    have h2 : ((2 ^ i : Nat) : Int) = (2 : Int) ^ i := by simp
    rw [← h2, hy0]; omega
  have HY0 := Lib.hid hy0
  clear hx hE hl hs hT hb hbb hxl p13 hy0
  go_enter Tryz.func83, Tryz.ntmps83
  go_wp2_with fail
  have HR0 := Lib.hid (show y0 = reachM xs E (l.take 0) i by rw [HY0.out]; simp [reachM])
  have HM := Lib.hid HL.out.len
  have HW0 := Lib.hid hw0
  clear hw0
  go_loopw [9, 19] (fun a q wr => ∃ k y : Nat, q = .int .i64 k ∧ k ≤ m ∧ a = .int .u32 (y : Int) ∧ y = reachM xs E (l.take k) i ∧ Below w.heap.size w wr) (fun _ q _ => m - (intOf q).toNat)
  case atStart => exact ⟨0, y0, rfl, Nat.zero_le _, by rw [← HW0.out], HR0.out, Below.refl _ _⟩
  case round =>
    obtain ⟨k, y, rfl, hk, rfl, hy, hbw⟩ := hrel
    clear HR0
    by_cases hkm : k < m
    · obtain ⟨b1, o1, sx, sy, rfl, -, hbb1, hyk, hxy, hc⟩ := HL.out.at_ hkm
      obtain rfl : sx = sy := hxy
      have d0 := (hbw.cell (p := ⟨b1, o1 + k * SyE.k + 0, none⟩) hbb1).trans (hc 0 _ rfl)
      have d1 := (hbw.cell (p := ⟨b1, o1 + k * SyE.k + 1, none⟩) hbb1).trans (hc 1 _ rfl)
      simp only [SyE, Nat.add_zero] at d0 d1
      have hS := HS.out _ (List.mem_of_getElem? hyk)
      have HT2 := Lib.hid (show l.take (k + 1) = l.take k ++ [sx] by rw [List.take_add_one, hyk]; rfl)
      have i0 : (0 : Int) ≤ (k : Int) := by omega
      have i1 : (k : Int) < (m : Int) := by omega
      have hyl : y < 8192 := by
        have h1 := reachM_lt HBB.out (i := i) (by rw [HXL.out]; exact hi) (l.take k)
        rw [← hy, HXL.out] at h1
        have := HP.out; omega
      have hyn : y < 2 ^ (n + 1) := by
        have h1 := reachM_lt HBB.out (i := i) (by rw [HXL.out]; exact hi) (l.take k)
        rwa [← hy, HXL.out] at h1
      obtain ⟨sb, sn⟩ := sx
      simp only at d0 d1
      have HYR := Lib.hid hy
      have HYN := Lib.hid hyn
      have HSS := Lib.hid hS
      have HBW := Lib.hid (hbw.al (.cells #[.bool sb, .int .i64 (sn : Int)] 66))
      have Bs := Blk.new wr 66 #[.bool sb, .int .i64 (sn : Int)]
      clear hy hyk hc hS hbw hyn
      go_wp2_with fail
      clear d0 d1
      generalize wr.alloc (.cells #[.bool sb, .int .i64 (sn : Int)] 66) = W2 at *
      generalize wr.heap.size = bs at *
      have HBs := Lib.hid Bs
      clear Bs
      have HG0 := Lib.hid (show 0 ||| gath (cOf xs E (sb, sn)) 32 y = stepM xs E (sb, sn) y by simp [stepM])
      obtain ⟨wo, rfl⟩ : ∃ wo : World, wo = wr := ⟨_, rfl⟩
      go_loopw [12, 13] (fun a b wr => ∃ N1 X : Nat, a = .int .u32 (N1 : Int) ∧ b = .int .u32 (X : Int) ∧ N1 < 2 ^ (n + 1) ∧ X < 2 ^ (n + 1) ∧ N1 ||| gath (cOf xs E (sb, sn)) 32 X = stepM xs E (sb, sn) y ∧ Below W2.heap.size W2 wr) (fun _ b _ => (intOf b).toNat)
      case atStart => exact ⟨0, y, rfl, rfl, Nat.pos_of_ne_zero (by simp), HYN.out, HG0.out, Below.refl _ _⟩
      case round =>
        obtain ⟨N1, X, rfl, rfl, hN1, hX, hg, hb2⟩ := hrel
        clear HG0
        by_cases hX0 : X = 0
        · subst hX0
          have HR := Lib.hid (show N1 = reachM xs E (l.take (k + 1)) i by
            rw [HT2.out, reachM_snoc, ← HYR.out, ← hg, gath_zero, Nat.or_zero])
          have HBF := Lib.hid (HBW.out.trans (hb2.mono (by have := HBW.out.size; omega)))
          clear hg hb2 hN1 hX
          go_wp2_with fail
          exact ⟨⟨k + 1, N1, by go_num, by omega, rfl, HR.out, HBF.out⟩, by simp [intOf]; omega⟩
        · have hX8 : X < 8192 := by have := HP.out; omega
          have hN8 : N1 < 8192 := by have := HP.out; omega
          have e0 : ((X : Int) == 0) = false := by simp; omega
          obtain ⟨p, hp, hp32, hlow, hbit⟩ := low_bit hX0 (by omega)
          have hst := gath_step (cOf xs E (sb, sn)) hX0 (by omega)
          rw [← hp] at hst
          have hpn : p ≤ n := by
            rcases Nat.lt_or_ge p (n + 1) with h | h
            · omega
            · have h1 := (hbit p).2 (Or.inl rfl)
              have h2 := Nat.testBit_lt_two_pow (x := X) (i := p) (Nat.lt_of_lt_of_le hX (Nat.pow_le_pow_right (by omega) h))
              rw [h2] at h1; cases h1
          have hg2 : (N1 ||| cOf xs E (sb, sn) p) ||| gath (cOf xs E (sb, sn)) 32 (X &&& (X - 1)) = stepM xs E (sb, sn) y := by
            rw [Nat.or_assoc, ← hst]; exact hg
          have hX2 : X &&& (X - 1) < 2 ^ (n + 1) := Nat.lt_trans hlow hX
          have hC : cOf xs E (sb, sn) p < 2 ^ (n + 1) := by
            cases sb with
            | false => simpa [cOf, HXL.out] using HBB.out sn p
            | true =>
              simp only [cOf, if_true]
              split
              · rename_i h
                have := (List.getElem?_eq_some_iff.1 h).1
                exact Nat.pow_lt_pow_right (by omega) (by have := HXL.out; omega)
              · exact Nat.pos_of_ne_zero (by simp)
          have hN2 := Nat.or_lt_two_pow hN1 hC
          have a1 : IntKind.u32.wrap ((X : Int) - 1) = ((X - 1 : Nat) : Int) := by rw [IntKind.wrap_u32']; omega
          have a2 : bits .and .u32 (X : Int) ((X - 1 : Nat) : Int) = ((X &&& (X - 1) : Nat) : Int) := u32_and_nat _ _ (by omega) (by omega)
          obtain ⟨X2, hX2e⟩ : ∃ X2, X2 = X &&& (X - 1) := ⟨_, rfl⟩
          rw [← hX2e] at hlow hg2 hX2 a2
          have HG2 := Lib.hid hg2
          have HX2 := Lib.hid hX2
          have HLOW := Lib.hid hlow
          have HCC := Lib.hid hC
          have HN2 := Lib.hid hN2
          have HB2 := Lib.hid hb2
          clear hst hg hbit hX2e hg2 hX2 hC hN2 hb2 hX hN1
          go_wp2_with fail
          refine (tz_c X (by omega) wr (HT.out.via (HBW.out.trans (HB2.out.mono (by have := HBW.out.size; omega))))).mono ?_
          rintro e w' ⟨rfl, rfl⟩
          rw [← hp]
          clear hp
          have hbw' := HBW.out.trans (HB2.out.mono (by have := HBW.out.size; omega))
          have Bs := HBs.out.via HB2.out
          have p0 : (0 : Int) ≤ (p : Int) := by omega
          have a1' : ((X : Int) - 1) % 4294967296 = ((X - 1 : Nat) : Int) := by omega
          cases sb with
          | false =>
            have hsn := HSS.out rfl
            have he' := HE.out.via hbw'
            have t1 := he'.cell1 hsn
            have t2 := he'.cell2 hsn hpn
            have hc : cOf xs E (false, sn) p = E sn p := by simp [cOf]
            have hcc := HCC.out
            rw [hc] at hcc
            have o1 : bits .or .u32 (N1 : Int) (E sn p : Int) = ((N1 ||| E sn p : Nat) : Int) := u32_or_nat _ _ (by omega) (by have := HP.out; omega)
            have p1 : (p : Int) < (n : Int) + 1 := by omega
            have p2 : (0 : Int) ≤ (sn : Int) := by omega
            have p3 : (sn : Int) < (N : Int) := by omega
            have HGF := Lib.hid (show (N1 ||| E sn p) ||| gath (cOf xs E (false, sn)) 32 X2 = stepM xs E (false, sn) y by rw [← hc]; exact HG2.out)
            have HNF := Lib.hid (show N1 ||| E sn p < 2 ^ (n + 1) by rw [← hc]; exact HN2.out)
            clear he' hc hcc hbw'
            have cBs := Bs.cell
            have fBs := Bs.frozen
            have lBs := Bs.lt
            go_wp2_with fail
            exact ⟨⟨N1 ||| E sn p, X2, rfl, rfl, HNF.out, HX2.out, HGF.out, HB2.out⟩, by simp [intOf]; exact HLOW.out⟩
          | true =>
            by_cases hpx : p < n
            · obtain ⟨b9, off9, rfl, hb9, hx9⟩ := (HX.out.keep hbw' (Nat.le_refl _)).at_ hpx
              have hxe : xs[p]? = some (xs.getD p 0) := by
                have := HXL.out
                rw [List.getD_eq_getElem?_getD, List.getElem?_eq_getElem (by omega)]; rfl
              generalize xs.getD p 0 = x at *
              have p1 : (p : Int) < (n : Int) := by omega
              have g1 : decide (p < n) = true := by simpa using hpx
              by_cases e : x = (sn : Int)
              · have hc : cOf xs E (true, sn) p = 2 ^ (p + 1) := by simp [cOf, hxe, e]
                have e1 : (x == (sn : Int)) = true := by simpa using e
                have hcc := HCC.out
                rw [hc] at hcc
                obtain ⟨q, hq⟩ : ∃ q, q = 2 ^ (p + 1) := ⟨_, rfl⟩
                have HGF := Lib.hid (show (N1 ||| q) ||| gath (cOf xs E (true, sn)) 32 X2 = stepM xs E (true, sn) y by rw [hq, ← hc]; exact HG2.out)
                have HNF := Lib.hid (show N1 ||| q < 2 ^ (n + 1) by rw [hq, ← hc]; exact HN2.out)
                have s1 : (2 : Int) ^ (p + 1) % 4294967296 = (q : Int) := by
                  have h2 : ((2 ^ (p + 1) : Nat) : Int) = (2 : Int) ^ (p + 1) := by simp
                  rw [← h2, hq]; have := HP.out; omega
                have o1 : bits .or .u32 (N1 : Int) (q : Int) = ((N1 ||| q : Nat) : Int) := u32_or_nat _ _ (by omega) (by rw [hq]; have := HP.out; omega)
                have k1 : IntKind.i64.wrap ((p : Int) + 1) = (p : Int) + 1 := IntWalk.i64_in _ (by omega)
                clear hc hcc hxe hq e
                have cBs := Bs.cell
                have fBs := Bs.frozen
                have lBs := Bs.lt
                go_upto_region 12 with fail
                go_quiet (fail)
                have HB3 := Lib.hid (below_drewN HB2.out nq)
                clear hx9 cBs fBs lBs
                go_wp2_with fail
                exact ⟨⟨N1 ||| q, X2, rfl, rfl, HNF.out, HX2.out, HGF.out, HB3.out⟩, by simp [intOf]; exact HLOW.out⟩
              · have hc : cOf xs E (true, sn) p = 0 := by simp [cOf, hxe, e]
                have e1 : (x == (sn : Int)) = false := by simpa using e
                have HGF := Lib.hid (show N1 ||| gath (cOf xs E (true, sn)) 32 X2 = stepM xs E (true, sn) y by have := HG2.out; rwa [hc, Nat.or_zero] at this)
                have HNF := Lib.hid (show N1 < 2 ^ (n + 1) by have := HN2.out; rwa [hc, Nat.or_zero] at this)
                clear hc hxe e
                have cBs := Bs.cell
                have fBs := Bs.frozen
                have lBs := Bs.lt
                go_upto_region 12 with fail
                go_quiet (fail)
                have HB3 := Lib.hid (below_drewN HB2.out nq)
                clear hx9 cBs fBs lBs
                go_wp2_with fail
                exact ⟨⟨N1, X2, rfl, rfl, HNF.out, HX2.out, HGF.out, HB3.out⟩, by simp [intOf]; exact HLOW.out⟩
            · have g1 : decide (p < n) = false := by simpa using hpx
              have hc : cOf xs E (true, sn) p = 0 := by
                have : xs[p]? = none := List.getElem?_eq_none (by have := HXL.out; omega)
                simp [cOf, this]
              have HGF := Lib.hid (show N1 ||| gath (cOf xs E (true, sn)) 32 X2 = stepM xs E (true, sn) y by have := HG2.out; rwa [hc, Nat.or_zero] at this)
              have HNF := Lib.hid (show N1 < 2 ^ (n + 1) by have := HN2.out; rwa [hc, Nat.or_zero] at this)
              clear hc
              have cBs := Bs.cell
              have fBs := Bs.frozen
              have lBs := Bs.lt
              go_upto_region 12 with fail
              go_quiet (fail)
              have HB3 := Lib.hid (below_drewN HB2.out nq)
              clear cBs fBs lBs
              go_wp2_with fail
              exact ⟨⟨N1, X2, rfl, rfl, HNF.out, HX2.out, HGF.out, HB3.out⟩, by simp [intOf]; exact HLOW.out⟩
    · obtain rfl : k = m := by omega
      have HF := Lib.hid (show y = reachM xs E l i by rw [hy, List.take_of_length_le (by rw [HM.out]; exact Nat.le_refl _)])
      have HBF := Lib.hid hbw
      clear hy hbw
      go_wp2_with fail
      go_ret
      exact ⟨by rw [HF.out]; rfl, HBF.out⟩
theorem reach_c (ok : Nat → Prop) (A : Option Addr) (n c ob N : Nat) (rb : Nat → Nat) (E : EnS) (B : Option Addr) (m d i : Nat) (xs : List Int) (l : List Sy) (w : World) (hx : Ints w A n c xs) (hE : EnR w ob N n rb E) (hl : Sl SyE ok w B m d l)
    (hs : ∀ s ∈ l, s.1 = false → s.2 < N) (hi : i ≤ n) (hn : n ≤ 12) (hm : m ≤ 1000) (hb : ∀ a p, E a p < 2 ^ (n + 1)) (hT : TabW w) :
    Calls Tryz.prog 83 #[.slice A n c, .slice (some ⟨ob, 0, none⟩) N N, .slice B m d, .int .i64 (i : Int)] w (ReachP w (reachM xs E l i)) :=
  reach_v ok A n c ob 0 N N rb _ _ E B m d i xs l w hx hE.view hl hs hi hn hm hb hT
end Go.Proofs.YtbfcnfgkccgbiaaGreatDoor




namespace Go.Proofs.YtbfcnfgkccgbiaaGreatDoor
open Go.RowKit

theorem u32s_info : (Tryz.prog.info? 57).map (fun i => (i.zero, i.size, i.bytes)) = some (some (.slice none 0 0), 1, 24) := by kernel_rfl
theorem u32_info : (Tryz.prog.info? 58).map (fun i => (i.zero, i.size, i.bytes)) = some (some (.int .u32 0), 1, 4) := by kernel_rfl
theorem mk_u32s (n : Nat) (hn : n ≤ 1000000) : ∀ w : World, (Instr.makeSlice 56 (.int .i64 (n : Int)) (.int .i64 (n : Int))).run Tryz.prog w = .ok (.slice (some ⟨w.heap.size, 0, none⟩) n n) (w.alloc (.cells (mkCells (.slice none 0 0) n) 57)) := by
  intro w
  obtain ⟨i, hi, hz, hs, hb⟩ := info_parts u32s_info
  have := run_make (P := Tryz.prog) w 56 57 i _ Tryz.underlying56 hi hz .i64 .i64 (n : Int) (n : Int) (by omega) (by omega) (by rw [hb]; omega) (by omega)
  rw [Int.toNat_natCast, hs, Nat.mul_one] at this
  exact this
theorem mk_u32 (n : Nat) (hn : n ≤ 1000000) : ∀ w : World, (Instr.makeSlice 57 (.int .i64 ((n : Int) + 1)) (.int .i64 ((n : Int) + 1))).run Tryz.prog w = .ok (.slice (some ⟨w.heap.size, 0, none⟩) (n + 1) (n + 1)) (w.alloc (.cells (mkCells (.int .u32 0) (n + 1)) 58)) := by
  intro w
  obtain ⟨i, hi, hz, hs, hb⟩ := info_parts u32_info
  have := run_make (P := Tryz.prog) w 57 58 i _ Tryz.underlying57 hi hz .i64 .i64 ((n : Int) + 1) ((n : Int) + 1) (by omega) (by omega) (by rw [hb]; omega) (by omega)
  rw [show ((n : Int) + 1).toNat = n + 1 from by omega, hs, Nat.mul_one] at this
  exact this
/-- the first k rows are made -/
structure EJ (w : World) (ob N n k : Nat) (rb : Nat → Nat) (gcs : Array Value) (wr : World) : Prop where
  top : ∃ C : Array Value, Blk wr ob 57 C ∧ C.size = N ∧ ∀ a, a < k → C[a]? = some (.slice (some ⟨rb a, 0, none⟩) (n + 1) (n + 1))
  row : ∀ a, a < k → Blk wr (rb a) 58 (mkCells (.int .u32 0) (n + 1))
  lo : ∀ a, a < k → ob < rb a ∧ rb a < wr.heap.size
  inj : ∀ a a', a < k → a' < k → rb a = rb a' → a = a'
  hg : Blk wr w.heap.size 24 gcs
  l0 : w.heap.size < ob
  bel : Below w.heap.size w wr
section
variable {w wr : World} {ob N n k : Nat} {rb : Nat → Nat} {gcs : Array Value}
theorem EJ.next (h : EJ w ob N n k rb gcs wr) (hk : k < N) : EJ w ob N n (k + 1) (fun a => if a = k then wr.heap.size else rb a) gcs ((wr.alloc (.cells (mkCells (.int .u32 0) (n + 1)) 58)).setCell ⟨ob, k, none⟩ (.slice (some ⟨wr.heap.size, 0, none⟩) (n + 1) (n + 1))) := by
  obtain ⟨⟨C, c1, c2, c3⟩, h2, h3, h4, h5, h6, h7⟩ := h
  have hob := c1.lt
  have hgl := h5.lt
  refine ⟨⟨_, (c1.al (.cells (mkCells (.int .u32 0) (n + 1)) 58)).set_ k (.slice (some ⟨wr.heap.size, 0, none⟩) (n + 1) (n + 1)), by simp [c2], fun a ha => ?_⟩, fun a ha => ?_, fun a ha => ?_, fun a a' ha ha' e => ?_, ?_, h6, ?_⟩
  · rw [Array.getElem?_setIfInBounds]
    by_cases e : a = k
    · subst e; rw [if_pos rfl, if_pos (by omega), if_pos rfl]
    · rw [if_neg (Ne.symm e), if_neg e]; exact c3 a (by omega)
  · by_cases e : a = k
    · subst e; rw [if_pos rfl]
      exact (Blk.new wr 58 (mkCells (.int .u32 0) (n + 1))).far (p := ⟨ob, a, none⟩) (by show wr.heap.size ≠ ob; omega) _
    · rw [if_neg e]
      have hl := h3 a (by omega)
      exact ((h2 a (by omega)).al _).far (p := ⟨ob, k, none⟩) (by show rb a ≠ ob; omega) _
  · rw [World.size_setCell, World.size_alloc]
    by_cases e : a = k
    · subst e; rw [if_pos rfl]; omega
    · rw [if_neg e]; have := h3 a (by omega); omega
  · by_cases e1 : a = k <;> by_cases e2 : a' = k
    · omega
    · rw [if_pos e1, if_neg e2] at e; have := (h3 a' (by omega)).2; omega
    · rw [if_neg e1, if_pos e2] at e; have := (h3 a (by omega)).2; omega
    · rw [if_neg e1, if_neg e2] at e; exact h4 a a' (by omega) (by omega) e
  · exact (h5.al _).far (p := ⟨ob, k, none⟩) (by show w.heap.size ≠ ob; omega) _
  · exact (h7.al _).setCell (p := ⟨ob, k, none⟩) (by show w.heap.size ≤ ob; omega) _
theorem EJ.fin (h : EJ w ob N n N rb gcs wr) : EnR wr ob N n rb (fun _ _ => 0) := by
  obtain ⟨⟨C, c1, c2, c3⟩, h2, h3, h4, h5, h6, h7⟩ := h
  refine ⟨⟨C, c1, c3⟩, fun a ha => ⟨_, h2 a ha, mkCells_size _ _, fun i hi => ?_⟩, h4, fun a ha => by have := (h3 a ha).1; omega⟩
  unfold mkCells madeCells
  rw [Array.getElem?_map, Array.getElem?_range, if_pos (by omega)]
  have e : i % 1 = 0 := by omega
  simp [e]
end
structure PrgE (xs : List Int) (nons : Nat) (E0 E : EnS) (ag : Bool) (V : Ru → Nat → Prop) : Prop where
  no : ag = false → E = E0 ∧ ∀ r i, V r i → ∀ j, (reachM xs E0 r.2 i).testBit j = true → (E0 r.1 i).testBit j = true
  yes : ag = true → totE nons xs.length E < totE nons xs.length E0
section
variable {xs : List Int} {nons : Nat} {E0 E : EnS} {ag : Bool} {V V' : Ru → Nat → Prop}
theorem PrgE.start (E : EnS) : PrgE xs nons E E false (fun _ _ => False) := ⟨fun _ => ⟨rfl, fun _ _ h => h.elim⟩, fun h => by (cases h)⟩
theorem PrgE.mono (h : PrgE xs nons E0 E ag V) (hV : ∀ r i, V' r i → V r i) : PrgE xs nons E0 E ag V' := ⟨fun ha => ⟨(h.no ha).1, fun r i hv => (h.no ha).2 r i (hV r i hv)⟩, h.yes⟩
theorem PrgE.put (h : PrgE xs nons E0 E ag V) {N i y : Nat} (hN : N < nons) (hi : i ≤ xs.length) (hy : E N i < y) (h8 : y ≤ 8192) : PrgE xs nons E0 (fun a b => if a = N ∧ b = i then y else E a b) true V' := by
  refine ⟨fun h => by (cases h), fun _ => ?_⟩
  have h2 := totE_lt (E := E) hN hi hy h8
  cases ha : ag with
  | false => obtain ⟨rfl, -⟩ := h.no ha; exact h2
  | true => exact Nat.lt_trans h2 (h.yes ha)
theorem PrgE.skip (h : PrgE xs nons E0 E ag V) {r : Ru} {i : Nat} (hs : ∀ j, (reachM xs E r.2 i).testBit j = true → (E r.1 i).testBit j = true) (hV : ∀ r' i', V' r' i' → V r' i' ∨ (r' = r ∧ i' = i)) : PrgE xs nons E0 E ag V' := by
  refine ⟨fun ha => ?_, h.yes⟩
  obtain ⟨rfl, h2⟩ := h.no ha
  refine ⟨rfl, fun r' i' hv => ?_⟩
  rcases hV r' i' hv with h3 | ⟨rfl, rfl⟩
  · exact h2 r' i' h3
  · exact hs
end
def VE1 (rules : List Ru) (n k : Nat) : Ru → Nat → Prop := fun r i => (∃ k', k' < k ∧ rules[k']? = some r) ∧ i ≤ n
def VE2 (rules : List Ru) (n k : Nat) (r0 : Ru) (i0 : Nat) : Ru → Nat → Prop := fun r i => VE1 rules n k r i ∨ (r = r0 ∧ i < i0)
def EndsP (w : World) (g : Gr) (xs : List Int) (e : Ending) (w' : World) : Prop :=
  ∃ ob rb E, e = .returned (.slice (some ⟨ob, 0, none⟩) g.nons g.nons) ∧ EnR w' ob g.nons xs.length rb E ∧ SndE g.rules xs E ∧ FixE g.rules xs E ∧ Below w.heap.size w w'
set_option maxRecDepth 100000 in
set_option maxHeartbeats 8000000 in
theorem ends_c (ok : Nat → Prop) (g : Gr) (Ag : Option Addr) (ng cg : Nat) (A : Option Addr) (n c : Nat) (xs : List Int) (w : World) (hg : GrOk g) (hl : Sl RuE ok w Ag ng cg g.rules) (hx : Ints w A n c xs) (hn : n ≤ 12) (hT : TabW w) :
    Calls Tryz.prog 55 #[grVal g Ag ng cg, .slice A n c] w (EndsP w g xs) := by
  have hxl := hx.len
  have B0 := Blk.new w 24 #[.int .i64 (g.terms : Int), .int .i64 (g.nons : Int), .int .i64 (g.start : Int), .slice Ag ng cg]
  have hB := ((Below.refl w.heap.size w).al (.cells #[.int .i64 (g.terms : Int), .int .i64 (g.nons : Int), .int .i64 (g.start : Int), .slice Ag ng cg] 24))
  have HGO := Lib.hid hg
  have HL0 := Lib.hid hl
  have HX0 := Lib.hid hx
  have HT0 := Lib.hid hT
  have HXL := Lib.hid hxl
  have gn1 : g.nons ≤ 10 := hg.ok.nons.2
  have hmk := mk_u32s g.nons (by omega)
  have HJ0 := Lib.hid (show EJ w (w.heap.size + 1) g.nons n 0 (fun _ => 0) #[.int .i64 (g.terms : Int), .int .i64 (g.nons : Int), .int .i64 (g.start : Int), .slice Ag ng cg] ((w.alloc (.cells #[.int .i64 (g.terms : Int), .int .i64 (g.nons : Int), .int .i64 (g.start : Int), .slice Ag ng cg] 24)).alloc (.cells (mkCells (.slice none 0 0) g.nons) 57)) from by
    have e := Blk.new (w.alloc (.cells #[.int .i64 (g.terms : Int), .int .i64 (g.nons : Int), .int .i64 (g.start : Int), .slice Ag ng cg] 24)) 57 (mkCells (.slice none 0 0) g.nons)
    rw [World.size_alloc] at e
    exact ⟨⟨_, e, mkCells_size _ _, fun a h => by omega⟩, fun a h => by omega, fun a h => by omega, fun a a' h => by omega, B0.al _, by omega, hB.al _⟩)
  simp only [grVal]
  clear hg hl hx hT hB hxl
  go_enter Tryz.func55, Tryz.ntmps55
  have cB0 := B0.cell
  have fB0 := B0.frozen
  have lB0 := B0.lt
  go_wp2_with fail
  clear cB0 fB0 lB0
  clear hmk B0
  generalize (w.alloc (.cells #[.int .i64 (g.terms : Int), .int .i64 (g.nons : Int), .int .i64 (g.start : Int), .slice Ag ng cg] 24)).alloc (.cells (mkCells (.slice none 0 0) g.nons) 57) = W at *
  generalize hob : w.heap.size + 1 = ob at *
  clear hob
  go_loopw [17] (fun q wr => ∃ (k : Nat) (rb : Nat → Nat), q = .int .i64 k ∧ k ≤ g.nons ∧ EJ w ob g.nons n k rb #[.int .i64 (g.terms : Int), .int .i64 (g.nons : Int), .int .i64 (g.start : Int), .slice Ag ng cg] wr) (fun q _ => g.nons - (intOf q).toNat)
  case atStart => exact ⟨0, _, rfl, Nat.zero_le _, HJ0.out⟩
  case round =>
    obtain ⟨k, rb, rfl, hk, hj⟩ := hrel
    clear HJ0
    by_cases hkn : k < g.nons
    · have hmk := mk_u32 n (by omega)
      have hobl : ob < wr.heap.size := by obtain ⟨C, c1, -⟩ := hj.top; exact c1.lt
      have hjn := hj.next hkn
      rw [World.setCell_alloc_past _ ob k _ hobl] at hjn
      have HJN := Lib.hid hjn
      obtain ⟨C, C1, C2, -⟩ := hj.top
      have cR : ∃ u, wr.cell? ⟨ob, k, none⟩ = some u := ⟨C[k]'(by omega), by rw [C1.cell]; exact Array.getElem?_eq_getElem (by omega)⟩
      obtain ⟨u, cR⟩ := cR
      have fR := C1.frozen k
      have i0 : (0 : Int) ≤ (k : Int) := by omega
      have i1 : (k : Int) < (g.nons : Int) := by omega
      clear hj hjn C1 C2
      go_wp2_with fail
      exact ⟨⟨k + 1, _, by go_num, by omega, HJN.out⟩, by simp [intOf]; omega⟩
    · obtain rfl : k = g.nons := by omega
      have HE0 := Lib.hid hj.fin
      have HBG := Lib.hid hj.hg
      have HBE := Lib.hid hj.bel
      have hl0 := hj.l0
      have hlo := hj.lo
      have HLO := Lib.hid hlo
      have HSE := Lib.hid (SndE.start g.rules xs)
      clear hj hlo
      go_wp2_with fail
      go_loopg [7] (2 * totE g.nons xs.length (fun _ _ => 0) + 1) (fun gk a wx => ∃ E ag, a = .bool ag ∧ SndE g.rules xs E ∧ EnR wx ob g.nons n rb E ∧ Blk wx w.heap.size 24 #[.int .i64 (g.terms : Int), .int .i64 (g.nons : Int), .int .i64 (g.start : Int), .slice Ag ng cg] ∧ Below w.heap.size w wx ∧ (ag = false → FixE g.rules xs E) ∧ gk = 2 * totE g.nons xs.length E + (if ag then 1 else 0))
      case atStart => exact ⟨_, true, rfl, HSE.out, HE0.out, HBG.out, HBE.out, fun h => (by cases h), rfl⟩
      case round =>
        obtain ⟨E, ag, rfl, hse, her, hbg, hbe, hfx, hgk⟩ := hrel
        clear HE0 HBG HBE HSE
        cases ag with
        | false =>
          have HSE := Lib.hid hse
          have HER := Lib.hid her
          have HBE := Lib.hid hbe
          have HFX := Lib.hid (hfx rfl)
          clear hse her hbg hbe hfx hgk
          go_wp2_with fail
          go_ret
          exact ⟨ob, rb, E, rfl, by rw [HXL.out]; exact HER.out, HSE.out, HFX.out, HBE.out⟩
        | true =>
          have HSE := Lib.hid hse
          have HER := Lib.hid her
          have HBE := Lib.hid hbe
          have HBG := Lib.hid hbg
          have HGK := Lib.hid hgk
          have Bg := hbg
          clear hse her hbg hbe hfx hgk
          have cBg := Bg.cell
          have fBg := Bg.frozen
          have lBg := Bg.lt
          go_wp2_with fail
          clear cBg fBg lBg
          clear Bg
          have hng := HL0.out.len
          have hng32 : ng ≤ 32 := by have := HGO.out.ok.count; omega
          have HNG := Lib.hid hng
          clear hng
          have HPG := Lib.hid (show PrgE xs g.nons E E false (VE1 g.rules n 0) from PrgE.mono (PrgE.start E) fun r i h => by obtain ⟨⟨k', hk', _⟩, _⟩ := h; omega)
          obtain ⟨wo, rfl⟩ : ∃ wo : World, wo = wr := ⟨_, rfl⟩
          go_loopw [7, 32] (fun a q wr => ∃ (k : Nat) (E1 : EnS) (ag : Bool), q = .int .i64 k ∧ k ≤ ng ∧ a = .bool ag ∧ SndE g.rules xs E1 ∧ EnR wr ob g.nons n rb E1 ∧ Blk wr w.heap.size 24 #[.int .i64 (g.terms : Int), .int .i64 (g.nons : Int), .int .i64 (g.start : Int), .slice Ag ng cg] ∧ Below w.heap.size w wr ∧ PrgE xs g.nons E E1 ag (VE1 g.rules n k)) (fun _ q _ => ng - (intOf q).toNat)
          case atStart => exact ⟨0, E, false, rfl, Nat.zero_le _, rfl, HSE.out, HER.out, HBG.out, HBE.out, HPG.out⟩
          case round =>
            obtain ⟨k, E1, ag, rfl, hk, rfl, hse1, her1, hbg1, hbe1, hpg1⟩ := hrel
            clear HPG HSE HER HBE HBG
            by_cases hkn : k < ng
            · obtain ⟨b1, o1, ⟨sl, sA, sn, sc⟩, ⟨sl', rhs⟩, hAg, -, hbb, hy, ⟨hx1, hx2⟩, hc⟩ := HL0.out.at_ hkn
              simp only at hx1 hx2
              obtain rfl : sl = sl' := hx1
              subst hAg
              have d0 := (hbe1.cell (p := ⟨b1, o1 + k * RuE.k + 0, none⟩) hbb).trans (hc 0 _ rfl)
              have d1 := (hbe1.cell (p := ⟨b1, o1 + k * RuE.k + 1, none⟩) hbb).trans (hc 1 _ rfl)
              simp only [RuE, Nat.add_zero] at d0 d1
              have i0 : (0 : Int) ≤ (k : Int) := by omega
              have i1 : (k : Int) < (ng : Int) := by omega
              have hmem := List.mem_of_getElem? hy
              have hsl : sl < g.nons := HGO.out.ok.left _ hmem
              have HRT := Lib.hid (HGO.out.ok.right _ hmem)
              have HMEM := Lib.hid hmem
              have HY := Lib.hid hy
              have HSR := Lib.hid hx2
              have HS1 := Lib.hid hse1
              have HR1 := Lib.hid (her1.via ((Below.refl wr.heap.size wr).al (.cells #[.int .i64 (sl : Int), .slice sA sn sc] 97)))
              have HG1 := Lib.hid (hbg1.al (.cells #[.int .i64 (sl : Int), .slice sA sn sc] 97))
              have HB1 := Lib.hid (hbe1.al (.cells #[.int .i64 (sl : Int), .slice sA sn sc] 97))
              have HP1 := Lib.hid (show PrgE xs g.nons E E1 ag (VE2 g.rules n k (sl, rhs) 0) from PrgE.mono hpg1 fun r i h => by
                rcases h with h | ⟨_, h⟩
                · exact h
                · omega)
              have HBK := Lib.hid (Blk.new wr 97 #[.int .i64 (sl : Int), .slice sA sn sc])
              have HRB := Lib.hid (show ∀ a, a < g.nons → rb a < wr.heap.size from fun a ha => by
                obtain ⟨D, d1, -⟩ := her1.row a ha; exact d1.lt)
              clear hc hy hx2 hse1 her1 hbg1 hbe1 hpg1 hmem hbb
              go_wp2_with fail
              clear d0 d1
              generalize wr.alloc (.cells #[.int .i64 (sl : Int), .slice sA sn sc] 97) = W4 at *
              generalize wr.heap.size = brx at *
              obtain ⟨wp, rfl⟩ : ∃ wp : World, wp = wr := ⟨_, rfl⟩
              go_loopw [7, 39] (fun a q wr => ∃ (i : Nat) (E2 : EnS) (ag : Bool), q = .int .i64 i ∧ i ≤ n + 1 ∧ a = .bool ag ∧ SndE g.rules xs E2 ∧ EnR wr ob g.nons n rb E2 ∧ Blk wr w.heap.size 24 #[.int .i64 (g.terms : Int), .int .i64 (g.nons : Int), .int .i64 (g.start : Int), .slice (some ⟨b1, o1, none⟩) ng cg] ∧ Blk wr brx 97 #[.int .i64 (sl : Int), .slice sA sn sc] ∧ Below w.heap.size w wr ∧ PrgE xs g.nons E E2 ag (VE2 g.rules n k (sl, rhs) i)) (fun _ q _ => n + 1 - (intOf q).toNat)
              case atStart => exact ⟨0, E1, ag, rfl, Nat.zero_le _, rfl, HS1.out, HR1.out, HG1.out, HBK.out, HB1.out, HP1.out⟩
              case round =>
                obtain ⟨i, E2, ag2, rfl, hi, rfl, hse2, her2, hbg2, hbk2, hbe2, hpg2⟩ := hrel
                clear HS1 HR1 HG1 HBK HB1 HP1
                by_cases hin : i ≤ n
                · have HS2 := Lib.hid hse2
                  have HR2 := Lib.hid her2
                  have HG2 := Lib.hid hbg2
                  have HK2 := Lib.hid hbk2
                  have HB2 := Lib.hid hbe2
                  have HP2 := Lib.hid hpg2
                  have Bk := hbk2
                  clear hse2 her2 hbg2 hbk2 hbe2 hpg2
                  have cBk := Bk.cell
                  have fBk := Bk.frozen
                  have lBk := Bk.lt
                  go_wp2_with fail
                  clear cBk fBk lBk
                  clear Bk
                  refine (reach_c ok A n c ob g.nons rb E2 sA sn sc i xs rhs wr (HX0.out.keep HB2.out (Nat.le_refl _)) HR2.out (HSR.out.via HB2.out) (fun s hs hb => by have := HRT.out.2 s hs; rw [Gr.okSy, if_neg (by simp [hb])] at this; exact this) hin hn (by have := HSR.out.len; have := HRT.out.1; omega) (fun a p => by have := HS2.out.lt a p; rwa [HXL.out] at this) (HT0.out.via HB2.out)).mono ?_
                  rintro e w5 ⟨rfl, hb5⟩
                  have HR5 := Lib.hid (HR2.out.via hb5)
                  have HG5 := Lib.hid (HG2.out.via hb5)
                  have Bk := HK2.out.via hb5
                  have HK5 := Lib.hid Bk
                  have HB5 := Lib.hid (HB2.out.via hb5)
                  clear hb5 HR2 HG2 HK2 HB2
                  obtain ⟨x, hx⟩ : ∃ x, x = reachM xs E2 rhs i := ⟨_, rfl⟩
                  rw [← hx]
                  have p13 := pow13 hn
                  have hx8 : x < 8192 := by
                    have := reachM_lt (E := E2) (fun a p => HS2.out.lt a p) (i := i) (by rw [HXL.out]; exact hin) rhs
                    rw [← hx, HXL.out] at this; omega
                  have he8 : E2 sl i < 8192 := by have := HS2.out.lt sl i; rw [HXL.out] at this; omega
                  have t1 := HR5.out.cell1 hsl
                  have t2 := HR5.out.cell2 hsl hin
                  have f2 := HR5.out.frozen hsl i
                  have HX := Lib.hid hx
                  obtain ⟨D, hD⟩ : ∃ D, D = x &&& (4294967295 - E2 sl i) := ⟨_, rfl⟩
                  obtain ⟨O, hO⟩ : ∃ O, O = E2 sl i ||| x := ⟨_, rfl⟩
                  have o1 : bits .andNot .u32 (x : Int) (E2 sl i : Int) = (D : Int) := by rw [hD]; exact u32_andNot_nat _ _ (by omega) (by omega)
                  have o2 : bits .or .u32 (E2 sl i : Int) (x : Int) = (O : Int) := by rw [hO]; exact u32_or_nat _ _ (by omega) (by omega)
                  have HD := Lib.hid hD
                  have HO := Lib.hid hO
                  have j0 : (0 : Int) ≤ (i : Int) := by omega
                  have j1 : (i : Int) < (n : Int) + 1 := by omega
                  have j2 : (0 : Int) ≤ (sl : Int) := by omega
                  have j3 : (sl : Int) < (g.nons : Int) := by omega
                  clear hx hD hO p13
                  by_cases hD0 : D = 0
                  · have e0 : ((D : Int) == 0) = true := by simp [hD0]
                    have HP6 := Lib.hid (show PrgE xs g.nons E E2 ag2 (VE2 g.rules n k (sl, rhs) (i + 1)) from PrgE.skip (r := (sl, rhs)) (i := i) HP2.out (fun j hj => by
                      have hz : x &&& (4294967295 - E2 sl i) = 0 := by rw [← HD.out]; exact hD0
                      rw [← HX.out] at hj
                      exact sub_of hz (by omega) (by omega) j hj) fun r' i' h => by
                        rcases h with h | ⟨h1, h2⟩
                        · exact Or.inl (Or.inl h)
                        · by_cases e : i' = i
                          · exact Or.inr ⟨h1, e⟩
                          · exact Or.inl (Or.inr ⟨h1, by omega⟩))
                    clear HP2
                    have cBk := Bk.cell
                    have fBk := Bk.frozen
                    have lBk := Bk.lt
                    go_wp2_with fail
                    exact ⟨⟨i + 1, E2, ag2, by go_num, by omega, rfl, HS2.out, HR5.out, HG5.out, HK5.out, HB5.out, HP6.out⟩, by simp [intOf]; omega⟩
                  · have e0 : ((D : Int) == 0) = false := by simp; omega
                    have hlt : E2 sl i < O := by
                      rw [HO.out]; exact or_lt_of (by rw [← HD.out]; exact hD0) (by omega)
                    have hO8 : O ≤ 8192 := by
                      have p13 := pow13 hn
                      have : O < 2 ^ (n + 1) := by
                        rw [HO.out]
                        refine Nat.or_lt_two_pow ?_ ?_
                        · have := HS2.out.lt sl i; rwa [HXL.out] at this
                        · have := reachM_lt (E := E2) (fun a p => HS2.out.lt a p) (i := i) (by rw [HXL.out]; exact hin) rhs
                          rwa [← HX.out, HXL.out] at this
                      omega
                    have hrl := HRB.out sl hsl
                    have hlo := (HLO.out sl hsl).1
                    have HP6 := Lib.hid (show PrgE xs g.nons E (fun a b => if a = sl ∧ b = i then O else E2 a b) true (VE2 g.rules n k (sl, rhs) (i + 1)) from PrgE.put HP2.out hsl (by rw [HXL.out]; exact hin) hlt hO8)
                    have HS6 := Lib.hid (show SndE g.rules xs (fun a b => if a = sl ∧ b = i then O else E2 a b) from by
                      have := SndE.put HS2.out HMEM.out (i := i) (by rw [HXL.out]; exact hin)
                      simp only at this
                      rw [← HX.out, ← HO.out] at this
                      exact this)
                    have HR6 := Lib.hid (HR5.out.put hsl hin O)
                    have HG6 := Lib.hid (HG5.out.far (p := ⟨rb sl, i, none⟩) (by show w.heap.size ≠ rb sl; omega) (.int .u32 (O : Int)))
                    have HK6 := Lib.hid (HK5.out.far (p := ⟨rb sl, i, none⟩) (by show brx ≠ rb sl; omega) (.int .u32 (O : Int)))
                    have HB6 := Lib.hid (HB5.out.setCell (p := ⟨rb sl, i, none⟩) (by show w.heap.size ≤ rb sl; omega) (.int .u32 (O : Int)))
                    clear HP2 HS2 HR5 HG5 HK5 HB5
                    have cBk := Bk.cell
                    have fBk := Bk.frozen
                    have lBk := Bk.lt
                    go_wp2_with fail
                    exact ⟨⟨i + 1, _, true, by go_num, by omega, rfl, HS6.out, HR6.out, HG6.out, HK6.out, HB6.out, HP6.out⟩, by simp [intOf]; omega⟩
                · have HIN := Lib.hid (show i = n + 1 by omega)
                  have HS7 := Lib.hid hse2
                  have HR7 := Lib.hid her2
                  have HG7 := Lib.hid hbg2
                  have HB7 := Lib.hid hbe2
                  have HP7 := Lib.hid (show PrgE xs g.nons E E2 ag2 (VE1 g.rules n (k + 1)) from PrgE.mono hpg2 fun r' i' h => by
                    obtain ⟨⟨k', hk', hr'⟩, h2⟩ := h
                    have := HIN.out
                    by_cases e : k' = k
                    · subst e
                      rw [HY.out] at hr'
                      exact Or.inr ⟨(Option.some.inj hr').symm, by omega⟩
                    · exact Or.inl ⟨⟨k', by omega, hr'⟩, h2⟩)
                  clear hse2 her2 hbg2 hbk2 hbe2 hpg2
                  go_wp2_with fail
                  exact ⟨⟨k + 1, E2, ag2, by go_num, by omega, rfl, HS7.out, HR7.out, HG7.out, HB7.out, HP7.out⟩, by simp [intOf]; omega⟩
            · have HKN := Lib.hid (show k = ng by omega)
              have HS8 := Lib.hid hse1
              have HR8 := Lib.hid her1
              have HG8 := Lib.hid hbg1
              have HB8 := Lib.hid hbe1
              have HP8 := Lib.hid hpg1
              clear hse1 her1 hbg1 hbe1 hpg1
              go_wp2_with fail
              go_roundg (2 * totE g.nons xs.length E1 + (if ag then 1 else 0))
              case measure =>
                rw [HGK.out]
                cases ag with
                | false => obtain ⟨rfl, -⟩ := HP8.out.no rfl; simp
                | true => have := HP8.out.yes rfl; simp; omega
              case rel =>
                refine ⟨E1, ag, rfl, HS8.out, HR8.out, HG8.out, HB8.out, fun ha => ?_, rfl⟩
                obtain ⟨rfl, hv⟩ := HP8.out.no ha
                intro r hr i hi j hj
                rw [HXL.out] at hi
                obtain ⟨k', hk', e⟩ := List.getElem_of_mem hr
                exact hv r i ⟨⟨k', by rw [HKN.out, ← HNG.out]; exact hk', by rw [List.getElem?_eq_getElem hk', e]⟩, hi⟩ j hj
end Go.Proofs.YtbfcnfgkccgbiaaGreatDoor




namespace Go.Proofs.YtbfcnfgkccgbiaaGreatDoor
open Go.RowKit

set_option maxRecDepth 100000 in
set_option maxHeartbeats 2000000 in
theorem mcheck_c (ok : Nat → Prop) (g : Gr) (Ag : Option Addr) (ng cg : Nat) (A : Option Addr) (n c : Nat) (xs : List Int) (w : World) (hg : GrOk g) (hl : Sl RuE ok w Ag ng cg g.rules) (hx : Ints w A n c xs) (hn : n ≤ 12) (hxt : ∀ x ∈ xs, 0 ≤ x ∧ x < (g.terms : Int)) :
    Calls Tryz.prog 54 #[grVal g Ag ng cg, .slice A n c] w (IntO w 0) := by
  have hB := ((Below.refl w.heap.size w).al (.cells #[.int .i64 (g.terms : Int), .int .i64 (g.nons : Int), .int .i64 (g.start : Int), .slice Ag ng cg] 24))
  have HB := Lib.hid hB
  have HGO := Lib.hid hg
  have HL := Lib.hid (hl.via hB)
  have HX := Lib.hid (hx.keep hB (Nat.le_refl _))
  have HXT := Lib.hid hxt
  have B0 := Blk.new w 24 #[.int .i64 (g.terms : Int), .int .i64 (g.nons : Int), .int .i64 (g.start : Int), .slice Ag ng cg]
  have HB0 := Lib.hid B0
  simp only [grVal]
  clear hg hl hx hxt hB
  go_enter Tryz.func54, Tryz.ntmps54
  have cB0 := B0.cell
  have fB0 := B0.frozen
  have lB0 := B0.lt
  go_wp2_with fail
  clear cB0 fB0 lB0
  generalize w.alloc (.cells #[.int .i64 (g.terms : Int), .int .i64 (g.nons : Int), .int .i64 (g.start : Int), .slice Ag ng cg] 24) = W at *
  refine (check_c ok g Ag ng cg W HGO.out HL.out).mono ?_
  rintro e w1 ⟨rfl, hb⟩
  have HX1 := Lib.hid (HX.out.keep hb (Nat.le_refl _))
  have HB1 := Lib.hid (HB.out.via hb)
  have Bg := HB0.out.via hb
  clear hb HX HB HB0 B0
  have cBg := Bg.cell
  have fBg := Bg.frozen
  have lBg := Bg.lt
  go_wp2_with fail
  clear cBg fBg lBg
  refine (word_ok g Ag ng cg A n c 12 xs w1 HX1.out hn (by omega) HXT.out).mono ?_
  rintro e w2 ⟨rfl, hb⟩
  have HB2 := Lib.hid (HB1.out.via hb)
  clear hb
  go_wp2_with fail
  go_ret
  exact ⟨rfl, HB2.out⟩
def AccP (w : World) (g : Gr) (xs : List Int) (e : Ending) (w' : World) : Prop :=
  ∃ b : Bool, e = .returned (.tuple #[.bool b, .int .i64 0]) ∧ (b = true ↔ Dv g.rules [(false, g.start)] xs) ∧ Below w.heap.size w w'
theorem bit_of (x n : Nat) (h : x < 8192) : ∃ (Q R : Nat), (x : Int) / 2 ^ n = (Q : Int) ∧ bits .and .u32 (Q : Int) 1 = (R : Int) ∧ ((R : Int) == 1) = x.testBit n := by
  refine ⟨x / 2 ^ n, (x / 2 ^ n) &&& 1, by simp, ?_, ?_⟩
  · have h1 : x / 2 ^ n ≤ x := Nat.div_le_self _ _
    exact u32_and_nat _ 1 (by omega) (by omega)
  · rw [Nat.and_one_is_mod, Nat.testBit_eq_decide_div_mod_eq]
    generalize x / 2 ^ n = y
    by_cases h : y % 2 = 1
    · rw [h]; rfl
    · have h0 : y % 2 = 0 := by omega
      rw [h0]; rfl
set_option maxRecDepth 100000 in
set_option maxHeartbeats 4000000 in
theorem accepts_c (ok : Nat → Prop) (g : Gr) (Ag : Option Addr) (ng cg : Nat) (A : Option Addr) (n c : Nat) (xs : List Int) (w : World) (hg : GrOk g) (hl : Sl RuE ok w Ag ng cg g.rules) (hx : Ints w A n c xs) (hn : n ≤ 12) (hxt : ∀ x ∈ xs, 0 ≤ x ∧ x < (g.terms : Int)) (hT : TabW w) :
    Calls Tryz.prog 24 #[grVal g Ag ng cg, .slice A n c] w (AccP w g xs) := by
  have hxl := hx.len
  have HXL := Lib.hid hxl
  have hB := ((Below.refl w.heap.size w).al (.cells #[.int .i64 (g.terms : Int), .int .i64 (g.nons : Int), .int .i64 (g.start : Int), .slice Ag ng cg] 24))
  have HB := Lib.hid hB
  have HGO := Lib.hid hg
  have HL := Lib.hid (hl.via hB)
  have HX := Lib.hid (hx.keep hB (Nat.le_refl _))
  have HT := Lib.hid (hT.via hB)
  have HXT := Lib.hid hxt
  have B0 := Blk.new w 24 #[.int .i64 (g.terms : Int), .int .i64 (g.nons : Int), .int .i64 (g.start : Int), .slice Ag ng cg]
  have HB0 := Lib.hid B0
  have hst := hg.ok.start
  simp only [grVal]
  clear hg hl hx hxt hB hT hxl
  go_enter Tryz.func24, Tryz.ntmps24
  have cB0 := B0.cell
  have fB0 := B0.frozen
  have lB0 := B0.lt
  go_wp2_with fail
  clear cB0 fB0 lB0
  generalize w.alloc (.cells #[.int .i64 (g.terms : Int), .int .i64 (g.nons : Int), .int .i64 (g.start : Int), .slice Ag ng cg] 24) = W at *
  refine (mcheck_c ok g Ag ng cg A n c xs W HGO.out HL.out HX.out hn HXT.out).mono ?_
  rintro e w1 ⟨rfl, hb⟩
  have HL1 := Lib.hid (HL.out.via hb)
  have HX1 := Lib.hid (HX.out.keep hb (Nat.le_refl _))
  have HT1 := Lib.hid (HT.out.via hb)
  have HB1 := Lib.hid (HB.out.via hb)
  have Bg := HB0.out.via hb
  have HBG := Lib.hid Bg
  clear hb HX HB HB0 B0 HL HT
  go_upto_region 4 with fail
  have FE := Lib.hid (show ∀ w', Below w1.heap.size w1 w' → Calls Tryz.prog 55 #[.agg #[.int .i64 (g.terms : Int), .int .i64 (g.nons : Int), .int .i64 (g.start : Int), .slice Ag ng cg], .slice A n c] w' (EndsP w' g xs) from fun w' hb => by
    have := ends_c ok g Ag ng cg A n c xs w' HGO.out (HL1.out.via hb) (HX1.out.keep hb (Nat.le_refl _)) hn (HT1.out.via hb)
    simpa only [grVal] using this)
  have g0 : (0 : Int) ≤ (g.start : Int) := by omega
  have g1 : (g.start : Int) < (g.nons : Int) := by omega
  have g2 : (0 : Int) < (n : Int) + 1 := by omega
  have hb0 := (Below.refl w1.heap.size w1).drew
  have cBd : ∀ i, w1.drew.cell? ⟨w.heap.size, i, none⟩ = #[.int .i64 (g.terms : Int), .int .i64 (g.nons : Int), .int .i64 (g.start : Int), .slice Ag ng cg][i]? := (Bg.via hb0).cell
  clear Bg
  go_region_with (go_at_call 55; refine (FE.out _ (by assumption)).mono ?_; rintro ee wn ⟨ob, rb, E, rfl, her, hse, hfx, hbn⟩; have hbm : Below w1.heap.size w1 wn := Below.via (by assumption) hbn; have t1 := her.cell1 hst; have t2 := her.cell2 hst (Nat.zero_le _); have cBn := (HBG.out.via hbm).cell; have HSE := Lib.hid hse; have HFX := Lib.hid hfx; rw [HXL.out] at t1; clear hse hfx her hbn; obtain ⟨Q, R, q1, q2, q3⟩ := bit_of (E g.start 0) n (by have := HSE.out.lt g.start 0; rw [HXL.out] at this; have := pow13 hn; omega); have HIF := Lib.hid (show (E g.start 0).testBit n = true ↔ Dv g.rules [(false, g.start)] xs from (by have := ends_iff HSE.out HFX.out (by rw [HXL.out]; omega) g.start; rwa [HXL.out] at this)); have HBF := Lib.hid (HB1.out.via hbm); generalize (E g.start 0).testBit n = bb at *)
  all_goals
    go_wp2_with fail
    go_ret2
    exact ⟨bb, rfl, HIF.out, HBF.out⟩
end Go.Proofs.YtbfcnfgkccgbiaaGreatDoor

