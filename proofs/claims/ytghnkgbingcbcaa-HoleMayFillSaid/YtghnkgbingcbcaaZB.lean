/- Corrections: completeness at a fixed point, soundness, bounds: plain laws. -/
import Derived.Test.YtghnkgbingcbcaaZA
namespace Go.Proofs.Ytghnkgbingcbcaa
open Go.RowKit

/-! ### the fixed point knows every word: completeness -/
def part (w : List Int) (i j : Nat) : List Int := (w.take j).drop i
theorem part_len {w : List Int} {i j : Nat} (h2 : j ≤ w.length) : (part w i j).length = j - i := by simp [part]; omega
theorem part_split {w p1 p2 : List Int} {i j : Nat} (h1 : i ≤ j) (h2 : j ≤ w.length) (h : part w i j = p1 ++ p2) : ∃ m, i ≤ m ∧ m ≤ j ∧ part w i m = p1 ∧ part w m j = p2 := by
  have hl := part_len (i := i) h2
  rw [h, List.length_append] at hl
  refine ⟨i + p1.length, by omega, by omega, ?_, ?_⟩
  · have e : part w i (i + p1.length) = (part w i j).take p1.length := by
      unfold part
      rw [List.take_drop, List.take_take]
      congr 2; omega
    rw [e, h]; simp
  · have e : part w (i + p1.length) j = (part w i j).drop p1.length := by
      unfold part; rw [List.drop_drop]
    rw [e, h]; simp
theorem part_all (w : List Int) : part w 0 w.length = w := by simp [part]
theorem part_same (w : List Int) (i : Nat) : part w i i = [] := by simp [part]
theorem part_append {w : List Int} {i m j : Nat} (h1 : i ≤ m) (h2 : m ≤ j) : part w i m ++ part w m j = part w i j := by
  have e : (w.take j).drop i = ((w.take j).drop i).take (m - i) ++ ((w.take j).drop i).drop (m - i) := (List.take_append_drop _ _).symm
  unfold part
  rw [e, List.drop_drop, List.take_drop, List.take_take]
  congr 2 <;> (congr 1; omega)

inductive Cov (cell : Sy → Nat → Nat → Way) : List Sy → Nat → Nat → Int → Prop
  | nil (i : Nat) : Cov cell [] i i 0
  | cons (s : Sy) {l : List Sy} {i m j : Nat} {k : Int} (h1 : i ≤ m) (h2 : m ≤ j) (hs : (cell s i m).ok = true) (h : Cov cell l m j k) : Cov cell (s :: l) i j ((cell s i m).cost + k)
theorem Cov.le {cell : Sy → Nat → Nat → Way} {l : List Sy} {i j : Nat} {k : Int} (h : Cov cell l i j k) : i ≤ j := by
  induction h <;> omega
theorem Cov.snoc {cell : Sy → Nat → Nat → Way} {s : Sy} : ∀ {ss : List Sy} {i j : Nat} {k : Int}, Cov cell (ss ++ [s]) i j k →
    ∃ m k1, i ≤ m ∧ m ≤ j ∧ Cov cell ss i m k1 ∧ (cell s m j).ok = true ∧ k = k1 + (cell s m j).cost
  | [], i, j, k, h => by
    cases h with
    | cons _ h1 h2 hs h =>
      cases h
      exact ⟨i, 0, Nat.le_refl _, h1, .nil i, hs, by omega⟩
  | a :: ss, i, j, k, h => by
    cases h with
    | cons _ h1 h2 hs h =>
      obtain ⟨m, k1, h3, h4, h5, h6, rfl⟩ := Cov.snoc h
      exact ⟨m, _, by omega, h4, .cons a h1 h3 hs h5, h6, by omega⟩

section
variable {c0 c1 c2 : Int} {w : List Int} {st : Nat → Nat → Nat → Way} {n i : Nat}
theorem ruleAt_snoc (l : List Sy) (s : Sy) : ruleAt c0 c1 c2 w st n i (l ++ [s]) = rowK (ruleAt c0 c1 c2 w st n i l) (symW c0 c1 c2 w st s) n i (n + 1 - i) := by
  simp [ruleAt, List.foldl_append]
theorem snoc_induction {α : Type} {P : List α → Prop} (h0 : P []) (hs : ∀ l a, P l → P (l ++ [a])) (l : List α) : P l := by
  have : ∀ (k : Nat) (l : List α), l.length = k → P l := by
    intro k
    induction k with
    | zero => intro l h; rw [List.length_eq_zero_iff.1 h]; exact h0
    | succ k ih =>
      intro l h
      rcases List.eq_nil_or_concat l with rfl | ⟨a, b, rfl⟩
      · exact h0
      · rw [List.concat_eq_append]
        exact hs a b (ih a (by simp at h; exact h))
  exact this _ l rfl
theorem ruleAt_cov (l : List Sy) : ∀ {j : Nat} {k : Int}, j ≤ n → Cov (symW c0 c1 c2 w st) l i j k → (ruleAt c0 c1 c2 w st n i l j).ok = true ∧ (ruleAt c0 c1 c2 w st n i l j).cost ≤ k := by
  induction l using snoc_induction with
  | h0 =>
    intro j k _ h
    cases h
    simp [ruleAt, upd_same]
  | hs l s ih =>
    intro j k hj h
    obtain ⟨m, k1, h1, h2, h3, h4, rfl⟩ := h.snoc
    obtain ⟨h5, h6⟩ := ih (by omega) h3
    rw [ruleAt_snoc]
    obtain ⟨h7, h8⟩ := rowK_at (at_ := ruleAt c0 c1 c2 w st n i l) (sym := symW c0 c1 c2 w st s) (n := n) (i := i) (m := n + 1 - i) h1 (by omega) h2 hj h5 h4
    exact ⟨h7, by omega⟩
theorem ruleW_cov {l : List Sy} {j : Nat} {k : Int} (hl : l ≠ []) (hj : j ≤ n) (h : Cov (symW c0 c1 c2 w st) l i j k) : (ruleW c0 c1 c2 w st n i l j).ok = true ∧ (ruleW c0 c1 c2 w st n i l j).cost ≤ k := by
  rw [ruleW, if_neg hl]; exact ruleAt_cov l hj h
end
/-- no rule gives anything better -/
def Fixd (c0 c1 c2 : Int) (rules : List Ru) (w : List Int) (st : Nat → Nat → Nat → Way) (n : Nat) : Prop :=
  ∀ r ∈ rules, ∀ i j, i ≤ j → j ≤ n → lessW (ruleW c0 c1 c2 w st n i r.2 j) (st r.1 i j) = false
section
variable {c0 c1 c2 : Int} {rules : List Ru} {w : List Int} {st : Nat → Nat → Nat → Way}
theorem Fixd.cov (hf : Fixd c0 c1 c2 rules w st w.length) {l : List Sy} {v : List Int} (h : Dv rules l v) :
    ∀ (i j : Nat) (k : Int), i ≤ j → j ≤ w.length → Al c0 c1 c2 (part w i j) v k → l ≠ [] → ∃ k', k' ≤ k ∧ Cov (symW c0 c1 c2 w st) l i j k' := by
  induction h with
  | nil => intro i j k _ _ _ h; exact absurd rfl h
  | @term t l v h ih =>
    intro i j k hi hj ha _
    by_cases hl : l = []
    · subst hl
      have hv := h.nil_inv
      subst hv
      refine ⟨oneC c0 c1 c2 t (part w i j) + 0, by have := ha.one_le rfl; omega, ?_⟩
      exact Cov.cons (cell := symW c0 c1 c2 w st) (true, t) hi (Nat.le_refl _) (by simp [symW]) (.nil j)
    · obtain ⟨p1, p2, k1, k2, hp, h1, h2, rfl⟩ := ha.split [(t : Int)] v rfl
      obtain ⟨m, m1, m2, rfl, rfl⟩ := part_split hi hj hp
      obtain ⟨k', hk, hc⟩ := ih m j k2 m2 hj h2 hl
      refine ⟨oneC c0 c1 c2 t (part w i m) + k', by have := h1.one_le rfl; omega, ?_⟩
      exact Cov.cons (cell := symW c0 c1 c2 w st) (true, t) m1 m2 (by simp [symW]) hc
  | @non N rhs l u v hr hu hv ih1 ih2 =>
    intro i j k hi hj ha _
    have key : ∀ m k1, i ≤ m → m ≤ w.length → Al c0 c1 c2 (part w i m) u k1 → (st N i m).ok = true ∧ (st N i m).cost ≤ k1 := by
      intro m k1 hm hmj h1
      have hfx : lessW (ruleW c0 c1 c2 w st w.length i rhs m) (st N i m) = false := hf _ hr i m hm hmj
      have hrule : (ruleW c0 c1 c2 w st w.length i rhs m).ok = true ∧ (ruleW c0 c1 c2 w st w.length i rhs m).cost ≤ k1 := by
        by_cases hl : rhs = []
        · subst hl
          have := h1.of_nil hu.nil_inv
          rw [part_len hmj] at this
          rw [ruleW, if_pos rfl, if_pos ⟨hm, hmj⟩]
          refine ⟨rfl, ?_⟩
          show ((m : Int) - (i : Int)) * c1 ≤ k1
          rw [this, show ((m - i : Nat) : Int) = (m : Int) - (i : Int) by omega]; exact Int.le_refl _
        · obtain ⟨k', hk, hc⟩ := ih1 i m k1 hm hmj h1 hl
          obtain ⟨h3, h4⟩ := ruleW_cov hl hmj hc
          exact ⟨h3, by omega⟩
      obtain ⟨h5, h6⟩ := lessW_not hfx hrule.1
      exact ⟨h5, by have := hrule.2; omega⟩
    by_cases hl : l = []
    · subst hl
      have hv0 := hv.nil_inv
      subst hv0
      rw [List.append_nil] at ha
      obtain ⟨h1, h2⟩ := key j k hi hj ha
      exact ⟨(st N i j).cost + 0, by omega, Cov.cons (cell := symW c0 c1 c2 w st) (false, N) hi (Nat.le_refl _) (by simpa [symW] using h1) (.nil j)⟩
    · obtain ⟨p1, p2, k1, k2, hp, h1, h2, rfl⟩ := ha.split u v rfl
      obtain ⟨m, m1, m2, rfl, rfl⟩ := part_split hi hj hp
      obtain ⟨k', hk, hc⟩ := ih2 m j k2 m2 hj h2 hl
      obtain ⟨h3, h4⟩ := key m k1 m1 (by omega) h1
      exact ⟨(st N i m).cost + k', by omega, Cov.cons (cell := symW c0 c1 c2 w st) (false, N) m1 m2 (by simpa [symW] using h3) hc⟩
theorem Fixd.least (hf : Fixd c0 c1 c2 rules w st w.length) {N : Nat} {v : List Int} {k : Int} (h : Dv rules [(false, N)] v) (ha : Al c0 c1 c2 w v k) : (st N 0 w.length).ok = true ∧ (st N 0 w.length).cost ≤ k := by
  obtain ⟨k', hk, hc⟩ := hf.cov h 0 w.length k (Nat.zero_le _) (Nat.le_refl _) (by rw [part_all]; exact ha) (by simp)
  cases hc with
  | cons _ h1 h2 hs h =>
    cases h
    simp only [symW, Bool.false_eq_true, if_false] at hs hk
    exact ⟨hs, by omega⟩
end

/-! ### what is kept is the way to a word: soundness -/
def Snd (c0 c1 c2 : Int) (rules : List Ru) (w : List Int) (l : List Sy) (i j : Nat) (x : Way) : Prop :=
  x.ok = true → i ≤ j ∧ j ≤ w.length ∧ ∃ v, Dv rules l v ∧ Al c0 c1 c2 (part w i j) v x.cost ∧ x.size = (v.length : Int) ∧ x.w = if v.length ≤ 2000 then v else []
section
variable {c0 c1 c2 : Int} {rules : List Ru} {w : List Int} {st : Nat → Nat → Nat → Way}
theorem Snd.no (l : List Sy) (i j : Nat) : Snd c0 c1 c2 rules w l i j Way.no := fun h => by cases h
theorem Snd.then_ {l l' : List Sy} {i m j : Nat} {a b : Way} (h : Snd c0 c1 c2 rules w l i m a) (k : Snd c0 c1 c2 rules w l' m j b) : Snd c0 c1 c2 rules w (l ++ l') i j (thenW a b) := by
  intro ho
  have ha : a.ok = true := by simp [thenW] at ho; exact ho.1
  have hb : b.ok = true := by simp [thenW] at ho; exact ho.2
  obtain ⟨h1, h2, u, h3, h4, h5, h6⟩ := h ha
  obtain ⟨k1, k2, v, k3, k4, k5, k6⟩ := k hb
  refine ⟨by omega, k2, u ++ v, h3.append k3, ?_, ?_, ?_⟩
  · rw [← part_append h1 k1]; exact h4.append k4
  · simp only [thenW, h5, k5, List.length_append]; omega
  · simp only [thenW, ha, hb, h5, k5, List.length_append, Bool.and_self, Bool.true_and, decide_eq_true_eq]
    by_cases e : u.length + v.length ≤ 2000
    · rw [if_pos e, if_pos (by omega), h6, k6, if_pos (by omega), if_pos (by omega)]
    · rw [if_neg e, if_neg (by omega)]
theorem Snd.sym (hst : ∀ N i j, Snd c0 c1 c2 rules w [(false, N)] i j (st N i j)) (s : Sy) {i j : Nat} (h1 : i ≤ j) (h2 : j ≤ w.length) : Snd c0 c1 c2 rules w [s] i j (symW c0 c1 c2 w st s i j) := by
  obtain ⟨b, t⟩ := s
  cases b with
  | false => exact hst t i j
  | true =>
    intro _
    exact ⟨h1, h2, [(t : Int)], Dv.letter t, Al.one _ _, rfl, rfl⟩
theorem Snd.ruleAt (hst : ∀ N i j, Snd c0 c1 c2 rules w [(false, N)] i j (st N i j)) {i : Nat} (hi : i ≤ w.length) (l : List Sy) : ∀ j, Snd c0 c1 c2 rules w l i j (ruleAt c0 c1 c2 w st w.length i l j) := by
  induction l using snoc_induction with
  | h0 =>
    intro j
    by_cases e : j = i
    · subst e
      intro _
      refine ⟨Nat.le_refl _, hi, [], .nil, ?_, ?_, ?_⟩
      · rw [part_same]; simpa [Go.Proofs.Ytghnkgbingcbcaa.ruleAt, upd_same] using Al.nil
      · simp [Go.Proofs.Ytghnkgbingcbcaa.ruleAt, upd_same]
      · simp [Go.Proofs.Ytghnkgbingcbcaa.ruleAt, upd_same]
    · have : Go.Proofs.Ytghnkgbingcbcaa.ruleAt c0 c1 c2 w st w.length i [] j = Way.no := by simp [Go.Proofs.Ytghnkgbingcbcaa.ruleAt, upd_ne _ _ e]
      rw [this]; exact .no _ _ _
  | hs l s ih =>
    rw [ruleAt_snoc]
    exact rowK_inv (P := fun j x => Snd c0 c1 c2 rules w (l ++ [s]) i j x) (fun j => .no _ _ _) fun k j _ _ h3 h4 _ _ => (ih k).then_ (Snd.sym hst s h3 h4)
theorem Snd.rule (hst : ∀ N i j, Snd c0 c1 c2 rules w [(false, N)] i j (st N i j)) {i : Nat} (hi : i ≤ w.length) (l : List Sy) (j : Nat) : Snd c0 c1 c2 rules w l i j (ruleW c0 c1 c2 w st w.length i l j) := by
  by_cases hl : l = []
  · subst hl
    rw [ruleW, if_pos rfl]
    by_cases e : i ≤ j ∧ j ≤ w.length
    · intro _
      rw [if_pos e]
      refine ⟨e.1, e.2, [], .nil, ?_, rfl, rfl⟩
      have := Al.dels (c0 := c0) (c1 := c1) (c2 := c2) (part w i j)
      rwa [part_len e.2, show ((j - i : Nat) : Int) = (j : Int) - (i : Int) by omega] at this
    · rw [if_neg e]; exact .no _ _ _
  · rw [ruleW, if_neg hl]; exact Snd.ruleAt hst hi l j
theorem Snd.fold {r : Ru} (hr : r ∈ rules) {i j : Nat} {x : Way} (h : Snd c0 c1 c2 rules w r.2 i j x) : Snd c0 c1 c2 rules w [(false, r.1)] i j x := fun ho => by
  obtain ⟨h1, h2, v, h3, h4⟩ := h ho
  exact ⟨h1, h2, v, Dv.one hr h3, h4⟩
end
/-! ### bounds -/
structure Bnd (M : Int) (x : Way) : Prop where
  c0 : 0 ≤ x.cost
  c1 : x.cost ≤ M
  s0 : 0 ≤ x.size
  s1 : x.size ≤ M
  len : (x.w.length : Int) ≤ x.size
  short : x.w.length ≤ 2000
theorem Bnd.no {M : Int} (h : 0 ≤ M) : Bnd M Way.no := ⟨by simp [Way.no], by simpa [Way.no] using h, by simp [Way.no], by simpa [Way.no] using h, by simp [Way.no], by simp [Way.no]⟩
theorem Bnd.mono {M M' : Int} {x : Way} (h : Bnd M x) (k : M ≤ M') : Bnd M' x := ⟨h.c0, by have := h.c1; omega, h.s0, by have := h.s1; omega, h.len, h.short⟩
theorem Bnd.then_ {A B : Int} {a b : Way} (h : Bnd A a) (k : Bnd B b) : Bnd (A + B) (thenW a b) := by
  have h1 := h.c0; have h2 := h.c1; have h3 := h.s0; have h4 := h.s1; have h5 := h.len
  have k1 := k.c0; have k2 := k.c1; have k3 := k.s0; have k4 := k.s1; have k5 := k.len
  refine ⟨by simp only [thenW]; omega, by simp only [thenW]; omega, by simp only [thenW]; omega, by simp only [thenW]; omega, ?_, ?_⟩
  · simp only [thenW]; split
    · simp only [List.length_append]; omega
    · simp; omega
  · simp only [thenW]; split
    · rename_i e
      simp only [Bool.and_eq_true, decide_eq_true_eq] at e
      simp only [List.length_append]; omega
    · simp
theorem Bnd.rowJ {A B : Int} {a : Way} {sym : Nat → Way} {k m : Nat} {f : Nat → Way} (ha : Bnd A a) (hs : ∀ j, k ≤ j → j < k + m → Bnd B (sym j)) (hf : ∀ j, Bnd (A + B) (f j)) (j : Nat) : Bnd (A + B) (rowJ a sym k f m j) :=
  rowJ_inv (P := fun _ x => Bnd (A + B) x) hf (fun j h1 h2 _ _ => ha.then_ (hs j h1 h2)) j
theorem Bnd.rowK {A B : Int} {at_ : Nat → Way} {sym : Nat → Nat → Way} {n i m : Nat} (h0 : 0 ≤ A + B) (ha : ∀ k, Bnd A (at_ k)) (hs : ∀ k j, i ≤ k → k ≤ j → j ≤ n → Bnd B (sym k j)) (j : Nat) : Bnd (A + B) (rowK at_ sym n i m j) :=
  rowK_inv (P := fun _ x => Bnd (A + B) x) (fun _ => .no h0) (fun k j h1 _ h3 h4 _ _ => (ha k).then_ (hs k j h1 h3 h4)) j
section
variable {c0 c1 c2 : Int} {w : List Int} {st : Nat → Nat → Nat → Way}
theorem oneC_bound (h0 : 1 ≤ c0 ∧ c0 ≤ 100) (h1 : 1 ≤ c1 ∧ c1 ≤ 100) (h2 : 1 ≤ c2 ∧ c2 ≤ 100) (t : Int) {p : List Int} (hp : p.length ≤ 12) : 0 ≤ oneC c0 c1 c2 t p ∧ oneC c0 c1 c2 t p ≤ 1300 := by
  refine ⟨(Al.one t p).pos (by omega) (by omega) (by omega), ?_⟩
  have := (oneC_le (c0 := c0) (c1 := c1) (c2 := c2) t p).1
  have h3 : (p.length : Int) * c1 ≤ 12 * 100 := Int.mul_le_mul (by omega) h1.2 (by omega) (by omega)
  omega
theorem part_short (w : List Int) (i j : Nat) (h : w.length ≤ 12) : (part w i j).length ≤ 12 := by unfold part; simp; omega
theorem Bnd.sym {M : Int} (h0 : 1 ≤ c0 ∧ c0 ≤ 100) (h1 : 1 ≤ c1 ∧ c1 ≤ 100) (h2 : 1 ≤ c2 ∧ c2 ≤ 100) (hw : w.length ≤ 12) (hM : 1300 ≤ M) (hst : ∀ N i j, Bnd M (st N i j)) (s : Sy) (i j : Nat) : Bnd M (symW c0 c1 c2 w st s i j) := by
  obtain ⟨b, t⟩ := s
  cases b with
  | false => exact hst t i j
  | true =>
    have := oneC_bound h0 h1 h2 (t : Int) (part_short w i j hw)
    unfold part at this
    exact ⟨by simp only [symW, if_true]; omega, by simp only [symW, if_true]; omega, by simp [symW], by simp [symW]; omega, by simp [symW], by simp [symW]⟩
theorem Bnd.ruleAt {M : Int} {n i : Nat} (hM : 0 ≤ M) (hs : ∀ s k j, i ≤ k → k ≤ j → j ≤ n → Bnd M (symW c0 c1 c2 w st s k j)) (l : List Sy) : ∀ j, Bnd ((l.length : Int) * M) (ruleAt c0 c1 c2 w st n i l j) := by
  induction l using snoc_induction with
  | h0 =>
    intro j
    by_cases e : j = i
    · subst e; simp only [Go.Proofs.Ytghnkgbingcbcaa.ruleAt, List.foldl_nil, upd_same]; exact ⟨by simp, by simp, by simp, by simp, by simp, by simp⟩
    · simp only [Go.Proofs.Ytghnkgbingcbcaa.ruleAt, List.foldl_nil, upd_ne _ _ e]; exact .no (by simp)
  | hs l s ih =>
    intro j
    rw [ruleAt_snoc]
    have e : ((l ++ [s]).length : Int) * M = (l.length : Int) * M + M := by simp [Int.add_mul]
    rw [e]
    exact Bnd.rowK (by have : 0 ≤ (l.length : Int) * M := Int.mul_nonneg (by omega) hM; omega) ih (hs s) j
end

/-! ### states: which nonterminals have a way, and what it costs at the most -/
structure Pm where
  c0 : Int
  c1 : Int
  c2 : Int
  nons : Nat
  rules : List Ru
  w : List Int
structure Pm.Ok (p : Pm) : Prop where
  c0 : 1 ≤ p.c0 ∧ p.c0 ≤ 100
  c1 : 1 ≤ p.c1 ∧ p.c1 ≤ 100
  c2 : 1 ≤ p.c2 ∧ p.c2 ≤ 100
  nons : p.nons ≤ 10
  left : ∀ r ∈ p.rules, r.1 < p.nons
  right : ∀ r ∈ p.rules, r.2.length ≤ 4
  lets : ∀ r ∈ p.rules, ∀ s ∈ r.2, s.1 = true → s.2 < 8
  len : p.w.length ≤ 12
abbrev WSt := Nat → Nat → Nat → Way
def Pm.rule (p : Pm) (st : WSt) (i : Nat) (l : List Sy) : Nat → Way := ruleW p.c0 p.c1 p.c2 p.w st p.w.length i l
def Pm.sym (p : Pm) (st : WSt) (s : Sy) (i j : Nat) : Way := symW p.c0 p.c1 p.c2 p.w st s i j
def Pm.Snd (p : Pm) (l : List Sy) (i j : Nat) (x : Way) : Prop := Go.Proofs.Ytghnkgbingcbcaa.Snd p.c0 p.c1 p.c2 p.rules p.w l i j x
def cnt (nons : Nat) (st : WSt) : Nat := ((List.range nons).filter fun N => (st N 0 0).ok).length
def lev (p : Pm) (st : WSt) : Int := 1300 * 4 ^ cnt p.nons st
structure Good (p : Pm) (st : WSt) : Prop where
  snd : ∀ N i j, p.Snd [(false, N)] i j (st N i j)
  pat : ∀ N i j, (st N i j).ok = true ↔ (i ≤ j ∧ j ≤ p.w.length ∧ (st N 0 0).ok = true)
  bnd : ∀ N i j, (st N i j).ok = true → (st N i j).cost ≤ lev p st
  no : ∀ N i j, (st N i j).ok = false → st N i j = Way.no
  out : ∀ N i j, p.nons ≤ N → (st N i j).ok = false
def Flag (st1 : WSt) (r : Ru) : Prop := ∀ s ∈ r.2, s.1 = false → (st1 s.2 0 0).ok = true
structure Mid (p : Pm) (st1 : WSt) (r : Ru) (i j : Nat) (st : WSt) : Prop where
  snd : ∀ N i j, p.Snd [(false, N)] i j (st N i j)
  no : ∀ N i j, (st N i j).ok = false → st N i j = Way.no
  oth : ∀ N, N ≠ r.1 → st N = st1 N
  keep : ∀ a b, (st1 r.1 a b).ok = true → (st r.1 a b).ok = true
  new : ∀ a b, (st r.1 a b).ok = true → (st1 r.1 a b).ok = true ∨ (a ≤ b ∧ b ≤ p.w.length ∧ Flag st1 r)
  bnd : ∀ a b, (st r.1 a b).ok = true → (st r.1 a b).cost ≤ lev p st1 * (if (st1 r.1 0 0).ok then 1 else 4)
  done : Flag st1 r → ∀ a b, a ≤ b → b ≤ p.w.length → (a < i ∨ a = i ∧ b < j) → (st r.1 a b).ok = true
def updS (st : WSt) (N i j : Nat) (x : Way) : WSt := fun a b c => if a = N ∧ b = i ∧ c = j then x else st a b c
theorem updS_same (st : WSt) (N i j : Nat) (x : Way) : updS st N i j x N i j = x := by simp [updS]
theorem updS_ne (st : WSt) {N i j a b c : Nat} (x : Way) (h : ¬ (a = N ∧ b = i ∧ c = j)) : updS st N i j x a b c = st a b c := by simp only [updS, if_neg h]
theorem lev_pos (p : Pm) (st : WSt) : 1300 ≤ lev p st := by
  have : 1 ≤ (4 : Int) ^ cnt p.nons st := by
    have : (1 : Nat) ≤ 4 ^ cnt p.nons st := Nat.one_le_pow _ _ (by omega)
    exact_mod_cast this
  unfold lev; omega
section
variable {p : Pm} {st st1 stI : WSt} {r : Ru} {i j : Nat}
theorem Mid.start (h : Good p st1) (r : Ru) : Mid p st1 r 0 0 st1 := by
  refine ⟨h.snd, h.no, fun _ _ => rfl, fun _ _ h => h, fun _ _ h => Or.inl h, fun a b hk => ?_, fun _ a b _ _ h => by omega⟩
  have := h.bnd _ _ _ hk
  have := lev_pos p st1
  split <;> omega
theorem Mid.row (h : Mid p st1 r i (p.w.length + 1) st) : Mid p st1 r (i + 1) 0 st :=
  ⟨h.snd, h.no, h.oth, h.keep, h.new, h.bnd, fun hf a b h1 h2 _ => h.done hf a b h1 h2 (by omega)⟩
theorem ruleW_sym_ok {c0 c1 c2 : Int} {w : List Int} {n i j : Nat} {l : List Sy} (h : (ruleW c0 c1 c2 w st n i l j).ok = true) : ∀ s ∈ l, s.1 = false → ∃ a b, (st s.2 a b).ok = true := by
  by_cases hl : l = []
  · subst hl; intro s hs; cases hs
  · rw [ruleW, if_neg hl] at h
    have : ∀ l : List Sy, ∀ j, (ruleAt c0 c1 c2 w st n i l j).ok = true → ∀ s ∈ l, s.1 = false → ∃ a b, (st s.2 a b).ok = true := by
      intro l
      induction l using snoc_induction with
      | h0 => intro j _ s hs; cases hs
      | hs l x ih =>
        rw [ruleAt_snoc]
        refine rowK_inv (P := fun _ y => y.ok = true → ∀ s ∈ l ++ [x], s.1 = false → ∃ a b, (st s.2 a b).ok = true) (fun j h => by cases h) fun k j _ _ _ _ h5 h6 _ s hs hb => ?_
        rcases List.mem_append.1 hs with hs | hs
        · exact ih k h5 s hs hb
        · rw [List.mem_singleton.1 hs] at hb ⊢
          rw [symW, if_neg (by simp [hb])] at h6
          exact ⟨k, j, h6⟩
    exact this l j h
theorem ruleW_cost {c0 c1 c2 X : Int} {w : List Int} {n i j : Nat} {l : List Sy} (hX : 0 ≤ X) (he : l = [] → ((j : Int) - (i : Int)) * c1 ≤ X)
    (hs : ∀ s ∈ l, ∀ a b, i ≤ a → a ≤ b → b ≤ n → (symW c0 c1 c2 w st s a b).ok = true → (symW c0 c1 c2 w st s a b).cost ≤ X) (h : (ruleW c0 c1 c2 w st n i l j).ok = true) (h4 : l.length ≤ 4) :
    (ruleW c0 c1 c2 w st n i l j).cost ≤ X * 4 := by
  by_cases hl : l = []
  · subst hl
    rw [ruleW, if_pos rfl] at h ⊢
    by_cases e : i ≤ j ∧ j ≤ n
    · rw [if_pos e]; have := he rfl; show ((j : Int) - (i : Int)) * c1 ≤ X * 4; omega
    · rw [if_neg e] at h; cases h
  · rw [ruleW, if_neg hl] at h ⊢
    have : ∀ l' : List Sy, (∀ s ∈ l', s ∈ l) → ∀ j, (ruleAt c0 c1 c2 w st n i l' j).ok = true → (ruleAt c0 c1 c2 w st n i l' j).cost ≤ (l'.length : Int) * X := by
      intro l'
      induction l' using snoc_induction with
      | h0 =>
        intro _ j h
        by_cases e : j = i
        · subst e; simp [ruleAt, upd_same]
        · simp [ruleAt, upd_ne _ _ e, Way.no] at h
      | hs l' x ih =>
        intro hm
        rw [ruleAt_snoc]
        refine rowK_inv (P := fun _ y => y.ok = true → y.cost ≤ ((l' ++ [x]).length : Int) * X) (fun j h => by cases h) fun k j h1 _ h3 h4 h5 h6 _ => ?_
        have e1 := ih (fun s hs => hm s (List.mem_append_left _ hs)) k h5
        have e2 := hs x (hm x (by simp)) k j h1 h3 h4 h6
        have e : ((l' ++ [x]).length : Int) * X = (l'.length : Int) * X + X := by simp [Int.add_mul]
        rw [e]; show (ruleAt c0 c1 c2 w st n i l' k).cost + _ ≤ _; omega
    have h5 := this l (fun s h => h) j h
    have h6 : (l.length : Int) * X ≤ 4 * X := Int.mul_le_mul_of_nonneg_right (by omega) hX
    omega
theorem Cov.exists_ {cell : Sy → Nat → Nat → Way} {l : List Sy} {n i j : Nat} (hj : j ≤ n) (hi : i ≤ j) (h : ∀ s ∈ l, ∀ a b, i ≤ a → a ≤ b → b ≤ n → (cell s a b).ok = true) (hl : l ≠ []) : ∃ k, Cov cell l i j k := by
  have h2 : ∀ l' : List Sy, (∀ s ∈ l', s ∈ l) → ∃ k, Cov cell l' j j k := by
    intro l'
    induction l' with
    | nil => intro _; exact ⟨0, .nil j⟩
    | cons s l' ih =>
      intro hm
      obtain ⟨k, hk⟩ := ih fun s hs => hm s (List.mem_cons_of_mem _ hs)
      exact ⟨_, .cons s (Nat.le_refl _) (Nat.le_refl _) (h s (hm s (List.mem_cons_self ..)) j j hi (Nat.le_refl _) hj) hk⟩
  cases l with
  | nil => exact absurd rfl hl
  | cons s l =>
    obtain ⟨k, hk⟩ := h2 l fun s hs => List.mem_cons_of_mem _ hs
    exact ⟨_, .cons s hi (Nat.le_refl _) (h s (List.mem_cons_self ..) i j (Nat.le_refl _) hi hj) hk⟩
theorem rule_flag (hg : Good p st1) (hI : Mid p st1 r i 0 stI) (h : (p.rule stI i r.2 j).ok = true) : Flag st1 r := by
  intro s hs hb
  obtain ⟨a, b, hab⟩ := ruleW_sym_ok h s hs hb
  by_cases e : s.2 = r.1
  · rw [e] at hab ⊢
    rcases hI.new a b hab with h1 | ⟨_, _, hf⟩
    · exact ((hg.pat _ _ _).1 h1).2.2
    · have := hf s hs hb; rwa [e] at this
  · rw [hI.oth _ e] at hab
    exact ((hg.pat _ _ _).1 hab).2.2
theorem rule_ok_of_flag (hg : Good p st1) (hI : Mid p st1 r i 0 stI) (hf : Flag st1 r) (hi : i ≤ j) (hj : j ≤ p.w.length) : (p.rule stI i r.2 j).ok = true := by
  by_cases hl : r.2 = []
  · rw [Pm.rule, hl, ruleW, if_pos rfl, if_pos ⟨hi, hj⟩]
  · have : ∃ k, Cov (symW p.c0 p.c1 p.c2 p.w stI) r.2 i j k := by
      refine Cov.exists_ hj hi (fun s hs a b h1 h2 h3 => ?_) hl
      cases hb : s.1 with
      | true => simp [symW, hb]
      | false =>
        rw [symW, if_neg (by simp [hb])]
        have h4 : (st1 s.2 a b).ok = true := (hg.pat _ _ _).2 ⟨h2, h3, hf s hs hb⟩
        by_cases e : s.2 = r.1
        · rw [e] at h4 ⊢; exact hI.keep _ _ h4
        · rw [hI.oth _ e]; exact h4
    obtain ⟨k, hk⟩ := this
    exact (ruleW_cov hl hj hk).1
theorem Mid.put (hp : p.Ok) (hr : r ∈ p.rules) (hg : Good p st1) (hI : Mid p st1 r i 0 stI) (h : Mid p st1 r i j st) (hi : i ≤ p.w.length) (hx : lessW (p.rule stI i r.2 j) (st r.1 i j) = true) :
    Mid p st1 r i (j + 1) (updS st r.1 i j (p.rule stI i r.2 j)) := by
  have hok := lessW_ok hx
  have hf := rule_flag hg hI hok
  have hs : p.Snd [(false, r.1)] i j (p.rule stI i r.2 j) := Snd.fold hr (Snd.rule hI.snd hi r.2 j)
  obtain ⟨h1, h2, -⟩ := hs hok
  have hc : (p.rule stI i r.2 j).cost ≤ lev p st1 * (if (st1 r.1 0 0).ok then 1 else 4) := by
    cases ho : (st1 r.1 0 0).ok with
    | true =>
      have h3 := h.keep i j ((hg.pat _ _ _).2 ⟨h1, h2, ho⟩)
      have h4 := lessW_cost hx h3
      have h5 := h.bnd i j h3
      rw [ho] at h5
      exact Int.le_trans h4 h5
    | false =>
      have hL := lev_pos p st1
      refine ruleW_cost (by omega) (fun _ => ?_) (fun s hs a b k1 k2 k3 ho2 => ?_) hok (hp.right r hr)
      · have h6 : ((j : Int) - (i : Int)) * p.c1 ≤ 12 * 100 := Int.mul_le_mul (by have := hp.len; omega) hp.c1.2 (by have := hp.c1.1; omega) (by omega)
        omega
      · cases hb : s.1 with
        | true =>
          rw [symW, if_pos hb]
          have := (oneC_bound hp.c0 hp.c1 hp.c2 (s.2 : Int) (part_short p.w a b hp.len)).2
          unfold part at this
          show oneC _ _ _ _ _ ≤ _
          omega
        | false =>
          rw [symW, if_neg (by simp [hb])] at ho2 ⊢
          have e : s.2 ≠ r.1 := fun e => by have := hf s hs hb; rw [e, ho] at this; cases this
          rw [hI.oth _ e] at ho2 ⊢
          exact hg.bnd _ _ _ ho2
  constructor
  · intro N a b
    by_cases e : N = r.1 ∧ a = i ∧ b = j
    · obtain ⟨rfl, rfl, rfl⟩ := e; rw [updS_same]; exact hs
    · rw [updS_ne _ _ e]; exact h.snd N a b
  · intro N a b hn
    by_cases e : N = r.1 ∧ a = i ∧ b = j
    · obtain ⟨rfl, rfl, rfl⟩ := e; rw [updS_same] at hn; rw [hok] at hn; cases hn
    · rw [updS_ne _ _ e] at hn ⊢; exact h.no N a b hn
  · intro N hN
    funext a b
    rw [updS_ne _ _ (fun e => hN e.1), h.oth N hN]
  · intro a b hab
    by_cases e : r.1 = r.1 ∧ a = i ∧ b = j
    · obtain ⟨_, rfl, rfl⟩ := e; rw [updS_same]; exact hok
    · rw [updS_ne _ _ e]; exact h.keep a b hab
  · intro a b hab
    by_cases e : r.1 = r.1 ∧ a = i ∧ b = j
    · obtain ⟨_, rfl, rfl⟩ := e; exact Or.inr ⟨h1, h2, hf⟩
    · rw [updS_ne _ _ e] at hab; exact h.new a b hab
  · intro a b hab
    by_cases e : r.1 = r.1 ∧ a = i ∧ b = j
    · obtain ⟨_, rfl, rfl⟩ := e; rw [updS_same]; exact hc
    · rw [updS_ne _ _ e] at hab ⊢; exact h.bnd a b hab
  · intro _ a b h3 h4 h5
    by_cases e : r.1 = r.1 ∧ a = i ∧ b = j
    · obtain ⟨_, rfl, rfl⟩ := e; rw [updS_same]; exact hok
    · rw [updS_ne _ _ e]; exact h.done hf a b h3 h4 (by rcases h5 with h5 | ⟨h5, h6⟩; exact Or.inl h5; exact Or.inr ⟨h5, by by_cases e2 : b = j; exact absurd ⟨rfl, h5, e2⟩ e; omega⟩)
theorem Mid.skip (hg : Good p st1) (hI : Mid p st1 r i 0 stI) (h : Mid p st1 r i j st) (hx : lessW (p.rule stI i r.2 j) (st r.1 i j) = false) : Mid p st1 r i (j + 1) st := by
  refine ⟨h.snd, h.no, h.oth, h.keep, h.new, h.bnd, fun hf a b h1 h2 h3 => ?_⟩
  by_cases e : a = i ∧ b = j
  · obtain ⟨rfl, rfl⟩ := e
    exact (lessW_not hx (rule_ok_of_flag hg hI hf h1 h2)).1
  · exact h.done hf a b h1 h2 (by omega)
theorem cnt_le (nons : Nat) (st : WSt) : cnt nons st ≤ nons := by
  unfold cnt; have := List.length_filter_le (fun N => (st N 0 0).ok) (List.range nons); simpa using this
theorem cnt_mono {nons : Nat} {st st' : WSt} (h : ∀ N, (st N 0 0).ok = true → (st' N 0 0).ok = true) : cnt nons st ≤ cnt nons st' := by
  unfold cnt
  induction List.range nons with
  | nil => simp
  | cons a l ih =>
    rw [List.filter_cons, List.filter_cons]
    by_cases e : (st a 0 0).ok = true
    · rw [if_pos e, if_pos (h a e)]; simp; exact ih
    · rw [if_neg e]; split
      · simp; omega
      · exact ih
theorem cnt_lt {nons : Nat} {st st' : WSt} (h : ∀ N, (st N 0 0).ok = true → (st' N 0 0).ok = true) {N : Nat} (hN : N < nons) (h0 : (st N 0 0).ok = false) (h1 : (st' N 0 0).ok = true) : cnt nons st + 1 ≤ cnt nons st' := by
  have hm : ∀ l : List Nat, (l.filter fun N => (st N 0 0).ok).length ≤ (l.filter fun N => (st' N 0 0).ok).length := by
    intro l
    induction l with
    | nil => simp
    | cons a l ih =>
      rw [List.filter_cons, List.filter_cons]
      by_cases e : (st a 0 0).ok = true
      · rw [if_pos e, if_pos (h a e)]; simp; exact ih
      · rw [if_neg e]; split
        · simp; omega
        · exact ih
  have : ∀ l : List Nat, N ∈ l → (l.filter fun N => (st N 0 0).ok).length + 1 ≤ (l.filter fun N => (st' N 0 0).ok).length := by
    intro l
    induction l with
    | nil => intro h; cases h
    | cons a l ih =>
      intro hm'
      rw [List.filter_cons, List.filter_cons]
      rcases List.mem_cons.1 hm' with rfl | hm'
      · rw [if_neg (by simp [h0]), if_pos h1]; have := hm l; simp; omega
      · have := ih hm'
        by_cases e : (st a 0 0).ok = true
        · rw [if_pos e, if_pos (h a e)]; simp; omega
        · rw [if_neg e]; split
          · simp; omega
          · exact this
  exact this _ (List.mem_range.2 hN)
theorem lev_mono {st st' : WSt} (h : cnt p.nons st ≤ cnt p.nons st') : lev p st ≤ lev p st' := by
  have : (4 : Nat) ^ cnt p.nons st ≤ 4 ^ cnt p.nons st' := Nat.pow_le_pow_right (by omega) h
  have h2 : (4 : Int) ^ cnt p.nons st ≤ 4 ^ cnt p.nons st' := by exact_mod_cast this
  unfold lev; omega
theorem Mid.end_ (hp : p.Ok) (hr : r ∈ p.rules) (hg : Good p st1) (h : Mid p st1 r (p.w.length + 1) 0 st) : Good p st := by
  have hup : ∀ N, (st1 N 0 0).ok = true → (st N 0 0).ok = true := fun N hN => by
    by_cases e : N = r.1
    · subst e; exact h.keep 0 0 hN
    · rw [h.oth N e]; exact hN
  have hmono := lev_mono (p := p) (cnt_mono (nons := p.nons) hup)
  have hpat : ∀ a b, (st r.1 a b).ok = true ↔ (a ≤ b ∧ b ≤ p.w.length ∧ (st r.1 0 0).ok = true) := by
    intro a b
    constructor
    · intro hab
      rcases h.new a b hab with h1 | ⟨h1, h2, hf⟩
      · obtain ⟨h2, h3, h4⟩ := (hg.pat _ _ _).1 h1; exact ⟨h2, h3, h.keep 0 0 h4⟩
      · exact ⟨h1, h2, h.done hf 0 0 (Nat.le_refl _) (Nat.zero_le _) (by omega)⟩
    · rintro ⟨h1, h2, h3⟩
      rcases h.new 0 0 h3 with h4 | ⟨_, _, hf⟩
      · exact h.keep a b ((hg.pat _ _ _).2 ⟨h1, h2, h4⟩)
      · exact h.done hf a b h1 h2 (by omega)
  refine ⟨h.snd, fun N a b => ?_, fun N a b hab => ?_, h.no, fun N a b hN => ?_⟩
  · by_cases e : N = r.1
    · subst e; exact hpat a b
    · rw [h.oth N e]; exact hg.pat N a b
  · by_cases e : N = r.1
    · subst e
      have h1 := h.bnd a b hab
      cases ho : (st1 r.1 0 0).ok with
      | true => rw [ho] at h1; simp only [if_true] at h1; omega
      | false =>
        rw [ho] at h1
        simp only [Bool.false_eq_true, if_false] at h1
        have h2 := cnt_lt (nons := p.nons) hup (hp.left r hr) ho ((hpat a b).1 hab).2.2
        have h3 : (4 : Nat) ^ (cnt p.nons st1 + 1) ≤ 4 ^ cnt p.nons st := Nat.pow_le_pow_right (by omega) h2
        have h4 : (4 : Int) ^ cnt p.nons st1 * 4 ≤ 4 ^ cnt p.nons st := by rw [Nat.pow_succ] at h3; exact_mod_cast h3
        unfold lev at h1 ⊢; omega
    · rw [h.oth N e] at hab ⊢; have := hg.bnd N a b hab; omega
  · by_cases e : N = r.1
    · have := hp.left r hr; omega
    · rw [h.oth N e]; exact hg.out N a b hN
/-- no way at all is good -/
theorem Good.start (p : Pm) : Good p (fun _ _ _ => Way.no) :=
  ⟨fun _ _ _ => .no _ _ _, fun N i j => by simp [Way.no], fun N i j h => (by cases h), fun _ _ _ _ => rfl, fun _ _ _ _ => rfl⟩
end
end Go.Proofs.Ytghnkgbingcbcaa
