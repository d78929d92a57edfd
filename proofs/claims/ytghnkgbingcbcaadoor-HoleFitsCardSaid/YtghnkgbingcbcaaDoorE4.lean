/- Texts AJ, HS, laid together. -/
import Derived.Test.YtghnkgbingcbcaaDoorP1
import Derived.Test.YtghnkgbingcbcaaDoorH3


namespace Go.Proofs.YtghnkgbingcbcaaDoor
open Go.RowKit

theorem numW_append (B : Nat) (a b : List Int) : numW B (a ++ b) = numW B a * B ^ b.length + numW B b := by
  induction a with
  | nil => simp [numW]
  | cons x a ih =>
    rw [List.cons_append, numW, ih, numW, List.length_append, Nat.add_mul, Nat.mul_assoc, ← Nat.pow_add]; omega
theorem numW_le {B : Nat} : ∀ {xs ys : List Int}, xs.length = ys.length → (∀ x ∈ xs, 0 ≤ x ∧ x < (B : Int)) → (∀ x ∈ ys, 0 ≤ x ∧ x < (B : Int)) → ¬ cmpL xs ys < 0 → numW B ys ≤ numW B xs
  | [], [], _, _, _, _ => Nat.le_refl _
  | [], _ :: _, hl, _, _, _ => by simp at hl
  | _ :: _, [], hl, _, _, _ => by simp at hl
  | x :: xs, y :: ys, hl, hx, hy, h => by
    have hl' : xs.length = ys.length := by simpa using hl
    rw [cmpL] at h
    rw [numW, numW, hl']
    split at h
    · rename_i e
      have := numW_le hl' (fun z hz => hx z (List.mem_cons_of_mem _ hz)) (fun z hz => hy z (List.mem_cons_of_mem _ hz)) h
      rw [cmpI_zero.1 e]; omega
    · rename_i e
      have h1 : y < x := by
        rcases Int.lt_trichotomy x y with h2 | h2 | h2
        · exact absurd (cmpI_neg.2 h2) h
        · exact absurd (cmpI_zero.2 h2) e
        · exact h2
      have h2 := numW_lt (B := B) (xs := ys) fun z hz => hy z (List.mem_cons_of_mem _ hz)
      have hy0 := hy y (List.mem_cons_self ..)
      have h3 : y.toNat + 1 ≤ x.toNat := by omega
      have h4 : (y.toNat + 1) * B ^ ys.length ≤ x.toNat * B ^ ys.length := Nat.mul_le_mul_right _ h3
      rw [Nat.add_mul, Nat.one_mul] at h4
      omega
/-- a way of L letters that costs nothing -/
def Fm (L : Nat) (x : Way) : Prop := x.ok = true → x.cost = 0 ∧ x.size = (L : Int) ∧ x.w.length = L ∧ ∀ y ∈ x.w, 0 ≤ y ∧ y < ((8 : Nat) : Int)
theorem Fm.no (L : Nat) : Fm L Way.no := fun h => by cases h
theorem Fm.wcmp {L : Nat} {x y : Way} (hx : Fm L x) (hy : Fm L y) (h1 : x.ok = true) (h2 : y.ok = true) : Go.Proofs.YtghnkgbingcbcaaDoor.wcmp x y = cmpL x.w y.w := by
  obtain ⟨a1, a2, _⟩ := hx h1
  obtain ⟨b1, b2, _⟩ := hy h2
  unfold Go.Proofs.YtghnkgbingcbcaaDoor.wcmp
  rw [a1, a2, b1, b2]
  have e : ∀ z : Int, cmpI z z = 0 := fun z => cmpI_zero.2 rfl
  by_cases h : cmpL x.w y.w = 0 <;> simp [orL, e, h]
theorem Fm.less {L : Nat} {x y : Way} (hx : Fm L x) (hy : Fm L y) (h2 : y.ok = true) (h : lessW x y = true) : numW 8 x.w ≤ numW 8 y.w := by
  have h1 := lessW_ok h
  have h3 := lessW_both h h2
  rw [hx.wcmp hy h1 h2] at h3
  exact Nat.le_of_lt (numW_mono (by rw [(hx h1).2.2.1, (hy h2).2.2.1]) (hx h1).2.2.2 (hy h2).2.2.2 h3)
theorem Fm.not {L : Nat} {x y : Way} (hx : Fm L x) (hy : Fm L y) (h1 : x.ok = true) (h : lessW x y = false) : y.ok = true ∧ numW 8 y.w ≤ numW 8 x.w := by
  have h2 := (lessW_not h h1).1
  refine ⟨h2, ?_⟩
  have h3 : ¬ Go.Proofs.YtghnkgbingcbcaaDoor.wcmp x y < 0 := by
    rw [lessW, h1, h2] at h
    simpa using h
  rw [hx.wcmp hy h1 h2] at h3
  exact numW_le (by rw [(hx h1).2.2.1, (hy h2).2.2.1]) (hx h1).2.2.2 (hy h2).2.2.2 h3
theorem Fm.then_ {L M : Nat} {a x : Way} (ha : Fm L a) (hx : Fm M x) (h : L + M ≤ 2000) : Fm (L + M) (thenW a x) := by
  intro ho
  have h1 : a.ok = true := by simp [thenW] at ho; exact ho.1
  have h2 : x.ok = true := by simp [thenW] at ho; exact ho.2
  obtain ⟨a1, a2, a3, a4⟩ := ha h1
  obtain ⟨b1, b2, b3, b4⟩ := hx h2
  have e : (thenW a x).w = a.w ++ x.w := by
    simp only [thenW, h1, h2, a2, b2, Bool.and_self, Bool.true_and, decide_eq_true_eq]
    rw [if_pos (by omega)]
  refine ⟨by simp only [thenW, a1, b1]; rfl, by simp only [thenW, a2, b2]; omega, by rw [e, List.length_append]; omega, fun y hy => ?_⟩
  rw [e] at hy
  rcases List.mem_append.1 hy with hy | hy
  · exact a4 y hy
  · exact b4 y hy
theorem Fm.thenw {L M : Nat} {a x : Way} (ha : Fm L a) (hx : Fm M x) (h : L + M ≤ 2000) (h1 : a.ok = true) (h2 : x.ok = true) : (thenW a x).w = a.w ++ x.w := by
  obtain ⟨a1, a2, a3, a4⟩ := ha h1
  obtain ⟨b1, b2, b3, b4⟩ := hx h2
  simp only [thenW, h1, h2, a2, b2, Bool.and_self, Bool.true_and, decide_eq_true_eq]
  rw [if_pos (by omega)]
theorem Fm.hope {L M : Nat} {a x t : Way} (ha : Fm L a) (hx : Fm M x) (ht : Fm (L + M) t) (h1 : a.ok = true) (h2 : x.ok = true) : hopeW a x t = false := by
  unfold hopeW
  rw [h1, h2]
  cases hk : t.ok with
  | false => rfl
  | true =>
    obtain ⟨a1, a2, _⟩ := ha h1
    obtain ⟨b1, b2, _⟩ := hx h2
    obtain ⟨t1, t2, _⟩ := ht hk
    rw [a1, a2, b1, b2, t1, t2, show ((L + M : Nat) : Int) = (L : Int) + (M : Int) from by omega]
    have e : ∀ z : Int, cmpI z z = 0 := fun z => cmpI_zero.2 rfl
    simp [orL, e]
/-- x is kept in the place of y -/
def Le (x y : Way) : Prop := y.ok = true → x.ok = true ∧ numW 8 x.w ≤ numW 8 y.w
theorem Le.refl (x : Way) : Le x x := fun h => ⟨h, Nat.le_refl _⟩
theorem Le.trans {x y z : Way} (h : Le x y) (k : Le y z) : Le x z := fun hz => by
  obtain ⟨h1, h2⟩ := k hz; obtain ⟨h3, h4⟩ := h h1; exact ⟨h3, by omega⟩
theorem goJ_le {L M : Nat} {a x : Way} {f : Nat → Way} {j : Nat} (ha : Fm L a) (hx : Fm M x) (hf : Fm (L + M) (f j)) (hl : L + M ≤ 2000) (i : Nat) : Le (goJ a x f j i) (f i) := by
  unfold goJ
  split
  · exact .refl _
  · split
    · rename_i hh
      by_cases e : i = j
      · subst e; rw [upd_same]; exact fun h => ⟨lessW_ok hh, (ha.then_ hx hl).less hf h hh⟩
      · rw [upd_ne _ _ e]; exact .refl _
    · exact .refl _
theorem goJ_num {L M : Nat} {a x : Way} {f : Nat → Way} {j : Nat} (ha : Fm L a) (hx : Fm M x) (hf : Fm (L + M) (f j)) (hl : L + M ≤ 2000) (h1 : a.ok = true) (h2 : x.ok = true) : Le (goJ a x f j j) (thenW a x) := by
  intro ht
  unfold goJ
  rw [if_neg (by rw [ha.hope hx hf h1 h2]; simp)]
  split
  · rw [upd_same]; exact ⟨ht, Nat.le_refl _⟩
  · rename_i h
    exact (ha.then_ hx hl).not hf ht (by simpa using h)
section
variable {i n : Nat} {sym : Nat → Nat → Way}
theorem rowJ_fm {k : Nat} {a : Way} {f : Nat → Way} {m : Nat} (hik : i ≤ k) (hn : n ≤ 2000) (hkm : k + m ≤ n + 1) (ha : Fm (k - i) a) (hs : ∀ j, k ≤ j → j ≤ n → Fm (j - k) (sym k j)) (hf : ∀ j, Fm (j - i) (f j)) : ∀ j, Fm (j - i) (rowJ a (sym k) k f m j) :=
  rowJ_inv (P := fun j x => Fm (j - i) x) hf fun j h1 h2 _ _ => by
    have := ha.then_ (hs j h1 (by omega)) (by omega)
    rwa [show k - i + (j - k) = j - i by omega] at this
theorem rowJ_le {k : Nat} {a : Way} {f : Nat → Way} {m : Nat} (hik : i ≤ k) (hn : n ≤ 2000) (hkm : k + m ≤ n + 1) (ha : Fm (k - i) a) (hs : ∀ j, k ≤ j → j ≤ n → Fm (j - k) (sym k j)) (hf : ∀ j, Fm (j - i) (f j)) (j : Nat) : Le (rowJ a (sym k) k f m j) (f j) := by
  induction m with
  | zero => exact .refl _
  | succ m ih =>
    refine Le.trans ?_ (ih (by omega))
    have h := rowJ_fm hik hn (show k + m ≤ n + 1 by omega) ha hs hf (k + m)
    rw [show k + m - i = (k - i) + (k + m - k) by omega] at h
    exact goJ_le ha (hs (k + m) (by omega) (by omega)) h (by omega) j
theorem rowJ_num {k : Nat} {a : Way} {f : Nat → Way} {m j : Nat} (hik : i ≤ k) (hn : n ≤ 2000) (hkm : k + m ≤ n + 1) (ha : Fm (k - i) a) (hs : ∀ j, k ≤ j → j ≤ n → Fm (j - k) (sym k j)) (hf : ∀ j, Fm (j - i) (f j)) (h1 : a.ok = true) (hj : k ≤ j) (hj2 : j < k + m) (h2 : (sym k j).ok = true) : Le (rowJ a (sym k) k f m j) (thenW a (sym k j)) := by
  induction m with
  | zero => omega
  | succ m ih =>
    have h := rowJ_fm hik hn (show k + m ≤ n + 1 by omega) ha hs hf (k + m)
    rw [show k + m - i = (k - i) + (k + m - k) by omega] at h
    by_cases e : j = k + m
    · subst e
      exact goJ_num ha (hs _ (by omega) (by omega)) h (by omega) h1 h2
    · exact Le.trans (goJ_le ha (hs (k + m) (by omega) (by omega)) h (by omega) j) (ih (by omega) (by omega))
variable {at_ : Nat → Way}
theorem rowK_fm {m : Nat} (hn : n ≤ 2000) (hm : i + m ≤ n + 1) (ha : ∀ k, Fm (k - i) (at_ k)) (hs : ∀ k j, k ≤ j → j ≤ n → Fm (j - k) (sym k j)) : ∀ j, Fm (j - i) (rowK at_ sym n i m j) := by
  induction m with
  | zero => exact fun _ => .no _
  | succ m ih =>
    rw [rowK]; split
    · exact rowJ_fm (by omega) hn (by omega) (ha _) (hs _) (ih (by omega))
    · exact ih (by omega)
theorem rowK_num {m k j : Nat} (hn : n ≤ 2000) (hm : i + m ≤ n + 1) (ha : ∀ k, Fm (k - i) (at_ k)) (hs : ∀ k j, k ≤ j → j ≤ n → Fm (j - k) (sym k j)) (h1 : i ≤ k) (h2 : k < i + m) (h3 : k ≤ j) (h4 : j ≤ n) (hk : (at_ k).ok = true) (hx : (sym k j).ok = true) : Le (rowK at_ sym n i m j) (thenW (at_ k) (sym k j)) := by
  induction m with
  | zero => omega
  | succ m ih =>
    by_cases e : k = i + m
    · subst e; rw [rowK, if_pos hk]
      exact rowJ_num (by omega) hn (by omega) (ha _) (hs _) (rowK_fm hn (by omega) ha hs) hk h3 (by omega) hx
    · refine Le.trans ?_ (ih (by omega) (by omega))
      rw [rowK]; split
      · exact rowJ_le (by omega) hn (by omega) (ha _) (hs _) (rowK_fm hn (by omega) ha hs) j
      · exact .refl _
end
/-- entries that lie one behind another, and their word -/
inductive CovW (sym : Sy → Nat → Nat → Way) (n : Nat) : List Sy → Nat → Nat → List Int → Prop
  | nil (i : Nat) : CovW sym n [] i i []
  | snoc (s : Sy) {l : List Sy} {i k j : Nat} {u : List Int} (h : CovW sym n l i k u) (h1 : k ≤ j) (h2 : j ≤ n) (hs : (sym s k j).ok = true) : CovW sym n (l ++ [s]) i j (u ++ (sym s k j).w)
theorem CovW.le {sym : Sy → Nat → Nat → Way} {n : Nat} {l : List Sy} {i j : Nat} {u : List Int} (h : CovW sym n l i j u) : i ≤ j := by
  induction h with
  | nil => exact Nat.le_refl _
  | snoc s h h1 h2 hs ih => omega
theorem CovW.nil_inv {sym : Sy → Nat → Nat → Way} {n : Nat} {l : List Sy} {i j : Nat} {u : List Int} (h : CovW sym n l i j u) : l = [] → i = j ∧ u = [] := by
  induction h with
  | nil => exact fun _ => ⟨rfl, rfl⟩
  | snoc s h h1 h2 hs ih => intro e; simp at e
theorem foldRow_fm {sym : Sy → Nat → Nat → Way} {n i : Nat} (hn : n ≤ 2000) (hi : i ≤ n) : ∀ {l : List Sy}, (∀ s ∈ l, ∀ k j, k ≤ j → j ≤ n → Fm (j - k) (sym s k j)) → ∀ j, Fm (j - i) (foldRow sym n i l j) := by
  intro l
  induction l using snoc_induction with
  | h0 =>
    intro _ j
    by_cases e : j = i
    · subst e
      simp only [foldRow, List.foldl_nil, upd_same]
      intro _; exact ⟨rfl, by simp, by simp, by simp⟩
    · simp only [foldRow, List.foldl_nil, upd_ne _ _ e]; exact .no _
  | hs l s ih =>
    intro h j
    rw [foldRow_snoc]
    exact rowK_fm hn (by omega) (ih fun t ht => h t (List.mem_append_left _ ht)) (h s (by simp)) j
theorem foldRow_num {sym : Sy → Nat → Nat → Way} {n : Nat} (hn : n ≤ 2000) {l : List Sy} {i j : Nat} {u : List Int} (h : CovW sym n l i j u) : j ≤ n → (∀ s ∈ l, ∀ k j, k ≤ j → j ≤ n → Fm (j - k) (sym s k j)) → (foldRow sym n i l j).ok = true ∧ numW 8 (foldRow sym n i l j).w ≤ numW 8 u := by
  induction h with
  | nil i => intro _ _; simp [foldRow, upd_same]
  | @snoc s l i k j u h h1 h2 hs ih =>
    intro hj hf
    have hik := h.le
    have hf' : ∀ t ∈ l, ∀ k j, k ≤ j → j ≤ n → Fm (j - k) (sym t k j) := fun t ht => hf t (List.mem_append_left _ ht)
    have hfs := hf s (by simp)
    obtain ⟨h3, h4⟩ := ih (by omega) hf'
    have hfm := foldRow_fm hn (show i ≤ n by omega) hf'
    rw [foldRow_snoc]
    have h5 := rowK_num (m := n + 1 - i) hn (by omega) hfm hfs hik (by omega) h1 hj h3 hs
    have h6 := (hfm k).thenw (hfs k j h1 hj) (by omega) h3 hs
    obtain ⟨h7, h8⟩ := h5 (by simp [thenW, h3, hs])
    refine ⟨h7, Nat.le_trans h8 ?_⟩
    rw [h6, numW_append, numW_append]
    have := Nat.mul_le_mul_right (8 ^ (sym s k j).w.length) h4
    omega
section
variable {rules : List Ru} {cells : List Ce} {st : WSt}
theorem GoodH.fm (h : GoodH rules cells st) (hl : ∀ r ∈ rules, ∀ s ∈ r.2, s.1 = true → s.2 < 8) (N i j : Nat) : Fm (j - i) (st N i j) := by
  intro ho
  obtain ⟨h1, h2, h0, v, h3, h4, h5⟩ := h.snd N i j ho
  have hv := h3.len
  rw [gpart_len h2] at hv
  exact ⟨h0, by rw [h4]; omega, by rw [h5]; omega, by rw [h5]; exact h3.lets hl fun s hs hb => by rw [List.mem_singleton.1 hs] at hb; cases hb⟩
theorem symH_fm (h : GoodH rules cells st) (hl : ∀ r ∈ rules, ∀ s ∈ r.2, s.1 = true → s.2 < 8) {s : Sy} (hs : s.1 = true → s.2 < 8) (k j : Nat) : Fm (j - k) (symH cells st s k j) := by
  obtain ⟨b, t⟩ := s
  cases b with
  | false => exact h.fm hl t k j
  | true =>
    rw [symH, if_pos rfl]
    split
    · rename_i e
      intro _
      have := hs rfl
      simp only at this
      refine ⟨rfl, by rw [e.1]; simp, by rw [e.1]; simp, fun y hy => ?_⟩
      rw [List.mem_singleton.1 hy]; omega
    · exact .no _
theorem FixH.covW (hf : FixH rules cells st) (hg : GoodH rules cells st) (hl : ∀ r ∈ rules, ∀ s ∈ r.2, s.1 = true → s.2 < 8) (hc : cells.length ≤ 2000) {l : List Sy} {cs : List Ce} {v : List Int} (h : Ms rules l cs v) :
    (∀ s ∈ l, s.1 = true → s.2 < 8) → ∀ i j, i ≤ j → j ≤ cells.length → cs = gpart cells i j → ∀ l0 a u0, CovW (symH cells st) cells.length l0 a i u0 → ∃ u, CovW (symH cells st) cells.length (l0 ++ l) a j (u0 ++ u) ∧ numW 8 u ≤ numW 8 v ∧ u.length = v.length := by
  induction h with
  | nil =>
    intro _ i j h1 h2 e l0 a u0 hc0
    have := gpart_len (i := i) h2
    rw [← e] at this
    simp at this
    obtain rfl : i = j := by omega
    exact ⟨[], by simpa using hc0, Nat.le_refl _, rfl⟩
  | @term t c hcc l cs v h ih =>
    intro hlt i j h1 h2 e l0 a u0 hc0
    obtain ⟨m, hm, m1, m2, e1, e2⟩ := gpart_split (p1 := [c]) h1 h2 e.symm
    simp at hm
    subst hm
    have hx : cells[i]? = some c := gpart_one e1
    have hsy : symH cells st (true, t) i (i + 1) = ⟨0, 1, [(t : Int)], true⟩ := by
      rw [symH, if_pos rfl, if_pos ⟨rfl, by rw [hx]; simp [hcc]⟩]
    have h3 := CovW.snoc (true, t) hc0 (Nat.le_succ i) (by omega) (by rw [hsy])
    rw [hsy] at h3
    obtain ⟨u, hu1, hu2, hu3⟩ := ih (fun s hs => hlt s (List.mem_cons_of_mem _ hs)) (i + 1) j m2 h2 e2.symm _ _ _ h3
    refine ⟨(t : Int) :: u, by simpa using hu1, ?_, by simp [hu3]⟩
    rw [numW, numW, hu3]; omega
  | @non N rhs l c1 c2 v1 v2 hr hu hv ih1 ih2 =>
    intro hlt i j h1 h2 e l0 a u0 hc0
    obtain ⟨m, -, m1, m2, e1, e2⟩ := gpart_split h1 h2 e.symm
    have hrl := hl _ hr
    obtain ⟨u1, k1, k2, k3⟩ := ih1 hrl i m m1 (by omega) e1.symm [] i [] (.nil i)
    rw [List.nil_append, List.nil_append] at k1
    obtain ⟨k4, k5⟩ := foldRow_num hc k1 (by omega) fun s hs k j _ _ => symH_fm hg hl (hrl s hs) k j
    have k6 : lessW (ruleH cells st i rhs m) (st N i m) = false := hf _ hr i m m1 (by omega)
    have k7 : Fm (m - i) (ruleH cells st i rhs m) := foldRow_fm hc (by omega) (fun s hs k j _ _ => symH_fm hg hl (hrl s hs) k j) m
    obtain ⟨k8, k9⟩ := k7.not (hg.fm hl N i m) k4 k6
    have k10 := (hg.fm hl N i m k8).2.2.1
    have hv1 := hu.len
    rw [e1.symm, gpart_len (by omega)] at hv1
    have h3 := CovW.snoc (false, N) hc0 m1 (by omega) (show (symH cells st (false, N) i m).ok = true by rw [symH, if_neg (by simp)]; exact k8)
    rw [show symH cells st (false, N) i m = st N i m by rw [symH, if_neg (by simp)]] at h3
    obtain ⟨u, hu1, hu2, hu3⟩ := ih2 (fun s hs => hlt s (List.mem_cons_of_mem _ hs)) m j m2 h2 e2.symm _ _ _ h3
    refine ⟨(st N i m).w ++ u, by simpa using hu1, ?_, by simp; omega⟩
    have k11 : numW 8 (st N i m).w ≤ numW 8 v1 := Nat.le_trans k9 (Nat.le_trans k5 k2)
    rw [numW_append, numW_append, hu3]
    have := Nat.mul_le_mul_right (8 ^ v2.length) k11
    omega
theorem FixH.min (hf : FixH rules cells st) (hg : GoodH rules cells st) (hl : ∀ r ∈ rules, ∀ s ∈ r.2, s.1 = true → s.2 < 8) (hc : cells.length ≤ 2000) {N : Nat} {v : List Int} (h : Ms rules [(false, N)] cells v) : numW 8 (st N 0 cells.length).w ≤ numW 8 v := by
  obtain ⟨u, h1, h2, -⟩ := hf.covW hg hl hc h (fun s hs hb => by rw [List.mem_singleton.1 hs] at hb; cases hb) 0 cells.length (Nat.zero_le _) (Nat.le_refl _) (gpart_all cells).symm [] 0 [] (.nil 0)
  rw [List.nil_append, List.nil_append] at h1
  have key : ∀ (l : List Sy) (i j : Nat) (u : List Int), CovW (symH cells st) cells.length l i j u → l = [(false, N)] → i = 0 → u = (st N 0 j).w := by
    intro l i j u h
    induction h with
    | nil => intro h; cases h
    | @snoc s l i k j u h h1 h2 hs _ =>
      intro e e0
      have e1 : l = [] ∧ s = (false, N) := by
        cases l with
        | nil => exact ⟨rfl, by simpa using e⟩
        | cons a l => simp at e
      obtain ⟨rfl, rfl⟩ := e1
      obtain ⟨rfl, rfl⟩ := h.nil_inv rfl
      subst e0; rw [List.nil_append, symH, if_neg (by simp)]
  rw [← key _ _ _ _ h1 rfl rfl]; exact h2
end
end Go.Proofs.YtghnkgbingcbcaaDoor



namespace Go.Proofs.YtghnkgbingcbcaaDoor
open Go.RowKit

/-! ### plain laws -/
theorem Ms.swap {rules : List Ru} {l : List Sy} {cs : List Ce} {v : List Int} (h : Ms rules l cs v) : ∀ cs' : List Ce, cs'.length = cs.length → (∀ (j : Nat) (x : Ce), cs'[j]? = some x → cs[j]? = some x ∨ ∃ y, v[j]? = some y ∧ x = (true, y)) → Ms rules l cs' v := by
  induction h with
  | nil => intro cs' hl _; rw [List.eq_nil_of_length_eq_zero hl]; exact .nil
  | @term t c hc l cs v h ih =>
    intro cs' hl hx
    cases cs' with
    | nil => simp at hl
    | cons x cs' =>
      refine .term t x ?_ (ih cs' (by simpa using hl) fun j y hy => ?_)
      · rcases hx 0 x rfl with h0 | ⟨y, h0, rfl⟩
        · simp at h0; rw [← h0]; exact hc
        · simp at h0; rw [← h0]; simp [isC]
      · have := hx (j + 1) y (by simpa using hy)
        simpa using this
  | @non N rhs l c1 c2 u v hr h1 h2 ih1 ih2 =>
    intro cs' hl hx
    have hu := h1.len
    rw [List.length_append] at hl
    rw [← List.take_append_drop c1.length cs']
    refine .non N hr (ih1 _ (by rw [List.length_take]; omega) fun j x hj => ?_) (ih2 _ (by rw [List.length_drop]; omega) fun j x hj => ?_)
    · have hjl : j < c1.length := by have := (List.getElem?_eq_some_iff.1 hj).1; rw [List.length_take] at this; omega
      rw [List.getElem?_take, if_pos hjl] at hj
      have := hx j x hj
      rw [List.getElem?_append_left hjl, List.getElem?_append_left (by omega)] at this
      exact this
    · rw [List.getElem?_drop] at hj
      have := hx _ x hj
      rw [List.getElem?_append_right (by omega), List.getElem?_append_right (by omega), hu] at this
      simpa using this
theorem Ms.up {rules : List Ru} {l : List Sy} {cs : List Ce} {v : List Int} (h : Ms rules l cs v) : ∀ cs' : List Ce, cs'.length = cs.length → (∀ (j : Nat) (x x' : Ce), cs[j]? = some x → cs'[j]? = some x' → ∀ s, isC s x = true → isC s x' = true) → Ms rules l cs' v := by
  induction h with
  | nil => intro cs' hl _; rw [List.eq_nil_of_length_eq_zero hl]; exact .nil
  | @term t c hc l cs v h ih =>
    intro cs' hl hx
    cases cs' with
    | nil => simp at hl
    | cons x cs' => exact .term t x (hx 0 c x rfl rfl _ hc) (ih cs' (by simpa using hl) fun j y y' hy hy' => hx (j + 1) y y' (by simpa using hy) (by simpa using hy'))
  | @non N rhs l c1 c2 u v hr h1 h2 ih1 ih2 =>
    intro cs' hl hx
    rw [List.length_append] at hl
    rw [← List.take_append_drop c1.length cs']
    refine .non N hr (ih1 _ (by rw [List.length_take]; omega) fun j x x' hj hj' => ?_) (ih2 _ (by rw [List.length_drop]; omega) fun j x x' hj hj' => ?_)
    · have hjl : j < c1.length := (List.getElem?_eq_some_iff.1 hj).1
      rw [List.getElem?_take, if_pos hjl] at hj'
      exact hx j x x' (by rw [List.getElem?_append_left hjl]; exact hj) hj'
    · rw [List.getElem?_drop] at hj'
      exact hx _ x x' (by rw [List.getElem?_append_right (by omega)]; simpa using hj) hj'
theorem canDo_any {g : Gr} (hg : GrOk g) {cs : List Ce} {i : Nat} (hi : cs[i]? = some (true, -1)) : CanDo g cs ↔ ∃ t : Nat, t < g.terms ∧ CanDo g (cs.set i (true, (t : Int))) := by
  have hil := (List.getElem?_eq_some_iff.1 hi).1
  constructor
  · rintro ⟨v, h⟩
    have hl := h.len
    have hy : v[i]? = some v[i] := List.getElem?_eq_getElem (by omega)
    have hr := h.lets (B := g.terms) (fun r hr s hs hb => by
      have := (hg.ok.right r hr).2 s hs
      rwa [Gr.okSy, if_pos hb] at this) (fun s hs hb => by rw [List.mem_singleton.1 hs] at hb; cases hb) _ (List.getElem_mem (show i < v.length by omega))
    refine ⟨v[i].toNat, by omega, v, h.swap _ (by simp) fun j x hx => ?_⟩
    by_cases e : i = j
    · subst e
      rw [List.getElem?_set_self hil] at hx
      right
      exact ⟨_, hy, by rw [← Option.some.inj hx]; congr 1; omega⟩
    · rw [List.getElem?_set_ne e] at hx; exact Or.inl hx
  · rintro ⟨t, -, v, h⟩
    refine ⟨v, h.up _ (by simp) fun j x x' hx hx' s hs => ?_⟩
    by_cases e : i = j
    · subst e
      rw [List.getElem?_set_self hil] at hx
      rw [hi] at hx'
      rw [← Option.some.inj hx'] 
      rw [← Option.some.inj hx] at hs
      obtain ⟨sb, sn⟩ := s
      simp only [isC, Bool.or_eq_true, decide_eq_true_eq, Bool.and_eq_true, Prod.mk.injEq] at hs ⊢
      rcases hs with hs | hs
      · exact Or.inr ⟨hs.1.symm, trivial⟩
      · exact Or.inr ⟨hs.1, trivial⟩
    · rw [List.getElem?_set_ne e] at hx
      rw [hx] at hx'
      rw [← Option.some.inj hx']; exact hs
theorem listG_can : CanDo listG [(true, 0)] :=
  ⟨[0], Ms.one (rules := listG.rules) (N := 0) (rhs := [(true, 0)]) (by simp [listG]) (.term 0 (true, 0) rfl .nil)⟩
theorem may_list {w w' : World} {e : Ending} (h : MayP w listG [(true, -1)] 0 e w') : ∃ A c, e = .returned (.tuple #[.slice A 1 c, .int .i64 0]) ∧ Sl BoE (fun x => w.heap.size ≤ x) w' A 1 c [true] ∧ Below w.heap.size w w' := by
  obtain ⟨A, c, bs, rfl, hs, hb, hw⟩ := h
  have hl := hs.len
  have e1 : bs = [true] := by
    match bs, hl, hb with
    | [b], _, hb =>
      have := (hb 0 b rfl).2 listG_can
      rw [this]
  rw [e1] at hs
  exact ⟨A, c, rfl, hs, hw⟩
theorem okCe_word {g : Gr} {xs : List Int} (h : ∀ x ∈ xs, 0 ≤ x ∧ x < (g.terms : Int)) {i : Nat} {y : Ce} (hy : okCe g y) : ∀ x ∈ (xs.map fun x => ((true, x) : Ce)).set i y, okCe g x := by
  intro x hx
  rcases List.mem_or_eq_of_mem_set hx with hx | rfl
  · obtain ⟨z, hz, rfl⟩ := List.mem_map.1 hx
    have := h z hz
    exact ⟨rfl, Or.inl ⟨z.toNat, by simp; omega, by omega⟩⟩
  · exact hy
theorem CeB.one (w : World) : CeB (w.alloc (.cells #[.bool true, .int .i64 (-1)] 44)) w.heap.size 1 1 [(true, -1)] :=
  ⟨rfl, Nat.le_refl _, _, Blk.new w _ _, fun i x hx => by
    match i, hx with
    | 0, hx => simp at hx; subst hx; exact ⟨rfl, rfl⟩
    | i + 1, hx => simp at hx⟩
theorem Sl.oneB (w : World) : Sl BoE (fun _ => True) (w.alloc (.cells #[.bool true] 4)) (some ⟨w.heap.size, 0, none⟩) 1 1 [true] :=
  Sl.ofBlk (ok := fun _ => True) (Blk.new w _ _) [true] rfl rfl rfl trivial fun i r x hr hx => by rw [hr] at hx; exact Option.some.inj hx
end Go.Proofs.YtghnkgbingcbcaaDoor

