/- Texts IQ, laid together. -/
import Derived.Test.YthkldiehokblcaaIP
import Derived.Test.YthkldiehokblcaaID



namespace Go.Proofs.Ythkldiehokblcaa
open Go.RowKit

/-! ### rounds -/
def itF {S : Type} (F : S → S) (s0 : S) : Nat → S
  | 0 => s0
  | k + 1 => F (itF F s0 k)
theorem itF_fix {S : Type} (F : S → S) (m : S → Nat) (M : Nat) (s0 : S) (I : S → Prop) (h0 : I s0) (hI : ∀ s, I s → I (F s)) (h : ∀ s, I s → F s = s ∨ m (F s) < m s) (hM : m s0 ≤ M) (k : Nat) (hk : M ≤ k) : F (itF F s0 k) = itF F s0 k := by
  have hi : ∀ k, I (itF F s0 k) := fun k => by
    induction k with
    | zero => exact h0
    | succ k ih => exact hI _ ih
  have key : ∀ k, m (itF F s0 k) + k ≤ M ∨ F (itF F s0 k) = itF F s0 k := fun k => by
    induction k with
    | zero => exact Or.inl hM
    | succ k ih =>
      rcases ih with ih | ih
      · rcases h _ (hi k) with e | e
        · right; show F (F (itF F s0 k)) = F (itF F s0 k); rw [e]; exact e
        · left; show m (F (itF F s0 k)) + (k + 1) ≤ M; omega
      · right; show F (F (itF F s0 k)) = F (itF F s0 k); rw [ih]; exact ih
  rcases key k with h1 | h1
  · rcases h _ (hi k) with e | e
    · exact e
    · omega
  · exact h1
theorem fold_inv {S α : Type} (P : S → Prop) (step : S → α → S) : ∀ (L : List α), (∀ s, ∀ u ∈ L, P s → P (step s u)) → ∀ s, P s → P (L.foldl step s)
  | [], _, _, h => h
  | a :: L, h, s, hs => fold_inv P step L (fun s u hu => h s u (by simp [hu])) _ (h s a (by simp) hs)
theorem fold_fix {S α : Type} (le : S → S → Prop) (refl : ∀ a, le a a) (trans : ∀ a b c, le a b → le b c → le a c) (anti : ∀ a b, le a b → le b a → a = b) (step : S → α → S) (infl : ∀ s u, le s (step s u)) :
    ∀ (L : List α) (s : S), L.foldl step s = s → ∀ u ∈ L, step s u = s := by
  have all : ∀ (L : List α) (s : S), le s (L.foldl step s) := by
    intro L
    induction L with
    | nil => exact fun s => refl s
    | cons a L ih => exact fun s => trans _ _ _ (infl s a) (ih _)
  intro L
  induction L with
  | nil => intro s _ u hu; cases hu
  | cons a L ih =>
    intro s h u hu
    rw [List.foldl_cons] at h
    have e : step s a = s := anti _ _ (by have := all L (step s a); rwa [h] at this) (infl s a)
    rcases List.mem_cons.1 hu with rfl | hu
    · exact e
    · rw [e] at h; exact ih s h u hu
theorem fold_infl {S α : Type} (le : S → S → Prop) (refl : ∀ a, le a a) (trans : ∀ a b c, le a b → le b c → le a c) (step : S → α → S) (infl : ∀ s u, le s (step s u)) : ∀ (L : List α) (s : S), le s (L.foldl step s)
  | [], s => refl s
  | a :: L, s => trans _ _ _ (infl s a) (fold_infl le refl trans step infl L _)
def leB (f g : Nat → Bool) : Prop := ∀ i, f i = true → g i = true
theorem leB_refl (a : Nat → Bool) : leB a a := fun _ h => h
theorem leB_trans (a b c : Nat → Bool) (h : leB a b) (k : leB b c) : leB a c := fun i e => k i (h i e)
theorem leB_anti (a b : Nat → Bool) (h : leB a b) (k : leB b a) : a = b := by
  funext i
  cases ha : a i with
  | true => exact (h i ha).symm
  | false =>
    cases hb : b i with
    | false => rfl
    | true => rw [k i hb] at ha; cases ha
theorem prog_B {f f' : Nat → Bool} {N : Nat} (le : leB f f') (supp : ∀ i, f' i = true → i < N) : f' = f ∨ cntF f' N < cntF f N := by
  by_cases h : ∃ i, f' i = true ∧ f i = false
  · obtain ⟨i, h1, h0⟩ := h
    exact Or.inr (cntF_lt le (supp i h1) h0 h1)
  · left
    refine leB_anti _ _ (fun i hi => ?_) le
    cases hf : f i with
    | true => rfl
    | false => exact absurd ⟨i, hi, hf⟩ h
/-! ### Null -/
section
variable {g : Gr} (hg : g.Ok)
include hg
omit hg in
theorem nul_infl (es : Nat → Bool) (u : Ru) : leB es (nulStep es u) := fun i h => by
  unfold nulStep
  by_cases e : i = u.1
  · subst e; simp [h]
  · simp [e, h]
theorem nul_ok (N : Nat) : rNul g N = true ↔ NullN g.rules N := by
  have hit : ∀ k, nulK g.rules k = itF (nulRound g.rules) (fun _ => false) k := fun k => by
    induction k with
    | zero => rfl
    | succ k ih => simp only [nulK, itF, ih]
  constructor
  · have : ∀ k, ∀ N, nulK g.rules k N = true → NullN g.rules N := fun k => by
      induction k with
      | zero => intro N h; cases h
      | succ k ih =>
        refine fold_inv (fun es : Nat → Bool => ∀ N, es N = true → NullN g.rules N) nulStep g.rules (fun es u hu hes N hN => ?_) _ ih
        unfold nulStep at hN
        by_cases e : N = u.1
        · subst e
          rw [if_pos rfl, Bool.or_eq_true] at hN
          rcases hN with h | h
          · exact hes _ h
          · have := ofE_null hes h
            exact .mk u.1 u.2 hu (fun s hs => (this s hs).1) (fun s hs => (this s hs).2)
        · rw [if_neg e] at hN; exact hes _ hN
    exact this g.nons N
  · intro h
    have hfix := itF_fix (nulRound g.rules) (fun f => cntF f g.nons) g.nons (fun _ => false) (fun f => ∀ i, f i = true → i < g.nons) (fun i h => by cases h)
      (fun s hs => fold_inv (fun f : Nat → Bool => ∀ i, f i = true → i < g.nons) nulStep g.rules (fun es u hu hes N hN => by
        unfold nulStep at hN
        by_cases e : N = u.1
        · subst e; exact hg.left u hu
        · rw [if_neg e] at hN; exact hes _ hN) s hs)
      (fun s hs => prog_B (fold_infl leB leB_refl leB_trans nulStep nul_infl g.rules s) (fold_inv (fun f : Nat → Bool => ∀ i, f i = true → i < g.nons) nulStep g.rules (fun es u hu hes N hN => by
        unfold nulStep at hN
        by_cases e : N = u.1
        · subst e; exact hg.left u hu
        · rw [if_neg e] at hN; exact hes _ hN) s hs))
      (cntF_bound _ _) g.nons (Nat.le_refl _)
    rw [← hit] at hfix
    have hcl := fold_fix leB leB_refl leB_trans leB_anti nulStep nul_infl g.rules _ hfix
    refine closed_null (fun u hu he => ?_) h
    have := congrFun (hcl u hu) u.1
    unfold nulStep at this
    rw [if_pos rfl] at this
    show nulK g.rules g.nons u.1 = true
    rw [← this, show ofE (nulK g.rules g.nons) u.2 = true from he]; simp
/-! ### First -/
omit hg in
theorem ofB_col (es : Nat → Bool) (fs : Nat → Nat → Bool) (t : Nat) : ∀ l : List Sy, ofB es fs l t = ofB es (fun N _ => fs N t) l t
  | [] => rfl
  | (true, k) :: l => rfl
  | (false, M) :: l => by simp only [ofB]; rw [ofB_col es fs t l]
def colStep (es : Nat → Bool) (t : Nat) (f : Nat → Bool) (u : Ru) : Nat → Bool := fun N => if N = u.1 then f u.1 || ofB es (fun N _ => f N) u.2 t else f N
omit hg in
theorem col_infl (es : Nat → Bool) (t : Nat) (f : Nat → Bool) (u : Ru) : leB f (colStep es t f u) := fun i h => by
  unfold colStep
  by_cases e : i = u.1
  · subst e; simp [h]
  · simp [e, h]
omit hg in
theorem fst_col (es : Nat → Bool) (t : Nat) : ∀ (R : List Ru) (fs : Nat → Nat → Bool), (fun N => fstRound es R fs N t) = R.foldl (colStep es t) (fun N => fs N t)
  | [], fs => rfl
  | u :: R, fs => by
    show (fun N => fstRound es R (fstStep es fs u) N t) = R.foldl (colStep es t) (colStep es t (fun N => fs N t) u)
    rw [fst_col es t R]
    congr 1
    funext N
    unfold fstStep colStep
    by_cases e : N = u.1
    · rw [if_pos e, if_pos e, ofB_col]
    · rw [if_neg e, if_neg e]
theorem fst_ok (N t : Nat) : rFst g N t = true ↔ FstN g.rules N t := by
  have hsn : ∀ N, rNul g N = true → NullN g.rules N := fun N h => (nul_ok hg N).1 h
  constructor
  · have : ∀ k, ∀ N t, fstK (rNul g) g.rules k N t = true → FstN g.rules N t := fun k => by
      induction k with
      | zero => intro N t h; cases h
      | succ k ih =>
        refine fold_inv (fun fs : Nat → Nat → Bool => ∀ N t, fs N t = true → FstN g.rules N t) (fstStep (rNul g)) g.rules (fun fs u hu hfs N t hN => ?_) _ ih
        unfold fstStep at hN
        by_cases e : N = u.1
        · subst e
          rw [if_pos rfl, Bool.or_eq_true] at hN
          rcases hN with h | h
          · exact hfs _ _ h
          · exact FstL.fstN (rhs := u.2) hu (ofB_fst hsn hfs h)
        · rw [if_neg e] at hN; exact hfs _ _ hN
    exact this g.nons N t
  · intro h
    refine closed_fst (B := g.terms) (es := rNul g) (fs := rFst g) (fun u hu s hs hb => ?_) (fun N hN => (nul_ok hg N).2 hN) (fun u hu t _ he => ?_) h
    · have := (hg.right u hu).2 s hs
      simp only [Gr.okSy, hb, if_true] at this
      exact this
    · have hit : ∀ k, (fun N => fstK (rNul g) g.rules k N t) = itF (fun f => g.rules.foldl (colStep (rNul g) t) f) (fun _ => false) k := fun k => by
        induction k with
        | zero => rfl
        | succ k ih =>
          show (fun N => fstRound (rNul g) g.rules (fstK (rNul g) g.rules k) N t) = _
          rw [fst_col, ih]; rfl
      have hsup : ∀ s : Nat → Bool, (∀ i, s i = true → i < g.nons) → ∀ i, g.rules.foldl (colStep (rNul g) t) s i = true → i < g.nons := fun s hs =>
        fold_inv (fun f : Nat → Bool => ∀ i, f i = true → i < g.nons) (colStep (rNul g) t) g.rules (fun f u hu hf N hN => by
          unfold colStep at hN
          by_cases e : N = u.1
          · subst e; exact hg.left u hu
          · rw [if_neg e] at hN; exact hf _ hN) s hs
      have hfix := itF_fix (fun f => g.rules.foldl (colStep (rNul g) t) f) (fun f => cntF f g.nons) g.nons (fun _ => false) (fun f => ∀ i, f i = true → i < g.nons) (fun i h => by cases h) hsup
        (fun s hs => prog_B (fold_infl leB leB_refl leB_trans (colStep (rNul g) t) (col_infl _ t) g.rules s) (hsup s hs)) (cntF_bound _ _) g.nons (Nat.le_refl _)
      rw [← hit] at hfix
      have hcl := fold_fix leB leB_refl leB_trans leB_anti (colStep (rNul g) t) (col_infl _ t) g.rules _ hfix
      have := congrFun (hcl u hu) u.1
      unfold colStep at this
      rw [if_pos rfl] at this
      show fstK (rNul g) g.rules g.nons u.1 t = true
      rw [← this]
      rw [show ofB (rNul g) (fun N _ => fstK (rNul g) g.rules g.nons N t) u.2 t = true from by rw [← ofB_col]; exact he]; simp
/-! ### Follow -/
abbrev ColS := (Nat → Bool) × (Nat → Bool)
omit hg in
def folSymT (es : Nat → Bool) (fs : Nat → Nat → Bool) (t : Nat) (u : Ru) (st : ColS) (j : Nat) : ColS := match u.2[j]? with
  | none => st
  | some y => if y.1 || !st.1 u.1 then st else
    (fun N => st.1 N || N == y.2, fun N => if N = y.2 then (st.2 y.2 || ofB es fs (u.2.drop (j + 1)) t) || (ofE es (u.2.drop (j + 1)) && st.2 u.1) else st.2 N)
def folT (es : Nat → Bool) (fs : Nat → Nat → Bool) (t : Nat) (st : ColS) (u : Ru) : ColS := (List.range u.2.length).foldl (folSymT es fs t u) st
def colS (t : Nat) (st : FoS) : ColS := (st.1, fun N => st.2 N t)
omit hg in
theorem colS_sym (es : Nat → Bool) (fs : Nat → Nat → Bool) (t : Nat) (u : Ru) (st : FoS) (j : Nat) : folSymT es fs t u (colS t st) j = colS t (folSym es fs u st j) := by
  unfold folSymT folSym colS
  cases u.2[j]? with
  | none => rfl
  | some y =>
    simp only
    split <;> rfl
omit hg in
theorem colS_round (es : Nat → Bool) (fs : Nat → Nat → Bool) (t : Nat) (R : List Ru) (st : FoS) : R.foldl (folT es fs t) (colS t st) = colS t (folRound es fs R st) := by
  unfold folRound
  refine List.foldl_hom (colS t) fun st u => ?_
  unfold folT folStep folPos
  exact List.foldl_hom (colS t) fun st j => colS_sym es fs t u st j
def leC (a b : ColS) : Prop := leB a.1 b.1 ∧ leB a.2 b.2
omit hg in
theorem leC_refl (a : ColS) : leC a a := ⟨leB_refl _, leB_refl _⟩
omit hg in
theorem leC_trans (a b c : ColS) (h : leC a b) (k : leC b c) : leC a c := ⟨leB_trans _ _ _ h.1 k.1, leB_trans _ _ _ h.2 k.2⟩
omit hg in
theorem leC_anti (a b : ColS) (h : leC a b) (k : leC b a) : a = b := Prod.ext (leB_anti _ _ h.1 k.1) (leB_anti _ _ h.2 k.2)
omit hg in
theorem sym_infl (es : Nat → Bool) (fs : Nat → Nat → Bool) (t : Nat) (u : Ru) (st : ColS) (j : Nat) : leC st (folSymT es fs t u st j) := by
  unfold folSymT
  cases u.2[j]? with
  | none => exact leC_refl _
  | some y =>
    simp only
    split
    · exact leC_refl _
    · refine ⟨fun i h => by simp [h], fun i h => ?_⟩
      simp only
      by_cases e : i = y.2
      · subst e; simp [h]
      · simp [e, h]
omit hg in
theorem rule_infl (es : Nat → Bool) (fs : Nat → Nat → Bool) (t : Nat) (st : ColS) (u : Ru) : leC st (folT es fs t st u) := fold_infl leC leC_refl leC_trans _ (sym_infl es fs t u) _ _
theorem sup_sym (es : Nat → Bool) (fs : Nat → Nat → Bool) (t : Nat) {u : Ru} (hu : u ∈ g.rules) (st : ColS) (j : Nat) (h : (∀ i, st.1 i = true → i < g.nons) ∧ ∀ i, st.2 i = true → i < g.nons) : (∀ i, (folSymT es fs t u st j).1 i = true → i < g.nons) ∧ ∀ i, (folSymT es fs t u st j).2 i = true → i < g.nons := by
  unfold folSymT
  cases hy : u.2[j]? with
  | none => exact h
  | some y =>
    simp only
    split
    · exact h
    · rename_i hc
      have hy2 : y.2 < g.nons := by
        have := (hg.right u hu).2 y (List.mem_of_getElem? hy)
        cases hb : y.1 with
        | true => simp [hb] at hc
        | false => simpa [Gr.okSy, hb] using this
      refine ⟨fun i hi => ?_, fun i hi => ?_⟩
      · simp only [Bool.or_eq_true, beq_iff_eq] at hi
        rcases hi with hi | hi
        · exact h.1 i hi
        · omega
      · simp only at hi
        by_cases e : i = y.2
        · omega
        · rw [if_neg e] at hi; exact h.2 i hi
theorem fol_sound (k : Nat) : (∀ N, (folK (rNul g) (rFst g) g.rules g.start g.terms k).1 N = true → RchN g.rules g.start N) ∧ ∀ N t, (folK (rNul g) (rFst g) g.rules g.start g.terms k).2 N t = true → FolN g.rules g.start g.terms N t := by
  induction k with
  | zero =>
    refine ⟨fun N h => ?_, fun N t h => ?_⟩
    · simp only [folK, beq_iff_eq] at h; subst h; exact .start
    · simp only [folK, Bool.and_eq_true, beq_iff_eq] at h; obtain ⟨rfl, rfl⟩ := h; exact .start
  | succ k ih =>
    refine fold_inv (fun st : FoS => (∀ N, st.1 N = true → RchN g.rules g.start N) ∧ ∀ N t, st.2 N t = true → FolN g.rules g.start g.terms N t) (folStep (rNul g) (rFst g)) g.rules (fun st u hu hst => ?_) _ ih
    refine fold_inv (fun st : FoS => (∀ N, st.1 N = true → RchN g.rules g.start N) ∧ ∀ N t, st.2 N t = true → FolN g.rules g.start g.terms N t) (folSym (rNul g) (rFst g) u) _ (fun st j _ hst => ?_) _ hst
    unfold folSym
    cases hy : u.2[j]? with
    | none => exact hst
    | some y =>
      simp only
      split
      · exact hst
      · rename_i hc
        simp only [Bool.or_eq_true, Bool.not_eq_true', not_or, Bool.not_eq_true, Bool.not_eq_false] at hc
        obtain ⟨yb, yn⟩ := y
        simp only at hc
        obtain ⟨rfl, hrc⟩ := hc
        have hr := hst.1 _ hrc
        have hsp : (u.1, u.2.take j ++ (false, yn) :: u.2.drop (j + 1)) ∈ g.rules := by rw [← splitL_at hy]; exact hu
        refine ⟨fun N hN => ?_, fun N t hN => ?_⟩
        · simp only [Bool.or_eq_true, beq_iff_eq] at hN
          rcases hN with hN | rfl
          · exact hst.1 N hN
          · exact .step u.1 N u.2 hr hu (List.mem_of_getElem? hy)
        · simp only at hN
          by_cases e : N = yn
          · subst e
            rw [if_pos rfl, Bool.or_eq_true, Bool.or_eq_true, Bool.and_eq_true] at hN
            rcases hN with (hN | hN) | ⟨h1, h2⟩
            · exact hst.2 _ _ hN
            · exact .fst u.1 N t _ _ hr hsp (ofB_fst (fun N h => (nul_ok hg N).1 h) (fun N t h => (fst_ok hg N t).1 h) hN)
            · exact .fol u.1 N t _ _ hr hsp (ofE_null (fun N h => (nul_ok hg N).1 h) h1) (hst.2 _ _ h2)
          · rw [if_neg e] at hN; exact hst.2 _ _ hN
end
end Go.Proofs.Ythkldiehokblcaa

