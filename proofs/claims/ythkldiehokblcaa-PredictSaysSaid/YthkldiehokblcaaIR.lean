/- Texts IR, laid together. -/
import Derived.Test.YthkldiehokblcaaIQ


namespace Go.Proofs.Ythkldiehokblcaa
open Go.RowKit

section
variable {g : Gr} (hg : g.Ok)
include hg
theorem fol_fix (t : Nat) : g.rules.foldl (folT (rNul g) (rFst g) t) (colS t (folF g)) = colS t (folF g) := by
  have hit : ∀ k, colS t (folK (rNul g) (rFst g) g.rules g.start g.terms k) = itF (fun st => g.rules.foldl (folT (rNul g) (rFst g) t) st) (colS t (folK (rNul g) (rFst g) g.rules g.start g.terms 0)) k := fun k => by
    induction k with
    | zero => rfl
    | succ k ih =>
      show colS t (folRound (rNul g) (rFst g) g.rules (folK (rNul g) (rFst g) g.rules g.start g.terms k)) = _
      rw [← colS_round, ih]; rfl
  have hsup : ∀ s : ColS, ((∀ i, s.1 i = true → i < g.nons) ∧ ∀ i, s.2 i = true → i < g.nons) → ((∀ i, (g.rules.foldl (folT (rNul g) (rFst g) t) s).1 i = true → i < g.nons) ∧ ∀ i, (g.rules.foldl (folT (rNul g) (rFst g) t) s).2 i = true → i < g.nons) := fun s hs =>
    fold_inv (fun st : ColS => (∀ i, st.1 i = true → i < g.nons) ∧ ∀ i, st.2 i = true → i < g.nons) (folT (rNul g) (rFst g) t) g.rules (fun st u hu hst =>
      fold_inv (fun st : ColS => (∀ i, st.1 i = true → i < g.nons) ∧ ∀ i, st.2 i = true → i < g.nons) (folSymT (rNul g) (rFst g) t u) _ (fun st j _ hst => sup_sym hg _ _ t hu st j hst) _ hst) s hs
  have h0 : (∀ i, (colS t (folK (rNul g) (rFst g) g.rules g.start g.terms 0)).1 i = true → i < g.nons) ∧ ∀ i, (colS t (folK (rNul g) (rFst g) g.rules g.start g.terms 0)).2 i = true → i < g.nons := by
    have hs := hg.start
    refine ⟨fun i h => ?_, fun i h => ?_⟩
    · simp only [colS, folK, beq_iff_eq] at h; omega
    · simp only [colS, folK, Bool.and_eq_true, beq_iff_eq] at h; omega
  have hfix := itF_fix (fun st => g.rules.foldl (folT (rNul g) (rFst g) t) st) (fun st => cntF st.1 g.nons + cntF st.2 g.nons) (2 * g.nons) (colS t (folK (rNul g) (rFst g) g.rules g.start g.terms 0)) _ h0 hsup (fun s hs => by
    have hle := fold_infl leC leC_refl leC_trans (folT (rNul g) (rFst g) t) (rule_infl _ _ t) g.rules s
    have hsp := hsup s hs
    rcases prog_B hle.1 hsp.1 with e1 | e1
    · rcases prog_B hle.2 hsp.2 with e2 | e2
      · exact Or.inl (Prod.ext e1 e2)
      · right
        have := cntF_le hle.1 g.nons
        omega
    · right
      have := cntF_le hle.2 g.nons
      omega) (by have := cntF_bound (colS t (folK (rNul g) (rFst g) g.rules g.start g.terms 0)).1 g.nons; have := cntF_bound (colS t (folK (rNul g) (rFst g) g.rules g.start g.terms 0)).2 g.nons; omega) (g.nons * 3) (by omega)
  rw [← hit] at hfix
  exact hfix
theorem fol_closed {t : Nat} {u : Ru} (hu : u ∈ g.rules) {a : List Sy} {M : Nat} {b : List Sy} (e : u.2 = a ++ (false, M) :: b) (hr : (folF g).1 u.1 = true) :
    (folF g).1 M = true ∧ ((ofB (rNul g) (rFst g) b t = true ∨ (ofE (rNul g) b = true ∧ rFol g u.1 t = true)) → rFol g M t = true) := by
  have h1 := fold_fix leC leC_refl leC_trans leC_anti (folT (rNul g) (rFst g) t) (rule_infl _ _ t) g.rules _ (fol_fix hg t) u hu
  have h2 := fold_fix leC leC_refl leC_trans leC_anti (folSymT (rNul g) (rFst g) t u) (sym_infl _ _ t u) _ _ h1 a.length (List.mem_range.2 (by rw [e]; simp))
  have hj : u.2[a.length]? = some (false, M) := by rw [e]; simp
  have hd : u.2.drop (a.length + 1) = b := by rw [e]; simp
  unfold folSymT at h2
  rw [hj] at h2
  simp only [Bool.false_or, hd] at h2
  rw [if_neg (by simp [colS, hr])] at h2
  refine ⟨?_, fun h => ?_⟩
  · have := congrFun (congrArg Prod.fst h2) M
    simpa [colS] using this.symm
  · have := congrFun (congrArg Prod.snd h2) M
    simp only [if_true, colS] at this
    show (folF g).2 M t = true
    rw [← this]
    rcases h with h | ⟨p, q⟩
    · simp [h]
    · rw [p, show (folF g).2 u.1 t = true from q]; simp
omit hg in
theorem fol_start : (folF g).1 g.start = true ∧ rFol g g.start g.terms = true := by
  have key : ∀ k, leC (colS g.terms (folK (rNul g) (rFst g) g.rules g.start g.terms 0)) (colS g.terms (folK (rNul g) (rFst g) g.rules g.start g.terms k)) := fun k => by
    induction k with
    | zero => exact leC_refl _
    | succ k ih =>
      refine leC_trans _ _ _ ih ?_
      show leC _ (colS g.terms (folRound (rNul g) (rFst g) g.rules (folK (rNul g) (rFst g) g.rules g.start g.terms k)))
      rw [← colS_round]
      exact fold_infl leC leC_refl leC_trans _ (rule_infl _ _ g.terms) _ _
  have h := key (g.nons * 3)
  exact ⟨h.1 g.start (by simp [colS, folK]), h.2 g.start (by simp [colS, folK])⟩
theorem rch_ok (N : Nat) : (folF g).1 N = true ↔ RchN g.rules g.start N := by
  constructor
  · exact (fol_sound hg (g.nons * 3)).1 N
  · intro h
    refine closed_rch fol_start.1 (fun u hu hr s hs hs1 => ?_) h
    obtain ⟨j, hj⟩ := List.getElem?_of_mem hs
    obtain ⟨sb, sn⟩ := s
    simp only at hs1
    subst hs1
    exact (fol_closed hg (t := 0) hu (splitL_at hj) hr).1
theorem fol_ok (N t : Nat) : rFol g N t = true ↔ FolN g.rules g.start g.terms N t := by
  constructor
  · exact (fol_sound hg (g.nons * 3)).2 N t
  · intro h
    refine (closed_fol (B := g.terms) (fo := rFol g) (fun u hu y hy hb => ?_) (Nat.le_refl _) fol_start.2 (fun u hu hr a M b e t _ hf => ?_) (fun u hu hr a M b e hn t _ hf => ?_) h).1
    · have := (hg.right u hu).2 y hy
      simp only [Gr.okSy, hb, if_true] at this
      exact this
    · exact (fol_closed hg hu e ((rch_ok hg _).2 hr)).2 (Or.inl (fst_ofB (fun N h => (nul_ok hg N).2 h) (fun N t h => (fst_ok hg N t).2 h) hf))
    · exact (fol_closed hg hu e ((rch_ok hg _).2 hr)).2 (Or.inr ⟨null_ofE (fun N h => (nul_ok hg N).2 h) hn, hf⟩)
theorem refIs_ok (n t i : Nat) : refIs g n t i = isPos g n t i := by
  cases hu : g.rules[i]? with
  | none => unfold refIs isPos; rw [hu]
  | some u =>
    have e1 : ofB (rNul g) (rFst g) u.2 t = true ↔ FstL g.rules u.2 t := ⟨fun h => ofB_fst (fun N h => (nul_ok hg N).1 h) (fun N t h => (fst_ok hg N t).1 h) h, fun h => fst_ofB (fun N h => (nul_ok hg N).2 h) (fun N t h => (fst_ok hg N t).2 h) h⟩
    have e2 : ofE (rNul g) u.2 = true ↔ NulL g.rules u.2 := ⟨fun h => ofE_null (fun N h => (nul_ok hg N).1 h) h, fun h => null_ofE (fun N h => (nul_ok hg N).2 h) h⟩
    have e3 : refIs g n t i = true ↔ (u.1 = n ∧ Pos g u t) := by
      unfold refIs Pos
      rw [hu]
      simp only [Bool.and_eq_true, Bool.or_eq_true, decide_eq_true_eq]
      rw [e1, e2, fol_ok hg]
      constructor
      · rintro ⟨rfl, h⟩; exact ⟨rfl, h⟩
      · rintro ⟨rfl, h⟩; exact ⟨rfl, h⟩
    by_cases h : u.1 = n ∧ Pos g u t
    · rw [e3.2 h, isPos_t hu h]
    · rw [isPos_f hu h]
      cases hr : refIs g n t i with
      | false => rfl
      | true => exact absurd (e3.1 hr) h
/-- the reference's possible rules are the table's -/
theorem refK_ok (n t : Nat) : refK g n t g.rules.length = posL g n t := by
  unfold refK posL posK
  congr 1
  funext i
  exact refIs_ok hg n t i
end
end Go.Proofs.Ythkldiehokblcaa

