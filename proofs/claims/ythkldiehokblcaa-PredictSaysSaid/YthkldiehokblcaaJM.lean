/- Texts JM, laid together. -/
import Derived.Test.YthkldiehokblcaaJI
import Derived.Test.YthkldiehokblcaaJG



namespace Go.Proofs.Ythkldiehokblcaa
open Go.RowKit

theorem uniC_false {f g : Nat → Bool} {m : Nat} (h : uniC f g m = false) : uni f g m = f := by
  funext j
  unfold uni
  by_cases hj : j < m
  · cases e1 : g j with
    | false => simp
    | true =>
      cases e2 : f j with
      | true => simp
      | false =>
        have := (uniC_iff f g m).2 ⟨j, hj, e1, e2⟩
        rw [h] at this; cases this
  · simp [hj]
theorem uni_le {f g : Nat → Bool} {m : Nat} : ∀ j, f j = true → uni f g m j = true := fun j h => by simp [uni, h]
theorem putR_le {fs : Nat → Nat → Bool} {n : Nat} {f : Nat → Bool} (h : ∀ j, fs n j = true → f j = true) : ∀ i t, fs i t = true → putR fs n f i t = true := fun i t ht => by
  unfold putR; split
  · subst_vars; exact h t ht
  · exact ht
theorem putE_le {es : Nat → Bool} {n : Nat} : ∀ i, es i = true → putE es n i = true := fun i h => by
  unfold putE; split
  · rfl
  · exact h
theorem muT_le {N T : Nat} {es es' : Nat → Bool} {fs fs' : Nat → Nat → Bool} (he : ∀ i, es i = true → es' i = true) (hf : ∀ i t, fs i t = true → fs' i t = true) : muT N T es' fs' ≤ muT N T es fs := by
  refine cntF_le (fun j => ?_) _
  unfold rowT; split
  · exact he _
  · exact hf _ _
/-- behind the union -/
def PassM (N T : Nat) (R : List Ru) (es0 : Nat → Bool) (fs0 : Nat → Nat → Bool) (k : Nat) (u : Ru) (es : Nat → Bool) (fs : Nat → Nat → Bool) (ag : Bool) : Prop :=
  (ag = false ∧ es = es0 ∧ fs = fs0 ∧ (∀ i u, i < k → R[i]? = some u → Shut T es fs u) ∧ ∀ t, t < T → ofB es fs u.2 t = true → fs u.1 t = true) ∨ (ag = true ∧ muT N T es fs < muT N T es0 fs0)
section
variable {N T k : Nat} {R : List Ru} {es0 es : Nat → Bool} {fs0 fs : Nat → Nat → Bool} {u : Ru} {ag : Bool}
theorem PassT.union (h : PassT N T R es0 fs0 k es fs ag) (hu : u.1 < N) :
    PassM N T R es0 fs0 k u es (putR fs u.1 (uni (fs u.1) (ofB es fs u.2) T)) (uniC (fs u.1) (ofB es fs u.2) T || ag) := by
  cases hc : uniC (fs u.1) (ofB es fs u.2) T with
  | false =>
    rw [uniC_false hc, putR_same, Bool.false_or]
    rcases h with ⟨h1, h2, h3, h4⟩ | h
    · refine Or.inl ⟨h1, h2, h3, h4, fun t ht hB => ?_⟩
      cases e : fs u.1 t with
      | true => rfl
      | false =>
        have := (uniC_iff (fs u.1) (ofB es fs u.2) T).2 ⟨t, ht, hB, e⟩
        rw [hc] at this; cases this
    · exact Or.inr h
  | true =>
    obtain ⟨t, ht, hB, hf⟩ := (uniC_iff _ _ _).1 hc
    have hlt : muT N T es (putR fs u.1 (uni (fs u.1) (ofB es fs u.2) T)) < muT N T es fs :=
      muT_first (i := u.1) (t := t) (fun _ h => h) (putR_le uni_le) hu ht hf (by unfold putR; rw [if_pos rfl]; simp [uni, ht, hB])
    refine Or.inr ⟨rfl, ?_⟩
    rcases h with ⟨-, rfl, rfl, -⟩ | ⟨-, h⟩ <;> omega
theorem PassM.keep (h : PassM N T R es0 fs0 k u es fs ag) (hk : R[k]? = some u) (he : ag = false → ofE es u.2 = true → es u.1 = true) : PassT N T R es0 fs0 (k + 1) es fs ag := by
  rcases h with ⟨h1, h2, h3, h4, h5⟩ | h
  · refine Or.inl ⟨h1, h2, h3, fun i v hi hv => ?_⟩
    rcases Nat.lt_or_ge i k with hik | hik
    · exact h4 i v hik hv
    · have e : i = k := by omega
      subst e
      rw [hk] at hv; cases hv
      exact ⟨h5, he h1⟩
  · exact Or.inr h
theorem PassM.put (h : PassM N T R es0 fs0 k u es fs ag) (hu : u.1 < N) (he : es u.1 = false) : PassT N T R es0 fs0 (k + 1) (putE es u.1) fs true := by
  have hlt : muT N T (putE es u.1) fs < muT N T es fs := muT_empty putE_le (fun _ _ h => h) hu he (by unfold putE; rw [if_pos rfl])
  refine Or.inr ⟨rfl, ?_⟩
  rcases h with ⟨-, rfl, rfl, -⟩ | ⟨-, h⟩ <;> omega
end
end Go.Proofs.Ythkldiehokblcaa

