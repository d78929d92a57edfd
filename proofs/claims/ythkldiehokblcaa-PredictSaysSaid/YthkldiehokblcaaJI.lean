/- Texts JI, laid together. -/
import Derived.Test.YthkldiehokblcaaJF


namespace Go.Proofs.Ythkldiehokblcaa
open Go.RowKit

/-- how many of f 0 .. f (n-1) are not yet set -/
def cntF (f : Nat → Bool) : Nat → Nat
  | 0 => 0
  | n + 1 => cntF f n + if f n then 0 else 1
theorem cntF_le {f f' : Nat → Bool} (h : ∀ j, f j = true → f' j = true) (n : Nat) : cntF f' n ≤ cntF f n := by
  induction n with
  | zero => exact Nat.le_refl _
  | succ n ih =>
    simp only [cntF]
    cases e : f n with
    | true => rw [h n e]; simpa using ih
    | false => cases e' : f' n <;> simp <;> omega
theorem cntF_lt {f f' : Nat → Bool} (h : ∀ j, f j = true → f' j = true) {n i : Nat} (hi : i < n) (h0 : f i = false) (h1 : f' i = true) : cntF f' n < cntF f n := by
  induction n with
  | zero => omega
  | succ n ih =>
    simp only [cntF]
    by_cases e : i = n
    · subst e
      have := cntF_le h i
      rw [h0, h1]; simp; omega
    · have := ih (by omega)
      cases e1 : f n with
      | true => rw [h n e1]; simpa using this
      | false => cases e' : f' n <;> simp <;> omega
theorem cntF_bound (f : Nat → Bool) (n : Nat) : cntF f n ≤ n := by
  induction n with
  | zero => exact Nat.le_refl _
  | succ n ih => simp only [cntF]; cases f n <;> simp <;> omega
/-- both tables as one row: nonterminal i has the cells i * (T+1) .. -/
def rowT (T : Nat) (es : Nat → Bool) (fs : Nat → Nat → Bool) : Nat → Bool := fun k => if k % (T + 1) = T then es (k / (T + 1)) else fs (k / (T + 1)) (k % (T + 1))
def muT (N T : Nat) (es : Nat → Bool) (fs : Nat → Nat → Bool) : Nat := cntF (rowT T es fs) (N * (T + 1))
theorem cell_lt {N T i t : Nat} (hi : i < N) (ht : t < T + 1) : i * (T + 1) + t < N * (T + 1) := by
  have : (i + 1) * (T + 1) ≤ N * (T + 1) := Nat.mul_le_mul_right _ (by omega)
  rw [Nat.add_mul] at this; omega
theorem cell_div {T i t : Nat} (ht : t < T + 1) : (i * (T + 1) + t) / (T + 1) = i := by
  rw [Nat.mul_comm, Nat.mul_add_div (by omega), Nat.div_eq_of_lt ht, Nat.add_zero]
theorem cell_mod {T i t : Nat} (ht : t < T + 1) : (i * (T + 1) + t) % (T + 1) = t := by
  rw [Nat.mul_comm, Nat.mul_add_mod, Nat.mod_eq_of_lt ht]
section
variable {N T : Nat} {es es' : Nat → Bool} {fs fs' : Nat → Nat → Bool}
theorem muT_first (he : ∀ i, es i = true → es' i = true) (hf : ∀ i t, fs i t = true → fs' i t = true) {i t : Nat} (hi : i < N) (ht : t < T) (h0 : fs i t = false) (h1 : fs' i t = true) : muT N T es' fs' < muT N T es fs := by
  refine cntF_lt (i := i * (T + 1) + t) (fun j => ?_) (cell_lt hi (by omega)) ?_ ?_
  · unfold rowT; split <;> first | exact he _ | exact hf _ _
  · unfold rowT; rw [cell_mod (by omega), cell_div (by omega), if_neg (by omega)]; exact h0
  · unfold rowT; rw [cell_mod (by omega), cell_div (by omega), if_neg (by omega)]; exact h1
theorem muT_empty (he : ∀ i, es i = true → es' i = true) (hf : ∀ i t, fs i t = true → fs' i t = true) {i : Nat} (hi : i < N) (h0 : es i = false) (h1 : es' i = true) : muT N T es' fs' < muT N T es fs := by
  refine cntF_lt (i := i * (T + 1) + T) (fun j => ?_) (cell_lt hi (by omega)) ?_ ?_
  · unfold rowT; split <;> first | exact he _ | exact hf _ _
  · unfold rowT; rw [cell_mod (by omega), cell_div (by omega), if_pos rfl]; exact h0
  · unfold rowT; rw [cell_mod (by omega), cell_div (by omega), if_pos rfl]; exact h1
end
/-- one row of a table replaced -/
def putR (fs : Nat → Nat → Bool) (n : Nat) (f : Nat → Bool) : Nat → Nat → Bool := fun i => if i = n then f else fs i
theorem putR_same {fs : Nat → Nat → Bool} {n : Nat} : putR fs n (fs n) = fs := by
  funext i; unfold putR; by_cases e : i = n
  · rw [if_pos e, e]
  · rw [if_neg e]
def putE (es : Nat → Bool) (n : Nat) : Nat → Bool := fun i => if i = n then true else es i
/-- the tables are the predicates -/
structure TabOk (R : List Ru) (es : Nat → Bool) (fs : Nat → Nat → Bool) : Prop where
  nul : ∀ N, es N = true ↔ NullN R N
  fst : ∀ N t, fs N t = true ↔ FstN R N t
/-- what the tables say is so -/
structure TabS (R : List Ru) (es : Nat → Bool) (fs : Nat → Nat → Bool) : Prop where
  nul : ∀ N, es N = true → NullN R N
  fst : ∀ N t, fs N t = true → FstN R N t
/-- the rule adds nothing -/
def Shut (T : Nat) (es : Nat → Bool) (fs : Nat → Nat → Bool) (u : Ru) : Prop := (∀ t, t < T → ofB es fs u.2 t = true → fs u.1 t = true) ∧ (ofE es u.2 = true → es u.1 = true)
section
variable {R : List Ru} {es : Nat → Bool} {fs : Nat → Nat → Bool} {T : Nat}
theorem TabS.start : TabS R (fun _ => false) (fun _ _ => false) := ⟨fun _ h => (by cases h), fun _ _ h => (by cases h)⟩
theorem TabS.ofL (h : TabS R es fs) {u : Ru} (hu : u ∈ R) {t : Nat} (ht : ofB es fs u.2 t = true) : FstN R u.1 t := by
  obtain ⟨a, y, b, e, ha, hy⟩ := ofB_fst h.nul h.fst ht
  have hu' : (u.1, a ++ y :: b) ∈ R := by rw [← e]; exact hu
  rcases hy with rfl | ⟨M, rfl, hM⟩
  · exact .term _ _ _ _ hu' ha
  · exact .non _ _ _ _ _ hu' ha hM
theorem TabS.first (h : TabS R es fs) {u : Ru} (hu : u ∈ R) (m : Nat) : TabS R es (putR fs u.1 (fun j => fs u.1 j || (decide (j < m) && ofB es fs u.2 j))) := by
  refine ⟨h.nul, fun N t => ?_⟩
  unfold putR
  by_cases e : N = u.1
  · rw [if_pos e]
    intro ht
    simp only [Bool.or_eq_true, Bool.and_eq_true] at ht
    rcases ht with ht | ⟨_, ht⟩
    · rw [e]; exact h.fst _ _ ht
    · rw [e]; exact h.ofL hu ht
  · rw [if_neg e]; exact h.fst N t
/-- the empty word of a rule's right side, as the tables before said it -/
theorem TabS.empty {es0 : Nat → Bool} (h : TabS R es fs) {u : Ru} (hu : u ∈ R) (h0 : ∀ N, es0 N = true → NullN R N) (he : ofE es0 u.2 = true) : TabS R (putE es u.1) fs := by
  refine ⟨fun N hN => ?_, h.fst⟩
  unfold putE at hN
  by_cases e : N = u.1
  · have := ofE_null h0 he
    rw [e]
    exact .mk _ u.2 hu (fun s hs => (this s hs).1) (fun s hs => (this s hs).2)
  · rw [if_neg e] at hN; exact h.nul N hN
theorem TabS.ok (h : TabS R es fs) (hb : ∀ u ∈ R, ∀ s ∈ u.2, s.1 = true → s.2 < T) (hs : ∀ u ∈ R, Shut T es fs u) : TabOk R es fs := by
  have hn : ∀ N, NullN R N → es N = true := fun N hN => closed_null (fun u hu he => (hs u hu).2 he) hN
  exact ⟨fun N => ⟨h.nul N, hn N⟩, fun N t => ⟨h.fst N t, fun hf => closed_fst hb hn (fun u hu t ht hB => (hs u hu).1 t ht hB) hf⟩⟩
end
/-- how far a pass over the rules has come -/
def PassT (N T : Nat) (R : List Ru) (es0 : Nat → Bool) (fs0 : Nat → Nat → Bool) (k : Nat) (es : Nat → Bool) (fs : Nat → Nat → Bool) (ag : Bool) : Prop :=
  (ag = false ∧ es = es0 ∧ fs = fs0 ∧ ∀ i u, i < k → R[i]? = some u → Shut T es fs u) ∨ (ag = true ∧ muT N T es fs < muT N T es0 fs0)
end Go.Proofs.Ythkldiehokblcaa

