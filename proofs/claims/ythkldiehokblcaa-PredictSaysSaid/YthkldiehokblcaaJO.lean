/- Texts JO, laid together. -/
import Derived.Test.YthkldiehokblcaaJN


namespace Go.Proofs.Ythkldiehokblcaa
open Go.RowKit

set_option maxRecDepth 100000 in
theorem Reached_c (ok : Nat → Prop) (g : Gr) (Ag : Option Addr) (ng cg : Nat) (w : World) (hg : GrOk g) (hl : Sl RuE ok w Ag ng cg g.rules) :
    Calls Try.prog 53 #[grVal g Ag ng cg] w fun e w' => ∃ b rc, e = .returned (.tuple #[.slice (some ⟨b, 0, none⟩) g.nons g.nons, .int .i64 0]) ∧ BRow w' b g.nons rc ∧ (∀ i, rc i = true ↔ RchN g.rules g.start i) ∧ w.heap.size ≤ b ∧ Below w.heap.size w w' := by
  have B0 := Blk.new w 24 #[.int .i64 (g.terms : Int), .int .i64 (g.nons : Int), .int .i64 (g.start : Int), .slice Ag ng cg]
  have HB := Lib.hid ((Below.refl w.heap.size w).al (.cells #[.int .i64 (g.terms : Int), .int .i64 (g.nons : Int), .int .i64 (g.start : Int), .slice Ag ng cg] 24))
  have HGO := Lib.hid hg
  have HL := Lib.hid (hl.al (.cells #[.int .i64 (g.terms : Int), .int .i64 (g.nons : Int), .int .i64 (g.start : Int), .slice Ag ng cg] 24))
  simp only [grVal]
  clear hg hl
  go_enter Try.func53, Try.ntmps53
  have cB0 := B0.cell
  have fB0 := B0.frozen
  have lB0 := B0.lt
  go_wp2_with fail
  clear cB0 fB0 lB0
  generalize w.alloc (.cells #[.int .i64 (g.terms : Int), .int .i64 (g.nons : Int), .int .i64 (g.start : Int), .slice Ag ng cg] 24) = W at *
  refine (check_c ok g Ag ng cg W HGO.out HL.out).mono ?_
  rintro e w1 ⟨rfl, hb⟩
  have HB1 := Lib.hid hb
  have B1 := B0.via hb
  clear hb B0
  have cB1 := B1.cell
  have fB1 := B1.frozen
  have lB1 := B1.lt
  go_wp2_with fail
  clear cB1 fB1 lB1
  refine (reached_c ok g Ag ng cg w1 HGO.out (HL.out.via HB1.out)).mono ?_
  rintro e w2 ⟨b, rc, rfl, hrow, hrc, hlo, hb2⟩
  have HX := Lib.hid hrow
  have HK := Lib.hid hrc
  have HB2 := Lib.hid ((HB.out.via HB1.out).via hb2)
  have HLT := Lib.hid (show w.heap.size ≤ b by have := (HB.out.via HB1.out).size; omega)
  clear hrow hrc hb2 hlo B1
  go_wp2_with fail
  go_ret2
  exact ⟨b, rc, rfl, HX.out, HK.out, HLT.out, HB2.out⟩

def rowF (T : Nat) (fo : Nat → Nat → Bool) : Nat → Bool := fun k => fo (k / (T + 1)) (k % (T + 1))
def muF (N T : Nat) (fo : Nat → Nat → Bool) : Nat := cntF (rowF T fo) (N * (T + 1))
theorem muF_lt {N T : Nat} {fo fo' : Nat → Nat → Bool} (hf : ∀ i t, fo i t = true → fo' i t = true) {i t : Nat} (hi : i < N) (ht : t < T + 1) (h0 : fo i t = false) (h1 : fo' i t = true) : muF N T fo' < muF N T fo := by
  refine cntF_lt (f := rowF T fo) (f' := rowF T fo') (i := i * (T + 1) + t) (fun j => hf _ _) (cell_lt hi ht) ?_ ?_
  · unfold rowF; rw [cell_mod ht, cell_div ht]; exact h0
  · unfold rowF; rw [cell_mod ht, cell_div ht]; exact h1
/-- has anything changed? -/
def Chg (N T : Nat) (fo fo' : Nat → Nat → Bool) (c : Bool) : Prop := (c = false ∧ fo' = fo) ∨ (c = true ∧ muF N T fo' < muF N T fo)
theorem Chg.refl {N T : Nat} (fo : Nat → Nat → Bool) : Chg N T fo fo false := Or.inl ⟨rfl, rfl⟩
theorem Chg.trans {N T : Nat} {fo fo1 fo2 : Nat → Nat → Bool} {c d : Bool} (h : Chg N T fo fo1 c) (k : Chg N T fo1 fo2 d) : Chg N T fo fo2 (d || c) := by
  rcases h with ⟨rfl, rfl⟩ | ⟨rfl, h⟩ <;> rcases k with ⟨rfl, rfl⟩ | ⟨rfl, k⟩
  · exact Or.inl ⟨rfl, rfl⟩
  · exact Or.inr ⟨rfl, k⟩
  · exact Or.inr ⟨rfl, h⟩
  · exact Or.inr ⟨rfl, by omega⟩
theorem Chg.union {N T m M : Nat} (fo : Nat → Nat → Bool) (g : Nat → Bool) (hM : M < N) (hm : m ≤ T + 1) : Chg N T fo (putR fo M (uni (fo M) g m)) (uniC (fo M) g m) := by
  cases hc : uniC (fo M) g m with
  | false => exact Or.inl ⟨rfl, by rw [uniC_false hc, putR_same]⟩
  | true =>
    obtain ⟨t, ht, hB, hf⟩ := (uniC_iff _ _ _).1 hc
    exact Or.inr ⟨rfl, muF_lt (i := M) (t := t) (putR_le uni_le) hM (by omega) hf (by unfold putR; rw [if_pos rfl]; simp [uni, ht, hB])⟩
/-- the first j symbols of the rule add nothing -/
def ShutF (T : Nat) (es : Nat → Bool) (fs fo : Nat → Nat → Bool) (N : Nat) (l : List Sy) (j : Nat) : Prop :=
  ∀ i, i < j → ∀ M, l[i]? = some (false, M) → (∀ t, t < T → ofB es fs (l.drop (i + 1)) t = true → fo M t = true) ∧ (ofE es (l.drop (i + 1)) = true → ∀ t, t < T + 1 → fo N t = true → fo M t = true)
def PassF (T : Nat) (R : List Ru) (es rc : Nat → Bool) (fs fo : Nat → Nat → Bool) (k : Nat) : Prop := ∀ i u, i < k → R[i]? = some u → rc u.1 = true → ShutF T es fs fo u.1 u.2 u.2.length
section
variable {T N j k : Nat} {es rc : Nat → Bool} {fs fo : Nat → Nat → Bool} {l : List Sy} {R : List Ru}
theorem ShutF.zero : ShutF T es fs fo N l 0 := fun _ h => absurd h (Nat.not_lt_zero _)
theorem ShutF.term {t : Nat} (h : ShutF T es fs fo N l j) (hj : l[j]? = some (true, t)) : ShutF T es fs fo N l (j + 1) := fun i hi M hM => by
  by_cases e : i = j
  · subst e; rw [hj] at hM; cases hM
  · exact h i (by omega) M hM
theorem ShutF.non {M : Nat} (h : ShutF T es fs fo N l j) (hj : l[j]? = some (false, M)) (h1 : ∀ t, t < T → ofB es fs (l.drop (j + 1)) t = true → fo M t = true) (h2 : ofE es (l.drop (j + 1)) = true → ∀ t, t < T + 1 → fo N t = true → fo M t = true) : ShutF T es fs fo N l (j + 1) := fun i hi M' hM => by
  by_cases e : i = j
  · subst e; rw [hj] at hM; cases hM; exact ⟨h1, h2⟩
  · exact h i (by omega) M' hM
theorem PassF.next {u : Ru} (h : PassF T R es rc fs fo k) (hk : R[k]? = some u) (hu : rc u.1 = true → ShutF T es fs fo u.1 u.2 u.2.length) : PassF T R es rc fs fo (k + 1) := fun i v hi hv hr => by
  by_cases e : i = k
  · subst e; rw [hk] at hv; cases hv; exact hu hr
  · exact h i v (by omega) hv hr
theorem uniC_none {f g : Nat → Bool} {m : Nat} (h : uniC f g m = false) {t : Nat} (ht : t < m) (hg : g t = true) : f t = true := by
  cases e : f t with
  | true => rfl
  | false =>
    have := (uniC_iff f g m).2 ⟨t, ht, hg, e⟩
    rw [h] at this; cases this
/-- what follows, by a row -/
structure TabF (R : List Ru) (s e : Nat) (fo : Nat → Nat → Bool) : Prop where
  s : ∀ N t, fo N t = true → FolN R s e N t
theorem TabF.union {s e M m : Nat} {g : Nat → Bool} (h : TabF R s e fo) (hg : ∀ t, g t = true → FolN R s e M t) : TabF R s e (putR fo M (uni (fo M) g m)) := ⟨fun N t ht => by
  unfold putR at ht
  by_cases e1 : N = M
  · rw [if_pos e1] at ht
    simp only [uni, Bool.or_eq_true, Bool.and_eq_true] at ht
    rw [e1]
    rcases ht with ht | ⟨-, ht⟩
    · exact h.s M t ht
    · exact hg t ht
  · rw [if_neg e1] at ht; exact h.s N t ht⟩
theorem split_at {x : Sy} (h : l[j]? = some x) : l = l.take j ++ x :: l.drop (j + 1) := by
  have hl := List.getElem?_eq_some_iff.1 h
  rw [← hl.2, ← List.drop_eq_getElem_cons hl.1, List.take_append_drop]
theorem TabF.ok {s : Nat} (h : TabF R s T fo) (ht : TabOk R es fs) (hrc : ∀ i, rc i = true ↔ RchN R s i) (hb : ∀ u ∈ R, ∀ y ∈ u.2, y.1 = true → y.2 < T) (h0 : fo s T = true) (hp : PassF T R es rc fs fo R.length) : ∀ N t, fo N t = true ↔ FolN R s T N t := by
  intro N t
  refine ⟨h.s N t, fun hf => (closed_fol (fo := fo) hb (Nat.le_refl _) h0 (fun u hu hr a M b e t' ht' hF => ?_) (fun u hu hr a M b e hN t' ht' hF => ?_) hf).1⟩
  · obtain ⟨i, hi⟩ := List.mem_iff_getElem?.1 hu
    have hil := (List.getElem?_eq_some_iff.1 hi).1
    have := hp i u hil hi ((hrc _).2 hr) a.length (by rw [e]; simp) M (by rw [e]; simp)
    refine this.1 t' ht' ?_
    have e2 : u.2.drop (a.length + 1) = b := by rw [e]; simp
    rw [e2]
    exact fst_ofB (fun N hN => (ht.nul N).2 hN) (fun N t hN => (ht.fst N t).2 hN) hF
  · obtain ⟨i, hi⟩ := List.mem_iff_getElem?.1 hu
    have hil := (List.getElem?_eq_some_iff.1 hi).1
    have := hp i u hil hi ((hrc _).2 hr) a.length (by rw [e]; simp) M (by rw [e]; simp)
    refine this.2 ?_ t' (by omega) hF
    have e2 : u.2.drop (a.length + 1) = b := by rw [e]; simp
    rw [e2]
    exact null_ofE (fun N hN => (ht.nul N).2 hN) hN
end
end Go.Proofs.Ythkldiehokblcaa

