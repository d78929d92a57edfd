/- Texts JG, laid together. -/
import Derived.Test.YthkldiehokblcaaJF


namespace Go.Proofs.Ythkldiehokblcaa
open Go.RowKit

/-- block b begins with the bools f 0 .. f (n-1) -/
def BRowS (w : World) (b s n : Nat) (f : Nat → Bool) : Prop := ∃ cs, Blk w b 4 cs ∧ cs.size = s ∧ ∀ j, j < n → cs[j]? = some (.bool (f j))
abbrev BRow (w : World) (b n : Nat) (f : Nat → Bool) : Prop := BRowS w b n n f
section
variable {w w' : World} {b s n : Nat} {f : Nat → Bool}
theorem BRowS.cell (h : BRowS w b s n f) {j : Nat} (hj : j < n) : w.cell? ⟨b, j, none⟩ = some (.bool (f j)) := by
  obtain ⟨cs, h1, hs, h2⟩ := h
  exact (h1.cell j).trans (h2 j hj)
theorem BRowS.frozen (h : BRowS w b s n f) (j : Nat) : w.frozen? ⟨b, j, none⟩ = false := by
  obtain ⟨cs, h1, hs, h2⟩ := h
  exact h1.frozen j
theorem BRowS.lt (h : BRowS w b s n f) : b < w.heap.size := by obtain ⟨cs, h1, hs, h2⟩ := h; exact h1.lt
theorem BRowS.via (h : BRowS w b s n f) (k : Below w.heap.size w w') : BRowS w' b s n f := by obtain ⟨cs, h1, hs, h2⟩ := h; exact ⟨cs, h1.via k, hs, h2⟩
theorem BRowS.al (h : BRowS w b s n f) (o : Obj) : BRowS (w.alloc o) b s n f := by obtain ⟨cs, h1, hs, h2⟩ := h; exact ⟨cs, h1.alloc o, hs, h2⟩
theorem BRowS.grown {row : Option Nat} (h : BRowS w b s n f) (k : w.grownBy w' row) (hr : some b ≠ row) : BRowS w' b s n f := by obtain ⟨cs, h1, hs, h2⟩ := h; exact ⟨cs, h1.grown k hr, hs, h2⟩
theorem BRowS.far (h : BRowS w b s n f) {p : Addr} (hp : b ≠ p.block) (u : Value) : BRowS (w.setCell p u) b s n f := by obtain ⟨cs, h1, hs, h2⟩ := h; exact ⟨cs, h1.far hp u, hs, h2⟩
theorem BRowS.set {i : Nat} (h : BRowS w b s n f) (hi : i < n) : BRowS (w.setCell ⟨b, i, none⟩ (.bool true)) b s n (fun j => if j = i then true else f j) := by
  obtain ⟨cs, h1, hs, h2⟩ := h
  refine ⟨_, h1.set_ i (.bool true), by simpa using hs, fun j hj => ?_⟩
  have hil : i < cs.size := by
    have := h2 i hi
    exact (Array.getElem?_eq_some_iff.1 this).1
  rw [Array.getElem?_setIfInBounds]
  by_cases e : i = j
  · subst e; simp [hil]
  · have e' : ¬ j = i := fun q => e q.symm
    simp only [if_neg e, if_neg e']; exact h2 j hj
theorem BRowS.ext {g : Nat → Bool} (h : BRowS w b s n f) (e : ∀ j, j < n → g j = f j) : BRowS w b s n g := by
  obtain ⟨cs, h1, hs, h2⟩ := h
  exact ⟨cs, h1, hs, fun j hj => by rw [h2 j hj, e j hj]⟩
end
theorem grownBySet (w : World) (b i : Nat) (v : Value) : w.grownBy (w.setCell ⟨b, i, none⟩ v) (some b) :=
  ⟨rfl, rfl, rfl, by simp, fun j _ hne => Below.heap_setCell w ⟨b, i, none⟩ v j (fun e => hne (by rw [e]))⟩
theorem grownRefl (w : World) (row : Option Nat) : w.grownBy w row := ⟨rfl, rfl, rfl, Nat.le_refl _, fun _ _ _ => rfl⟩
/-- f with the first i of g -/
def uni (f g : Nat → Bool) (i : Nat) : Nat → Bool := fun j => f j || (decide (j < i) && g j)
theorem uni_zero (f g : Nat → Bool) : uni f g 0 = f := by funext j; simp [uni]
theorem uni_hit {f g : Nat → Bool} {i : Nat} (hg : g i = true) : uni f g (i + 1) = fun j => if j = i then true else uni f g i j := by
  funext j
  by_cases e : j = i
  · subst e; simp [uni, hg]
  · rw [if_neg e]; simp only [uni]; rw [show decide (j < i + 1) = decide (j < i) from by rw [decide_eq_decide]; omega]
theorem uni_miss {f g : Nat → Bool} {i : Nat} (hg : g i = false ∨ uni f g i i = true) : uni f g (i + 1) = uni f g i := by
  funext j
  by_cases e : j = i
  · subst e
    rcases hg with hg | hg
    · simp [uni, hg]
    · simp [uni] at hg; simp [uni, hg]
  · simp only [uni]; rw [show decide (j < i + 1) = decide (j < i) from by rw [decide_eq_decide]; omega]
/-- does the union change anything? -/
def uniC (f g : Nat → Bool) : Nat → Bool
  | 0 => false
  | i + 1 => uniC f g i || (g i && !f i)
theorem uniC_iff (f g : Nat → Bool) (m : Nat) : uniC f g m = true ↔ ∃ j, j < m ∧ g j = true ∧ f j = false := by
  induction m with
  | zero => simp [uniC]
  | succ m ih =>
    simp only [uniC, Bool.or_eq_true, ih, Bool.and_eq_true, Bool.not_eq_true']
    constructor
    · rintro (⟨j, h1, h2⟩ | h)
      · exact ⟨j, by omega, h2⟩
      · exact ⟨m, by omega, h⟩
    · rintro ⟨j, h1, h2⟩
      by_cases e : j = m
      · subst e; exact Or.inr h2
      · exact Or.inl ⟨j, by omega, h2⟩
def UniP (w : World) (b s n m : Nat) (f g : Nat → Bool) (e : Ending) (w' : World) : Prop :=
  e = .returned (.bool (uniC f g m)) ∧ BRowS w' b s n (uni f g m) ∧ w.grownBy w' (some b)
set_option maxRecDepth 100000 in
set_option maxHeartbeats 2000000 in
theorem union_c {s s2 : Nat} (w : World) (b n c : Nat) (f g : Nat → Bool) (b2 m c2 : Nat) (hf : BRowS w b s n f) (hg : BRowS w b2 s2 m g) (hm : m ≤ n) (hn : n ≤ 1000) (hs : b2 = b → ∀ j, j < m → g j = f j) :
    Calls Try.prog 40 #[.slice (some ⟨b, 0, none⟩) n c, .slice (some ⟨b2, 0, none⟩) m c2] w (UniP w b s n m f g) := by
  have HF := Lib.hid hf
  have HG := Lib.hid hg
  have HS := Lib.hid hs
  clear hf hg hs
  go_enter Try.func40, Try.ntmps40
  go_wp2_with fail
  go_loopw [5, 10] (fun q a wr => ∃ i : Nat, a = .int .i64 i ∧ i ≤ m ∧ q = .bool (uniC f g i) ∧ Hid (BRowS wr b s n (uni f g i)) ∧ Hid (w.grownBy wr (some b))) (fun _ a _ => m - (intOf a).toNat)
  case atStart => exact ⟨0, rfl, Nat.zero_le _, rfl, Lib.hid (by rw [uni_zero]; exact HF.out), Lib.hid (grownRefl _ _)⟩
  case round =>
    obtain ⟨i, rfl, hi, rfl, HB, HW⟩ := hrel
    by_cases him : i < m
    · have i0 : (0 : Int) ≤ (i : Int) := by omega
      have i1 : (i : Int) < (m : Int) := by omega
      have i2 : (i : Int) < (n : Int) := by omega
      have ct := HB.out.cell (show i < n by omega)
      have ft := HB.out.frozen
      have cf : wr.cell? ⟨b2, i, none⟩ = some (.bool (g i)) := by
        by_cases e : b2 = b
        · subst e
          have := HS.out rfl i him
          rw [ct]
          simp [uni, this]
        · exact (HG.out.grown HW.out (fun q => e (Option.some.inj q))).cell him
      have hui : uni f g i i = f i := by simp [uni]
      rw [hui] at ct
      cases hgi : g i with
      | false =>
        rw [hgi] at cf
        go_wp2_with fail
        exact ⟨⟨i + 1, by go_num, by omega, by simp [uniC, hgi], Lib.hid (by rw [uni_miss (Or.inl hgi)]; exact HB.out), HW⟩, by simp [intOf]; omega⟩
      | true =>
        rw [hgi] at cf
        cases hfi : f i with
        | true =>
          rw [hfi] at ct
          go_wp2_with fail
          exact ⟨⟨i + 1, by go_num, by omega, by simp [uniC, hfi], Lib.hid (by rw [uni_miss (Or.inr (hui.trans hfi))]; exact HB.out), HW⟩, by simp [intOf]; omega⟩
        | false =>
          rw [hfi] at ct
          go_wp2_with fail
          exact ⟨⟨i + 1, by go_num, by omega, by simp [uniC, hfi, hgi], Lib.hid (by rw [uni_hit hgi]; exact HB.out.set (by omega)), Lib.hid (HW.out.trans (grownBySet _ _ _ _))⟩, by simp [intOf]; omega⟩
    · obtain rfl : i = m := by omega
      go_wp2_with fail
      go_ret
      exact ⟨rfl, HB.out, HW.out⟩
end Go.Proofs.Ythkldiehokblcaa

