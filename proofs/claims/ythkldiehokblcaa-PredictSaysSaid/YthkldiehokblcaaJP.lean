/- Texts JP, laid together. -/
import Derived.Test.YthkldiehokblcaaJO


namespace Go.Proofs.Ythkldiehokblcaa
open Go.RowKit

/-- the table during a pass: k rules are through, and j symbols of the next one -/
structure FInv (g : Gr) (es rc : Nat → Bool) (fs fo0 : Nat → Nat → Bool) (k N : Nat) (l : List Sy) (j : Nat) (fo : Nat → Nat → Bool) (ag : Bool) : Prop where
  s : TabF g.rules g.start g.terms fo
  st : fo g.start g.terms = true
  c : Chg g.nons g.terms fo0 fo ag
  p : ag = false → PassF g.terms g.rules es rc fs fo k ∧ ShutF g.terms es fs fo N l j
section
variable {g : Gr} {es rc : Nat → Bool} {fs fo0 fo : Nat → Nat → Bool} {k N j M : Nat} {l : List Sy} {ag : Bool}
theorem FInv.term {t : Nat} (h : FInv g es rc fs fo0 k N l j fo ag) (hj : l[j]? = some (true, t)) : FInv g es rc fs fo0 k N l (j + 1) fo ag :=
  ⟨h.s, h.st, h.c, fun e => ⟨(h.p e).1, (h.p e).2.term hj⟩⟩
def foA (g : Gr) (es : Nat → Bool) (fs fo : Nat → Nat → Bool) (l : List Sy) (j M : Nat) : Nat → Nat → Bool := putR fo M (uni (fo M) (ofB es fs (l.drop (j + 1))) g.terms)
def cA (g : Gr) (es : Nat → Bool) (fs fo : Nat → Nat → Bool) (l : List Sy) (j M : Nat) : Bool := uniC (fo M) (ofB es fs (l.drop (j + 1))) g.terms
def foB (g : Gr) (N M : Nat) (fo : Nat → Nat → Bool) : Nat → Nat → Bool := putR fo M (uni (fo M) (fo N) (g.terms + 1))
def cB (g : Gr) (N M : Nat) (fo : Nat → Nat → Bool) : Bool := uniC (fo M) (fo N) (g.terms + 1)
theorem FInv.stepS (h : FInv g es rc fs fo0 k N l j fo ag) (hj : l[j]? = some (false, M)) (hu : (N, l) ∈ g.rules) (hr : RchN g.rules g.start N) (ht : TabOk g.rules es fs) (hM : M < g.nons) :
    TabF g.rules g.start g.terms (foA g es fs fo l j M) ∧ foA g es fs fo l j M g.start g.terms = true ∧ Chg g.nons g.terms fo0 (foA g es fs fo l j M) (cA g es fs fo l j M || ag) ∧
      ((cA g es fs fo l j M || ag) = false → foA g es fs fo l j M = fo ∧ ∀ t, t < g.terms → ofB es fs (l.drop (j + 1)) t = true → fo M t = true) := by
  refine ⟨h.s.union fun t hB => ?_, putR_le uni_le _ _ h.st, h.c.trans (Chg.union fo _ hM (by omega)), fun e => ?_⟩
  · have hF := ofB_fst (fun N hN => (ht.nul N).1 hN) (fun N t hN => (ht.fst N t).1 hN) hB
    exact .fst N M t (l.take j) (l.drop (j + 1)) hr (by rw [← split_at hj]; exact hu) hF
  · simp only [Bool.or_eq_false_iff] at e
    refine ⟨?_, fun t ht' hB => uniC_none e.1 ht' hB⟩
    unfold foA
    rw [uniC_false e.1, putR_same]
theorem FInv.stepA (h : FInv g es rc fs fo0 k N l j fo ag) (hj : l[j]? = some (false, M)) (hu : (N, l) ∈ g.rules) (hr : RchN g.rules g.start N) (ht : TabOk g.rules es fs) (hM : M < g.nons) (he : ofE es (l.drop (j + 1)) = false) :
    FInv g es rc fs fo0 k N l (j + 1) (foA g es fs fo l j M) (cA g es fs fo l j M || ag) := by
  obtain ⟨h1, h2, h3, h4⟩ := h.stepS hj hu hr ht hM
  refine ⟨h1, h2, h3, fun e => ?_⟩
  obtain ⟨e1, e2⟩ := h4 e
  simp only [Bool.or_eq_false_iff] at e
  obtain ⟨p1, p2⟩ := h.p e.2
  rw [e1]
  exact ⟨p1, p2.non hj e2 (fun q => by rw [he] at q; cases q)⟩
theorem FInv.stepB (h : FInv g es rc fs fo0 k N l j fo ag) (hj : l[j]? = some (false, M)) (hu : (N, l) ∈ g.rules) (hr : RchN g.rules g.start N) (ht : TabOk g.rules es fs) (hM : M < g.nons) (he : ofE es (l.drop (j + 1)) = true) :
    FInv g es rc fs fo0 k N l (j + 1) (foB g N M (foA g es fs fo l j M)) (cB g N M (foA g es fs fo l j M) || (cA g es fs fo l j M || ag)) := by
  obtain ⟨h1, h2, h3, h4⟩ := h.stepS hj hu hr ht hM
  refine ⟨h1.union fun t hB => ?_, putR_le uni_le _ _ h2, h3.trans (Chg.union _ _ hM (Nat.le_refl _)), fun e => ?_⟩
  · have hN := ofE_null (fun N hN => (ht.nul N).1 hN) he
    exact .fol N M t (l.take j) (l.drop (j + 1)) hr (by rw [← split_at hj]; exact hu) hN (h1.s N t hB)
  · rw [Bool.or_eq_false_iff] at e
    obtain ⟨e1, e2⟩ := h4 e.2
    have eB : foB g N M (foA g es fs fo l j M) = fo := by
      unfold foB; rw [uniC_false e.1, putR_same, e1]
    have e3 := e.2
    rw [Bool.or_eq_false_iff] at e3
    obtain ⟨p1, p2⟩ := h.p e3.2
    rw [eB]
    refine ⟨p1, p2.non hj e2 (fun _ t ht' hq => ?_)⟩
    have := e.1
    unfold cB at this
    rw [e1] at this
    exact uniC_none this ht' hq
/-- between two rules -/
structure FInv0 (g : Gr) (es rc : Nat → Bool) (fs fo0 : Nat → Nat → Bool) (k : Nat) (fo : Nat → Nat → Bool) (ag : Bool) : Prop where
  s : TabF g.rules g.start g.terms fo
  st : fo g.start g.terms = true
  c : Chg g.nons g.terms fo0 fo ag
  p : ag = false → PassF g.terms g.rules es rc fs fo k
theorem FInv0.start (h : FInv0 g es rc fs fo0 k fo ag) : FInv g es rc fs fo0 k N l 0 fo ag := ⟨h.s, h.st, h.c, fun e => ⟨h.p e, ShutF.zero⟩⟩
theorem FInv.done (h : FInv g es rc fs fo0 k N l l.length fo ag) (hk : g.rules[k]? = some (N, l)) : FInv0 g es rc fs fo0 (k + 1) fo ag := ⟨h.s, h.st, h.c, fun e => (h.p e).1.next hk fun _ => (h.p e).2⟩
theorem FInv0.skip (h : FInv0 g es rc fs fo0 k fo ag) (hk : g.rules[k]? = some (N, l)) (hr : rc N = false) : FInv0 g es rc fs fo0 (k + 1) fo ag := ⟨h.s, h.st, h.c, fun e => (h.p e).next hk fun q => by simp only at q; rw [hr] at q; cases q⟩
end
end Go.Proofs.Ythkldiehokblcaa

