/- Texts BI, laid together. -/
import Derived.Test.YtbfcnfgkccgbiaaGreatDoorC1


namespace Go.Proofs.YtbfcnfgkccgbiaaGreatDoor
open Go.RowKit

def InE : Elem Int Int where
  k := 1
  cells x := [.int .i64 x]
  rel _ _ r x := r = x
  pos := by omega
  len _ := rfl
  one r u hu := by simp at hu; subst hu; rfl
  agr h _ := h
  mono h _ := h
def RwE : Elem (List Int) SlV where
  k := 1
  cells s := [.slice s.1 s.2.1 s.2.2]
  rel ok w r x := Sl InE ok w r.1 r.2.1 r.2.2 x
  pos := by omega
  len _ := rfl
  one r u hu := by simp at hu; subst hu; rfl
  agr h k := h.agr k
  mono h k := h.mono k
theorem flatIn (l : List Int) : flat InE l = l.map (Value.int .i64) := by
  induction l with
  | nil => rfl
  | cons x l ih => simp only [flat, List.flatMap_cons, List.map_cons] at ih ⊢; rw [ih]; rfl
theorem Ints.slE {w : World} {A : Option Addr} {n c : Nat} {xs : List Int} (h : Ints w A n c xs) : Sl InE (fun b => ∃ o, A = some ⟨b, o, none⟩) w A n c xs := by
  refine ⟨h.1, h.2.1, xs, h.1, fun hne => ?_, fun i r x hr hx => by rw [hr] at hx; exact Option.some.inj hx⟩
  have hn : 0 < n := by
    rcases Nat.eq_zero_or_pos n with h0 | h0
    · exfalso; apply hne
      have : xs = [] := List.eq_nil_of_length_eq_zero (by rw [h.1, h0])
      rw [this]; rfl
    · exact h0
  obtain ⟨b, off, e, hc⟩ := h.2.2 hn
  refine ⟨b, off, e, ⟨off, e⟩, fun j u hu => ?_⟩
  rw [flatIn, List.getElem?_map] at hu
  obtain ⟨y, hy, rfl⟩ := Option.map_eq_some_iff.1 hu
  have hj := (List.getElem?_eq_some_iff.1 hy).1
  have e1 := hc j (by have := h.1; omega)
  rw [List.getD_eq_getElem?_getD, hy] at e1
  exact e1
theorem Sl.intsIn {ok : Nat → Prop} {w : World} {A : Option Addr} {n c : Nat} {xs : List Int} (h : Sl InE ok w A n c xs) : Ints w A n c xs := by
  obtain ⟨h1, h2, raw, h3, h4, h5⟩ := h
  have er : raw = xs := List.ext_getElem (by omega) fun i a b => h5 i _ _ (List.getElem?_eq_getElem a) (List.getElem?_eq_getElem b)
  subst er
  refine ⟨h1, h2, fun hn => ?_⟩
  obtain ⟨b, off, e, -, hc⟩ := h4 (by rw [flatIn]; intro e; have : raw.length = 0 := by simpa using congrArg List.length e
                                      omega)
  refine ⟨b, off, e, fun i hi => ?_⟩
  have hi' : i < raw.length := by omega
  exact hc i _ (by rw [flatIn, List.getElem?_map, List.getElem?_eq_getElem hi', List.getD_eq_getElem?_getD, List.getElem?_eq_getElem hi']; rfl)
end Go.Proofs.YtbfcnfgkccgbiaaGreatDoor

