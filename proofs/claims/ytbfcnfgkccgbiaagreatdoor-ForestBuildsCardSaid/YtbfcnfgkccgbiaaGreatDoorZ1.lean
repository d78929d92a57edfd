/- Texts ZD, laid together. -/
import Derived.Test.YtbfcnfgkccgbiaaGreatDoorP1
import Derived.Test.YtbfcnfgkccgbiaaGreatDoorC4



namespace Go.Proofs.YtbfcnfgkccgbiaaGreatDoor
open Go.RowKit

/-! ### ints as elements; ways: cost, size, word, or none -/
def IntE : Elem Int Int where
  k := 1
  cells s := [.int .i64 s]
  rel _ _ r x := r = x
  pos := by omega
  len _ := rfl
  one r u hu := by simp at hu; subst hu; rfl
  agr h _ := h
  mono h _ := h
theorem Sl.ints {ok : Nat → Prop} {w : World} {A : Option Addr} {n c : Nat} {xs : List Int} (h : Sl IntE ok w A n c xs) : Ints w A n c xs := by
  refine ⟨h.len, h.le, fun hn => ?_⟩
  obtain ⟨b, off, r, x, e, -⟩ := h.at_ hn
  refine ⟨b, off, e, fun i hi => ?_⟩
  obtain ⟨b', off', r', x', e', _, _, hx, hr, hc⟩ := h.at_ hi
  rw [e] at e'
  obtain ⟨rfl, rfl⟩ : b = b' ∧ off = off' := by simpa using e'
  have := hc 0 (.int .i64 r') rfl
  simp only [IntE, Nat.mul_one, Nat.add_zero] at this
  rw [this, show r' = x' from hr, List.getD_eq_getElem?_getD, hx]
  rfl
theorem Ints.sl {ok : Nat → Prop} {w : World} {A : Option Addr} {n c : Nat} {xs : List Int} (h : Ints w A n c xs) (hk : ∀ b off, A = some ⟨b, off, none⟩ → 0 < n → ok b) : Sl IntE ok w A n c xs := by
  obtain ⟨h1, h2, h3⟩ := h
  refine ⟨h1, h2, xs, h1, fun hne => ?_, fun i r x hr hx => by rw [hr] at hx; exact Option.some.inj hx⟩
  have hfl : flat IntE xs = xs.map fun x => Value.int .i64 x := by
    unfold flat; clear h1 h3 hne
    induction xs with
    | nil => rfl
    | cons a l ih => rw [List.flatMap_cons, List.map_cons, ih]; rfl
  rw [hfl] at hne ⊢
  have hn : 0 < n := by
    rcases Nat.eq_zero_or_pos n with e | e
    · exfalso; apply hne; rw [List.length_eq_zero_iff.1 (h1.trans e)]; rfl
    · exact e
  obtain ⟨b, off, e, hc⟩ := h3 hn
  refine ⟨b, off, e, hk b off e hn, fun j u hu => ?_⟩
  have hj : j < xs.length := by have := (List.getElem?_eq_some_iff.1 hu).1; simpa using this
  rw [hc j (by omega), ← hu, List.getElem?_map, List.getD_eq_getElem?_getD, List.getElem?_eq_getElem hj]
  rfl
abbrev WyV := Int × Int × SlV × Bool
def WayE : Elem Way WyV where
  k := 4
  cells v := [.int .i64 v.1, .int .i64 v.2.1, .slice v.2.2.1.1 v.2.2.1.2.1 v.2.2.1.2.2, .bool v.2.2.2]
  rel ok w v x := v.1 = x.cost ∧ v.2.1 = x.size ∧ v.2.2.2 = x.ok ∧ Sl IntE ok w v.2.2.1.1 v.2.2.1.2.1 v.2.2.1.2.2 x.w
  pos := by omega
  len _ := rfl
  one r u hu := by simp at hu; rcases hu with rfl | rfl | rfl | rfl <;> rfl
  agr h k := ⟨h.1, h.2.1, h.2.2.1, h.2.2.2.agr k⟩
  mono h k := ⟨h.1, h.2.1, h.2.2.1, h.2.2.2.mono k⟩
def WayR (ok : Nat → Prop) (w : World) (v : WyV) (x : Way) : Prop := WayE.rel ok w v x
theorem WayR.agr {ok : Nat → Prop} {w w' : World} {v : WyV} {x : Way} (h : WayR ok w v x) (k : Agr ok w w') : WayR ok w' v x := WayE.agr h k
theorem WayR.via {ok : Nat → Prop} {w w' : World} {v : WyV} {x : Way} (h : WayR ok w v x) (k : Below w.heap.size w w') : WayR ok w' v x := WayE.agr h (Agr.below k)
theorem WayR.al {ok : Nat → Prop} {w : World} {v : WyV} {x : Way} (h : WayR ok w v x) (o : Obj) : WayR ok (w.alloc o) v x := h.via ((Below.refl w.heap.size w).alloc (Nat.le_refl _) o)
theorem WayR.dr {ok : Nat → Prop} {w : World} {v : WyV} {x : Way} (h : WayR ok w v x) : WayR ok w.drew v x := h.via ((Below.refl w.heap.size w).drew)
theorem WayR.mono {ok ok' : Nat → Prop} {w : World} {v : WyV} {x : Way} (h : WayR ok w v x) (k : ∀ b, b < w.heap.size → ok b → ok' b) : WayR ok' w v x := WayE.mono h k
def wyVal (v : WyV) : Value := .agg #[.int .i64 v.1, .int .i64 v.2.1, .slice v.2.2.1.1 v.2.2.1.2.1 v.2.2.1.2.2, .bool v.2.2.2]

def TellB (w : World) (b : Bool) (e : Ending) (w' : World) : Prop := e = .returned (.bool b) ∧ Below w.heap.size w w'
end Go.Proofs.YtbfcnfgkccgbiaaGreatDoor

