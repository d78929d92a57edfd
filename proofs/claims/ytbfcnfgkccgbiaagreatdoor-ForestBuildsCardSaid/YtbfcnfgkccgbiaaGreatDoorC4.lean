/- Texts RN, RP, laid together. -/
import Derived.Test.YtbfcnfgkccgbiaaGreatDoorC3


namespace Go.Proofs.YtbfcnfgkccgbiaaGreatDoor
open Go.RowKit

def PriceP (w : World) (e : Ending) (w' : World) : Prop :=
  ∃ c0 c1 c2 : Int, e = .returned (.agg #[.int .i64 c0, .int .i64 c1, .int .i64 c2]) ∧ 1 ≤ c0 ∧ c0 ≤ 9 ∧ 1 ≤ c1 ∧ c1 ≤ 9 ∧ 1 ≤ c2 ∧ c2 ≤ 9 ∧ Below w.heap.size w w'

/-! ### operations: kind, position, terminal -/
abbrev OpV := Int × Int × Int
def OpE : Elem OpV OpV where
  k := 3
  cells s := [.int .i64 s.1, .int .i64 s.2.1, .int .i64 s.2.2]
  rel _ _ r x := r = x
  pos := by omega
  len _ := rfl
  one r u hu := by simp at hu; rcases hu with rfl | rfl | rfl <;> rfl
  agr h _ := h
  mono h _ := h
/-- how far operations have come in the first word, and in the second one -/
def iOf (os : List OpV) : Nat := (os.filter fun o => o.1 != 1).length
def jOf (os : List OpV) : Nat := (os.filter fun o => o.1 != 2).length
theorem iOf_snoc (os : List OpV) (o : OpV) : iOf (os ++ [o]) = iOf os + if o.1 = 1 then 0 else 1 := by
  unfold iOf; rw [List.filter_append]; by_cases h : o.1 = 1 <;> simp [h]
theorem jOf_snoc (os : List OpV) (o : OpV) : jOf (os ++ [o]) = jOf os + if o.1 = 2 then 0 else 1 := by
  unfold jOf; rw [List.filter_append]; by_cases h : o.1 = 2 <;> simp [h]
/-- an operation that fits at positions i and j -/
def OpOk (xs ys : List Int) (i j : Nat) (o : OpV) : Prop :=
  o.2.1 = (i : Int) ∧ ((o.1 = 0 ∧ xs[i]? = some o.2.2 ∧ ys[j]? = some o.2.2) ∨ (o.1 = 1 ∧ ys[j]? = some o.2.2) ∨ (o.1 = 2 ∧ i < xs.length) ∨ (o.1 = 3 ∧ i < xs.length ∧ ys[j]? = some o.2.2))
def OpsOk (xs ys : List Int) (os : List OpV) : Prop := ∀ k o, os[k]? = some o → OpOk xs ys (iOf (os.take k)) (jOf (os.take k)) o
theorem OpsOk.nil (xs ys : List Int) : OpsOk xs ys [] := fun k o h => by simp at h
theorem OpsOk.snoc {xs ys : List Int} {os : List OpV} {o : OpV} (h : OpsOk xs ys os) (h2 : OpOk xs ys (iOf os) (jOf os) o) : OpsOk xs ys (os ++ [o]) := by
  intro k x hx
  rcases Nat.lt_or_ge k os.length with hk | hk
  · rw [List.getElem?_append_left hk] at hx
    rw [List.take_append_of_le_length (by omega)]
    exact h k x hx
  · rw [List.getElem?_append_right hk] at hx
    have e0 : k - os.length = 0 := by
      have := (List.getElem?_eq_some_iff.1 hx).1; simp at this; omega
    rw [e0] at hx
    simp at hx
    subst hx
    have : k = os.length := by omega
    subst this
    rw [List.take_left']
    · exact h2
    · rfl
/-- what operations cost -/
def opCost (c0 c1 c2 : Int) (o : OpV) : Int := if o.1 = 1 then c0 else if o.1 = 2 then c1 else if o.1 = 3 then c2 else 0
def opsCost (c0 c1 c2 : Int) : List OpV → Int
  | [] => 0
  | o :: os => opCost c0 c1 c2 o + opsCost c0 c1 c2 os
theorem opsCost_append (c0 c1 c2 : Int) (a b : List OpV) : opsCost c0 c1 c2 (a ++ b) = opsCost c0 c1 c2 a + opsCost c0 c1 c2 b := by
  induction a with
  | nil => simp [opsCost]
  | cons o os ih => simp only [List.cons_append, opsCost, ih]; omega
theorem take_at {α : Type} {l : List α} {k : Nat} {x : α} (h : l[k]? = some x) : l.take (k + 1) = l.take k ++ [x] := by
  have hl := List.getElem?_eq_some_iff.1 h
  rw [List.take_succ_eq_append_getElem hl.1, hl.2]
theorem Ints.three (w : World) (x y z : Int) (t : TypeId) : Ints (w.alloc (.cells #[.int .i64 x, .int .i64 y, .int .i64 z] t)) (some ⟨w.heap.size, 0, none⟩) 3 3 [x, y, z] :=
  ⟨rfl, Nat.le_refl _, fun _ => ⟨w.heap.size, 0, rfl, fun i hi => by
    rw [Nat.zero_add]
    match i, hi with
    | 0, _ => rw [World.cell?_alloc_new]; rfl
    | 1, _ => rw [World.cell?_alloc_new]; rfl
    | 2, _ => rw [World.cell?_alloc_new]; rfl⟩⟩
theorem Ints.two (w : World) (x y : Int) (t : TypeId) : Ints (w.alloc (.cells #[.int .i64 x, .int .i64 y] t)) (some ⟨w.heap.size, 0, none⟩) 2 2 [x, y] :=
  ⟨rfl, Nat.le_refl _, fun _ => ⟨w.heap.size, 0, rfl, fun i hi => by
    rw [Nat.zero_add]
    match i, hi with
    | 0, _ => rw [World.cell?_alloc_new]; rfl
    | 1, _ => rw [World.cell?_alloc_new]; rfl⟩⟩
end Go.Proofs.YtbfcnfgkccgbiaaGreatDoor



namespace Go.Proofs.YtbfcnfgkccgbiaaGreatDoor
open Go.RowKit

def AlignP (w : World) (xs ys : List Int) (c0 c1 c2 : Int) (e : Ending) (w' : World) : Prop :=
  ∃ (A : Option Addr) (k c : Nat) (os : List OpV), e = .returned (.tuple #[.int .i64 (dpV c0 c1 (gR c0 c1 c2) xs ys 0 0), .slice A k c, .int .i64 0]) ∧ Sl OpE (fun _ => True) w' A k c os ∧ OpsOk xs ys os ∧ iOf os = xs.length ∧ jOf os = ys.length ∧
    opsCost c0 c1 c2 os = dpV c0 c1 (gR c0 c1 c2) xs ys 0 0 ∧ k ≤ 400 ∧ Below w.heap.size w w'
section
variable {w1 wr wa w4 : World} {xs ys : List Int} {c0 c1 c2 : Int} {os : List OpV} {k i j : Nat} {v v' : Value}
end

end Go.Proofs.YtbfcnfgkccgbiaaGreatDoor

