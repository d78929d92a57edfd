/- Texts DW, laid together. -/
import Derived.Test.YtbhenicldddlfaaDoorE8
import Derived.Shelf.GgSortFunc.InsertionK



namespace Go.Proofs.YtbhenicldddlfaaDoor
open Go.RowKit
open Go.Sort (grow alloc_eq_grow grow_grow putRowK putRow mapBlock putCells flatK HoldsK Holds onCells size_flatK get_flatK)

section
variable {α : Type} [Inhabited α] {enc : α → List Value} {k : Nat} {w : World} {blk off m : Nat} {dk : Array α} {os : Array Obj}
theorem sw_size : w.heap.size ≤ (sortWorldK enc k w blk off m dk os).heap.size := by
  simp only [sortWorldK, grow, putRowK, putRow, mapBlock, Array.size_append, Array.size_modify]
  exact Nat.le_add_right _ _
theorem sw_get {b : Nat} (hb : b < w.heap.size) : (sortWorldK enc k w blk off m dk os).heap[b]? = if blk = b then (w.heap[b]?).map (onCells (putCells id off (flatK enc k dk))) else w.heap[b]? := by
  simp only [sortWorldK, grow, putRowK, putRow, mapBlock]
  rw [Array.getElem?_append_left (by simpa using hb), Array.getElem?_modify]
  rfl
theorem sw_other {b : Nat} (hb : b < w.heap.size) (hne : b ≠ blk) : (sortWorldK enc k w blk off m dk os).heap[b]? = w.heap[b]? := by
  rw [sw_get hb, if_neg (Ne.symm hne)]
theorem sw_row {cur : Array Value} {t : TypeId} {fr : Nat × Nat} (h : w.heap[blk]? = some (.cells cur t fr)) : (sortWorldK enc k w blk off m dk os).heap[blk]? = some (.cells (putCells id off (flatK enc k dk) cur) t fr) := by
  have hb : blk < w.heap.size := (Array.getElem?_eq_some_iff.1 h).1
  rw [sw_get hb, if_pos rfl, h]; rfl
theorem sw_below {base : Nat} (hb : base ≤ blk) : base ≤ w.heap.size → Below base w (sortWorldK enc k w blk off m dk os) := fun hs =>
  ⟨rfl, rfl, rfl, sw_size, fun b hlt => sw_other (by omega) (by omega)⟩
end
/-- a row of elements, flat, cell by cell -/
theorem flat_get {α ρ : Type} (E : Elem α ρ) : ∀ (raw : List ρ) (i j : Nat) (r : ρ), raw[i]? = some r → j < E.k → (flat E raw)[i * E.k + j]? = (E.cells r)[j]?
  | [], i, j, r, h, _ => by simp at h
  | a :: raw, 0, j, r, h, hj => by
    simp at h; subst h
    simp only [flat, List.flatMap_cons, Nat.zero_mul, Nat.zero_add]
    rw [List.getElem?_append_left (by rw [E.len]; exact hj)]
  | a :: raw, i + 1, j, r, h, hj => by
    simp at h
    have ih := flat_get E raw i j r h hj
    simp only [flat, List.flatMap_cons]
    rw [List.getElem?_append_right (by rw [E.len, Nat.add_mul]; omega), E.len, show (i + 1) * E.k + j - E.k = i * E.k + j by rw [Nat.add_mul]; omega]
    exact ih
end Go.Proofs.YtbhenicldddlfaaDoor

