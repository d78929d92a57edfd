/- Texts BD, BM, BN, RL, RM, ZA, ZB, ZC, HP, laid together. -/
import Derived.Test.YthiikgjeamoocaaDoorQ3
import Derived.Shelf.SlSortCmp.NoneTotal
import Derived.Sort.Statements



namespace Go.Proofs.YthiikgjeamoocaaDoor
open Go.RowKit

theorem cmpI_anti (x y : Int) : cmpI x y = - cmpI y x := by
  unfold cmpI; split <;> split <;> first | rfl | omega
theorem cmpI_z0 {x y : Int} : cmpI x y = 0 ↔ x = y := by
  unfold cmpI; constructor
  · intro h; split at h
    · omega
    · split at h <;> omega
  · rintro rfl; simp
theorem cmpI_self (x : Int) : cmpI x x = 0 := cmpI_z0.2 rfl
theorem cmpI_le2 {x y : Int} : cmpI x y ≤ 0 ↔ x ≤ y := by
  unfold cmpI; constructor
  · intro h; split at h
    · omega
    · split at h <;> omega
  · intro h; split
    · omega
    · rw [if_neg (by omega)]; omega
theorem cmpL_anti : ∀ xs ys : List Int, cmpL xs ys = - cmpL ys xs
  | [], [] => rfl
  | [], _ :: _ => rfl
  | _ :: _, [] => rfl
  | x :: xs, y :: ys => by
    rw [cmpL, cmpL, cmpI_anti x y, cmpL_anti xs ys]
    by_cases h : cmpI y x = 0
    · rw [h]; simp
    · rw [if_neg (by omega), if_neg h]
theorem cmpL_zero : ∀ {xs ys : List Int}, cmpL xs ys = 0 ↔ xs = ys
  | [], [] => by simp [cmpL]
  | [], _ :: _ => by simp [cmpL]
  | _ :: _, [] => by simp [cmpL]
  | x :: xs, y :: ys => by
    rw [cmpL]
    by_cases h : cmpI x y = 0
    · rw [if_pos h, cmpL_zero, cmpI_z0.1 h]; simp
    · rw [if_neg h]
      constructor
      · intro e; exact absurd e h
      · intro e; cases e; exact absurd (cmpI_self x) h
theorem cmpL_trans : ∀ {xs ys zs : List Int}, cmpL xs ys ≤ 0 → cmpL ys zs ≤ 0 → cmpL xs zs ≤ 0
  | [], _, [] => by simp [cmpL]
  | [], _, _ :: _ => by simp [cmpL]
  | _ :: _, [], _ => by intro h; simp [cmpL] at h
  | _ :: _, _ :: _, [] => by intro _ h; simp [cmpL] at h
  | x :: xs, y :: ys, z :: zs => by
    rw [cmpL, cmpL, cmpL]
    intro h1 h2
    by_cases e1 : cmpI x y = 0
    · rw [if_pos e1] at h1
      have := cmpI_z0.1 e1; subst this
      by_cases e2 : cmpI x z = 0
      · rw [if_pos e2] at h2 ⊢
        exact cmpL_trans h1 h2
      · rw [if_neg e2] at h2 ⊢; exact h2
    · rw [if_neg e1] at h1
      have n1 := cmpI_le2.1 h1
      by_cases e2 : cmpI y z = 0
      · have := cmpI_z0.1 e2; subst this
        rw [if_neg e1]; exact h1
      · rw [if_neg e2] at h2
        have n2 := cmpI_le2.1 h2
        have m1 : x ≠ y := fun e => e1 (cmpI_z0.2 e)
        rw [if_neg (fun e => by have := cmpI_z0.1 e; omega)]
        exact cmpI_le2.2 (by omega)
theorem cmpL_self (xs : List Int) : cmpL xs xs = 0 := cmpL_zero.2 rfl


def intsN (l : List Nat) : List Int := l.map fun i : Nat => (i : Int)
/-- a pack as a list of numbers -/
def pkL (p : Nat × List Nat) : List Int := (p.1 : Int) :: intsN p.2
theorem cmpL_cons_lt {x y : Int} {xs ys : List Int} (h : x < y) : cmpL (x :: xs) (y :: ys) < 0 := by
  have e : cmpI x y = -1 := by unfold cmpI; rw [if_pos h]
  rw [cmpL, e]; simp
theorem cmpL_cons_eq {x : Int} {xs ys : List Int} : cmpL (x :: xs) (x :: ys) = cmpL xs ys := by
  rw [cmpL, cmpI_self]; simp
section
variable {D : Ky → Bool} {idx : Ky → Nat} {P : Ky → Prop}
theorem ways_sorted (hm : ∀ a b, P a → P b → kyN a < kyN b → idx a < idx b) : ∀ {l : List Sy} {i j : Nat}, (∀ w ∈ waysF D l i j, ∀ q ∈ w, P q) → ((waysF D l i j).map fun w => intsN (w.map idx)).Pairwise fun a b => cmpL a b < 0 := by
  intro l
  induction l with
  | nil =>
    intro i j _
    simp only [waysF]
    split <;> simp
  | cons s l ih =>
    intro i j hP
    rw [List.pairwise_map]
    have key : ∀ q, q < j + 1 - i → ∀ a ∈ (if (D (s, i, i + q) && someF D l (i + q) j) = true then (waysF D l (i + q) j).map ((s, i, i + q) :: ·) else []), a ∈ waysF D (s :: l) i j ∧ ∃ w, w ∈ waysF D l (i + q) j ∧ a = (s, i, i + q) :: w := by
      intro q hq a ha
      refine ⟨?_, ?_⟩
      · simp only [waysF, List.mem_flatMap, List.mem_range]
        exact ⟨q, hq, ha⟩
      · split at ha
        · obtain ⟨w, hw, rfl⟩ := List.mem_map.1 ha; exact ⟨w, hw, rfl⟩
        · simp at ha
    rw [waysF, List.pairwise_flatMap]
    constructor
    · intro q hq
      have hq' := List.mem_range.1 hq
      have hk := key q hq'
      split
      · rename_i hc
        rw [if_pos hc] at hk
        rw [List.pairwise_map]
        have h1 := ih (i := i + q) (j := j) (fun w hw x hx => hP _ (hk ((s, i, i + q) :: w) (List.mem_map.2 ⟨w, hw, rfl⟩)).1 x (by simp [hx]))
        rw [List.pairwise_map] at h1
        refine h1.imp fun {a b} hab => ?_
        simp only [intsN, List.map_cons]
        rw [cmpL_cons_eq]; exact hab
      · exact List.Pairwise.nil
    · rw [List.pairwise_iff_getElem]
      intro a b ha hb hab x hx y hy
      simp only [List.getElem_range] at hx hy
      simp only [List.length_range] at ha hb
      obtain ⟨hx1, w, -, rfl⟩ := key a ha x hx
      obtain ⟨hy1, v, -, rfl⟩ := key b hb y hy
      simp only [intsN, List.map_cons]
      refine cmpL_cons_lt ?_
      have := hm (s, i, i + a) (s, i, i + b) (hP _ hx1 _ (by simp)) (hP _ hy1 _ (by simp)) (by simp only [kyN]; omega)
      omega
theorem packs_sorted (hm : ∀ a b, P a → P b → kyN a < kyN b → idx a < idx b) {R : List Ru} {k : Ky} (hP : ∀ p ∈ packsF D R k, ∀ q ∈ p.2, P q) : ((packsF D R k).map fun p => pkL (p.1, p.2.map idx)).Pairwise fun a b => cmpL a b < 0 := by
  unfold packsF packT
  rw [List.pairwise_map, List.pairwise_flatMap]
  constructor
  · intro n hn
    have hin : ∀ p ∈ packN D R k n, p ∈ packsF D R k := fun p hp => by unfold packsF packT; exact List.mem_flatMap.2 ⟨n, hn, hp⟩
    unfold packN at hin ⊢
    cases hu : R[n]? with
    | none => simp
    | some u =>
      rw [hu] at hin
      simp only at hin ⊢
      by_cases e : u.1 = k.1.2 ∧ k.1.1 = false
      · rw [if_pos e] at hin ⊢
        rw [List.pairwise_map]
        have h1 := ways_sorted (D := D) hm (l := u.2) (i := k.2.1) (j := k.2.2) (fun w hw q hq => hP _ (hin (n, w) (List.mem_map.2 ⟨w, hw, rfl⟩)) q hq)
        rw [List.pairwise_map] at h1
        refine h1.imp fun {a b} hab => ?_
        simp only [pkL]
        rw [cmpL_cons_eq]; exact hab
      · rw [if_neg e]; exact List.Pairwise.nil
  · rw [List.pairwise_iff_getElem]
    intro a b ha hb hab x hx y hy
    simp only [List.getElem_range] at hx hy
    obtain ⟨e1, -⟩ := packN_mem hx
    obtain ⟨e2, -⟩ := packN_mem hy
    simp only [pkL]
    refine cmpL_cons_lt ?_
    rw [e1, e2]; omega
end
end Go.Proofs.YthiikgjeamoocaaDoor





namespace Go.Proofs.YthiikgjeamoocaaDoor
open Go.RowKit

abbrev KyI := Bool × Int × Int × Int
abbrev PkI := Int × List Int
abbrev NdI := KyI × List PkI
/-- a forest: its root, its nodes -/
abbrev FoI := Int × List NdI
def FpE : Elem PkI (Int × SlV) where
  k := 2
  cells r := [.int .i64 r.1, .slice r.2.1 r.2.2.1 r.2.2.2]
  rel ok w r x := r.1 = x.1 ∧ Sl InE ok w r.2.1 r.2.2.1 r.2.2.2 x.2
  pos := by omega
  len _ := rfl
  one r u hu := by simp at hu; rcases hu with rfl | rfl <;> rfl
  agr h k := ⟨h.1, h.2.agr k⟩
  mono h k := ⟨h.1, h.2.mono k⟩
def NdE : Elem NdI (KyI × SlV) where
  k := 5
  cells r := [.bool r.1.1, .int .i64 r.1.2.1, .int .i64 r.1.2.2.1, .int .i64 r.1.2.2.2, .slice r.2.1 r.2.2.1 r.2.2.2]
  rel ok w r x := r.1 = x.1 ∧ Sl FpE ok w r.2.1 r.2.2.1 r.2.2.2 x.2
  pos := by omega
  len _ := rfl
  one r u hu := by simp at hu; rcases hu with rfl | rfl | rfl | rfl | rfl <;> rfl
  agr h k := ⟨h.1, h.2.agr k⟩
  mono h k := ⟨h.1, h.2.mono k⟩
def FoR (ok : Nat → Prop) (w : World) (v : Value) (f : FoI) : Prop := ∃ A n c, v = .agg #[.slice A n c, .int .i64 f.1] ∧ Sl NdE ok w A n c f.2
section
variable {ok ok' : Nat → Prop} {w w' : World} {v : Value} {f : FoI}
theorem FoR.via (h : FoR ok w v f) (hb : Below w.heap.size w w') : FoR ok w' v f := by
  obtain ⟨A, n, c, h1, h2⟩ := h; exact ⟨A, n, c, h1, h2.via hb⟩
theorem FoR.mono (h : FoR ok w v f) (hm : ∀ b, b < w.heap.size → ok b → ok' b) : FoR ok' w v f := by
  obtain ⟨A, n, c, h1, h2⟩ := h; exact ⟨A, n, c, h1, h2.mono hm⟩
theorem FoR.nil (ok : Nat → Prop) (w : World) (r : Int) : FoR ok w (.agg #[.slice none 0 0, .int .i64 r]) (r, []) := ⟨none, 0, 0, rfl, Sl.nil 0⟩
end
theorem fp_info : (Tryd.prog.info? 96).map (fun i => (i.zero, i.size, i.bytes)) = some (some (.agg #[.int .i64 0, .slice none 0 0]), 2, 32) := by kernel_rfl
theorem wpList_append_fp {ops : Array Oper} {rest : List Oper} {o : Oper} {a : Act} {Q : Exit → Act → World → Prop} (w : World) (hgd : o.guard = none) (s y : Operand)
    (ho : o.op = .call { callee := .builtin .append, args := #[s, y], argTypes := #[92, 92] })
    (ok : Nat → Prop) (base : Nat) (v : Value) (n : Nat) (l : List PkI) (hv : a.eval s = v) (hown : Own FpE 96 ok w base v n l)
    (b : Nat) (r : (Int × SlV)) (x : PkI) (hy : a.eval y = .slice (some ⟨b, 0, none⟩) 1 1) (hcell : Blk w b 96 (FpE.cells r).toArray) (hrel : FpE.rel (fun b => ok b ∧ some b ≠ v.ownBlock) w r x)
    (h63 : n + 1 ≤ 1000000) (hbase : base ≤ w.heap.size)
    (h : ∀ A' c' w', Own FpE 96 ok w' base (.slice A' (n + 1) c') (n + 1) (l ++ [x]) → w.grownBy w' v.ownBlock → ((Value.slice A' (n + 1) c').ownBlock = v.ownBlock ∨ (Value.slice A' (n + 1) c').ownBlock = some w.heap.size) → wpList Tryd.prog ops Q rest (a.put o.dst (.slice A' (n + 1) c')) w') : wpList Tryd.prog ops Q (o :: rest) a w := by
  obtain ⟨i, hi, hz⟩ := Option.map_eq_some_iff.1 fp_info
  simp only [Prod.mk.injEq] at hz
  refine wpList_append_E (E := FpE) w hgd s y 92 96 ho i (.agg #[.int .i64 0, .slice none 0 0]) 32 (by kernel_rfl) hi hz.1 hz.2.1 hz.2.2 rfl ok base v n l hv hown b r x hy (fun j u hu => ?_) hrel (by simp [maxLen]; omega) (by omega) hbase h
  rw [hcell.cell j, List.getElem?_toArray]; exact hu
theorem nd_info : (Tryd.prog.info? 94).map (fun i => (i.zero, i.size, i.bytes)) = some (some (.agg #[.bool false, .int .i64 0, .int .i64 0, .int .i64 0, .slice none 0 0]), 5, 56) := by kernel_rfl
theorem wpList_append_nd {ops : Array Oper} {rest : List Oper} {o : Oper} {a : Act} {Q : Exit → Act → World → Prop} (w : World) (hgd : o.guard = none) (s y : Operand)
    (ho : o.op = .call { callee := .builtin .append, args := #[s, y], argTypes := #[78, 78] })
    (ok : Nat → Prop) (base : Nat) (v : Value) (n : Nat) (l : List NdI) (hv : a.eval s = v) (hown : Own NdE 94 ok w base v n l)
    (b : Nat) (r : (KyI × SlV)) (x : NdI) (hy : a.eval y = .slice (some ⟨b, 0, none⟩) 1 1) (hcell : Blk w b 94 (NdE.cells r).toArray) (hrel : NdE.rel (fun b => ok b ∧ some b ≠ v.ownBlock) w r x)
    (h63 : n + 1 ≤ 1000000) (hbase : base ≤ w.heap.size)
    (h : ∀ A' c' w', Own NdE 94 ok w' base (.slice A' (n + 1) c') (n + 1) (l ++ [x]) → w.grownBy w' v.ownBlock → ((Value.slice A' (n + 1) c').ownBlock = v.ownBlock ∨ (Value.slice A' (n + 1) c').ownBlock = some w.heap.size) → wpList Tryd.prog ops Q rest (a.put o.dst (.slice A' (n + 1) c')) w') : wpList Tryd.prog ops Q (o :: rest) a w := by
  obtain ⟨i, hi, hz⟩ := Option.map_eq_some_iff.1 nd_info
  simp only [Prod.mk.injEq] at hz
  refine wpList_append_E (E := NdE) w hgd s y 78 94 ho i (.agg #[.bool false, .int .i64 0, .int .i64 0, .int .i64 0, .slice none 0 0]) 56 (by kernel_rfl) hi hz.1 hz.2.1 hz.2.2 rfl ok base v n l hv hown b r x hy (fun j u hu => ?_) hrel (by simp [maxLen]; omega) (by omega) hbase h
  rw [hcell.cell j, List.getElem?_toArray]; exact hu
/-! ### the forest that both compute -/
def ndI (x : Nd) : NdI := ((x.1.1.1, (x.1.1.2 : Int), (x.1.2.1 : Int), (x.1.2.2 : Int)), x.2.map fun p => ((p.1 : Int), intsN p.2))
def foI (D : Ky → Bool) (R : List Ru) (L : List Ky) (root : Ky) : FoI := ((idxK L root : Int), L.map fun k => ndI (ndF D R L k))
/-- what a forest over the parts D is, of at most most packs -/
inductive IsFo (D : Ky → Bool) (R : List Ru) (root : Ky) (most : Nat) : FoI → Bool → Prop
  | none : D root = false → IsFo D R root most (-1, []) true
  | large : D root = true → (∀ L, IsNds D R root L → most < totP D R L) → IsFo D R root most (0, []) false
  | fits {L : List Ky} : D root = true → IsNds D R root L → totP D R L ≤ most → IsFo D R root most (foI D R L root) true
theorem IsFo.uniq {D : Ky → Bool} {R : List Ru} {root : Ky} {most : Nat} {f f' : FoI} {b b' : Bool} (h : IsFo D R root most f b) (h' : IsFo D R root most f' b') : f = f' ∧ b = b' := by
  cases h with
  | none h1 => cases h' with
    | none => exact ⟨rfl, rfl⟩
    | large k1 => rw [h1] at k1; cases k1
    | fits k1 => rw [h1] at k1; cases k1
  | large h1 h2 => cases h' with
    | none k1 => rw [h1] at k1; cases k1
    | large => exact ⟨rfl, rfl⟩
    | fits k1 k2 k3 => have := h2 _ k2; omega
  | fits h1 h2 h3 => cases h' with
    | none k1 => rw [h1] at k1; cases k1
    | large k1 k2 => have := k2 _ h2; omega
    | fits k1 k2 k3 => rw [h2.uniq k2]; exact ⟨rfl, rfl⟩
end Go.Proofs.YthiikgjeamoocaaDoor





namespace Go.Proofs.YthiikgjeamoocaaDoor
open Go.RowKit
open Go.Sort (grow alloc_eq_grow grow_grow putRowK putRow mapBlock putCells flatK HoldsK Holds onCells size_flatK get_flatK SWO PermIn SortedIn)
open Go.Proofs (sortWorldK CmpLays ltOf)

section
variable {α : Type} [Inhabited α] {enc : α → List Value} {k : Nat} {w : World} {blk off m : Nat} {dk : Array α} {os : Array Obj}
theorem sw_size : w.heap.size ≤ (sortWorldK enc k w blk off m dk os).heap.size := by
  simp only [sortWorldK, grow, putRowK, putRow, mapBlock, Array.size_append, Array.size_modify]
  exact Nat.le_add_right _ _
theorem sw_get {b : Nat} (hb : b < w.heap.size) : (sortWorldK enc k w blk off m dk os).heap[b]? = if blk = b then (w.heap[b]?).map (onCells (putCells id off (flatK enc k dk))) else w.heap[b]? := by
  simp only [sortWorldK, grow, putRowK, putRow, mapBlock]
  rw [Array.getElem?_append_left (by simpa using hb), Array.getElem?_modify]
  rfl
theorem sw_other {b : Nat} (hb : b < w.heap.size) (hne : b ≠ blk) : (sortWorldK enc k w blk off m dk os).heap[b]? = w.heap[b]? := by
  rw [sw_get hb, if_neg (Ne.symm hne)]
theorem sw_row {cur : Array Value} {t : TypeId} {fr : Nat × Nat} (h : w.heap[blk]? = some (.cells cur t fr)) : (sortWorldK enc k w blk off m dk os).heap[blk]? = some (.cells (putCells id off (flatK enc k dk) cur) t fr) := by
  have hb : blk < w.heap.size := (Array.getElem?_eq_some_iff.1 h).1
  rw [sw_get hb, if_pos rfl, h]; rfl
theorem sw_below {base : Nat} (hb : base ≤ blk) : base ≤ w.heap.size → Below base w (sortWorldK enc k w blk off m dk os) := fun hs =>
  ⟨rfl, rfl, rfl, sw_size, fun b hlt => sw_other (by omega) (by omega)⟩
end
/-- a row of elements, flat, cell by cell -/
theorem flat_get {α ρ : Type} (E : Elem α ρ) : ∀ (raw : List ρ) (i j : Nat) (r : ρ), raw[i]? = some r → j < E.k → (flat E raw)[i * E.k + j]? = (E.cells r)[j]?
  | [], i, j, r, h, _ => by simp at h
  | a :: raw, 0, j, r, h, hj => by
    simp at h; subst h
    simp only [flat, List.flatMap_cons, Nat.zero_mul, Nat.zero_add]
    rw [List.getElem?_append_left (by rw [E.len]; exact hj)]
  | a :: raw, i + 1, j, r, h, hj => by
    simp at h
    have ih := flat_get E raw i j r h hj
    simp only [flat, List.flatMap_cons]
    rw [List.getElem?_append_right (by rw [E.len, Nat.add_mul]; omega), E.len, show (i + 1) * E.k + j - E.k = i * E.k + j by rw [Nat.add_mul]; omega]
    exact ih
theorem putCells_take (F cur : Array Value) (h : F.size ≤ cur.size) : (putCells id 0 F cur).size = cur.size ∧ (putCells id 0 F cur).toList.take F.size = F.toList := by
  have hs : (putCells id 0 F cur).size = cur.size := by simp [putCells]
  refine ⟨hs, ?_⟩
  apply List.ext_getElem?
  intro t
  rw [List.getElem?_take]
  split
  · rename_i ht
    rw [Array.getElem?_toList, Array.getElem?_toList, Array.getElem?_eq_getElem (by omega), Array.getElem?_eq_getElem ht]
    simp only [putCells, Array.getElem_mapIdx, Nat.zero_le, true_and, Nat.zero_add, Nat.sub_zero, id]
    rw [if_pos ht, getElem!_pos F t ht]
  · rename_i ht
    rw [Array.getElem?_toList, Array.getElem?_eq_none (by omega)]
section
variable {α ρ : Type} (E : Elem α ρ)
/-- an element that can be read in w elsewhere than in block g -/
abbrev EltX (ok : Nat → Prop) (ph : α → Prop) (w : World) (g : Nat) := {p : ρ × α // E.rel (fun b => ok b ∧ some b ≠ some g) w p.1 p.2 ∧ ph p.2}
def encX {ok : Nat → Prop} {ph : α → Prop} {w : World} {g : Nat} (p : EltX E ok ph w g) : List Value := E.cells p.1.1
/-- what a comparer is asked -/
def CmpX (fid : Nat) (cb : Array Value) (cf : α → α → Int) (ok : Nat → Prop) (ph : α → Prop) (w : World) (g : Nat) : Prop :=
  ∀ (W : World), Agr (fun b => b ≠ g) w W → w.heap.size ≤ W.heap.size → ∀ p q : EltX E ok ph w g, Calls Tryd.prog fid (#[.agg (E.cells p.1.1).toArray, .agg (E.cells q.1.1).toArray] ++ cb) W fun e w' => e = .returned (.int .i64 (cf p.1.2 q.1.2)) ∧ ∃ n os, w' = grow (W.drewN n) os
def SortPX (e : TypeId) (ok : Nat → Prop) (base n : Nat) (A : Option Addr) (c : Nat) (l : List α) (cf : α → α → Int) (w : World) (en : Ending) (w' : World) : Prop :=
  en = .returned (.tuple #[]) ∧ ∃ l' : List α, l'.Perm l ∧ l'.Pairwise (fun x y => cf x y ≤ 0) ∧ Own E e ok w' base (.slice A n c) n l' ∧ Below base w w' ∧ Agr (fun b => some b ≠ (Value.slice A n c).ownBlock) w w' ∧ w.heap.size ≤ w'.heap.size
theorem flatX_raw {ok : Nat → Prop} {ph : α → Prop} {w : World} {g : Nat} [Inhabited (EltX E ok ph w g)] (d : Array (EltX E ok ph w g)) : (flatK (encX E) E.k d).toList = flat E (d.toList.map fun p => p.1.1) := by
  apply List.ext_getElem?
  intro t
  have hl : (flat E (d.toList.map fun p : EltX E ok ph w g => p.1.1)).length = d.size * E.k := by rw [flat_len]; simp
  have hp := E.pos
  rcases Nat.lt_or_ge t (d.size * E.k) with ht | ht
  · have hi : t / E.k < d.size := (Nat.div_lt_iff_lt_mul hp).2 ht
    have e1 : (d.toList.map fun p : EltX E ok ph w g => p.1.1)[t / E.k]? = some (d[t / E.k]!).1.1 := by
      rw [List.getElem?_map, Array.getElem?_toList, getElem!_pos d (t / E.k) hi, Array.getElem?_eq_getElem hi]; rfl
    have e2 := flat_get E _ (t / E.k) (t % E.k) _ e1 (Nat.mod_lt _ hp)
    have e3 : t / E.k * E.k + t % E.k = t := Nat.div_add_mod' t E.k
    rw [e3] at e2
    rw [e2, Array.getElem?_toList, Array.getElem?_eq_getElem (by simpa using ht)]
    have e4 := get_flatK (encX E (ok := ok) (ph := ph) (w := w) (g := g)) E.k d t ht
    rw [getElem!_pos _ t (by simpa using ht)] at e4
    rw [e4]
    have hm : t % E.k < (encX E d[t / E.k]!).length := by rw [encX, E.len]; exact Nat.mod_lt _ hp
    rw [getElem!_pos (encX E (ok := ok) (ph := ph) (w := w) (g := g) d[t / E.k]!) (t % E.k) hm]
    exact (List.getElem?_eq_getElem hm).symm
  · rw [Array.getElem?_toList, Array.getElem?_eq_none (by simpa using ht), List.getElem?_eq_none (by rw [hl]; exact ht)]
theorem sw_agr {ok : Nat → Prop} {ph : α → Prop} {w : World} {g : Nat} [Inhabited (EltX E ok ph w g)] {n : Nat} {dk : Array (EltX E ok ph w g)} {os : Array Obj} : Agr (fun b => b ≠ g) w (sortWorldK (encX E) E.k w g 0 n dk os) := fun _ hb hl => sw_other hl hb
theorem sort_x {σ : Go.Shelf.Ren} (L : SlLaysF0.n6 Tryd.prog σ) (aE : ∀ w, (isAgg (σ.t 24)).run Tryd.prog w = .ok true w) (zE : ∀ w, (Go.sizeOf (σ.t 24)).run Tryd.prog w = .ok E.k w) (fid : Nat) (cb : Array Value) (eg : ∀ args w, (callFunc fid args).run Tryd.prog w = .ok (.enter fid args) w)
    (cf : α → α → Int) (hO : ∀ p : α → Prop, SWO (ltOf fun x y : {x : α // p x} => cf x.1 y.1)) (hA : ∀ x y, 0 < cf x y → cf y x < 0) (e : TypeId) (ok : Nat → Prop) (ph : α → Prop) (w : World) (base n : Nat) (A : Option Addr) (c : Nat) (l : List α) (hn : n ≤ 1000000) (hph : ∀ x ∈ l, ph x) (hown : Own E e ok w base (.slice A n c) n l)
    (hcmp : ∀ g, (Value.slice A n c).ownBlock = some g → CmpX E fid cb cf ok ph w g) :
    Calls Tryd.prog (σ.f 6) #[.slice A n c, .func (.func fid) #[] cb] w (SortPX E e ok base n A c l cf w) := by
  rcases Nat.eq_zero_or_pos n with h0 | h0
  · subst h0
    obtain rfl : l = [] := List.eq_nil_of_length_eq_zero hown.len
    refine (AnyF.slices_SortFunc_none L A c (.func (.func fid) #[] cb) w).mono ?_
    rintro en w' ⟨rfl, rfl⟩
    exact ⟨rfl, [], List.Perm.refl _, List.Pairwise.nil, hown, Below.refl _ _, Agr.refl, Nat.le_refl _⟩
  obtain ⟨hl, raw, hr, ⟨hrl, hrow⟩, hrel⟩ := hown
  rcases hrow with ⟨-, e1⟩ | ⟨g, cap, cur, e1, hg, hb, hnc, hcm, hcs, htk⟩
  · omega
  simp only [Value.slice.injEq] at e1
  obtain ⟨rfl, -, rfl⟩ := e1
  have hob : (Value.slice (some ⟨g, 0, none⟩) n c).ownBlock = some g := rfl
  rw [hob] at hrel
  have hgl : g < w.heap.size := (Array.getElem?_eq_some_iff.1 hb).1
  have hall : ∀ p ∈ raw.zip l, E.rel (fun b => ok b ∧ some b ≠ some g) w p.1 p.2 ∧ ph p.2 := by
    intro p hp
    obtain ⟨i, hi⟩ := List.mem_iff_getElem?.1 hp
    rw [List.getElem?_zip_eq_some] at hi
    exact ⟨hrel i _ _ hi.1 hi.2, hph _ (List.mem_of_getElem? hi.2)⟩
  obtain ⟨d, hd⟩ : ∃ d : Array (EltX E ok ph w g), d = ((raw.zip l).pmap (fun p h => (⟨p, h⟩ : EltX E ok ph w g)) hall).toArray := ⟨_, rfl⟩
  have hdp : d.toList.map Subtype.val = raw.zip l := by
    rw [hd, List.map_pmap]
    simp
  have hdm : (d.toList.map fun p => p.1.1) = raw := by
    have : (d.toList.map fun p : EltX E ok ph w g => p.1.1) = (d.toList.map Subtype.val).map Prod.fst := by simp
    rw [this, hdp, List.map_fst_zip (by omega)]
  have hdl : (d.toList.map fun p => p.1.2) = l := by
    have : (d.toList.map fun p : EltX E ok ph w g => p.1.2) = (d.toList.map Subtype.val).map Prod.snd := by simp
    rw [this, hdp, List.map_snd_zip (by omega)]
  have hds : d.size = n := by rw [← hr, ← hdm]; simp
  haveI : Inhabited (EltX E ok ph w g) := ⟨d[0]'(by omega)⟩
  have hF : (flatK (encX E) E.k d).toList = flat E raw := by rw [flatX_raw, hdm]
  have hB : Blk w g e cur := hb
  have hfs : (flatK (encX E) E.k d).size = n * E.k := by rw [size_flatK, hds]
  have hH : HoldsK (encX E) E.k w g 0 d := by
    intro j hj
    have hj' : j < n * E.k := by omega
    refine ⟨?_, hB.frozen _⟩
    rw [hB.cell, Nat.zero_add]
    have e1 : cur[j]? = (flatK (encX E) E.k d)[j]? := by
      rw [← Array.getElem?_toList, ← Array.getElem?_toList, hF, ← htk, List.getElem?_take, if_pos hj']
    rw [e1, Array.getElem?_eq_getElem hj, getElem!_pos _ j hj]; rfl
  have hC := hcmp g rfl
  have hlay : CmpLays Tryd.prog fid cb (encX E (ok := ok) (ph := ph) (w := w) (g := g)) E.k (fun x y => cf x.1.2 y.1.2) g 0 d.size w := by
    intro m os dk hs x y
    exact hC _ (sw_agr E) sw_size x y
  have hsw : SWO (ltOf fun x y : EltX E ok ph w g => cf x.1.2 y.1.2) := by
    have hq := hO ph
    refine ⟨fun x => hq.irrefl ⟨x.1.2, x.2.2⟩, fun x y z h1 h2 => hq.trans ⟨x.1.2, x.2.2⟩ ⟨y.1.2, y.2.2⟩ ⟨z.1.2, z.2.2⟩ h1 h2, fun x y z h1 h2 => hq.ntrans ⟨x.1.2, x.2.2⟩ ⟨y.1.2, y.2.2⟩ ⟨z.1.2, z.2.2⟩ h1 h2⟩
  have hcon := AnyQ.slices_SortFunc L E.k aE zE (encX E (ok := ok) (ph := ph) (w := w) (g := g)) (fun x => E.len _) (fun x v hv => E.one _ v hv) (fun x y => cf x.1.2 y.1.2) hsw fid cb g 0 c d w eg hlay hH hgl (by omega)
  rw [hds] at hcon
  refine hcon.mono ?_
  rintro en w' ⟨rfl, d', n', os, ⟨hp1, -, hp2⟩, hso, rfl⟩
  have hds' : d'.size = n := by omega
  have hperm : d'.toList.Perm d.toList := by
    have x1 : d'.extract 0 n = d' := by rw [← hds']; simp
    have x2 : d.extract 0 n = d := by rw [← hds]; simp
    rw [x1, x2] at hp2; exact hp2
  obtain ⟨p1, p2⟩ := putCells_take (flatK (encX E) E.k d') cur (by rw [size_flatK, hds', hcs]; exact Nat.mul_le_mul_right _ hnc)
  refine ⟨rfl, d'.toList.map fun p => p.1.2, ?_, ?_, ⟨by simp [hds'], d'.toList.map fun p => p.1.1, by simp [hds'], ⟨?_, Or.inr ⟨g, c, _, rfl, hg, sw_row hb, hnc, hcm, by rw [p1]; exact hcs, ?_⟩⟩, ?_⟩, ?_, ?_, sw_size⟩
  · rw [← hdl]; exact hperm.map _
  · rw [List.pairwise_map, List.pairwise_iff_getElem]
    intro i j hi hj hij
    have h := hso i j (Nat.zero_le _) hij (by simpa [hds'] using hj)
    simp only [ltOf, decide_eq_false_iff_not] at h
    rw [getElem!_pos d' i (by simpa using hi), getElem!_pos d' j (by simpa using hj)] at h
    simp only [Array.getElem_toList]
    apply Classical.byContradiction
    intro hgt
    exact h (hA _ _ (by omega))
  · rw [flat_len]; simp [hds']
  · have q1 : (flatK (encX E) E.k d').size = n * E.k := by rw [size_flatK, hds']
    rw [← q1, p2, flatX_raw]
  · intro i r x hr' hx
    rw [List.getElem?_map] at hr' hx
    obtain ⟨y, hy, rfl⟩ := Option.map_eq_some_iff.1 hr'
    rw [hy] at hx
    simp only [Option.map_some, Option.some.injEq] at hx
    subst hx
    exact E.agr y.2.1 ((sw_agr E).mono fun b hb => by intro e; exact hb.2 (by rw [e]; rfl))
  · exact sw_below hg (by omega)
  · exact (sw_agr E).mono fun b hb e => hb (by rw [e]; rfl)
end
end Go.Proofs.YthiikgjeamoocaaDoor



namespace Go.Proofs.YthiikgjeamoocaaDoor
open Go.RowKit

section
variable {c0 c1 : Int} {g : Int → Int → Int → Int}
variable {xs ys : List Int}
end

/-- a counter on its way down -/
def down : Nat → Int
  | 0 => -1
  | k + 1 => (k : Int)
/-! ### make -/
def mkCells (z : Value) (n : Nat) : Array Value := madeCells #[z] n
theorem mkCells_size (z : Value) (n : Nat) : (mkCells z n).size = n := size_madeCells _ _
/-! ### a table in memory: the rows from i on are filled -/
section
variable {w w' : World} {bd n m i lo : Nat} {rb : Nat → Nat} {V : Nat → Nat → Int}
end
section
variable {w : World} {bd m k b j : Nat} {V : Nat → Int}
end
end Go.Proofs.YthiikgjeamoocaaDoor



namespace Go.Proofs.YthiikgjeamoocaaDoor
open Go.RowKit

/-! ### alignments: w is turned into v at cost k (c0: insert, c1: delete, c2: replace) -/
section
variable {c0 c1 c2 : Int}
/-! ### one letter -/
def mn (a b : Int) : Int := if b < a then b else a
/-- the least cost of turning a part into one letter -/
def oneC (c0 c1 c2 t : Int) (p : List Int) : Int :=
  if t ∈ p then mn (mn (c0 + (p.length : Int) * c1) (c2 + ((p.length : Int) - 1) * c1)) (((p.length : Int) - 1) * c1)
  else if p = [] then c0 + (p.length : Int) * c1 else mn (c0 + (p.length : Int) * c1) (c2 + ((p.length : Int) - 1) * c1)
end
/-! ### words of lists of symbols -/
inductive Dv (rules : List Ru) : List Sy → List Int → Prop
  | nil : Dv rules [] []
  | term (t : Nat) {l : List Sy} {v : List Int} (h : Dv rules l v) : Dv rules ((true, t) :: l) ((t : Int) :: v)
  | non (N : Nat) {rhs l : List Sy} {u v : List Int} (hr : (N, rhs) ∈ rules) (h1 : Dv rules rhs u) (h2 : Dv rules l v) : Dv rules ((false, N) :: l) (u ++ v)
section
variable {rules : List Ru}
theorem Dv.append {a b : List Sy} {u v : List Int} (h : Dv rules a u) (k : Dv rules b v) : Dv rules (a ++ b) (u ++ v) := by
  induction h with
  | nil => simpa using k
  | term t _ ih => exact .term t ih
  | non N hr h1 _ _ ih => rw [List.append_assoc]; exact .non N hr h1 ih
theorem Dv.one {s : Nat} {rhs : List Sy} {v : List Int} (hr : (s, rhs) ∈ rules) (h : Dv rules rhs v) : Dv rules [(false, s)] v := by
  have := Dv.non s hr h (Dv.nil (rules := rules))
  simpa using this
theorem Dv.letter (t : Nat) : Dv rules [(true, t)] [(t : Int)] := .term t .nil
end

/-! ### ways -/
structure Way where
  cost : Int
  size : Int
  w : List Int
  ok : Bool
def Way.no : Way := ⟨0, 0, [], false⟩
def wcmp (a b : Way) : Int := orL [cmpI a.cost b.cost, cmpI a.size b.size, cmpL a.w b.w]
def lessW (a b : Way) : Bool := if !b.ok || !a.ok then a.ok else decide (wcmp a b < 0)
def thenW (a b : Way) : Way := ⟨a.cost + b.cost, a.size + b.size, if (a.ok && b.ok) && decide (a.size + b.size ≤ 2000) then a.w ++ b.w else [], a.ok && b.ok⟩
def hopeW (a b t : Way) : Bool := if !a.ok || !b.ok then true else t.ok && decide (orL [cmpI (a.cost + b.cost) t.cost, cmpI (a.size + b.size) t.size] > 0)
theorem cmpI_zero {x y : Int} : cmpI x y = 0 ↔ x = y := by unfold cmpI; split <;> (try split) <;> omega
/-! ### rows of ways -/
def upd (f : Nat → Way) (j : Nat) (y : Way) : Nat → Way := fun i => if i = j then y else f i
/-- one step: a, then the way x of the next symbol, at place j -/
def goJ (a x : Way) (next : Nat → Way) (j : Nat) : Nat → Way :=
  if hopeW a x (next j) then next else if lessW (thenW a x) (next j) then upd next j (thenW a x) else next
/-- m steps from place k on -/
def rowJ (a : Way) (sym : Nat → Way) (k : Nat) (next : Nat → Way) : Nat → Nat → Way
  | 0 => next
  | m + 1 => goJ a (sym (k + m)) (rowJ a sym k next m) (k + m)
/-- from m places on, the first one i; the last place is n -/
def rowK (at_ : Nat → Way) (sym : Nat → Nat → Way) (n i : Nat) : Nat → Nat → Way
  | 0 => fun _ => Way.no
  | m + 1 => if (at_ (i + m)).ok then rowJ (at_ (i + m)) (sym (i + m)) (i + m) (rowK at_ sym n i m) (n + 1 - (i + m)) else rowK at_ sym n i m
def symW (c0 c1 c2 : Int) (w : List Int) (st : Nat → Nat → Nat → Way) (s : Sy) (i j : Nat) : Way :=
  if s.1 then ⟨oneC c0 c1 c2 (s.2 : Int) ((w.take j).drop i), 1, [(s.2 : Int)], true⟩ else st s.2 i j
def ruleAt (c0 c1 c2 : Int) (w : List Int) (st : Nat → Nat → Nat → Way) (n i : Nat) : List Sy → (Nat → Way)
  | l => l.foldl (fun f s => rowK f (symW c0 c1 c2 w st s) n i (n + 1 - i)) (upd (fun _ => Way.no) i ⟨0, 0, [], true⟩)
def ruleW (c0 c1 c2 : Int) (w : List Int) (st : Nat → Nat → Nat → Way) (n i : Nat) (l : List Sy) : Nat → Way :=
  if l = [] then (fun j => if i ≤ j ∧ j ≤ n then ⟨((j : Int) - (i : Int)) * c1, 0, [], true⟩ else Way.no) else ruleAt c0 c1 c2 w st n i l

end Go.Proofs.YthiikgjeamoocaaDoor



namespace Go.Proofs.YthiikgjeamoocaaDoor
open Go.RowKit

/-! ### the fixed point knows every word: completeness -/
def part (w : List Int) (i j : Nat) : List Int := (w.take j).drop i
theorem part_len {w : List Int} {i j : Nat} (h2 : j ≤ w.length) : (part w i j).length = j - i := by simp [part]; omega
theorem part_split {w p1 p2 : List Int} {i j : Nat} (h1 : i ≤ j) (h2 : j ≤ w.length) (h : part w i j = p1 ++ p2) : ∃ m, i ≤ m ∧ m ≤ j ∧ part w i m = p1 ∧ part w m j = p2 := by
  have hl := part_len (i := i) h2
  rw [h, List.length_append] at hl
  refine ⟨i + p1.length, by omega, by omega, ?_, ?_⟩
  · have e : part w i (i + p1.length) = (part w i j).take p1.length := by
      unfold part
      rw [List.take_drop, List.take_take]
      congr 2; omega
    rw [e, h]; simp
  · have e : part w (i + p1.length) j = (part w i j).drop p1.length := by
      unfold part; rw [List.drop_drop]
    rw [e, h]; simp
theorem part_all (w : List Int) : part w 0 w.length = w := by simp [part]
theorem part_same (w : List Int) (i : Nat) : part w i i = [] := by simp [part]
theorem part_append {w : List Int} {i m j : Nat} (h1 : i ≤ m) (h2 : m ≤ j) : part w i m ++ part w m j = part w i j := by
  have e : (w.take j).drop i = ((w.take j).drop i).take (m - i) ++ ((w.take j).drop i).drop (m - i) := (List.take_append_drop _ _).symm
  unfold part
  rw [e, List.drop_drop, List.take_drop, List.take_take]
  congr 2 <;> (congr 1; omega)

section
variable {c0 c1 c2 : Int} {w : List Int} {st : Nat → Nat → Nat → Way} {n i : Nat}
theorem snoc_induction {α : Type} {P : List α → Prop} (h0 : P []) (hs : ∀ l a, P l → P (l ++ [a])) (l : List α) : P l := by
  have : ∀ (k : Nat) (l : List α), l.length = k → P l := by
    intro k
    induction k with
    | zero => intro l h; rw [List.length_eq_zero_iff.1 h]; exact h0
    | succ k ih =>
      intro l h
      rcases List.eq_nil_or_concat l with rfl | ⟨a, b, rfl⟩
      · exact h0
      · rw [List.concat_eq_append]
        exact hs a b (ih a (by simp at h; exact h))
  exact this _ l rfl
end
section
variable {c0 c1 c2 : Int} {rules : List Ru} {w : List Int} {st : Nat → Nat → Nat → Way}
end

/-! ### what is kept is the way to a word: soundness -/
section
variable {c0 c1 c2 : Int} {rules : List Ru} {w : List Int} {st : Nat → Nat → Nat → Way}
end
/-! ### bounds -/
section
variable {c0 c1 c2 : Int} {w : List Int} {st : Nat → Nat → Nat → Way}
end

/-! ### states: which nonterminals have a way, and what it costs at the most -/
structure Pm where
  c0 : Int
  c1 : Int
  c2 : Int
  nons : Nat
  rules : List Ru
  w : List Int
structure Pm.Ok (p : Pm) : Prop where
  c0 : 1 ≤ p.c0 ∧ p.c0 ≤ 100
  c1 : 1 ≤ p.c1 ∧ p.c1 ≤ 100
  c2 : 1 ≤ p.c2 ∧ p.c2 ≤ 100
  nons : p.nons ≤ 10
  left : ∀ r ∈ p.rules, r.1 < p.nons
  right : ∀ r ∈ p.rules, r.2.length ≤ 4
  lets : ∀ r ∈ p.rules, ∀ s ∈ r.2, s.1 = true → s.2 < 8
  len : p.w.length ≤ 12
abbrev WSt := Nat → Nat → Nat → Way
def Pm.rule (p : Pm) (st : WSt) (i : Nat) (l : List Sy) : Nat → Way := ruleW p.c0 p.c1 p.c2 p.w st p.w.length i l
def Pm.sym (p : Pm) (st : WSt) (s : Sy) (i j : Nat) : Way := symW p.c0 p.c1 p.c2 p.w st s i j
def cnt (nons : Nat) (st : WSt) : Nat := ((List.range nons).filter fun N => (st N 0 0).ok).length
section
variable {p : Pm} {st st1 stI : WSt} {r : Ru} {i j : Nat}
theorem cnt_le (nons : Nat) (st : WSt) : cnt nons st ≤ nons := by
  unfold cnt; have := List.length_filter_le (fun N => (st N 0 0).ok) (List.range nons); simpa using this
end
end Go.Proofs.YthiikgjeamoocaaDoor



namespace Go.Proofs.YthiikgjeamoocaaDoor
open Go.RowKit

/-! ### every step makes a state smaller -/
def long : Nat := 2000
def sumTo (f : Nat → Nat) : Nat → Nat
  | 0 => 0
  | n + 1 => sumTo f n + f n
theorem sumTo_le {f g : Nat → Nat} (n : Nat) (h : ∀ k, f k ≤ g k) : sumTo f n ≤ sumTo g n := by
  induction n with
  | zero => exact Nat.le_refl _
  | succ n ih => have := h n; simp only [sumTo]; omega
theorem sumTo_lt {f g : Nat → Nat} {n k : Nat} (h : ∀ k, f k ≤ g k) (hk : k < n) (hl : f k < g k) : sumTo f n < sumTo g n := by
  induction n with
  | zero => omega
  | succ n ih =>
    simp only [sumTo]
    by_cases e : k = n
    · subst e; have := sumTo_le (f := f) (g := g) k h; omega
    · have := ih (by omega); have := h n; omega
/-- the letters of a word -/
theorem Dv.lets {rules : List Ru} {B : Nat} (hr : ∀ r ∈ rules, ∀ s ∈ r.2, s.1 = true → s.2 < B) {l : List Sy} {v : List Int} (h : Dv rules l v) : (∀ s ∈ l, s.1 = true → s.2 < B) → ∀ y ∈ v, 0 ≤ y ∧ y < (B : Int) := by
  induction h with
  | nil => intro _ y hy; cases hy
  | @term t l v h ih =>
    intro hl y hy
    rcases List.mem_cons.1 hy with rfl | hy
    · have := hl (true, t) (List.mem_cons_self ..) rfl
      simp only at this; omega
    · exact ih (fun s hs => hl s (List.mem_cons_of_mem _ hs)) y hy
  | @non N rhs l u v hm h1 h2 ih1 ih2 =>
    intro hl y hy
    rcases List.mem_append.1 hy with hy | hy
    · exact ih1 (hr _ hm) y hy
    · exact ih2 (fun s hs => hl s (List.mem_cons_of_mem _ hs)) y hy
section
variable {p : Pm} {st st1 stI : WSt} {r : Ru} {i j : Nat}
def big : Nat := 2000000000
end
end Go.Proofs.YthiikgjeamoocaaDoor



namespace Go.Proofs.YthiikgjeamoocaaDoor
open Go.RowKit

/-! ### rows by folding -/
/-! ### cells, and words that fit them -/
abbrev Ce := Bool × Int
def gpart {α : Type} (w : List α) (i j : Nat) : List α := (w.take j).drop i
section
variable {α : Type}
theorem gpart_one {w : List α} {i : Nat} {c : α} (h : gpart w i (i + 1) = [c]) : w[i]? = some c := by
  have : (gpart w i (i + 1))[0]? = some c := by rw [h]; rfl
  unfold gpart at this
  rw [List.getElem?_drop, List.getElem?_take, if_pos (by omega)] at this
  exact this
theorem gpart_at {w : List α} {i : Nat} {c : α} (h : w[i]? = some c) : gpart w i (i + 1) = [c] := by
  have hl := List.getElem?_eq_some_iff.1 h
  have hl1 := hl.1
  unfold gpart
  rw [List.take_succ_eq_append_getElem hl.1, List.drop_append_of_le_length (by rw [List.length_take]; omega), List.drop_of_length_le (by rw [List.length_take]; omega), hl.2]; rfl
end
section
variable {rules : List Ru}
end

/-! ### the table of hole -/
section
variable {rules : List Ru} {cells : List Ce} {st : WSt}
end
section
variable {rules : List Ru} {cells : List Ce} {st stI : WSt} {r : Ru} {i j nons : Nat}
end
end Go.Proofs.YthiikgjeamoocaaDoor

