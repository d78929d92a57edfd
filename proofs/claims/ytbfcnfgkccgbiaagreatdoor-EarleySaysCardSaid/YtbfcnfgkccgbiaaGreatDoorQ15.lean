/- Texts BM, BN, BJ, BO, laid together. -/
import Derived.Test.YtbfcnfgkccgbiaaGreatDoorQ10
import Derived.Test.YtbfcnfgkccgbiaaGreatDoorQ8
import Derived.Test.YtbfcnfgkccgbiaaGreatDoorQ14
import Derived.Test.YtbfcnfgkccgbiaaGreatDoorQ13
import Derived.Test.YtbfcnfgkccgbiaaGreatDoorQ11
import Derived.Shelf.SlSortCmp.NoneTotal
import Derived.Sort.Statements
import Derived.Test.YtbfcnfgkccgbiaaGreatDoorSg
import Derived.Sort.Grow




namespace Go.Proofs.YtbfcnfgkccgbiaaGreatDoor
open Go.RowKit

abbrev KyI := Bool × Int × Int × Int
abbrev PkI := Int × List Int
abbrev NdI := KyI × List PkI
/-- a forest: its root, its nodes -/
abbrev FoI := Int × List NdI
def FpE : Elem PkI (Int × SlV) where
  k := 2
  cells r := [.int .i64 r.1, .slice r.2.1 r.2.2.1 r.2.2.2]
  rel ok w r x := r.1 = x.1 ∧ Sl InE ok w r.2.1 r.2.2.1 r.2.2.2 x.2
  pos := by omega
  len _ := rfl
  one r u hu := by simp at hu; rcases hu with rfl | rfl <;> rfl
  agr h k := ⟨h.1, h.2.agr k⟩
  mono h k := ⟨h.1, h.2.mono k⟩
def NdE : Elem NdI (KyI × SlV) where
  k := 5
  cells r := [.bool r.1.1, .int .i64 r.1.2.1, .int .i64 r.1.2.2.1, .int .i64 r.1.2.2.2, .slice r.2.1 r.2.2.1 r.2.2.2]
  rel ok w r x := r.1 = x.1 ∧ Sl FpE ok w r.2.1 r.2.2.1 r.2.2.2 x.2
  pos := by omega
  len _ := rfl
  one r u hu := by simp at hu; rcases hu with rfl | rfl | rfl | rfl | rfl <;> rfl
  agr h k := ⟨h.1, h.2.agr k⟩
  mono h k := ⟨h.1, h.2.mono k⟩
def FoR (ok : Nat → Prop) (w : World) (v : Value) (f : FoI) : Prop := ∃ A n c, v = .agg #[.slice A n c, .int .i64 f.1] ∧ Sl NdE ok w A n c f.2
section
variable {ok ok' : Nat → Prop} {w w' : World} {v : Value} {f : FoI}
theorem FoR.via (h : FoR ok w v f) (hb : Below w.heap.size w w') : FoR ok w' v f := by
  obtain ⟨A, n, c, h1, h2⟩ := h; exact ⟨A, n, c, h1, h2.via hb⟩
theorem FoR.mono (h : FoR ok w v f) (hm : ∀ b, b < w.heap.size → ok b → ok' b) : FoR ok' w v f := by
  obtain ⟨A, n, c, h1, h2⟩ := h; exact ⟨A, n, c, h1, h2.mono hm⟩
theorem FoR.nil (ok : Nat → Prop) (w : World) (r : Int) : FoR ok w (.agg #[.slice none 0 0, .int .i64 r]) (r, []) := ⟨none, 0, 0, rfl, Sl.nil 0⟩
end
theorem fp_info : (Tryz.prog.info? 91).map (fun i => (i.zero, i.size, i.bytes)) = some (some (.agg #[.int .i64 0, .slice none 0 0]), 2, 32) := by kernel_rfl
theorem wpList_append_fp {ops : Array Oper} {rest : List Oper} {o : Oper} {a : Act} {Q : Exit → Act → World → Prop} (w : World) (hgd : o.guard = none) (s y : Operand)
    (ho : o.op = .call { callee := .builtin .append, args := #[s, y], argTypes := #[87, 87] })
    (ok : Nat → Prop) (base : Nat) (v : Value) (n : Nat) (l : List PkI) (hv : a.eval s = v) (hown : Own FpE 91 ok w base v n l)
    (b : Nat) (r : (Int × SlV)) (x : PkI) (hy : a.eval y = .slice (some ⟨b, 0, none⟩) 1 1) (hcell : Blk w b 91 (FpE.cells r).toArray) (hrel : FpE.rel (fun b => ok b ∧ some b ≠ v.ownBlock) w r x)
    (h63 : n + 1 ≤ 1000000) (hbase : base ≤ w.heap.size)
    (h : ∀ A' c' w', Own FpE 91 ok w' base (.slice A' (n + 1) c') (n + 1) (l ++ [x]) → w.grownBy w' v.ownBlock → ((Value.slice A' (n + 1) c').ownBlock = v.ownBlock ∨ (Value.slice A' (n + 1) c').ownBlock = some w.heap.size) → wpList Tryz.prog ops Q rest (a.put o.dst (.slice A' (n + 1) c')) w') : wpList Tryz.prog ops Q (o :: rest) a w := by
  obtain ⟨i, hi, hz⟩ := Option.map_eq_some_iff.1 fp_info
  simp only [Prod.mk.injEq] at hz
  refine wpList_append_E (E := FpE) w hgd s y 87 91 ho i (.agg #[.int .i64 0, .slice none 0 0]) 32 (by kernel_rfl) hi hz.1 hz.2.1 hz.2.2 rfl ok base v n l hv hown b r x hy (fun j u hu => ?_) hrel (by simp [maxLen]; omega) (by omega) hbase h
  rw [hcell.cell j, List.getElem?_toArray]; exact hu
theorem nd_info : (Tryz.prog.info? 89).map (fun i => (i.zero, i.size, i.bytes)) = some (some (.agg #[.bool false, .int .i64 0, .int .i64 0, .int .i64 0, .slice none 0 0]), 5, 56) := by kernel_rfl
theorem wpList_append_nd {ops : Array Oper} {rest : List Oper} {o : Oper} {a : Act} {Q : Exit → Act → World → Prop} (w : World) (hgd : o.guard = none) (s y : Operand)
    (ho : o.op = .call { callee := .builtin .append, args := #[s, y], argTypes := #[32, 32] })
    (ok : Nat → Prop) (base : Nat) (v : Value) (n : Nat) (l : List NdI) (hv : a.eval s = v) (hown : Own NdE 89 ok w base v n l)
    (b : Nat) (r : (KyI × SlV)) (x : NdI) (hy : a.eval y = .slice (some ⟨b, 0, none⟩) 1 1) (hcell : Blk w b 89 (NdE.cells r).toArray) (hrel : NdE.rel (fun b => ok b ∧ some b ≠ v.ownBlock) w r x)
    (h63 : n + 1 ≤ 1000000) (hbase : base ≤ w.heap.size)
    (h : ∀ A' c' w', Own NdE 89 ok w' base (.slice A' (n + 1) c') (n + 1) (l ++ [x]) → w.grownBy w' v.ownBlock → ((Value.slice A' (n + 1) c').ownBlock = v.ownBlock ∨ (Value.slice A' (n + 1) c').ownBlock = some w.heap.size) → wpList Tryz.prog ops Q rest (a.put o.dst (.slice A' (n + 1) c')) w') : wpList Tryz.prog ops Q (o :: rest) a w := by
  obtain ⟨i, hi, hz⟩ := Option.map_eq_some_iff.1 nd_info
  simp only [Prod.mk.injEq] at hz
  refine wpList_append_E (E := NdE) w hgd s y 32 89 ho i (.agg #[.bool false, .int .i64 0, .int .i64 0, .int .i64 0, .slice none 0 0]) 56 (by kernel_rfl) hi hz.1 hz.2.1 hz.2.2 rfl ok base v n l hv hown b r x hy (fun j u hu => ?_) hrel (by simp [maxLen]; omega) (by omega) hbase h
  rw [hcell.cell j, List.getElem?_toArray]; exact hu
/-! ### the forest that both compute -/
def ndI (x : Nd) : NdI := ((x.1.1.1, (x.1.1.2 : Int), (x.1.2.1 : Int), (x.1.2.2 : Int)), x.2.map fun p => ((p.1 : Int), intsN p.2))
def foI (D : Ky → Bool) (R : List Ru) (L : List Ky) (root : Ky) : FoI := ((idxK L root : Int), L.map fun k => ndI (ndF D R L k))
/-- what a forest over the parts D is, of at most most packs -/
inductive IsFo (D : Ky → Bool) (R : List Ru) (root : Ky) (most : Nat) : FoI → Bool → Prop
  | none : D root = false → IsFo D R root most (-1, []) true
  | large : D root = true → (∀ L, IsNds D R root L → most < totP D R L) → IsFo D R root most (0, []) false
  | fits {L : List Ky} : D root = true → IsNds D R root L → totP D R L ≤ most → IsFo D R root most (foI D R L root) true
theorem IsFo.uniq {D : Ky → Bool} {R : List Ru} {root : Ky} {most : Nat} {f f' : FoI} {b b' : Bool} (h : IsFo D R root most f b) (h' : IsFo D R root most f' b') : f = f' ∧ b = b' := by
  cases h with
  | none h1 => cases h' with
    | none => exact ⟨rfl, rfl⟩
    | large k1 => rw [h1] at k1; cases k1
    | fits k1 => rw [h1] at k1; cases k1
  | large h1 h2 => cases h' with
    | none k1 => rw [h1] at k1; cases k1
    | large => exact ⟨rfl, rfl⟩
    | fits k1 k2 k3 => have := h2 _ k2; omega
  | fits h1 h2 h3 => cases h' with
    | none k1 => rw [h1] at k1; cases k1
    | large k1 k2 => have := k2 _ h2; omega
    | fits k1 k2 k3 => rw [h2.uniq k2]; exact ⟨rfl, rfl⟩
end Go.Proofs.YtbfcnfgkccgbiaaGreatDoor





namespace Go.Proofs.YtbfcnfgkccgbiaaGreatDoor
open Go.RowKit
open Go.Sort (grow alloc_eq_grow grow_grow putRowK putRow mapBlock putCells flatK HoldsK Holds onCells size_flatK get_flatK SWO PermIn SortedIn)
open Go.Proofs (sortWorldK CmpLays ltOf)

section
variable {α : Type} [Inhabited α] {enc : α → List Value} {k : Nat} {w : World} {blk off m : Nat} {dk : Array α} {os : Array Obj}
theorem sw_size : w.heap.size ≤ (sortWorldK enc k w blk off m dk os).heap.size := by
  simp only [sortWorldK, grow, putRowK, putRow, mapBlock, Array.size_append, Array.size_modify]
  exact Nat.le_add_right _ _
theorem sw_get {b : Nat} (hb : b < w.heap.size) : (sortWorldK enc k w blk off m dk os).heap[b]? = if blk = b then (w.heap[b]?).map (onCells (putCells id off (flatK enc k dk))) else w.heap[b]? := by
  simp only [sortWorldK, grow, putRowK, putRow, mapBlock]
  rw [Array.getElem?_append_left (by simpa using hb), Array.getElem?_modify]
  rfl
theorem sw_other {b : Nat} (hb : b < w.heap.size) (hne : b ≠ blk) : (sortWorldK enc k w blk off m dk os).heap[b]? = w.heap[b]? := by
  rw [sw_get hb, if_neg (Ne.symm hne)]
theorem sw_row {cur : Array Value} {t : TypeId} {fr : Nat × Nat} (h : w.heap[blk]? = some (.cells cur t fr)) : (sortWorldK enc k w blk off m dk os).heap[blk]? = some (.cells (putCells id off (flatK enc k dk) cur) t fr) := by
  have hb : blk < w.heap.size := (Array.getElem?_eq_some_iff.1 h).1
  rw [sw_get hb, if_pos rfl, h]; rfl
theorem sw_below {base : Nat} (hb : base ≤ blk) : base ≤ w.heap.size → Below base w (sortWorldK enc k w blk off m dk os) := fun hs =>
  ⟨rfl, rfl, rfl, sw_size, fun b hlt => sw_other (by omega) (by omega)⟩
end
/-- a row of elements, flat, cell by cell -/
theorem flat_get {α ρ : Type} (E : Elem α ρ) : ∀ (raw : List ρ) (i j : Nat) (r : ρ), raw[i]? = some r → j < E.k → (flat E raw)[i * E.k + j]? = (E.cells r)[j]?
  | [], i, j, r, h, _ => by simp at h
  | a :: raw, 0, j, r, h, hj => by
    simp at h; subst h
    simp only [flat, List.flatMap_cons, Nat.zero_mul, Nat.zero_add]
    rw [List.getElem?_append_left (by rw [E.len]; exact hj)]
  | a :: raw, i + 1, j, r, h, hj => by
    simp at h
    have ih := flat_get E raw i j r h hj
    simp only [flat, List.flatMap_cons]
    rw [List.getElem?_append_right (by rw [E.len, Nat.add_mul]; omega), E.len, show (i + 1) * E.k + j - E.k = i * E.k + j by rw [Nat.add_mul]; omega]
    exact ih
theorem putCells_take (F cur : Array Value) (h : F.size ≤ cur.size) : (putCells id 0 F cur).size = cur.size ∧ (putCells id 0 F cur).toList.take F.size = F.toList := by
  have hs : (putCells id 0 F cur).size = cur.size := by simp [putCells]
  refine ⟨hs, ?_⟩
  apply List.ext_getElem?
  intro t
  rw [List.getElem?_take]
  split
  · rename_i ht
    rw [Array.getElem?_toList, Array.getElem?_toList, Array.getElem?_eq_getElem (by omega), Array.getElem?_eq_getElem ht]
    simp only [putCells, Array.getElem_mapIdx, Nat.zero_le, true_and, Nat.zero_add, Nat.sub_zero, id]
    rw [if_pos ht, getElem!_pos F t ht]
  · rename_i ht
    rw [Array.getElem?_toList, Array.getElem?_eq_none (by omega)]
section
variable {α ρ : Type} (E : Elem α ρ)
/-- an element that can be read in w elsewhere than in block g -/
abbrev EltX (ok : Nat → Prop) (ph : α → Prop) (w : World) (g : Nat) := {p : ρ × α // E.rel (fun b => ok b ∧ some b ≠ some g) w p.1 p.2 ∧ ph p.2}
def encX {ok : Nat → Prop} {ph : α → Prop} {w : World} {g : Nat} (p : EltX E ok ph w g) : List Value := E.cells p.1.1
/-- what a comparer is asked -/
def CmpX (fid : Nat) (cb : Array Value) (cf : α → α → Int) (ok : Nat → Prop) (ph : α → Prop) (w : World) (g : Nat) : Prop :=
  ∀ (W : World), Agr (fun b => b ≠ g) w W → w.heap.size ≤ W.heap.size → ∀ p q : EltX E ok ph w g, Calls Tryz.prog fid (#[.agg (E.cells p.1.1).toArray, .agg (E.cells q.1.1).toArray] ++ cb) W fun e w' => e = .returned (.int .i64 (cf p.1.2 q.1.2)) ∧ ∃ n os, w' = grow (W.drewN n) os
def SortPX (e : TypeId) (ok : Nat → Prop) (base n : Nat) (A : Option Addr) (c : Nat) (l : List α) (cf : α → α → Int) (w : World) (en : Ending) (w' : World) : Prop :=
  en = .returned (.tuple #[]) ∧ ∃ l' : List α, l'.Perm l ∧ l'.Pairwise (fun x y => cf x y ≤ 0) ∧ Own E e ok w' base (.slice A n c) n l' ∧ Below base w w' ∧ Agr (fun b => some b ≠ (Value.slice A n c).ownBlock) w w' ∧ w.heap.size ≤ w'.heap.size
theorem flatX_raw {ok : Nat → Prop} {ph : α → Prop} {w : World} {g : Nat} [Inhabited (EltX E ok ph w g)] (d : Array (EltX E ok ph w g)) : (flatK (encX E) E.k d).toList = flat E (d.toList.map fun p => p.1.1) := by
  apply List.ext_getElem?
  intro t
  have hl : (flat E (d.toList.map fun p : EltX E ok ph w g => p.1.1)).length = d.size * E.k := by rw [flat_len]; simp
  have hp := E.pos
  rcases Nat.lt_or_ge t (d.size * E.k) with ht | ht
  · have hi : t / E.k < d.size := (Nat.div_lt_iff_lt_mul hp).2 ht
    have e1 : (d.toList.map fun p : EltX E ok ph w g => p.1.1)[t / E.k]? = some (d[t / E.k]!).1.1 := by
      rw [List.getElem?_map, Array.getElem?_toList, getElem!_pos d (t / E.k) hi, Array.getElem?_eq_getElem hi]; rfl
    have e2 := flat_get E _ (t / E.k) (t % E.k) _ e1 (Nat.mod_lt _ hp)
    have e3 : t / E.k * E.k + t % E.k = t := Nat.div_add_mod' t E.k
    rw [e3] at e2
    rw [e2, Array.getElem?_toList, Array.getElem?_eq_getElem (by simpa using ht)]
    have e4 := get_flatK (encX E (ok := ok) (ph := ph) (w := w) (g := g)) E.k d t ht
    rw [getElem!_pos _ t (by simpa using ht)] at e4
    rw [e4]
    have hm : t % E.k < (encX E d[t / E.k]!).length := by rw [encX, E.len]; exact Nat.mod_lt _ hp
    rw [getElem!_pos (encX E (ok := ok) (ph := ph) (w := w) (g := g) d[t / E.k]!) (t % E.k) hm]
    exact (List.getElem?_eq_getElem hm).symm
  · rw [Array.getElem?_toList, Array.getElem?_eq_none (by simpa using ht), List.getElem?_eq_none (by rw [hl]; exact ht)]
theorem sw_agr {ok : Nat → Prop} {ph : α → Prop} {w : World} {g : Nat} [Inhabited (EltX E ok ph w g)] {n : Nat} {dk : Array (EltX E ok ph w g)} {os : Array Obj} : Agr (fun b => b ≠ g) w (sortWorldK (encX E) E.k w g 0 n dk os) := fun _ hb hl => sw_other hl hb
theorem sort_x {σ : Go.Shelf.Ren} (L : SlLaysF0.n6 Tryz.prog σ) (aE : ∀ w, (isAgg (σ.t 24)).run Tryz.prog w = .ok true w) (zE : ∀ w, (Go.sizeOf (σ.t 24)).run Tryz.prog w = .ok E.k w) (fid : Nat) (cb : Array Value) (eg : ∀ args w, (callFunc fid args).run Tryz.prog w = .ok (.enter fid args) w)
    (cf : α → α → Int) (hO : ∀ p : α → Prop, SWO (ltOf fun x y : {x : α // p x} => cf x.1 y.1)) (hA : ∀ x y, 0 < cf x y → cf y x < 0) (e : TypeId) (ok : Nat → Prop) (ph : α → Prop) (w : World) (base n : Nat) (A : Option Addr) (c : Nat) (l : List α) (hn : n ≤ 1000000) (hph : ∀ x ∈ l, ph x) (hown : Own E e ok w base (.slice A n c) n l)
    (hcmp : ∀ g, (Value.slice A n c).ownBlock = some g → CmpX E fid cb cf ok ph w g) :
    Calls Tryz.prog (σ.f 6) #[.slice A n c, .func (.func fid) #[] cb] w (SortPX E e ok base n A c l cf w) := by
  rcases Nat.eq_zero_or_pos n with h0 | h0
  · subst h0
    obtain rfl : l = [] := List.eq_nil_of_length_eq_zero hown.len
    refine (AnyF.slices_SortFunc_none L A c (.func (.func fid) #[] cb) w).mono ?_
    rintro en w' ⟨rfl, rfl⟩
    exact ⟨rfl, [], List.Perm.refl _, List.Pairwise.nil, hown, Below.refl _ _, Agr.refl, Nat.le_refl _⟩
  obtain ⟨hl, raw, hr, ⟨hrl, hrow⟩, hrel⟩ := hown
  rcases hrow with ⟨-, e1⟩ | ⟨g, cap, cur, e1, hg, hb, hnc, hcm, hcs, htk⟩
  · omega
  simp only [Value.slice.injEq] at e1
  obtain ⟨rfl, -, rfl⟩ := e1
  have hob : (Value.slice (some ⟨g, 0, none⟩) n c).ownBlock = some g := rfl
  rw [hob] at hrel
  have hgl : g < w.heap.size := (Array.getElem?_eq_some_iff.1 hb).1
  have hall : ∀ p ∈ raw.zip l, E.rel (fun b => ok b ∧ some b ≠ some g) w p.1 p.2 ∧ ph p.2 := by
    intro p hp
    obtain ⟨i, hi⟩ := List.mem_iff_getElem?.1 hp
    rw [List.getElem?_zip_eq_some] at hi
    exact ⟨hrel i _ _ hi.1 hi.2, hph _ (List.mem_of_getElem? hi.2)⟩
  obtain ⟨d, hd⟩ : ∃ d : Array (EltX E ok ph w g), d = ((raw.zip l).pmap (fun p h => (⟨p, h⟩ : EltX E ok ph w g)) hall).toArray := ⟨_, rfl⟩
  have hdp : d.toList.map Subtype.val = raw.zip l := by
    rw [hd, List.map_pmap]
    simp
  have hdm : (d.toList.map fun p => p.1.1) = raw := by
    have : (d.toList.map fun p : EltX E ok ph w g => p.1.1) = (d.toList.map Subtype.val).map Prod.fst := by simp
    rw [this, hdp, List.map_fst_zip (by omega)]
  have hdl : (d.toList.map fun p => p.1.2) = l := by
    have : (d.toList.map fun p : EltX E ok ph w g => p.1.2) = (d.toList.map Subtype.val).map Prod.snd := by simp
    rw [this, hdp, List.map_snd_zip (by omega)]
  have hds : d.size = n := by rw [← hr, ← hdm]; simp
  haveI : Inhabited (EltX E ok ph w g) := ⟨d[0]'(by omega)⟩
  have hF : (flatK (encX E) E.k d).toList = flat E raw := by rw [flatX_raw, hdm]
  have hB : Blk w g e cur := hb
  have hfs : (flatK (encX E) E.k d).size = n * E.k := by rw [size_flatK, hds]
  have hH : HoldsK (encX E) E.k w g 0 d := by
    intro j hj
    have hj' : j < n * E.k := by omega
    refine ⟨?_, hB.frozen _⟩
    rw [hB.cell, Nat.zero_add]
    have e1 : cur[j]? = (flatK (encX E) E.k d)[j]? := by
      rw [← Array.getElem?_toList, ← Array.getElem?_toList, hF, ← htk, List.getElem?_take, if_pos hj']
    rw [e1, Array.getElem?_eq_getElem hj, getElem!_pos _ j hj]; rfl
  have hC := hcmp g rfl
  have hlay : CmpLays Tryz.prog fid cb (encX E (ok := ok) (ph := ph) (w := w) (g := g)) E.k (fun x y => cf x.1.2 y.1.2) g 0 d.size w := by
    intro m os dk hs x y
    exact hC _ (sw_agr E) sw_size x y
  have hsw : SWO (ltOf fun x y : EltX E ok ph w g => cf x.1.2 y.1.2) := by
    have hq := hO ph
    refine ⟨fun x => hq.irrefl ⟨x.1.2, x.2.2⟩, fun x y z h1 h2 => hq.trans ⟨x.1.2, x.2.2⟩ ⟨y.1.2, y.2.2⟩ ⟨z.1.2, z.2.2⟩ h1 h2, fun x y z h1 h2 => hq.ntrans ⟨x.1.2, x.2.2⟩ ⟨y.1.2, y.2.2⟩ ⟨z.1.2, z.2.2⟩ h1 h2⟩
  have hcon := AnyQ.slices_SortFunc L E.k aE zE (encX E (ok := ok) (ph := ph) (w := w) (g := g)) (fun x => E.len _) (fun x v hv => E.one _ v hv) (fun x y => cf x.1.2 y.1.2) hsw fid cb g 0 c d w eg hlay hH hgl (by omega)
  rw [hds] at hcon
  refine hcon.mono ?_
  rintro en w' ⟨rfl, d', n', os, ⟨hp1, -, hp2⟩, hso, rfl⟩
  have hds' : d'.size = n := by omega
  have hperm : d'.toList.Perm d.toList := by
    have x1 : d'.extract 0 n = d' := by rw [← hds']; simp
    have x2 : d.extract 0 n = d := by rw [← hds]; simp
    rw [x1, x2] at hp2; exact hp2
  obtain ⟨p1, p2⟩ := putCells_take (flatK (encX E) E.k d') cur (by rw [size_flatK, hds', hcs]; exact Nat.mul_le_mul_right _ hnc)
  refine ⟨rfl, d'.toList.map fun p => p.1.2, ?_, ?_, ⟨by simp [hds'], d'.toList.map fun p => p.1.1, by simp [hds'], ⟨?_, Or.inr ⟨g, c, _, rfl, hg, sw_row hb, hnc, hcm, by rw [p1]; exact hcs, ?_⟩⟩, ?_⟩, ?_, ?_, sw_size⟩
  · rw [← hdl]; exact hperm.map _
  · rw [List.pairwise_map, List.pairwise_iff_getElem]
    intro i j hi hj hij
    have h := hso i j (Nat.zero_le _) hij (by simpa [hds'] using hj)
    simp only [ltOf, decide_eq_false_iff_not] at h
    rw [getElem!_pos d' i (by simpa using hi), getElem!_pos d' j (by simpa using hj)] at h
    simp only [Array.getElem_toList]
    apply Classical.byContradiction
    intro hgt
    exact h (hA _ _ (by omega))
  · rw [flat_len]; simp [hds']
  · have q1 : (flatK (encX E) E.k d').size = n * E.k := by rw [size_flatK, hds']
    rw [← q1, p2, flatX_raw]
  · intro i r x hr' hx
    rw [List.getElem?_map] at hr' hx
    obtain ⟨y, hy, rfl⟩ := Option.map_eq_some_iff.1 hr'
    rw [hy] at hx
    simp only [Option.map_some, Option.some.injEq] at hx
    subst hx
    exact E.agr y.2.1 ((sw_agr E).mono fun b hb => by intro e; exact hb.2 (by rw [e]; rfl))
  · exact sw_below hg (by omega)
  · exact (sw_agr E).mono fun b hb e => hb (by rw [e]; rfl)
end
end Go.Proofs.YtbfcnfgkccgbiaaGreatDoor




namespace Go.Proofs.YtbfcnfgkccgbiaaGreatDoor
open Go.RowKit

set_option maxRecDepth 100000 in
theorem enters_pk : ∀ (args : Array Value) (w : World), (callFunc 150 args).run Tryz.prog w = .ok (.enter 150 args) w :=
  enters_c (c := _) (fn := Tryz.f150) rfl (by kernel_rfl) rfl
theorem Own.lower {α ρ : Type} {E : Elem α ρ} {e : TypeId} {ok : Nat → Prop} {w : World} {B B' n : Nat} {v : Value} {l : List α} (h : Own E e ok w B v n l) (hb : B' ≤ B) : Own E e ok w B' v n l := by
  obtain ⟨h1, raw, h3, h4, h5⟩ := h
  refine ⟨h1, raw, h3, ⟨h4.1, ?_⟩, h5⟩
  rcases h4.2 with h0 | ⟨g, cap, cur, hv, hg, hr⟩
  · exact Or.inl h0
  · exact Or.inr ⟨g, cap, cur, hv, Nat.le_trans hb hg, hr⟩
/-- between the rounds of core.Packs -/
structure PkB (W0 w : World) (bk bo bw be : Nat) (k : Ky) (A : Option Addr) (n c ob oo N oc : Nat) (base : Nat) (v : Value) (out : List (Nat × List Ky)) : Prop where
  bel : Below W0.heap.size W0 w
  kb : Blk w bk 180 (kyC k)
  wb : Blk w bw 25 #[.slice A n c]
  eb : Blk w be 56 #[.slice (some ⟨ob, oo, none⟩) N oc]
  outb : Blk w bo 184 #[v]
  own : Own PkE 187 (fun b => base ≤ b) w base v out.length out
  ne : bk ≠ bo ∧ bw ≠ bo ∧ be ≠ bo
  lt : bo < base
  nr : some bk ≠ v.ownBlock ∧ some bw ≠ v.ownBlock ∧ some be ≠ v.ownBlock ∧ some bo ≠ v.ownBlock
  ge : W0.heap.size ≤ bo ∧ W0.heap.size ≤ base ∧ base ≤ w.heap.size
section
variable {W0 w w' : World} {fid bk bo bi bw be bf : Nat} {k : Ky} {rn : Nat} {A : Option Addr} {n c ob oo N oc base : Nat} {v v' : Value} {out : List (Nat × List Ky)}
theorem PkB.via (h : PkB W0 w bk bo bw be k A n c ob oo N oc base v out) (hb : Below w.heap.size w w') : PkB W0 w' bk bo bw be k A n c ob oo N oc base v out :=
  ⟨h.bel.via hb, h.kb.via hb, h.wb.via hb, h.eb.via hb, h.outb.via hb, h.own.via hb, h.ne, h.lt, h.nr, h.ge.1, h.ge.2.1, Nat.le_trans h.ge.2.2 hb.size⟩
theorem PkB.toM (h : PkB W0 w bk bo bw be k A n c ob oo N oc base v out) (hi : Blk w bi 3 #[.int .i64 (rn : Int)]) (hf : Blk w bf 209 #[.func (.func fid) #[] #[.pointer (some ⟨bk, 0, none⟩), .pointer (some ⟨bo, 0, none⟩), .pointer (some ⟨bi, 0, none⟩), .pointer (some ⟨bw, 0, none⟩), .pointer (some ⟨be, 0, none⟩), .pointer (some ⟨bf, 0, none⟩)]])
    (n1 : bi ≠ bo) (n2 : bf ≠ bo) (n3 : some bi ≠ v.ownBlock) (n4 : some bf ≠ v.ownBlock) : PkM W0 w fid bk bo bi bw be bf k rn A n c ob oo N oc base v out :=
  ⟨h.bel, h.kb, hi, h.wb, h.eb, hf, h.outb, h.own, ⟨h.ne.1, n1, h.ne.2.1, h.ne.2.2, n2⟩, h.lt, ⟨h.nr.1, n3, h.nr.2.1, h.nr.2.2.1, n4, h.nr.2.2.2⟩, h.ge⟩
theorem PkM.toB (h : PkM W0 w fid bk bo bi bw be bf k rn A n c ob oo N oc base v out) : PkB W0 w bk bo bw be k A n c ob oo N oc base v out :=
  ⟨h.bel, h.kb, h.wb, h.eb, h.outb, h.own, ⟨h.ne.1, h.ne.2.2.1, h.ne.2.2.2.1⟩, h.lt, ⟨h.nr.1, h.nr.2.2.1, h.nr.2.2.2.1, h.nr.2.2.2.2.2⟩, h.ge⟩
end
def PacksP (w : World) (ps : List (Nat × List Ky)) (e : Ending) (w' : World) : Prop :=
  ∃ A c, e = .returned (.slice A ps.length c) ∧ Own PkE 187 (fun b => w.heap.size ≤ b) w' w.heap.size (.slice A ps.length c) ps.length ps ∧ Below w.heap.size w w'
set_option maxRecDepth 100000 in
set_option maxHeartbeats 4000000 in
theorem packs_c (ok : Nat → Prop) (g : Gr) (Ag : Option Addr) (ng cg : Nat) (A : Option Addr) (n c ob oo N oc : Nat) (rb ro rc : Nat → Nat) (xs : List Int) (E : EnS) (k : Ky) (w : World) (hg : g.Ok) (hN : g.nons = N) (hl : Sl RuE ok w Ag ng cg g.rules) (hx : Ints w A n c xs) (hE : EnV w ob oo N n rb ro rc E) (hT : TabW w) (hsup : SupE n E) (hn : n ≤ 12) (hk : k.2.1 ≤ n ∧ k.2.2 ≤ n) :
    Calls Tryz.prog 121 #[grVal g Ag ng cg, .slice A n c, .slice (some ⟨ob, oo, none⟩) N oc, kyVal k] w (PacksP w (packsF (dOf xs E) g.rules k)) := by
  subst hN
  obtain ⟨⟨kb, kN⟩, ki, kj⟩ := k
  have hng := hl.len
  have hgc := hg.count
  have hlen : ∀ m, m < ng → (packT (dOf xs E) g.rules ((kb, kN), ki, kj) m).length + 28561 ≤ 1000000 := fun m hm => by
    have := packT_len (D := dOf xs E) (k := ((kb, kN), ki, kj)) m (fun u hu => (hg.right u hu).1) (by simpa using (show kj ≤ 12 by have := hk.2; simp only at this; omega))
    omega
  have HO := Lib.hid (hl.mono (ok' := fun b => b < w.heap.size) fun b hb _ => hb)
  have HX := Lib.hid hx
  have HE := Lib.hid hE
  have HT := Lib.hid hT
  have HS := Lib.hid hsup
  have HLEN := Lib.hid hlen
  have HG := Lib.hid hg
  have HKI := Lib.hid hk
  simp only at hk
  obtain ⟨w1, hw1⟩ : ∃ w1, w1 = w.alloc (.cells #[.int .i64 (g.terms : Int), .int .i64 (g.nons : Int), .int .i64 (g.start : Int), .slice Ag ng cg] 24) := ⟨_, rfl⟩
  have hb5 := (((((Below.refl w.heap.size w).al (.cells #[.int .i64 (g.terms : Int), .int .i64 (g.nons : Int), .int .i64 (g.start : Int), .slice Ag ng cg] 24)).al (.cells #[.slice A n c] 25)).al (.cells #[.slice (some ⟨ob, oo, none⟩) g.nons oc] 56)).al (.cells (kyC ((kb, kN), ki, kj)) 180)).al (.cells #[.slice none 0 0] 184)
  have BW := (((Blk.newAt (w.alloc (.cells #[.int .i64 (g.terms : Int), .int .i64 (g.nons : Int), .int .i64 (g.start : Int), .slice Ag ng cg] 24)) 25 #[.slice A n c] (w.heap.size + 1) (by simp)).al (.cells #[.slice (some ⟨ob, oo, none⟩) g.nons oc] 56)).al (.cells (kyC ((kb, kN), ki, kj)) 180)).al (.cells #[.slice none 0 0] 184)
  have BE := ((Blk.newAt ((w.alloc (.cells #[.int .i64 (g.terms : Int), .int .i64 (g.nons : Int), .int .i64 (g.start : Int), .slice Ag ng cg] 24)).alloc (.cells #[.slice A n c] 25)) 56 #[.slice (some ⟨ob, oo, none⟩) g.nons oc] (w.heap.size + 1 + 1) (by simp)).al (.cells (kyC ((kb, kN), ki, kj)) 180)).al (.cells #[.slice none 0 0] 184)
  have BK := (Blk.newAt (((w.alloc (.cells #[.int .i64 (g.terms : Int), .int .i64 (g.nons : Int), .int .i64 (g.start : Int), .slice Ag ng cg] 24)).alloc (.cells #[.slice A n c] 25)).alloc (.cells #[.slice (some ⟨ob, oo, none⟩) g.nons oc] 56)) 180 (kyC ((kb, kN), ki, kj)) (w.heap.size + 1 + 1 + 1) (by simp)).al (.cells #[.slice none 0 0] 184)
  have BO := Blk.newAt ((((w.alloc (.cells #[.int .i64 (g.terms : Int), .int .i64 (g.nons : Int), .int .i64 (g.start : Int), .slice Ag ng cg] 24)).alloc (.cells #[.slice A n c] 25)).alloc (.cells #[.slice (some ⟨ob, oo, none⟩) g.nons oc] 56)).alloc (.cells (kyC ((kb, kN), ki, kj)) 180)) 184 #[.slice none 0 0] (w.heap.size + 1 + 1 + 1 + 1) (by simp)
  have HM := Lib.hid (show PkB w _ (w.heap.size + 1 + 1 + 1) (w.heap.size + 1 + 1 + 1 + 1) (w.heap.size + 1) (w.heap.size + 1 + 1) ((kb, kN), ki, kj) A n c ob oo g.nons oc (w.heap.size + 5) (.slice none 0 0) (packT (dOf xs E) g.rules ((kb, kN), ki, kj) 0) from
    ⟨hb5, BK, BW, BE, BO, Own.nil _ _, by omega, by omega, by simp [Value.ownBlock], by omega, by omega, by simp⟩)
  simp only [kyC] at HM
  clear hl hx hE hT hsup hb5 BW BE BK BO hw1 hlen hg
  simp only [grVal, kyVal]
  go_enter Tryz.func121, Tryz.ntmps121
  go_wp2_with fail
  have HSZ := Lib.hid (show (((((w.alloc (.cells #[.int .i64 (g.terms : Int), .int .i64 (g.nons : Int), .int .i64 (g.start : Int), .slice Ag ng cg] 24)).alloc (.cells #[.slice A n c] 25)).alloc (.cells #[.slice (some ⟨ob, oo, none⟩) g.nons oc] 56)).alloc (.cells #[.bool kb, .int .i64 (kN : Int), .int .i64 (ki : Int), .int .i64 (kj : Int)] 180)).alloc (.cells #[.slice none 0 0] 184)).heap.size = w.heap.size + 5 by simp)
  generalize (((((w.alloc (.cells #[.int .i64 (g.terms : Int), .int .i64 (g.nons : Int), .int .i64 (g.start : Int), .slice Ag ng cg] 24)).alloc (.cells #[.slice A n c] 25)).alloc (.cells #[.slice (some ⟨ob, oo, none⟩) g.nons oc] 56)).alloc (.cells #[.bool kb, .int .i64 (kN : Int), .int .i64 (ki : Int), .int .i64 (kj : Int)] 180)).alloc (.cells #[.slice none 0 0] 184)) = W at *
  generalize w.heap.size + 1 + 1 + 1 + 1 = bo at *
  generalize w.heap.size + 1 + 1 + 1 = bk at *
  generalize w.heap.size + 1 + 1 = be at *
  generalize w.heap.size + 1 = bw at *
  generalize w.heap.size + 5 = base at *
  go_loopw [16] (fun q wr => ∃ (i : Nat) (v : Value), q = .int .i64 i ∧ i ≤ ng ∧ PkB w wr bk bo bw be ((kb, kN), ki, kj) A n c ob oo g.nons oc base v (packT (dOf xs E) g.rules ((kb, kN), ki, kj) i)) (fun q _ => ng - (intOf q).toNat)
  case atStart => exact ⟨0, _, rfl, Nat.zero_le _, HM.out⟩
  case round =>
    obtain ⟨i, v, rfl, hi, hM⟩ := hrel
    clear HM HSZ
    by_cases him : i < ng
    · obtain ⟨b1, o1, ⟨sl, sA, sn, sc⟩, ⟨sl', rhs⟩, hAg, -, hbb, hy, ⟨hx1, hx2⟩, hcel⟩ := HO.out.at_ him
      simp only at hx1 hx2
      obtain rfl : sl = sl' := hx1
      subst hAg
      have d0 := (hM.bel.cell (p := ⟨b1, o1 + i * RuE.k + 0, none⟩) hbb).trans (hcel 0 _ rfl)
      have d1 := (hM.bel.cell (p := ⟨b1, o1 + i * RuE.k + 1, none⟩) hbb).trans (hcel 1 _ rfl)
      simp only [RuE, Nat.add_zero] at d0 d1
      have i0 : (0 : Int) ≤ (i : Int) := by omega
      have i1 : (i : Int) < (ng : Int) := by omega
      have BK0 := hM.kb
      simp only [kyC] at BK0
      have hbx := ((Below.refl wr.heap.size wr).al (.cells #[.int .i64 (i : Int)] 3)).al (.cells #[.int .i64 (sl : Int), .slice sA sn sc] 97)
      have BK := BK0.via hbx
      have BI := (Blk.new wr 3 #[.int .i64 (i : Int)]).al (.cells #[.int .i64 (sl : Int), .slice sA sn sc] 97)
      have BR := Blk.newAt (wr.alloc (.cells #[.int .i64 (i : Int)] 3)) 97 #[.int .i64 (sl : Int), .slice sA sn sc] (wr.heap.size + 1) (by simp)
      have HM2 := Lib.hid (hM.via hbx)
      have HY := Lib.hid hy
      have HR := Lib.hid hx2
      have HWR := Lib.hid (show bo < wr.heap.size ∧ (∀ b, v.ownBlock = some b → b < wr.heap.size) from ⟨hM.outb.lt, fun b e => (hM.own.lt b e).2⟩)
      have HBK := Lib.hid BK
      have HBI := Lib.hid BI
      have HBR := Lib.hid BR
      have hpn := packT_next (D := dOf xs E) g.rules ((kb, kN), ki, kj) i
      clear hcel hx2 hM BK0 hbx
      by_cases hcond : sl = kN ∧ kb = false
      · obtain ⟨rfl, rfl⟩ := hcond
        have e1 : ((sl : Int) != (sl : Int)) = false := by simp
        have HPN := Lib.hid (show packT (dOf xs E) g.rules ((false, sl), ki, kj) (i + 1) = packT (dOf xs E) g.rules ((false, sl), ki, kj) i ++ (waysF (dOf xs E) rhs ki kj).map fun p => (i, [] ++ p) from by
          rw [hpn, packN, hy]; simp)
        clear hpn hy
        have cBK := BK.cell
        have fBK := BK.frozen
        have lBK := BK.lt
        have cBR := BR.cell
        have fBR := BR.frozen
        have lBR := BR.lt
        have cBI := BI.cell
        have fBI := BI.frozen
        have lBI := BI.lt
        go_upto_region 6 with fail
        clear cBK fBK lBK cBR fBR lBR cBI fBI lBI
        clear BK BR BI d0 d1
        have HS4 := Lib.hid (show ((wr.alloc (.cells #[.int .i64 (i : Int)] 3)).alloc (.cells #[.int .i64 (sl : Int), .slice sA sn sc] 97)).heap.size = wr.heap.size + 2 by simp)
        generalize (wr.alloc (.cells #[.int .i64 (i : Int)] 3)).alloc (.cells #[.int .i64 (sl : Int), .slice sA sn sc] 97) = W4 at *
        have hmf : ∀ (fn : Fn) (first cap : Array Value) (w : World), (Instr.makeFunc fn first cap).run Tryz.prog w = .ok (.func fn first cap) w := fun _ _ _ _ => rfl
        go_upto_region 8 with fail
        clear hmf
        have hax := (Below.refl W4.heap.size W4).al (.cells #[.func (.func 150) #[] #[.pointer (some ⟨bk, 0, none⟩), .pointer (some ⟨bo, 0, none⟩), .pointer (some ⟨wr.heap.size, 0, none⟩), .pointer (some ⟨bw, 0, none⟩), .pointer (some ⟨be, 0, none⟩), .pointer (some ⟨W4.heap.size, 0, none⟩)]] 209)
        have BF := Blk.new W4 209 #[.func (.func 150) #[] #[.pointer (some ⟨bk, 0, none⟩), .pointer (some ⟨bo, 0, none⟩), .pointer (some ⟨wr.heap.size, 0, none⟩), .pointer (some ⟨bw, 0, none⟩), .pointer (some ⟨be, 0, none⟩), .pointer (some ⟨W4.heap.size, 0, none⟩)]]
        have HM5 := Lib.hid (HM2.out.via hax)
        have HBI5 := Lib.hid (HBI.out.via hax)
        have BR := HBR.out.via hax
        have BK := HBK.out.via hax
        have HBF := Lib.hid BF
        have HAX := Lib.hid hax
        clear hax HM2 HBI HBR HBK
        generalize W4.alloc (.cells #[.func (.func 150) #[] #[.pointer (some ⟨bk, 0, none⟩), .pointer (some ⟨bo, 0, none⟩), .pointer (some ⟨wr.heap.size, 0, none⟩), .pointer (some ⟨bw, 0, none⟩), .pointer (some ⟨be, 0, none⟩), .pointer (some ⟨W4.heap.size, 0, none⟩)]] 209) = W5 at *
        generalize hbf : W4.heap.size = bf at *
        have HBFE := Lib.hid hbf
        clear hbf
        have cBF := BF.cell
        have fBF := BF.frozen
        have lBF := BF.lt
        have cBR := BR.cell
        have fBR := BR.frozen
        have lBR := BR.lt
        have cBK := BK.cell
        have fBK := BK.frozen
        have lBK := BK.lt
        iterate 18 go_step
        clear cBF fBF lBF cBR fBR lBR cBK fBK lBK
        have hru := HG.out.right _ (List.mem_of_getElem? HY.out)
        have hM := HM5.out.toM (fid := 150) HBI5.out HBF.out (by have := HWR.out.1; omega) (by have := HWR.out.1; have := HS4.out; omega) (fun e => by have := HWR.out.2 _ e.symm; omega) (fun e => by have := HWR.out.2 _ e.symm; have := HS4.out; omega)
        refine (pk1_n w 150 (Lib.hid rfl) enters_pk bk bo wr.heap.size bw be bf ((false, sl), ki, kj) i A n c ob oo g.nons oc rb ro rc xs E base HX.out HE.out HT.out HS.out hn hk.2 rhs W5 sA sn sc ki none 0 0 [] v _ (fun s hs hf => by have := hru.2 s hs; simpa [Gr.okSy, hf] using this) hk.1 HR.out (Sl.nil 0) ?_ (by have h1 := hru.1; simp only [List.length_nil] at h1 ⊢; omega) hM).mono ?_
        · have h1 := HLEN.out i him
          have h2 := ways_len (D := dOf xs E) (l := rhs) (i := ki) (j := kj) (by omega)
          have h3 : 13 ^ rhs.length ≤ 28561 := Nat.le_trans (Nat.pow_le_pow_right (by omega) hru.1) (by decide)
          simp only
          omega
        rintro e w6 ⟨⟨u, rfl⟩, v6, hM6, -⟩
        have HM6 := Lib.hid hM6.toB
        rw [← HPN.out] at HM6
        clear hM6 hM hru HM5 HBI5 HBF HAX BF BR BK HPN
        go_wp2_with fail
        exact ⟨⟨i + 1, v6, by go_num, by omega, HM6.out⟩, by simp [intOf]; omega⟩
      · have HPN := Lib.hid (show packT (dOf xs E) g.rules ((kb, kN), ki, kj) (i + 1) = packT (dOf xs E) g.rules ((kb, kN), ki, kj) i from by
          rw [hpn, packN, hy]; simp only [hcond, if_false, List.append_nil])
        have hcc : ((sl : Int) != (kN : Int)) = true ∨ (((sl : Int) != (kN : Int)) = false ∧ kb = true) := by
          by_cases e : sl = kN
          · right
            refine ⟨by simp [e], ?_⟩
            cases kb with
            | true => rfl
            | false => exact absurd ⟨e, rfl⟩ hcond
          · left; simp; omega
        clear hpn hy hcond
        rcases hcc with e1 | ⟨e1, rfl⟩
        · have cBK := BK.cell
          have fBK := BK.frozen
          have lBK := BK.lt
          have cBR := BR.cell
          have fBR := BR.frozen
          have lBR := BR.lt
          have cBI := BI.cell
          have fBI := BI.frozen
          have lBI := BI.lt
          go_wp2_with fail
          exact ⟨⟨i + 1, v, by go_num, by omega, by rw [HPN.out]; exact HM2.out⟩, by simp [intOf]; omega⟩
        · have cBK := BK.cell
          have fBK := BK.frozen
          have lBK := BK.lt
          have cBR := BR.cell
          have fBR := BR.frozen
          have lBR := BR.lt
          have cBI := BI.cell
          have fBI := BI.frozen
          have lBI := BI.lt
          go_wp2_with fail
          exact ⟨⟨i + 1, v, by go_num, by omega, by rw [HPN.out]; exact HM2.out⟩, by simp [intOf]; omega⟩
    · obtain rfl : i = ng := by omega
      have HMF := Lib.hid hM
      have BO := hM.outb
      clear hM
      have cBO := BO.cell
      have fBO := BO.frozen
      have lBO := BO.lt
      go_wp2_with fail
      go_ret
      have hw := HMF.out.own
      obtain ⟨A', c', rfl, hc'⟩ := hw.form
      have he : packsF (dOf xs E) g.rules ((kb, kN), ki, kj) = packT (dOf xs E) g.rules ((kb, kN), ki, kj) i := by unfold packsF; rw [hng]
      rw [PacksP, he]
      have hge := HMF.out.ge
      exact ⟨A', c', rfl, (hw.mono (ok' := fun b => w.heap.size ≤ b) fun b _ hb => by omega).lower (by omega), HMF.out.bel⟩
end Go.Proofs.YtbfcnfgkccgbiaaGreatDoor






namespace Go.Proofs.YtbfcnfgkccgbiaaGreatDoor
open Go.RowKit
open Go.Sort (grow alloc_eq_grow grow_grow grow_empty SWO)
open Go.Proofs (ltOf)

/-! ### worlds that have only grown -/
def Grw (w w' : World) : Prop := ∃ n os, w' = grow (w.drewN n) os
section
variable {w w' w'' : World}
theorem Grw.refl (w : World) : Grw w w := ⟨0, #[], by rw [grow_empty]; rfl⟩
theorem Grw.dr (h : Grw w w') : Grw w w'.drew := by
  obtain ⟨n, os, rfl⟩ := h
  exact ⟨n + 1, os, rfl⟩
theorem Grw.al (h : Grw w w') (o : Obj) : Grw w (w'.alloc o) := by
  obtain ⟨n, os, rfl⟩ := h
  exact ⟨n, os ++ #[o], by rw [alloc_eq_grow, grow_grow]⟩
theorem Grw.trans (h : Grw w w') (k : Grw w' w'') : Grw w w'' := by
  obtain ⟨n, os, rfl⟩ := h
  obtain ⟨m, os', rfl⟩ := k
  refine ⟨n + m, os ++ os', ?_⟩
  have e1 : (grow (w.drewN n) os).drewN m = grow (w.drewN (n + m)) os := by
    unfold World.drewN grow
    simp only [Nat.add_assoc]
  rw [e1, grow_grow]
theorem Grw.below (h : Grw w w') : Below w.heap.size w w' := by
  obtain ⟨n, os, rfl⟩ := h
  refine ⟨rfl, rfl, rfl, by simp [grow, World.drewN], fun b hb => ?_⟩
  exact Go.Sort.heap_grow_old (w.drewN n) os hb
end
theorem Ints.threeB (w : World) (x y z : Int) (t : TypeId) : Ints (w.alloc (.cells #[.int .i64 x, .int .i64 y, .int .i64 z] t)) (some ⟨w.heap.size, 0, none⟩) 3 3 [x, y, z] :=
  ⟨rfl, Nat.le_refl _, fun _ => ⟨w.heap.size, 0, rfl, fun i hi => by
    rw [Nat.zero_add]
    match i, hi with
    | 0, _ => rw [World.cell?_alloc_new]; rfl
    | 1, _ => rw [World.cell?_alloc_new]; rfl
    | 2, _ => rw [World.cell?_alloc_new]; rfl⟩⟩
/-! ### orders by lists of numbers -/
theorem cmpL_ltt {xs ys zs : List Int} (h1 : cmpL xs ys < 0) (h2 : cmpL ys zs < 0) : cmpL xs zs < 0 := by
  have h3 := cmpL_trans (xs := xs) (ys := ys) (zs := zs) (by omega) (by omega)
  by_cases h4 : cmpL xs zs = 0
  · have := cmpL_zero.1 h4; subst this
    have := cmpL_anti xs ys; omega
  · omega
theorem swoKey {α : Type} (key : α → List Int) (cf : α → α → Int) (hc : ∀ x y, cf x y = cmpL (key x) (key y)) (p : α → Prop) : SWO (ltOf fun x y : {x : α // p x} => cf x.1 y.1) where
  irrefl x := by
    simp only [ltOf, hc, cmpL_self]; rfl
  trans x y z h1 h2 := by
    simp only [ltOf, hc, decide_eq_true_eq] at *
    exact cmpL_ltt h1 h2
  ntrans x y z h1 h2 := by
    simp only [ltOf, hc, decide_eq_false_iff_not] at *
    have a1 := cmpL_anti (key y.1) (key x.1)
    have a2 := cmpL_anti (key z.1) (key y.1)
    have a3 := cmpL_trans (xs := key z.1) (ys := key y.1) (zs := key x.1) (by omega) (by omega)
    have a4 := cmpL_anti (key z.1) (key x.1)
    omega
theorem antiKey {α : Type} (key : α → List Int) (cf : α → α → Int) (hc : ∀ x y, cf x y = cmpL (key x) (key y)) (x y : α) (h : 0 < cf x y) : cf y x < 0 := by
  rw [hc] at h ⊢
  have := cmpL_anti (key x) (key y); omega
/-! ### gram.Order, core.order -/
def ordI (a b : Bool × Int) : Int := if a.1 = b.1 then cmpI a.2 b.2 else if a.1 then -1 else 1
def GrwI (w : World) (x : Int) (e : Ending) (w' : World) : Prop := e = .returned (.int .i64 x) ∧ Grw w w'
set_option maxHeartbeats 1000000 in
theorem gord2_c (a b : Bool) (x y : Int) (w : World) : Calls Tryz.prog 153 #[.agg #[.bool a, .int .i64 x], .agg #[.bool b, .int .i64 y]] w (GrwI w (ordI (a, x) (b, y))) := by
  have B0 := (Blk.new w 66 #[.bool a, .int .i64 x]).al (.cells #[.bool b, .int .i64 y] 66)
  have B1 := Blk.newAt (w.alloc (.cells #[.bool a, .int .i64 x] 66)) 66 #[.bool b, .int .i64 y] (w.heap.size + 1) (by simp)
  have HG := Lib.hid (((Grw.refl w).al (.cells #[.bool a, .int .i64 x] 66)).al (.cells #[.bool b, .int .i64 y] 66))
  go_enter Tryz.func153, Tryz.ntmps153
  have cB0 := B0.cell
  have fB0 := B0.frozen
  have lB0 := B0.lt
  have cB1 := B1.cell
  have fB1 := B1.frozen
  have lB1 := B1.lt
  by_cases hab : a = b
  · subst hab
    have e1 : (a != a) = false := by simp
    go_wp2_with (go_at_call 31; refine (cmp_c _ _ _).mono ?_; rintro e w' ⟨rfl, rfl⟩)
    go_ret
    exact ⟨by simp [ordI], HG.out⟩
  · have e1 : (a != b) = true := by simpa using hab
    cases a with
    | true =>
      cases b with
      | true => exact absurd rfl hab
      | false =>
        go_wp2_with fail
        go_ret
        exact ⟨rfl, HG.out⟩
    | false =>
      cases b with
      | false => exact absurd rfl hab
      | true =>
        go_wp2_with fail
        go_ret
        exact ⟨rfl, HG.out⟩
def kyCmp (a b : Ky) : Int := orL [cmpI (a.2.1 : Int) (b.2.1 : Int), cmpI (a.2.2 : Int) (b.2.2 : Int), ordI (a.1.1, (a.1.2 : Int)) (b.1.1, (b.1.2 : Int))]
def kyKey (a : Ky) : List Int := [(a.2.1 : Int), (a.2.2 : Int), if a.1.1 then 0 else 1, (a.1.2 : Int)]
theorem kyCmp_key (a b : Ky) : kyCmp a b = cmpL (kyKey a) (kyKey b) := by
  obtain ⟨⟨ab, an⟩, ai, aj⟩ := a
  obtain ⟨⟨bb, bn⟩, bi, bj⟩ := b
  simp only [kyCmp, kyKey, orL, cmpL, ordI]
  cases ab <;> cases bb <;> simp [cmpI]
  all_goals (repeat' split) <;> omega
theorem kyCmp_le {a b : Ky} (ha : a.Ok) (hb : b.Ok) (h : kyCmp a b ≤ 0) : kyN a ≤ kyN b := by
  obtain ⟨⟨ab, an⟩, ai, aj⟩ := a
  obtain ⟨⟨bb, bn⟩, bi, bj⟩ := b
  obtain ⟨h1, h2, h3⟩ := ha
  obtain ⟨k1, k2, k3⟩ := hb
  simp only at h1 h2 h3 k1 k2 k3
  simp only [kyCmp, orL, ordI, cmpI] at h
  simp only [kyN, rkS]
  cases ab <;> cases bb <;> simp only [Bool.false_eq_true, Bool.true_eq_false, if_false, if_true] at h ⊢ <;> (repeat' split at h) <;> omega
set_option maxRecDepth 100000 in
set_option maxHeartbeats 4000000 in
theorem kord_c (a b : Ky) (w : World) : Calls Tryz.prog 123 #[.agg (kyC a), .agg (kyC b)] w (GrwI w (kyCmp a b)) := by
  obtain ⟨⟨ab, an⟩, ai, aj⟩ := a
  obtain ⟨⟨bb, bn⟩, bi, bj⟩ := b
  have B0 := (Blk.new w 180 (kyC ((ab, an), ai, aj))).al (.cells (kyC ((bb, bn), bi, bj)) 180)
  have B1 := Blk.newAt (w.alloc (.cells (kyC ((ab, an), ai, aj)) 180)) 180 (kyC ((bb, bn), bi, bj)) (w.heap.size + 1) (by simp)
  have HG := Lib.hid (((Grw.refl w).al (.cells (kyC ((ab, an), ai, aj)) 180)).al (.cells (kyC ((bb, bn), bi, bj)) 180))
  simp only [kyC] at *
  go_enter Tryz.func123, Tryz.ntmps123
  go_upto_region 1 with fail
  generalize (w.alloc (.cells #[.bool ab, .int .i64 (an : Int), .int .i64 (ai : Int), .int .i64 (aj : Int)] 180)).alloc (.cells #[.bool bb, .int .i64 (bn : Int), .int .i64 (bi : Int), .int .i64 (bj : Int)] 180) = W at *
  have SOF := Lib.hid (show ∀ w', Grw W w' → ((∀ i, w'.cell? ⟨w.heap.size, i, none⟩ = #[.bool ab, .int .i64 (an : Int), .int .i64 (ai : Int), .int .i64 (aj : Int)][i]?) ∧ (∀ i, w'.cell? ⟨w.heap.size + 1, i, none⟩ = #[.bool bb, .int .i64 (bn : Int), .int .i64 (bi : Int), .int .i64 (bj : Int)][i]?) ∧ Grw W w') from fun w' hb => ⟨(B0.via hb.below).cell, (B1.via hb.below).cell, hb⟩)
  have hb0 := (Grw.refl W).dr
  clear B0 B1
  go_region_held3 (fun w' => (∀ i, w'.cell? ⟨w.heap.size, i, none⟩ = #[.bool ab, .int .i64 (an : Int), .int .i64 (ai : Int), .int .i64 (aj : Int)][i]?) ∧ (∀ i, w'.cell? ⟨w.heap.size + 1, i, none⟩ = #[.bool bb, .int .i64 (bn : Int), .int .i64 (bi : Int), .int .i64 (bj : Int)][i]?) ∧ Grw W w') (exact SOF.out _ (by first | assumption | exact Grw.al (by assumption) _)) (first
    | (go_at_call 31; (with_reducible refine (cmp_c _ _ _).mono ?_); rintro ee wk ⟨rfl, rfl⟩)
    | (go_at_call 153; (with_reducible refine (gord2_c _ _ _ _ _).mono ?_); rintro ee wk ⟨rfl, hgo⟩; have hgw : Grw W wk := Grw.trans (by assumption) hgo)
    | (go_at_call 30; (with_reducible refine (or_c (some ⟨_, 0, none⟩) 3 3 [_, _, _] _ (Ints.threeB _ _ _ _ _) (by omega)).mono ?_); rintro ee wk ⟨rfl, rfl⟩))
  go_wp2_with fail
  go_ret
  exact ⟨rfl, HG.out.trans (hgw.al _)⟩
set_option maxRecDepth 100000 in
theorem sortKey_c (ok : Nat → Prop) (w : World) (base n : Nat) (A : Option Addr) (c : Nat) (l : List Ky) (hn : n ≤ 1000000) (hown : Own KyE 180 ok w base (.slice A n c) n l) :
    Calls Tryz.prog 122 #[.slice A n c, .func (.func 123) #[] #[]] w (SortPX KyE 180 ok base n A c l kyCmp w) := by
  refine sort_x KyE laysKey Tryz.isAgg180 Tryz.sizeOf180 123 #[] (enters_c (c := _) (fn := Tryz.f123) rfl (by kernel_rfl) rfl) kyCmp (fun p => swoKey kyKey kyCmp kyCmp_key p) (antiKey kyKey kyCmp kyCmp_key) 180 ok (fun _ => True) w base n A c l hn (fun _ _ => trivial) hown ?_
  rintro g - W - - ⟨⟨r, x⟩, h, -⟩ ⟨⟨r', y⟩, h', -⟩
  obtain rfl : r = x := h
  obtain rfl : r' = y := h'
  exact kord_c r r' W
end Go.Proofs.YtbfcnfgkccgbiaaGreatDoor

