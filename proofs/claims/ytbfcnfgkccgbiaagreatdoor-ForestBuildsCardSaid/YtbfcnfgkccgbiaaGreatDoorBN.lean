/- Texts BN, laid together. -/
import Derived.Test.YtbfcnfgkccgbiaaGreatDoorBM
import Derived.Shelf.SlSortCmp.NoneTotal
import Derived.Sort.Statements




namespace Go.Proofs.YtbfcnfgkccgbiaaGreatDoor
open Go.RowKit
open Go.Sort (grow alloc_eq_grow grow_grow putRowK putRow mapBlock putCells flatK HoldsK Holds onCells size_flatK get_flatK SWO PermIn SortedIn)
open Go.Proofs (sortWorldK CmpLays ltOf)

section
variable {α : Type} [Inhabited α] {enc : α → List Value} {k : Nat} {w : World} {blk off m : Nat} {dk : Array α} {os : Array Obj}
theorem sw_size : w.heap.size ≤ (sortWorldK enc k w blk off m dk os).heap.size := by
  simp only [sortWorldK, grow, putRowK, putRow, mapBlock, Array.size_append, Array.size_modify]
  exact Nat.le_add_right _ _
theorem sw_get {b : Nat} (hb : b < w.heap.size) : (sortWorldK enc k w blk off m dk os).heap[b]? = if blk = b then (w.heap[b]?).map (onCells (putCells id off (flatK enc k dk))) else w.heap[b]? := by
  simp only [sortWorldK, grow, putRowK, putRow, mapBlock]
  rw [Array.getElem?_append_left (by simpa using hb), Array.getElem?_modify]
  rfl
theorem sw_other {b : Nat} (hb : b < w.heap.size) (hne : b ≠ blk) : (sortWorldK enc k w blk off m dk os).heap[b]? = w.heap[b]? := by
  rw [sw_get hb, if_neg (Ne.symm hne)]
theorem sw_row {cur : Array Value} {t : TypeId} {fr : Nat × Nat} (h : w.heap[blk]? = some (.cells cur t fr)) : (sortWorldK enc k w blk off m dk os).heap[blk]? = some (.cells (putCells id off (flatK enc k dk) cur) t fr) := by
  have hb : blk < w.heap.size := (Array.getElem?_eq_some_iff.1 h).1
  rw [sw_get hb, if_pos rfl, h]; rfl
theorem sw_below {base : Nat} (hb : base ≤ blk) : base ≤ w.heap.size → Below base w (sortWorldK enc k w blk off m dk os) := fun hs =>
  ⟨rfl, rfl, rfl, sw_size, fun b hlt => sw_other (by omega) (by omega)⟩
end
/-- a row of elements, flat, cell by cell -/
theorem flat_get {α ρ : Type} (E : Elem α ρ) : ∀ (raw : List ρ) (i j : Nat) (r : ρ), raw[i]? = some r → j < E.k → (flat E raw)[i * E.k + j]? = (E.cells r)[j]?
  | [], i, j, r, h, _ => by simp at h
  | a :: raw, 0, j, r, h, hj => by
    simp at h; subst h
    simp only [flat, List.flatMap_cons, Nat.zero_mul, Nat.zero_add]
    rw [List.getElem?_append_left (by rw [E.len]; exact hj)]
  | a :: raw, i + 1, j, r, h, hj => by
    simp at h
    have ih := flat_get E raw i j r h hj
    simp only [flat, List.flatMap_cons]
    rw [List.getElem?_append_right (by rw [E.len, Nat.add_mul]; omega), E.len, show (i + 1) * E.k + j - E.k = i * E.k + j by rw [Nat.add_mul]; omega]
    exact ih
theorem putCells_take (F cur : Array Value) (h : F.size ≤ cur.size) : (putCells id 0 F cur).size = cur.size ∧ (putCells id 0 F cur).toList.take F.size = F.toList := by
  have hs : (putCells id 0 F cur).size = cur.size := by simp [putCells]
  refine ⟨hs, ?_⟩
  apply List.ext_getElem?
  intro t
  rw [List.getElem?_take]
  split
  · rename_i ht
    rw [Array.getElem?_toList, Array.getElem?_toList, Array.getElem?_eq_getElem (by omega), Array.getElem?_eq_getElem ht]
    simp only [putCells, Array.getElem_mapIdx, Nat.zero_le, true_and, Nat.zero_add, Nat.sub_zero, id]
    rw [if_pos ht, getElem!_pos F t ht]
  · rename_i ht
    rw [Array.getElem?_toList, Array.getElem?_eq_none (by omega)]
section
variable {α ρ : Type} (E : Elem α ρ)
/-- an element that can be read in w elsewhere than in block g -/
abbrev EltX (ok : Nat → Prop) (ph : α → Prop) (w : World) (g : Nat) := {p : ρ × α // E.rel (fun b => ok b ∧ some b ≠ some g) w p.1 p.2 ∧ ph p.2}
def encX {ok : Nat → Prop} {ph : α → Prop} {w : World} {g : Nat} (p : EltX E ok ph w g) : List Value := E.cells p.1.1
/-- what a comparer is asked -/
def CmpX (fid : Nat) (cb : Array Value) (cf : α → α → Int) (ok : Nat → Prop) (ph : α → Prop) (w : World) (g : Nat) : Prop :=
  ∀ (W : World), Agr (fun b => b ≠ g) w W → w.heap.size ≤ W.heap.size → ∀ p q : EltX E ok ph w g, Calls Tryz.prog fid (#[.agg (E.cells p.1.1).toArray, .agg (E.cells q.1.1).toArray] ++ cb) W fun e w' => e = .returned (.int .i64 (cf p.1.2 q.1.2)) ∧ ∃ n os, w' = grow (W.drewN n) os
def SortPX (e : TypeId) (ok : Nat → Prop) (base n : Nat) (A : Option Addr) (c : Nat) (l : List α) (cf : α → α → Int) (w : World) (en : Ending) (w' : World) : Prop :=
  en = .returned (.tuple #[]) ∧ ∃ l' : List α, l'.Perm l ∧ l'.Pairwise (fun x y => cf x y ≤ 0) ∧ Own E e ok w' base (.slice A n c) n l' ∧ Below base w w' ∧ Agr (fun b => some b ≠ (Value.slice A n c).ownBlock) w w' ∧ w.heap.size ≤ w'.heap.size
theorem flatX_raw {ok : Nat → Prop} {ph : α → Prop} {w : World} {g : Nat} [Inhabited (EltX E ok ph w g)] (d : Array (EltX E ok ph w g)) : (flatK (encX E) E.k d).toList = flat E (d.toList.map fun p => p.1.1) := by
  apply List.ext_getElem?
  intro t
  have hl : (flat E (d.toList.map fun p : EltX E ok ph w g => p.1.1)).length = d.size * E.k := by rw [flat_len]; simp
  have hp := E.pos
  rcases Nat.lt_or_ge t (d.size * E.k) with ht | ht
  · have hi : t / E.k < d.size := (Nat.div_lt_iff_lt_mul hp).2 ht
    have e1 : (d.toList.map fun p : EltX E ok ph w g => p.1.1)[t / E.k]? = some (d[t / E.k]!).1.1 := by
      rw [List.getElem?_map, Array.getElem?_toList, getElem!_pos d (t / E.k) hi, Array.getElem?_eq_getElem hi]; rfl
    have e2 := flat_get E _ (t / E.k) (t % E.k) _ e1 (Nat.mod_lt _ hp)
    have e3 : t / E.k * E.k + t % E.k = t := Nat.div_add_mod' t E.k
    rw [e3] at e2
    rw [e2, Array.getElem?_toList, Array.getElem?_eq_getElem (by simpa using ht)]
    have e4 := get_flatK (encX E (ok := ok) (ph := ph) (w := w) (g := g)) E.k d t ht
    rw [getElem!_pos _ t (by simpa using ht)] at e4
    rw [e4]
    have hm : t % E.k < (encX E d[t / E.k]!).length := by rw [encX, E.len]; exact Nat.mod_lt _ hp
    rw [getElem!_pos (encX E (ok := ok) (ph := ph) (w := w) (g := g) d[t / E.k]!) (t % E.k) hm]
    exact (List.getElem?_eq_getElem hm).symm
  · rw [Array.getElem?_toList, Array.getElem?_eq_none (by simpa using ht), List.getElem?_eq_none (by rw [hl]; exact ht)]
theorem sw_agr {ok : Nat → Prop} {ph : α → Prop} {w : World} {g : Nat} [Inhabited (EltX E ok ph w g)] {n : Nat} {dk : Array (EltX E ok ph w g)} {os : Array Obj} : Agr (fun b => b ≠ g) w (sortWorldK (encX E) E.k w g 0 n dk os) := fun _ hb hl => sw_other hl hb
theorem sort_x {σ : Go.Shelf.Ren} (L : SlLaysF0.n6 Tryz.prog σ) (aE : ∀ w, (isAgg (σ.t 24)).run Tryz.prog w = .ok true w) (zE : ∀ w, (Go.sizeOf (σ.t 24)).run Tryz.prog w = .ok E.k w) (fid : Nat) (cb : Array Value) (eg : ∀ args w, (callFunc fid args).run Tryz.prog w = .ok (.enter fid args) w)
    (cf : α → α → Int) (hO : ∀ p : α → Prop, SWO (ltOf fun x y : {x : α // p x} => cf x.1 y.1)) (hA : ∀ x y, 0 < cf x y → cf y x < 0) (e : TypeId) (ok : Nat → Prop) (ph : α → Prop) (w : World) (base n : Nat) (A : Option Addr) (c : Nat) (l : List α) (hn : n ≤ 1000000) (hph : ∀ x ∈ l, ph x) (hown : Own E e ok w base (.slice A n c) n l)
    (hcmp : ∀ g, (Value.slice A n c).ownBlock = some g → CmpX E fid cb cf ok ph w g) :
    Calls Tryz.prog (σ.f 6) #[.slice A n c, .func (.func fid) #[] cb] w (SortPX E e ok base n A c l cf w) := by
  rcases Nat.eq_zero_or_pos n with h0 | h0
  · subst h0
    obtain rfl : l = [] := List.eq_nil_of_length_eq_zero hown.len
    refine (AnyF.slices_SortFunc_none L A c (.func (.func fid) #[] cb) w).mono ?_
    rintro en w' ⟨rfl, rfl⟩
    exact ⟨rfl, [], List.Perm.refl _, List.Pairwise.nil, hown, Below.refl _ _, Agr.refl, Nat.le_refl _⟩
  obtain ⟨hl, raw, hr, ⟨hrl, hrow⟩, hrel⟩ := hown
  rcases hrow with ⟨-, e1⟩ | ⟨g, cap, cur, e1, hg, hb, hnc, hcm, hcs, htk⟩
  · omega
  simp only [Value.slice.injEq] at e1
  obtain ⟨rfl, -, rfl⟩ := e1
  have hob : (Value.slice (some ⟨g, 0, none⟩) n c).ownBlock = some g := rfl
  rw [hob] at hrel
  have hgl : g < w.heap.size := (Array.getElem?_eq_some_iff.1 hb).1
  have hall : ∀ p ∈ raw.zip l, E.rel (fun b => ok b ∧ some b ≠ some g) w p.1 p.2 ∧ ph p.2 := by
    intro p hp
    obtain ⟨i, hi⟩ := List.mem_iff_getElem?.1 hp
    rw [List.getElem?_zip_eq_some] at hi
    exact ⟨hrel i _ _ hi.1 hi.2, hph _ (List.mem_of_getElem? hi.2)⟩
  obtain ⟨d, hd⟩ : ∃ d : Array (EltX E ok ph w g), d = ((raw.zip l).pmap (fun p h => (⟨p, h⟩ : EltX E ok ph w g)) hall).toArray := ⟨_, rfl⟩
  have hdp : d.toList.map Subtype.val = raw.zip l := by
    rw [hd, List.map_pmap]
    simp
  have hdm : (d.toList.map fun p => p.1.1) = raw := by
    have : (d.toList.map fun p : EltX E ok ph w g => p.1.1) = (d.toList.map Subtype.val).map Prod.fst := by simp
    rw [this, hdp, List.map_fst_zip (by omega)]
  have hdl : (d.toList.map fun p => p.1.2) = l := by
    have : (d.toList.map fun p : EltX E ok ph w g => p.1.2) = (d.toList.map Subtype.val).map Prod.snd := by simp
    rw [this, hdp, List.map_snd_zip (by omega)]
  have hds : d.size = n := by rw [← hr, ← hdm]; simp
  haveI : Inhabited (EltX E ok ph w g) := ⟨d[0]'(by omega)⟩
  have hF : (flatK (encX E) E.k d).toList = flat E raw := by rw [flatX_raw, hdm]
  have hB : Blk w g e cur := hb
  have hfs : (flatK (encX E) E.k d).size = n * E.k := by rw [size_flatK, hds]
  have hH : HoldsK (encX E) E.k w g 0 d := by
    intro j hj
    have hj' : j < n * E.k := by omega
    refine ⟨?_, hB.frozen _⟩
    rw [hB.cell, Nat.zero_add]
    have e1 : cur[j]? = (flatK (encX E) E.k d)[j]? := by
      rw [← Array.getElem?_toList, ← Array.getElem?_toList, hF, ← htk, List.getElem?_take, if_pos hj']
    rw [e1, Array.getElem?_eq_getElem hj, getElem!_pos _ j hj]; rfl
  have hC := hcmp g rfl
  have hlay : CmpLays Tryz.prog fid cb (encX E (ok := ok) (ph := ph) (w := w) (g := g)) E.k (fun x y => cf x.1.2 y.1.2) g 0 d.size w := by
    intro m os dk hs x y
    exact hC _ (sw_agr E) sw_size x y
  have hsw : SWO (ltOf fun x y : EltX E ok ph w g => cf x.1.2 y.1.2) := by
    have hq := hO ph
    refine ⟨fun x => hq.irrefl ⟨x.1.2, x.2.2⟩, fun x y z h1 h2 => hq.trans ⟨x.1.2, x.2.2⟩ ⟨y.1.2, y.2.2⟩ ⟨z.1.2, z.2.2⟩ h1 h2, fun x y z h1 h2 => hq.ntrans ⟨x.1.2, x.2.2⟩ ⟨y.1.2, y.2.2⟩ ⟨z.1.2, z.2.2⟩ h1 h2⟩
  have hcon := AnyQ.slices_SortFunc L E.k aE zE (encX E (ok := ok) (ph := ph) (w := w) (g := g)) (fun x => E.len _) (fun x v hv => E.one _ v hv) (fun x y => cf x.1.2 y.1.2) hsw fid cb g 0 c d w eg hlay hH hgl (by omega)
  rw [hds] at hcon
  refine hcon.mono ?_
  rintro en w' ⟨rfl, d', n', os, ⟨hp1, -, hp2⟩, hso, rfl⟩
  have hds' : d'.size = n := by omega
  have hperm : d'.toList.Perm d.toList := by
    have x1 : d'.extract 0 n = d' := by rw [← hds']; simp
    have x2 : d.extract 0 n = d := by rw [← hds]; simp
    rw [x1, x2] at hp2; exact hp2
  obtain ⟨p1, p2⟩ := putCells_take (flatK (encX E) E.k d') cur (by rw [size_flatK, hds', hcs]; exact Nat.mul_le_mul_right _ hnc)
  refine ⟨rfl, d'.toList.map fun p => p.1.2, ?_, ?_, ⟨by simp [hds'], d'.toList.map fun p => p.1.1, by simp [hds'], ⟨?_, Or.inr ⟨g, c, _, rfl, hg, sw_row hb, hnc, hcm, by rw [p1]; exact hcs, ?_⟩⟩, ?_⟩, ?_, ?_, sw_size⟩
  · rw [← hdl]; exact hperm.map _
  · rw [List.pairwise_map, List.pairwise_iff_getElem]
    intro i j hi hj hij
    have h := hso i j (Nat.zero_le _) hij (by simpa [hds'] using hj)
    simp only [ltOf, decide_eq_false_iff_not] at h
    rw [getElem!_pos d' i (by simpa using hi), getElem!_pos d' j (by simpa using hj)] at h
    simp only [Array.getElem_toList]
    apply Classical.byContradiction
    intro hgt
    exact h (hA _ _ (by omega))
  · rw [flat_len]; simp [hds']
  · have q1 : (flatK (encX E) E.k d').size = n * E.k := by rw [size_flatK, hds']
    rw [← q1, p2, flatX_raw]
  · intro i r x hr' hx
    rw [List.getElem?_map] at hr' hx
    obtain ⟨y, hy, rfl⟩ := Option.map_eq_some_iff.1 hr'
    rw [hy] at hx
    simp only [Option.map_some, Option.some.injEq] at hx
    subst hx
    exact E.agr y.2.1 ((sw_agr E).mono fun b hb => by intro e; exact hb.2 (by rw [e]; rfl))
  · exact sw_below hg (by omega)
  · exact (sw_agr E).mono fun b hb e => hb (by rw [e]; rfl)
end
end Go.Proofs.YtbfcnfgkccgbiaaGreatDoor

