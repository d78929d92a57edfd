/- Texts BA, PA, PC, BF, BI, RD, RF, RS, RT, RU, RB, RC, laid together. -/
import Derived.Test.YthiikgjeamoocaaDoorQ2
import Derived.Test.YthiikgjeamoocaaDoorQ1
import Derived.Lib.AppendZerosOnto
import Derived.Lib.AppendZeros


namespace Go.Proofs.YthiikgjeamoocaaDoor
open Go.RowKit

/-- a symbol with a part of the word -/
abbrev Ky := Sy × Nat × Nat
section
variable (D : Ky → Bool)
def someF : List Sy → Nat → Nat → Bool
  | [], i, j => decide (i = j)
  | s :: l, i, j => (List.range (j + 1 - i)).any fun q => D (s, i, i + q) && someF l (i + q) j
def waysF : List Sy → Nat → Nat → List (List Ky)
  | [], i, j => if i = j then [[]] else []
  | s :: l, i, j => (List.range (j + 1 - i)).flatMap fun q => if (D (s, i, i + q) && someF D l (i + q) j) = true then (waysF l (i + q) j).map ((s, i, i + q) :: ·) else []
/-- the packs of a node by rule n -/
def packN (R : List Ru) (k : Ky) (n : Nat) : List (Nat × List Ky) := match R[n]? with
  | some u => if u.1 = k.1.2 ∧ k.1.1 = false then (waysF D u.2 k.2.1 k.2.2).map fun p => (n, p) else []
  | none => []
/-- .. by the first m rules -/
def packT (R : List Ru) (k : Ky) (m : Nat) : List (Nat × List Ky) := (List.range m).flatMap (packN D R k)
def packsF (R : List Ru) (k : Ky) : List (Nat × List Ky) := packT D R k R.length
inductive RchK (R : List Ru) (root : Ky) : Ky → Prop
  | root : RchK R root root
  | kid {k : Ky} {p : Nat × List Ky} {q : Ky} : RchK R root k → p ∈ packsF D R k → q ∈ p.2 → RchK R root q
end
section
variable {D : Ky → Bool}
theorem some_iff {s : Sy} {l : List Sy} {i j : Nat} : someF D (s :: l) i j = true ↔ ∃ p, i ≤ p ∧ p ≤ j ∧ D (s, i, p) = true ∧ someF D l p j = true := by
  simp only [someF, List.any_eq_true, List.mem_range, Bool.and_eq_true]
  constructor
  · rintro ⟨q, hq, h1, h2⟩; exact ⟨i + q, by omega, by omega, h1, h2⟩
  · rintro ⟨p, h1, h2, h3, h4⟩
    refine ⟨p - i, by omega, ?_⟩
    rw [show i + (p - i) = p by omega]; exact ⟨h3, h4⟩
theorem ways_nil {l : List Sy} {i j : Nat} (h : someF D l i j = false) : waysF D l i j = [] := by
  cases l with
  | nil => simp only [someF, decide_eq_false_iff_not] at h; simp [waysF, h]
  | cons s l =>
    simp only [waysF, List.flatMap_eq_nil_iff]
    intro q hq
    simp only [someF, List.any_eq_false] at h
    rw [if_neg (h q hq)]
/-- what a way is -/
inductive IsWay (D : Ky → Bool) : List Sy → Nat → Nat → List Ky → Prop
  | nil (i : Nat) : IsWay D [] i i []
  | cons {s : Sy} {l : List Sy} {i p j : Nat} {w : List Ky} : i ≤ p → p ≤ j → D (s, i, p) = true → IsWay D l p j w → IsWay D (s :: l) i j ((s, i, p) :: w)
theorem IsWay.some {l : List Sy} {i j : Nat} {w : List Ky} (h : IsWay D l i j w) : someF D l i j = true := by
  induction h with
  | nil i => simp [someF]
  | cons h1 h2 h3 _ ih => exact some_iff.2 ⟨_, h1, h2, h3, ih⟩
theorem IsWay.le {l : List Sy} {i j : Nat} {w : List Ky} (h : IsWay D l i j w) : i ≤ j := by
  induction h with
  | nil i => exact Nat.le_refl _
  | cons h1 h2 _ _ _ => omega
theorem ways_iff {l : List Sy} : ∀ {i j : Nat} {w : List Ky}, w ∈ waysF D l i j ↔ IsWay D l i j w := by
  induction l with
  | nil =>
    intro i j w
    simp only [waysF]
    constructor
    · intro h
      by_cases e : i = j
      · rw [if_pos e] at h; simp at h; subst h; subst e; exact .nil i
      · rw [if_neg e] at h; simp at h
    · intro h; cases h; simp
  | cons s l ih =>
    intro i j w
    simp only [waysF, List.mem_flatMap, List.mem_range]
    constructor
    · rintro ⟨q, hq, h⟩
      by_cases e : (D (s, i, i + q) && someF D l (i + q) j) = true
      · rw [if_pos e] at h
        obtain ⟨w', hw', rfl⟩ := List.mem_map.1 h
        simp only [Bool.and_eq_true] at e
        exact .cons (by omega) (by omega) e.1 (ih.1 hw')
      · rw [if_neg e] at h; simp at h
    · intro h
      cases h with
      | @cons _ _ _ p _ w' h1 h2 h3 h4 =>
        refine ⟨p - i, by omega, ?_⟩
        rw [show i + (p - i) = p by omega, if_pos (by rw [h3, h4.some]; rfl)]
        exact List.mem_map.2 ⟨w', ih.2 h4, rfl⟩
theorem IsWay.mem {l : List Sy} {i j : Nat} {w : List Ky} (h : IsWay D l i j w) : ∀ q ∈ w, D q = true ∧ i ≤ q.2.1 ∧ q.2.1 ≤ q.2.2 ∧ q.2.2 ≤ j ∧ q.1 ∈ l := by
  induction h with
  | nil i => intro q hq; simp at hq
  | cons h1 h2 h3 h4 ih =>
    intro q hq
    rcases List.mem_cons.1 hq with rfl | hq
    · exact ⟨h3, Nat.le_refl _, h1, h2, by simp⟩
    · obtain ⟨k1, k2, k3, k4, k5⟩ := ih q hq
      exact ⟨k1, by omega, k3, k4, by simp [k5]⟩
theorem IsWay.len {l : List Sy} {i j : Nat} {w : List Ky} (h : IsWay D l i j w) : w.length = l.length := by
  induction h with
  | nil i => rfl
  | cons _ _ _ _ ih => simp [ih]
theorem packN_mem {R : List Ru} {k : Ky} {n : Nat} {p : Nat × List Ky} (h : p ∈ packN D R k n) : p.1 = n ∧ k.1.1 = false ∧ ∃ u, R[n]? = some u ∧ u.1 = k.1.2 ∧ IsWay D u.2 k.2.1 k.2.2 p.2 := by
  unfold packN at h
  cases hu : R[n]? with
  | none => rw [hu] at h; simp at h
  | some u =>
    rw [hu] at h
    simp only at h
    by_cases e : u.1 = k.1.2 ∧ k.1.1 = false
    · rw [if_pos e] at h
      obtain ⟨w, hw, rfl⟩ := List.mem_map.1 h
      exact ⟨rfl, e.2, u, rfl, e.1, ways_iff.1 hw⟩
    · rw [if_neg e] at h; simp at h
theorem packs_mem {R : List Ru} {k : Ky} {p : Nat × List Ky} (h : p ∈ packsF D R k) : k.1.1 = false ∧ ∃ u, R[p.1]? = some u ∧ u.1 = k.1.2 ∧ IsWay D u.2 k.2.1 k.2.2 p.2 := by
  unfold packsF packT at h
  obtain ⟨n, -, h⟩ := List.mem_flatMap.1 h
  obtain ⟨rfl, h2, h3⟩ := packN_mem h
  exact ⟨h2, h3⟩
theorem packT_next (R : List Ru) (k : Ky) (m : Nat) : packT D R k (m + 1) = packT D R k m ++ packN D R k m := by
  unfold packT; rw [List.range_succ, List.flatMap_append]; simp

/-! ### the order of nodes -/
def rkS (s : Sy) : Nat := if s.1 then s.2 else 100 + s.2
def kyN (k : Ky) : Nat := (k.2.1 * 100 + k.2.2) * 1000 + rkS k.1
/-- keys of small size: their number tells them -/
def Ky.Ok (k : Ky) : Prop := k.2.1 < 100 ∧ k.2.2 < 100 ∧ k.1.2 < 100
theorem kyN_inj {a b : Ky} (ha : a.Ok) (hb : b.Ok) (h : kyN a = kyN b) : a = b := by
  obtain ⟨⟨ab, an⟩, ai, aj⟩ := a
  obtain ⟨⟨bb, bn⟩, bi, bj⟩ := b
  obtain ⟨h1, h2, h3⟩ := ha
  obtain ⟨k1, k2, k3⟩ := hb
  simp only at h1 h2 h3 k1 k2 k3
  simp only [kyN, rkS] at h
  cases ab <;> cases bb <;> simp only [Bool.false_eq_true, if_false, if_true] at h <;> simp only [Prod.mk.injEq, true_and, false_and, Bool.false_eq_true, Bool.true_eq_false] <;> omega
/-- the nodes: all keys that are reached, in order -/
structure IsNds (D : Ky → Bool) (R : List Ru) (root : Ky) (L : List Ky) : Prop where
  sorted : L.Pairwise fun a b => kyN a < kyN b
  mem : ∀ k, k ∈ L ↔ RchK D R root k
theorem IsNds.nodup {R : List Ru} {root : Ky} {L : List Ky} (h : IsNds D R root L) : L.Nodup := h.sorted.imp fun hab e => by rw [e] at hab; omega
theorem IsNds.uniq {R : List Ru} {root : Ky} {L L' : List Ky} (h : IsNds D R root L) (h' : IsNds D R root L') : L = L' := by
  refine List.Perm.eq_of_pairwise (le := fun a b => kyN a < kyN b) (fun a b _ _ h1 h2 => by omega) h.sorted h'.sorted ?_
  refine (List.perm_ext_iff_of_nodup h.nodup h'.nodup).2 fun k => ?_
  rw [h.mem, h'.mem]
/-- the number of a node -/
def idxK (L : List Ky) (k : Ky) : Nat := L.idxOf k
theorem idxK_lt {L : List Ky} {k : Ky} (h : k ∈ L) : idxK L k < L.length := List.idxOf_lt_length_iff.2 h
theorem idxK_get {L : List Ky} {k : Ky} (h : k ∈ L) : L[idxK L k]? = some k := by
  unfold idxK
  rw [List.getElem?_eq_getElem (List.idxOf_lt_length_iff.2 h), List.getElem_idxOf]
theorem idxK_mono {L : List Ky} (hs : L.Pairwise fun a b => kyN a < kyN b) {a b : Ky} (ha : a ∈ L) (hb : b ∈ L) (h : kyN a < kyN b) : idxK L a < idxK L b := by
  apply Classical.byContradiction
  intro hn
  have e1 := idxK_get ha
  have e2 := idxK_get hb
  rcases Nat.lt_or_ge (idxK L b) (idxK L a) with hlt | hge
  · have h3 := List.pairwise_iff_getElem.1 hs _ _ (idxK_lt hb) (idxK_lt ha) hlt
    rw [List.getElem?_eq_getElem (idxK_lt ha)] at e1
    rw [List.getElem?_eq_getElem (idxK_lt hb)] at e2
    rw [Option.some.inj e1, Option.some.inj e2] at h3
    omega
  · have : idxK L a = idxK L b := by omega
    rw [this, e2] at e1
    rw [Option.some.inj e1] at h; omega
/-- a node of the forest -/
abbrev Nd := Ky × List (Nat × List Nat)
def ndF (D : Ky → Bool) (R : List Ru) (L : List Ky) (k : Ky) : Nd := (k, (packsF D R k).map fun p => (p.1, p.2.map (idxK L)))
/-- how many packs in all -/
def totP (D : Ky → Bool) (R : List Ru) (L : List Ky) : Nat := (L.map fun k => (packsF D R k).length).sum
theorem totP_perm {R : List Ru} {L L' : List Ky} (h : L.Perm L') : totP D R L = totP D R L' := (h.map _).sum_nat
end
end Go.Proofs.YthiikgjeamoocaaDoor




namespace Go.Proofs.YthiikgjeamoocaaDoor
open Go.RowKit

section
variable {α ρ : Type} {E : Elem α ρ}
theorem run_append_manyE (w : World) (t ty e : TypeId) (i : TypeInfo) (z : Value) (bytes : Nat) (ht : Tryd.prog.underlying t = some (.slice e)) (hi : Tryd.prog.info? e = some i) (hz : i.zero = some z) (hsz : i.size = E.k) (hby : i.bytes = bytes) (hzs : z.cells.size = E.k)
    (ok : Nat → Prop) (base : Nat) (v : Value) (n : Nat) (l : List α) (hown : Own E e ok w base v n l)
    (A : Option Addr) (m c : Nat) (ys : List α) (hs : Sl E (fun b => ok b ∧ some b ≠ v.ownBlock) w A m c ys) (h63 : n + m ≤ maxLen) (hbytes : (n + m) * bytes ≤ 140737488355328) (hbase : base ≤ w.heap.size) :
    ∃ A' c' w', (Builtin.append_ #[t, t] ty #[v, .slice A m c]).run Tryd.prog w = .ok (.slice A' (n + m) c') w' ∧ Own E e ok w' base (.slice A' (n + m) c') (n + m) (l ++ ys) ∧ w.grownBy w' v.ownBlock ∧
      ((Value.slice A' (n + m) c').ownBlock = v.ownBlock ∨ (Value.slice A' (n + m) c').ownBlock = some w.heap.size) := by
  obtain ⟨s1, s2, raw2, s3, s4, s5⟩ := hs
  rcases A with _ | ad
  · have hm : raw2 = [] := by
      rcases List.eq_nil_or_concat raw2 with h | ⟨r, x, rfl⟩
      · exact h
      · rw [List.concat_eq_append] at s4
        obtain ⟨b, off, e, _⟩ := s4 (fun e => by
          have := flat_len (E := E) (r ++ [x])
          rw [e] at this
          have hp := Nat.mul_pos (show 0 < (r ++ [x]).length by simp) E.pos
          simp only [List.length_nil] at this; omega)
        cases e
    subst hm
    obtain rfl : m = 0 := by simpa using s3.symm
    obtain rfl : ys = [] := List.eq_nil_of_length_eq_zero s1
    obtain ⟨A', c', rfl, hc⟩ := hown.form
    refine ⟨A', c', w, ?_, by simpa using hown, World.grownBy.refl w _, Or.inl rfl⟩
    rcases A' with _ | g
    · have : n = 0 ∧ c' = 0 := by
        obtain ⟨_, raw, _, h4, _⟩ := hown
        rcases h4.2 with ⟨e, h0⟩ | ⟨g, cap, cur, e, _⟩
        · cases e; exact ⟨rfl, rfl⟩
        · cases e
      obtain ⟨rfl, rfl⟩ := this
      simp [Builtin.append_, run_underlying ht, sizeOf, typeInfo, hi, Builtin.lenOf, Builtin.firstCells]
    · simp [Builtin.append_, run_underlying ht, sizeOf, typeInfo, hi, Builtin.lenOf, Builtin.firstCells, hc, storeCells]
  · obtain ⟨h1, raw, h3, h4, h5⟩ := hown
    have hcell : ∀ j u, (flat E raw2)[j]? = some u → w.cell? (ad.add j) = some u := fun j u hu => by
      obtain ⟨b, off, e, -, hc⟩ := s4 (fun e => by rw [e] at hu; simp at hu)
      cases e
      rw [Addr.add_lit]; exact hc j u hu
    obtain ⟨v', w', hrun, h6, h7, _, h8⟩ := run_append_own_at (P := Tryd.prog) w base t ty e i z E.k bytes ht hi hz hsz hby hzs E.pos v n _ h4 ad m c (flat E raw2) (by rw [flat_len, s3]) hcell
      (fun u hu => by obtain ⟨r, -, h⟩ := List.mem_flatMap.1 hu; exact E.one r u h) h63 hbytes hbase
    have hown' : Own E e ok w' base v' (n + m) (l ++ ys) := by
      refine ⟨by simp [h1, s1], raw ++ raw2, by simp [h3, s3], by have e : flat E (raw ++ raw2) = flat E raw ++ flat E raw2 := by simp [flat]
                                                                  rw [e]; exact h6, fun i r' x' hr' hx' => ?_⟩
      have key : E.rel (fun b => ok b ∧ some b ≠ v.ownBlock) w r' x' := by
        rcases Nat.lt_or_ge i n with hi' | hi'
        · rw [List.getElem?_append_left (by omega)] at hr' hx'
          exact h5 i r' x' hr' hx'
        · rw [List.getElem?_append_right (by omega), h3] at hr'
          rw [List.getElem?_append_right (by omega), h1] at hx'
          exact s5 _ r' x' hr' hx'
      have k1 := E.mono (ok' := fun b => (ok b ∧ some b ≠ v.ownBlock) ∧ b < w.heap.size) key fun b hb hk => ⟨hk, hb⟩
      refine E.mono (E.agr k1 (Agr.grown h7 fun b hb => hb.1.2)) fun b _ hk => ⟨hk.1.1, ?_⟩
      rcases h8 with e8 | e8
      · rw [e8]; exact hk.1.2
      · rw [e8]; intro e9; cases e9; exact absurd hk.2 (Nat.lt_irrefl _)
    obtain ⟨A', c', rfl, _⟩ := hown'.form
    exact ⟨A', c', w', hrun, hown', h7, h8⟩
theorem wpList_append_manyE {ops : Array Oper} {rest : List Oper} {o : Oper} {a : Act} {Q : Exit → Act → World → Prop} (w : World) (hgd : o.guard = none) (s y : Operand) (t e : TypeId)
    (ho : o.op = .call { callee := .builtin .append, args := #[s, y], argTypes := #[t, t] }) (i : TypeInfo) (z : Value) (bytes : Nat) (ht : Tryd.prog.underlying t = some (.slice e)) (hi : Tryd.prog.info? e = some i) (hz : i.zero = some z) (hsz : i.size = E.k) (hby : i.bytes = bytes) (hzs : z.cells.size = E.k)
    (ok : Nat → Prop) (base : Nat) (v : Value) (n : Nat) (l : List α) (hv : a.eval s = v) (hown : Own E e ok w base v n l)
    (A : Option Addr) (m c : Nat) (ys : List α) (hy : a.eval y = .slice A m c) (hs : Sl E (fun b => ok b ∧ some b ≠ v.ownBlock) w A m c ys) (h63 : n + m ≤ maxLen) (hbytes : (n + m) * bytes ≤ 140737488355328) (hbase : base ≤ w.heap.size)
    (h : ∀ A' c' w', Own E e ok w' base (.slice A' (n + m) c') (n + m) (l ++ ys) → w.grownBy w' v.ownBlock → ((Value.slice A' (n + m) c').ownBlock = v.ownBlock ∨ (Value.slice A' (n + m) c').ownBlock = some w.heap.size) → wpList Tryd.prog ops Q rest (a.put o.dst (.slice A' (n + m) c')) w') : wpList Tryd.prog ops Q (o :: rest) a w := by
  refine wpList_plain hgd fun _ hK => ?_
  obtain ⟨A', c', w', hrun, h2, h3, h4⟩ := run_append_manyE w t o.type e i z bytes ht hi hz hsz hby hzs ok base v n l hown A m c ys hs h63 hbytes hbase
  unfold Oper.wp execOp
  simp only [ho, resolve, invoke, builtin, Sem.run_bind, Sem.run_pure, Result.andThen_ok, List.map_toArray, List.map_cons, List.map_nil, hv, hy, hrun]
  exact hK _ _ (h A' c' w' h2 h3 h4)
/-- an empty row in a block of its own -/
theorem Own.empty {e : TypeId} (ok : Nat → Prop) (w : World) : Own E e ok (w.alloc (.cells #[] e)) w.heap.size (.slice (some ⟨w.heap.size, 0, none⟩) 0 0) 0 ([] : List α) := by
  refine ⟨rfl, [], rfl, ⟨by simp [flat], Or.inr ⟨w.heap.size, 0, #[], rfl, Nat.le_refl _, heap_alloc_new w _, Nat.le_refl _, Nat.zero_le _, by simp, by simp [flat]⟩⟩, fun i r x h => by simp at h⟩
end

/-! ### items in memory -/
/-- what a clone hands back -/
def CloneP {α ρ : Type} (E : Elem α ρ) (e : TypeId) (w : World) (n : Nat) (xs : List α) (ee : Ending) (w' : World) : Prop :=
  ∃ B d, ee = .returned (.slice B n d) ∧ Own E e (fun b => b < w.heap.size) w' w.heap.size (.slice B n d) n xs ∧ Below w.heap.size w w'
end Go.Proofs.YthiikgjeamoocaaDoor




namespace Go.Proofs.YthiikgjeamoocaaDoor
open Go.RowKit

def KyE : Elem Ky Ky where
  k := 4
  cells x := [.bool x.1.1, .int .i64 (x.1.2 : Int), .int .i64 (x.2.1 : Int), .int .i64 (x.2.2 : Int)]
  rel _ _ r x := r = x
  pos := by omega
  len _ := rfl
  one r u hu := by simp at hu; rcases hu with rfl | rfl | rfl | rfl <;> rfl
  agr h _ := h
  mono h _ := h
def kyVal (x : Ky) : Value := .agg #[.bool x.1.1, .int .i64 (x.1.2 : Int), .int .i64 (x.2.1 : Int), .int .i64 (x.2.2 : Int)]
def PkE : Elem (Nat × List Ky) (Nat × SlV) where
  k := 2
  cells r := [.int .i64 (r.1 : Int), .slice r.2.1 r.2.2.1 r.2.2.2]
  rel ok w r x := r.1 = x.1 ∧ Sl KyE ok w r.2.1 r.2.2.1 r.2.2.2 x.2
  pos := by omega
  len _ := rfl
  one r u hu := by simp at hu; rcases hu with rfl | rfl <;> rfl
  agr h k := ⟨h.1, h.2.agr k⟩
  mono h k := ⟨h.1, h.2.mono k⟩
theorem ky_info : (Tryd.prog.info? 127).map (fun i => (i.zero, i.size, i.bytes)) = some (some (.agg #[.bool false, .int .i64 0, .int .i64 0, .int .i64 0]), 4, 32) := by kernel_rfl
theorem step_append_ky {ops : Array Oper} {o : Oper} {a : Act} {K : Act → World → Prop} {Q : Exit → Act → World → Prop} {F : Prop} (w : World) (hgd : o.guard = none) (s y : Operand)
    (ho : o.op = .call { callee := .builtin .append, args := #[s, y], argTypes := #[129, 129] })
    (ok : Nat → Prop) (base : Nat) (v : Value) (n : Nat) (l : List Ky) (hv : a.eval s = v) (hown : Own KyE 127 ok w base v n l)
    (b : Nat) (r : Ky) (x : Ky) (hy : a.eval y = .slice (some ⟨b, 0, none⟩) 1 1) (hcell : Blk w b 127 (KyE.cells r).toArray) (hrel : KyE.rel (fun b => ok b ∧ some b ≠ v.ownBlock) w r x)
    (h63 : n + 1 ≤ 1000000) (hbase : base ≤ w.heap.size)
    (h : ∀ A' c' w', Own KyE 127 ok w' base (.slice A' (n + 1) c') (n + 1) (l ++ [x]) → w.grownBy w' v.ownBlock → ((Value.slice A' (n + 1) c').ownBlock = v.ownBlock ∨ (Value.slice A' (n + 1) c').ownBlock = some w.heap.size) → K (a.put o.dst (.slice A' (n + 1) c')) w') :
    if Region.wanted o (yielded ops a.tmps) = true then Oper.wp Tryd.prog o a w K Q else F := by
  obtain ⟨i, hi, hz⟩ := Option.map_eq_some_iff.1 ky_info
  simp only [Prod.mk.injEq] at hz
  refine step_append_E (E := KyE) w hgd s y 129 127 ho i (.agg #[.bool false, .int .i64 0, .int .i64 0, .int .i64 0]) 32 (by kernel_rfl) hi hz.1 hz.2.1 hz.2.2 rfl ok base v n l hv hown b r x hy (fun j u hu => ?_) hrel (by simp [maxLen]; omega) (by omega) hbase h
  rw [hcell.cell j, List.getElem?_toArray]; exact hu
theorem wpList_append_ky {ops : Array Oper} {rest : List Oper} {o : Oper} {a : Act} {Q : Exit → Act → World → Prop} (w : World) (hgd : o.guard = none) (s y : Operand)
    (ho : o.op = .call { callee := .builtin .append, args := #[s, y], argTypes := #[129, 129] })
    (ok : Nat → Prop) (base : Nat) (v : Value) (n : Nat) (l : List Ky) (hv : a.eval s = v) (hown : Own KyE 127 ok w base v n l)
    (b : Nat) (r : Ky) (x : Ky) (hy : a.eval y = .slice (some ⟨b, 0, none⟩) 1 1) (hcell : Blk w b 127 (KyE.cells r).toArray) (hrel : KyE.rel (fun b => ok b ∧ some b ≠ v.ownBlock) w r x)
    (h63 : n + 1 ≤ 1000000) (hbase : base ≤ w.heap.size)
    (h : ∀ A' c' w', Own KyE 127 ok w' base (.slice A' (n + 1) c') (n + 1) (l ++ [x]) → w.grownBy w' v.ownBlock → ((Value.slice A' (n + 1) c').ownBlock = v.ownBlock ∨ (Value.slice A' (n + 1) c').ownBlock = some w.heap.size) → wpList Tryd.prog ops Q rest (a.put o.dst (.slice A' (n + 1) c')) w') : wpList Tryd.prog ops Q (o :: rest) a w := by
  obtain ⟨i, hi, hz⟩ := Option.map_eq_some_iff.1 ky_info
  simp only [Prod.mk.injEq] at hz
  refine wpList_append_E (E := KyE) w hgd s y 129 127 ho i (.agg #[.bool false, .int .i64 0, .int .i64 0, .int .i64 0]) 32 (by kernel_rfl) hi hz.1 hz.2.1 hz.2.2 rfl ok base v n l hv hown b r x hy (fun j u hu => ?_) hrel (by simp [maxLen]; omega) (by omega) hbase h
  rw [hcell.cell j, List.getElem?_toArray]; exact hu
theorem pk_info : (Tryd.prog.info? 134).map (fun i => (i.zero, i.size, i.bytes)) = some (some (.agg #[.int .i64 0, .slice none 0 0]), 2, 32) := by kernel_rfl
theorem step_append_pk {ops : Array Oper} {o : Oper} {a : Act} {K : Act → World → Prop} {Q : Exit → Act → World → Prop} {F : Prop} (w : World) (hgd : o.guard = none) (s y : Operand)
    (ho : o.op = .call { callee := .builtin .append, args := #[s, y], argTypes := #[131, 131] })
    (ok : Nat → Prop) (base : Nat) (v : Value) (n : Nat) (l : List (Nat × List Ky)) (hv : a.eval s = v) (hown : Own PkE 134 ok w base v n l)
    (b : Nat) (r : (Nat × SlV)) (x : (Nat × List Ky)) (hy : a.eval y = .slice (some ⟨b, 0, none⟩) 1 1) (hcell : Blk w b 134 (PkE.cells r).toArray) (hrel : PkE.rel (fun b => ok b ∧ some b ≠ v.ownBlock) w r x)
    (h63 : n + 1 ≤ 1000000) (hbase : base ≤ w.heap.size)
    (h : ∀ A' c' w', Own PkE 134 ok w' base (.slice A' (n + 1) c') (n + 1) (l ++ [x]) → w.grownBy w' v.ownBlock → ((Value.slice A' (n + 1) c').ownBlock = v.ownBlock ∨ (Value.slice A' (n + 1) c').ownBlock = some w.heap.size) → K (a.put o.dst (.slice A' (n + 1) c')) w') :
    if Region.wanted o (yielded ops a.tmps) = true then Oper.wp Tryd.prog o a w K Q else F := by
  obtain ⟨i, hi, hz⟩ := Option.map_eq_some_iff.1 pk_info
  simp only [Prod.mk.injEq] at hz
  refine step_append_E (E := PkE) w hgd s y 131 134 ho i (.agg #[.int .i64 0, .slice none 0 0]) 32 (by kernel_rfl) hi hz.1 hz.2.1 hz.2.2 rfl ok base v n l hv hown b r x hy (fun j u hu => ?_) hrel (by simp [maxLen]; omega) (by omega) hbase h
  rw [hcell.cell j, List.getElem?_toArray]; exact hu
end Go.Proofs.YthiikgjeamoocaaDoor



namespace Go.Proofs.YthiikgjeamoocaaDoor
open Go.RowKit

def InE : Elem Int Int where
  k := 1
  cells x := [.int .i64 x]
  rel _ _ r x := r = x
  pos := by omega
  len _ := rfl
  one r u hu := by simp at hu; subst hu; rfl
  agr h _ := h
  mono h _ := h
theorem flatIn (l : List Int) : flat InE l = l.map (Value.int .i64) := by
  induction l with
  | nil => rfl
  | cons x l ih => simp only [flat, List.flatMap_cons, List.map_cons] at ih ⊢; rw [ih]; rfl
theorem Ints.slE {w : World} {A : Option Addr} {n c : Nat} {xs : List Int} (h : Ints w A n c xs) : Sl InE (fun b => ∃ o, A = some ⟨b, o, none⟩) w A n c xs := by
  refine ⟨h.1, h.2.1, xs, h.1, fun hne => ?_, fun i r x hr hx => by rw [hr] at hx; exact Option.some.inj hx⟩
  have hn : 0 < n := by
    rcases Nat.eq_zero_or_pos n with h0 | h0
    · exfalso; apply hne
      have : xs = [] := List.eq_nil_of_length_eq_zero (by rw [h.1, h0])
      rw [this]; rfl
    · exact h0
  obtain ⟨b, off, e, hc⟩ := h.2.2 hn
  refine ⟨b, off, e, ⟨off, e⟩, fun j u hu => ?_⟩
  rw [flatIn, List.getElem?_map] at hu
  obtain ⟨y, hy, rfl⟩ := Option.map_eq_some_iff.1 hu
  have hj := (List.getElem?_eq_some_iff.1 hy).1
  have e1 := hc j (by have := h.1; omega)
  rw [List.getD_eq_getElem?_getD, hy] at e1
  exact e1
theorem Sl.intsIn {ok : Nat → Prop} {w : World} {A : Option Addr} {n c : Nat} {xs : List Int} (h : Sl InE ok w A n c xs) : Ints w A n c xs := by
  obtain ⟨h1, h2, raw, h3, h4, h5⟩ := h
  have er : raw = xs := List.ext_getElem (by omega) fun i a b => h5 i _ _ (List.getElem?_eq_getElem a) (List.getElem?_eq_getElem b)
  subst er
  refine ⟨h1, h2, fun hn => ?_⟩
  obtain ⟨b, off, e, -, hc⟩ := h4 (by rw [flatIn]; intro e; have : raw.length = 0 := by simpa using congrArg List.length e
                                      omega)
  refine ⟨b, off, e, fun i hi => ?_⟩
  have hi' : i < raw.length := by omega
  exact hc i _ (by rw [flatIn, List.getElem?_map, List.getElem?_eq_getElem hi', List.getD_eq_getElem?_getD, List.getElem?_eq_getElem hi']; rfl)
end Go.Proofs.YthiikgjeamoocaaDoor



namespace Go.Proofs.YthiikgjeamoocaaDoor
open Go.RowKit

def wordI (t : Int) (q : Nat) (ls : List Int) : List Int := (ls.take q).map (belowI · t)
theorem wordI_len (t : Int) (q : Nat) (ls : List Int) : (wordI t q ls).length ≤ q := by simp [wordI]; omega
theorem wordI_mem (t : Int) (q : Nat) (ls : List Int) (ht : 1 ≤ t) : ∀ x ∈ wordI t q ls, 0 ≤ x ∧ x < t := by
  intro x hx
  obtain ⟨y, _, rfl⟩ := List.mem_map.1 hx
  exact ⟨belowI_lo y t ht, belowI_hi y t ht⟩
theorem take_snoc {α : Type} (l : List α) (d : α) (k : Nat) (h : k < l.length) : l.take (k + 1) = l.take k ++ [l.getD k d] := by
  rw [List.take_succ_eq_append_getElem h]; simp [List.getD_eq_getElem?_getD, h]

/-- after k rounds -/
def WordRel (w : World) (t : Int) (n q : Nat) (ls : List Int) (k : Nat) (v : Value) (wr : World) : Prop :=
  k ≤ n ∧ k ≤ q ∧ OwnI wr w.heap.size v k ((ls.take k).map (belowI · t)) ∧ Below w.heap.size w wr
def WordPost (w : World) (t : Int) (q : Nat) (ls : List Int) (e : Ending) (w' : World) : Prop :=
  ∃ v k, e = .returned v ∧ OwnI w' w.heap.size v k (wordI t q ls) ∧ Below w.heap.size w w'
theorem WordRel.done {w : World} {t : Int} {n q : Nat} {ls : List Int} {k : Nat} {v : Value} {wr : World} (h : WordRel w t n q ls k v wr) (hl : ls.length = n) (hk : k = q ∨ k = n) : WordPost w t q ls (.returned v) wr := by
  obtain ⟨h1, h2, h3, h4⟩ := h
  refine ⟨v, k, rfl, ?_, h4⟩
  have : wordI t q ls = (ls.take k).map (belowI · t) := by
    unfold wordI
    rcases hk with rfl | rfl
    · rfl
    · rw [List.take_of_length_le (by omega), List.take_of_length_le (by omega)]
  rw [this]; exact h3

set_option maxHeartbeats 1000000 in
theorem word_c (t : Int) (q : Nat) (A : Option Addr) (n c : Nat) (ls : List Int) (w : World) (h : Ints w A n c ls) (ht : 1 ≤ t) (ht2 : t ≤ 1000000) (hq : q ≤ 1000000) :
    Calls Tryd.prog 11 #[.int .i64 t, .int .i64 (q : Int), .slice A n c] w (WordPost w t q ls) := by
  have HL := Lib.hid h.len
  go_enter Tryd.func11, Tryd.ntmps11
  go_wp2
  go_loopw [7, 12] (fun v i wr => ∃ k : Nat, i = .int .i64 k ∧ WordRel w t n q ls k v wr) (fun _ i _ => n - (intOf i).toNat)
  case atStart => exact ⟨0, rfl, Nat.zero_le _, Nat.zero_le _, OwnI.nil _ _, Below.refl _ _⟩
  case round =>
    obtain ⟨k, rfl, hr⟩ := hrel
    obtain ⟨A1, c1, rfl, hI1⟩ := hr.2.2.1.form
    have hkn := hr.1
    have hkq := hr.2.1
    by_cases hlt : k < n
    · obtain ⟨b, off, hA, hb, hx⟩ := h.at_ hlt
      have hx' : wr.cell? ⟨b, off + k, none⟩ = some (.int .i64 (ls.getD k 0)) := (hr.2.2.2.cell (p := ⟨b, off + k, none⟩) hb).trans hx
      have hsn := take_snoc ls 0 k (by rw [h.len]; exact hlt)
      have HS := Lib.hid hsn
      have HR := Lib.hid hr
      subst hA
      generalize ls.getD k 0 = x at *
      by_cases hkq' : k = q
      · subst hkq'
        clear hsn hr hx h hI1
        have HE := Lib.hid (HR.out.done HL.out (Or.inl rfl))
        clear HR
        go_wp2_with fail
        go_ret
        exact HE.out
      · have k1 : ((k : Int) == (q : Int)) = false := by simp; omega
        have hown := hr.2.2.1
        have hsz := hr.2.2.2.size
        clear hsn hr hx h hI1
        go_wp2_with (first | (go_at_call 22; refine (below_c x t _ (by omega) (by omega)).mono ?_; rintro e w' ⟨rfl, rfl⟩) | (at_builtin; refine wpList_append_ints _ rfl (.tmp 20) (.tmp 24) rfl w.heap.size (.slice A1 k c1) k _ rfl (hown.alloc _) (some ⟨wr.heap.size, 0, none⟩) 1 1 [belowI x t] rfl (Ints.one _ _ _) (by omega) (by simp; omega) ?_; intro Av1 cv1 w1 hown1 hg1 hat1))
        go_roundw
        case rel =>
          refine ⟨k + 1, by go_num, by omega, by omega, ?_, ?_⟩
          · rw [HS.out, List.map_append]; exact hown1
          · exact (HR.out.2.2.1.alloc _).grown (HR.out.2.2.2.alloc hsz _) hg1 (Nat.le_refl _) (by simp; omega)
        case measure => simp [intOf]; omega
    · clear h hI1
      have HE := Lib.hid (hr.done HL.out (Or.inr (by omega)))
      clear hr
      go_wp2_with fail
      go_ret
      exact HE.out
end Go.Proofs.YthiikgjeamoocaaDoor



namespace Go.Proofs.YthiikgjeamoocaaDoor
open Go.RowKit
theorem tree_info : (Tryd.prog.info? 59).map (fun i => (i.zero, i.size, i.bytes)) = some (some (.agg #[.int .i64 0, .int .i64 0, .slice none 0 0]), 3, 40) := by kernel_rfl

def Tr.rl : Tr → Int
  | .leaf _ => -1
  | .node r _ => r
def Tr.tm : Tr → Int
  | .leaf k => k
  | .node _ _ => 0
theorem TreeR.parts {ok : Nat → Prop} {w : World} {v : TrV} {t : Tr} (h : TreeR ok w v t) : v.1 = t.rl ∧ v.2.1 = t.tm ∧ Sl TrE ok w v.2.2.1 v.2.2.2.1 v.2.2.2.2 t.kids := by
  cases t with
  | leaf k => cases h; exact ⟨rfl, rfl, rfl, Nat.zero_le _, [], rfl, Cel.nil, fun i r x hx => by simp at hx⟩
  | node r ks =>
    obtain ⟨a, b, A, n, c⟩ := v
    obtain ⟨rfl, rfl, h3⟩ := h.kids
    exact ⟨rfl, rfl, h3⟩
theorem TreeR.of {ok : Nat → Prop} {w : World} {t : Tr} {A : Option Addr} {n c : Nat} (h : Sl TrE ok w A n c t.kids) : TreeR ok w (t.rl, t.tm, A, n, c) t := by
  cases t with
  | leaf k =>
    have hn : n = 0 := h.len.symm
    subst hn
    exact .leaf k A c
  | node r ks => exact TreeR.mk r h
/-! ### appending a tree -/
theorem step_append_tr {ops : Array Oper} {o : Oper} {a : Act} {K : Act → World → Prop} {Q : Exit → Act → World → Prop} {F : Prop} (w : World) (hgd : o.guard = none) (s y : Operand)
    (ho : o.op = .call { callee := .builtin .append, args := #[s, y], argTypes := #[55, 55] })
    (ok : Nat → Prop) (base : Nat) (v : Value) (n : Nat) (l : List Tr) (hv : a.eval s = v) (hown : Own TrE 59 ok w base v n l)
    (b : Nat) (r : TrV) (x : Tr) (hy : a.eval y = .slice (some ⟨b, 0, none⟩) 1 1) (hcell : Blk w b 59 #[.int .i64 r.1, .int .i64 r.2.1, .slice r.2.2.1 r.2.2.2.1 r.2.2.2.2]) (hrel : TreeR (fun b => ok b ∧ some b ≠ v.ownBlock) w r x)
    (h63 : n + 1 ≤ 1000000) (hbase : base ≤ w.heap.size)
    (h : ∀ A' c' w', Own TrE 59 ok w' base (.slice A' (n + 1) c') (n + 1) (l ++ [x]) → w.grownBy w' v.ownBlock → ((Value.slice A' (n + 1) c').ownBlock = v.ownBlock ∨ (Value.slice A' (n + 1) c').ownBlock = some w.heap.size) → K (a.put o.dst (.slice A' (n + 1) c')) w') :
    if Region.wanted o (yielded ops a.tmps) = true then Oper.wp Tryd.prog o a w K Q else F := by
  obtain ⟨i, hi, hz⟩ := Option.map_eq_some_iff.1 tree_info
  simp only [Prod.mk.injEq] at hz
  refine step_append_E (E := TrE) w hgd s y 55 59 ho i (.agg #[.int .i64 0, .int .i64 0, .slice none 0 0]) 40 (by kernel_rfl) hi hz.1 hz.2.1 hz.2.2 rfl ok base v n l hv hown b r x hy (fun j u hu => ?_) hrel (by simp [maxLen]; omega) (by omega) hbase h
  rw [hcell.cell j]
  rw [List.getElem?_toArray]; exact hu
theorem wpList_append_tr {ops : Array Oper} {rest : List Oper} {o : Oper} {a : Act} {Q : Exit → Act → World → Prop} (w : World) (hgd : o.guard = none) (s y : Operand)
    (ho : o.op = .call { callee := .builtin .append, args := #[s, y], argTypes := #[55, 55] })
    (ok : Nat → Prop) (base : Nat) (v : Value) (n : Nat) (l : List Tr) (hv : a.eval s = v) (hown : Own TrE 59 ok w base v n l)
    (b : Nat) (r : TrV) (x : Tr) (hy : a.eval y = .slice (some ⟨b, 0, none⟩) 1 1) (hcell : Blk w b 59 #[.int .i64 r.1, .int .i64 r.2.1, .slice r.2.2.1 r.2.2.2.1 r.2.2.2.2]) (hrel : TreeR (fun b => ok b ∧ some b ≠ v.ownBlock) w r x)
    (h63 : n + 1 ≤ 1000000) (hbase : base ≤ w.heap.size)
    (h : ∀ A' c' w', Own TrE 59 ok w' base (.slice A' (n + 1) c') (n + 1) (l ++ [x]) → w.grownBy w' v.ownBlock → ((Value.slice A' (n + 1) c').ownBlock = v.ownBlock ∨ (Value.slice A' (n + 1) c').ownBlock = some w.heap.size) → wpList Tryd.prog ops Q rest (a.put o.dst (.slice A' (n + 1) c')) w') : wpList Tryd.prog ops Q (o :: rest) a w := by
  obtain ⟨i, hi, hz⟩ := Option.map_eq_some_iff.1 tree_info
  simp only [Prod.mk.injEq] at hz
  refine wpList_append_E (E := TrE) w hgd s y 55 59 ho i (.agg #[.int .i64 0, .int .i64 0, .slice none 0 0]) 40 (by kernel_rfl) hi hz.1 hz.2.1 hz.2.2 rfl ok base v n l hv hown b r x hy (fun j u hu => ?_) hrel (by simp [maxLen]; omega) (by omega) hbase h
  rw [hcell.cell j]
  rw [List.getElem?_toArray]; exact hu

/-! ### kids -/
/-! ### CopyTree -/
/-! ### Clone -/
end Go.Proofs.YthiikgjeamoocaaDoor



namespace Go.Proofs.YthiikgjeamoocaaDoor
open Go.RowKit

theorem Tr.size_eq (t : Tr) : t.size = Tr.sizes t.kids + 1 := by cases t <;> simp [Tr.size, Tr.kids, Tr.sizes]
theorem Agr.lo {lo : Nat} {w w' : World} (h : Below lo w w') : Agr (fun b => b < lo) w w' := fun b hb _ => h.block b hb

theorem enters_c {P : Program} {f : FuncId} {fn : Func} {c : Code} (hf : P.funcs[f]? = some fn) (hname : (fn.name == "runtime.NumGoroutine") = false) (hb : fn.body = some c) : ∀ (args : Array Value) (w : World), (callFunc f args).run P w = .ok (.enter f args) w := by
  intro args w
  have h1 : fn.name ≠ "runtime.NumGoroutine" := by simpa using hname
  simp [callFunc, hf, h1, hb, mark]

/-! ### Size -/
end Go.Proofs.YthiikgjeamoocaaDoor



namespace Go.Proofs.YthiikgjeamoocaaDoor
open Go.RowKit

/-- what a node gives to the word -/
def Tr.term : Tr → List Int
  | .leaf k => [(k : Int)]
  | .node _ _ => []

theorem OwnI.mono {w : World} {base b' n : Nat} {v : Value} {xs : List Int} (h : OwnI w base v n xs) (hb : b' ≤ base) : OwnI w b' v n xs := by
  refine ⟨h.1, ?_⟩
  rcases h.2 with h0 | ⟨g, cap, cur, h1, h2, h3⟩
  · exact Or.inl h0
  · exact Or.inr ⟨g, cap, cur, h1, Nat.le_trans hb h2, h3⟩

end Go.Proofs.YthiikgjeamoocaaDoor



namespace Go.Proofs.YthiikgjeamoocaaDoor
open Go.RowKit

def cmpI (x y : Int) : Int := if x < y then -1 else if y < x then 1 else 0
def cmpL : List Int → List Int → Int
  | [], [] => 0
  | [], _ :: _ => -1
  | _ :: _, [] => 1
  | x :: xs, y :: ys => if cmpI x y = 0 then cmpL xs ys else cmpI x y
def IntS (w : World) (x : Int) (e : Ending) (w' : World) : Prop := e = .returned (.int .i64 x) ∧ w' = w

set_option maxHeartbeats 1000000 in
theorem nan_c (x : Int) (w : World) : Calls Tryd.prog 66 #[.int .i64 x] w fun e w' => e = .returned (.bool false) ∧ w' = w := by
  go_enter Tryd.func66, Tryd.ntmps66
  go_wp2_with fail
  go_ret
  exact ⟨rfl, rfl⟩
set_option maxHeartbeats 1000000 in
theorem cmp_c (x y : Int) (w : World) : Calls Tryd.prog 53 #[.int .i64 x, .int .i64 y] w (IntS w (cmpI x y)) := by
  by_cases h1 : x < y
  · have hv : cmpI x y = -1 := by simp [cmpI, h1]
    rw [hv]
    clear hv
    go_enter Tryd.func53, Tryd.ntmps53
    go_wp2_with (go_at_call 66; refine (nan_c _ _).mono ?_; rintro e w' ⟨rfl, rfl⟩)
    go_ret
    exact ⟨rfl, rfl⟩
  · by_cases h2 : y < x
    · have hv : cmpI x y = 1 := by simp [cmpI, h1, h2]
      rw [hv]
      clear hv
      go_enter Tryd.func53, Tryd.ntmps53
      go_wp2_with (go_at_call 66; refine (nan_c _ _).mono ?_; rintro e w' ⟨rfl, rfl⟩)
      go_ret
      exact ⟨rfl, rfl⟩
    · have hv : cmpI x y = 0 := by simp [cmpI, h1, h2]
      rw [hv]
      clear hv
      go_enter Tryd.func53, Tryd.ntmps53
      go_wp2_with (go_at_call 66; refine (nan_c _ _).mono ?_; rintro e w' ⟨rfl, rfl⟩)
      go_ret
      exact ⟨rfl, rfl⟩

theorem cmpL_step {xs ys : List Int} {k : Nat} (hx : k < xs.length) (hy : k < ys.length) (h : cmpI (xs.getD k 0) (ys.getD k 0) = 0) : cmpL (xs.drop k) (ys.drop k) = cmpL (xs.drop (k + 1)) (ys.drop (k + 1)) := by
  rw [List.drop_eq_getElem_cons hx, List.drop_eq_getElem_cons hy, cmpL, if_pos]
  simpa [List.getD_eq_getElem?_getD, hx, hy] using h
theorem cmpL_stop {xs ys : List Int} {k : Nat} (hx : k < xs.length) (hy : k < ys.length) (h : cmpI (xs.getD k 0) (ys.getD k 0) ≠ 0) : cmpL (xs.drop k) (ys.drop k) = cmpI (xs.getD k 0) (ys.getD k 0) := by
  rw [List.drop_eq_getElem_cons hx, List.drop_eq_getElem_cons hy, cmpL, if_neg]
  · simp [List.getD_eq_getElem?_getD, hx, hy]
  · simpa [List.getD_eq_getElem?_getD, hx, hy] using h

set_option maxRecDepth 100000 in
set_option maxHeartbeats 4000000 in
theorem cmpL_c (A B : Option Addr) (n c m d : Nat) (xs ys : List Int) (w : World) (h1 : Ints w A n c xs) (h2 : Ints w B m d ys) (hn : n ≤ 1000000) :
    Calls Tryd.prog 62 #[.slice A n c, .slice B m d] w (IntS w (cmpL xs ys)) := by
  have H1 := Lib.hid h1
  have H2 := Lib.hid h2
  have L1 := Lib.hid h1.len
  have L2 := Lib.hid h2.len
  clear h1 h2
  go_enter Tryd.func62, Tryd.ntmps62
  go_wp2_with fail
  go_loopw [11] (fun i wr => ∃ k : Nat, i = .int .i64 k ∧ k ≤ n ∧ k ≤ m ∧ Hid (cmpL xs ys = cmpL (xs.drop k) (ys.drop k)) ∧ wr = w) (fun i _ => n - (intOf i).toNat)
  case atStart => exact ⟨0, rfl, Nat.zero_le _, Nat.zero_le _, Lib.hid rfl, rfl⟩
  case round =>
    obtain ⟨k, rfl, hk, hkm, HC, rfl⟩ := hrel
    by_cases hkn : k < n
    · obtain ⟨b1, o1, rfl, hb1, hx⟩ := H1.out.at_ hkn
      by_cases hk2 : k < m
      · obtain ⟨b2, o2, rfl, hb2, hy⟩ := H2.out.at_ hk2
        have HS := Lib.hid (fun h => cmpL_step (xs := xs) (ys := ys) (k := k) (by rw [L1.out]; exact hkn) (by rw [L2.out]; exact hk2) h)
        have HT := Lib.hid (fun h => cmpL_stop (xs := xs) (ys := ys) (k := k) (by rw [L1.out]; exact hkn) (by rw [L2.out]; exact hk2) h)
        generalize xs.getD k 0 = x at *
        generalize ys.getD k 0 = y at *
        have i0 : (0 : Int) ≤ (k : Int) := by omega
        have i1 : (k : Int) < (n : Int) := by omega
        have i2 : (k : Int) < (m : Int) := by omega
        by_cases hc : cmpI x y = 0
        · have HE := Lib.hid (HC.out.trans (HS.out hc))
          have hc' := hc
          clear HS HT
          go_wp2_with (go_at_call 53; refine (cmp_c _ _ _).mono ?_; rintro e w' ⟨rfl, rfl⟩; rw [hc'])
          exact ⟨⟨k + 1, by go_num, by omega, by omega, HE, by trivial⟩, by simp [intOf]; omega⟩
        · have HE := Lib.hid (HC.out.trans (HT.out hc))
          clear HS HT HC
          have hc2 : (cmpI x y != 0) = true := by simpa using hc
          go_wp2_with (go_at_call 53; refine (cmp_c _ _ _).mono ?_; rintro e w' ⟨rfl, rfl⟩)
          go_ret
          exact ⟨by rw [HE.out]; rfl, rfl⟩
      · have hv : cmpL xs ys = 1 := by
          rw [HC.out, List.drop_of_length_le (l := ys) (by rw [L2.out]; omega), List.drop_eq_getElem_cons (by rw [L1.out]; exact hkn)]; rfl
        have HV := Lib.hid hv
        clear hv
        go_wp2_with fail
        go_ret
        exact ⟨by rw [HV.out]; rfl, rfl⟩
    · by_cases hnm : n < m
      · have hv : cmpL xs ys = -1 := by
          rw [HC.out, List.drop_of_length_le (by rw [L1.out]; omega), List.drop_eq_getElem_cons (by rw [L2.out]; omega)]; rfl
        have HV := Lib.hid hv
        clear hv
        go_wp2_with fail
        go_ret
        exact ⟨by rw [HV.out]; rfl, rfl⟩
      · have hv : cmpL xs ys = 0 := by
          rw [HC.out, List.drop_of_length_le (by rw [L1.out]; omega), List.drop_of_length_le (by rw [L2.out]; omega)]; rfl
        have HV := Lib.hid hv
        clear hv
        go_wp2_with fail
        go_ret
        exact ⟨by rw [HV.out]; rfl, rfl⟩

/-- the first that is not 0 -/
def orL : List Int → Int
  | [] => 0
  | x :: xs => if x = 0 then orL xs else x
theorem orL_step {xs : List Int} {k : Nat} (hx : k < xs.length) (h : xs.getD k 0 = 0) : orL (xs.drop k) = orL (xs.drop (k + 1)) := by
  rw [List.drop_eq_getElem_cons hx, orL, if_pos]
  simpa [List.getD_eq_getElem?_getD, hx] using h
theorem orL_stop {xs : List Int} {k : Nat} (hx : k < xs.length) (h : xs.getD k 0 ≠ 0) : orL (xs.drop k) = xs.getD k 0 := by
  rw [List.drop_eq_getElem_cons hx, orL, if_neg]
  · simp [List.getD_eq_getElem?_getD, hx]
  · simpa [List.getD_eq_getElem?_getD, hx] using h
set_option maxRecDepth 100000 in
set_option maxHeartbeats 4000000 in
theorem or_c (A : Option Addr) (n c : Nat) (xs : List Int) (w : World) (h1 : Ints w A n c xs) (hn : n ≤ 1000000) :
    Calls Tryd.prog 52 #[.slice A n c] w (IntS w (orL xs)) := by
  have H1 := Lib.hid h1
  have L1 := Lib.hid h1.len
  clear h1
  go_enter Tryd.func52, Tryd.ntmps52
  go_wp2_with fail
  go_loopw [8] (fun i wr => ∃ k : Nat, i = .int .i64 k ∧ k ≤ n ∧ Hid (orL xs = orL (xs.drop k)) ∧ wr = w) (fun i _ => n - (intOf i).toNat)
  case atStart => exact ⟨0, rfl, Nat.zero_le _, Lib.hid rfl, rfl⟩
  case round =>
    obtain ⟨k, rfl, hk, HC, rfl⟩ := hrel
    by_cases hkn : k < n
    · obtain ⟨b1, o1, rfl, hb1, hx⟩ := H1.out.at_ hkn
      have HS := Lib.hid (fun h => orL_step (xs := xs) (k := k) (by rw [L1.out]; exact hkn) h)
      have HT := Lib.hid (fun h => orL_stop (xs := xs) (k := k) (by rw [L1.out]; exact hkn) h)
      generalize xs.getD k 0 = x at *
      have i0 : (0 : Int) ≤ (k : Int) := by omega
      have i1 : (k : Int) < (n : Int) := by omega
      by_cases hc : x = 0
      · have HE := Lib.hid (HC.out.trans (HS.out hc))
        subst hc
        clear HS HT
        go_wp2_with fail
        exact ⟨⟨k + 1, by go_num, by omega, HE, by trivial⟩, by simp [intOf]; omega⟩
      · have HE := Lib.hid (HC.out.trans (HT.out hc))
        clear HS HT HC
        have hc2 : (x != 0) = true := by simpa using hc
        go_wp2_with fail
        go_ret
        exact ⟨by rw [HE.out]; rfl, rfl⟩
    · have hv : orL xs = 0 := by
        rw [HC.out, List.drop_of_length_le (by rw [L1.out]; omega)]; rfl
      have HV := Lib.hid hv
      clear hv
      go_wp2_with fail
      go_ret
      exact ⟨by rw [HV.out]; rfl, rfl⟩
end Go.Proofs.YthiikgjeamoocaaDoor

