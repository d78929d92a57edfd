/- Texts BA, RD, RF, RS, RT, RU, RB, RC, RL, RM, ZA, ZB, ZC, HP, AC, laid together. -/
import Derived.Test.YtfmnmgnhanogmaaDoorQ2
import Derived.Lib.AppendZerosOnto
import Derived.Lib.AppendZeros
import Derived.Lib.TrailingZeros
import Derived.Laws.BitsAllLaws


namespace Go.Proofs.YtfmnmgnhanogmaaDoor
open Go.RowKit

/-- a symbol with a part of the word -/
abbrev Ky := Sy × Nat × Nat
section
variable (D : Ky → Bool)
def someF : List Sy → Nat → Nat → Bool
  | [], i, j => decide (i = j)
  | s :: l, i, j => (List.range (j + 1 - i)).any fun q => D (s, i, i + q) && someF l (i + q) j
def waysF : List Sy → Nat → Nat → List (List Ky)
  | [], i, j => if i = j then [[]] else []
  | s :: l, i, j => (List.range (j + 1 - i)).flatMap fun q => if (D (s, i, i + q) && someF D l (i + q) j) = true then (waysF l (i + q) j).map ((s, i, i + q) :: ·) else []
/-- the packs of a node by rule n -/
def packN (R : List Ru) (k : Ky) (n : Nat) : List (Nat × List Ky) := match R[n]? with
  | some u => if u.1 = k.1.2 ∧ k.1.1 = false then (waysF D u.2 k.2.1 k.2.2).map fun p => (n, p) else []
  | none => []
/-- .. by the first m rules -/
def packT (R : List Ru) (k : Ky) (m : Nat) : List (Nat × List Ky) := (List.range m).flatMap (packN D R k)
def packsF (R : List Ru) (k : Ky) : List (Nat × List Ky) := packT D R k R.length
end
section
variable {D : Ky → Bool}
theorem some_iff {s : Sy} {l : List Sy} {i j : Nat} : someF D (s :: l) i j = true ↔ ∃ p, i ≤ p ∧ p ≤ j ∧ D (s, i, p) = true ∧ someF D l p j = true := by
  simp only [someF, List.any_eq_true, List.mem_range, Bool.and_eq_true]
  constructor
  · rintro ⟨q, hq, h1, h2⟩; exact ⟨i + q, by omega, by omega, h1, h2⟩
  · rintro ⟨p, h1, h2, h3, h4⟩
    refine ⟨p - i, by omega, ?_⟩
    rw [show i + (p - i) = p by omega]; exact ⟨h3, h4⟩
theorem ways_nil {l : List Sy} {i j : Nat} (h : someF D l i j = false) : waysF D l i j = [] := by
  cases l with
  | nil => simp only [someF, decide_eq_false_iff_not] at h; simp [waysF, h]
  | cons s l =>
    simp only [waysF, List.flatMap_eq_nil_iff]
    intro q hq
    simp only [someF, List.any_eq_false] at h
    rw [if_neg (h q hq)]
/-- what a way is -/
inductive IsWay (D : Ky → Bool) : List Sy → Nat → Nat → List Ky → Prop
  | nil (i : Nat) : IsWay D [] i i []
  | cons {s : Sy} {l : List Sy} {i p j : Nat} {w : List Ky} : i ≤ p → p ≤ j → D (s, i, p) = true → IsWay D l p j w → IsWay D (s :: l) i j ((s, i, p) :: w)
theorem IsWay.some {l : List Sy} {i j : Nat} {w : List Ky} (h : IsWay D l i j w) : someF D l i j = true := by
  induction h with
  | nil i => simp [someF]
  | cons h1 h2 h3 _ ih => exact some_iff.2 ⟨_, h1, h2, h3, ih⟩
theorem IsWay.le {l : List Sy} {i j : Nat} {w : List Ky} (h : IsWay D l i j w) : i ≤ j := by
  induction h with
  | nil i => exact Nat.le_refl _
  | cons h1 h2 _ _ _ => omega
theorem ways_iff {l : List Sy} : ∀ {i j : Nat} {w : List Ky}, w ∈ waysF D l i j ↔ IsWay D l i j w := by
  induction l with
  | nil =>
    intro i j w
    simp only [waysF]
    constructor
    · intro h
      by_cases e : i = j
      · rw [if_pos e] at h; simp at h; subst h; subst e; exact .nil i
      · rw [if_neg e] at h; simp at h
    · intro h; cases h; simp
  | cons s l ih =>
    intro i j w
    simp only [waysF, List.mem_flatMap, List.mem_range]
    constructor
    · rintro ⟨q, hq, h⟩
      by_cases e : (D (s, i, i + q) && someF D l (i + q) j) = true
      · rw [if_pos e] at h
        obtain ⟨w', hw', rfl⟩ := List.mem_map.1 h
        simp only [Bool.and_eq_true] at e
        exact .cons (by omega) (by omega) e.1 (ih.1 hw')
      · rw [if_neg e] at h; simp at h
    · intro h
      cases h with
      | @cons _ _ _ p _ w' h1 h2 h3 h4 =>
        refine ⟨p - i, by omega, ?_⟩
        rw [show i + (p - i) = p by omega, if_pos (by rw [h3, h4.some]; rfl)]
        exact List.mem_map.2 ⟨w', ih.2 h4, rfl⟩
theorem IsWay.mem {l : List Sy} {i j : Nat} {w : List Ky} (h : IsWay D l i j w) : ∀ q ∈ w, D q = true ∧ i ≤ q.2.1 ∧ q.2.1 ≤ q.2.2 ∧ q.2.2 ≤ j ∧ q.1 ∈ l := by
  induction h with
  | nil i => intro q hq; simp at hq
  | cons h1 h2 h3 h4 ih =>
    intro q hq
    rcases List.mem_cons.1 hq with rfl | hq
    · exact ⟨h3, Nat.le_refl _, h1, h2, by simp⟩
    · obtain ⟨k1, k2, k3, k4, k5⟩ := ih q hq
      exact ⟨k1, by omega, k3, k4, by simp [k5]⟩
theorem IsWay.len {l : List Sy} {i j : Nat} {w : List Ky} (h : IsWay D l i j w) : w.length = l.length := by
  induction h with
  | nil i => rfl
  | cons _ _ _ _ ih => simp [ih]
theorem packN_mem {R : List Ru} {k : Ky} {n : Nat} {p : Nat × List Ky} (h : p ∈ packN D R k n) : p.1 = n ∧ k.1.1 = false ∧ ∃ u, R[n]? = some u ∧ u.1 = k.1.2 ∧ IsWay D u.2 k.2.1 k.2.2 p.2 := by
  unfold packN at h
  cases hu : R[n]? with
  | none => rw [hu] at h; simp at h
  | some u =>
    rw [hu] at h
    simp only at h
    by_cases e : u.1 = k.1.2 ∧ k.1.1 = false
    · rw [if_pos e] at h
      obtain ⟨w, hw, rfl⟩ := List.mem_map.1 h
      exact ⟨rfl, e.2, u, rfl, e.1, ways_iff.1 hw⟩
    · rw [if_neg e] at h; simp at h
theorem packs_mem {R : List Ru} {k : Ky} {p : Nat × List Ky} (h : p ∈ packsF D R k) : k.1.1 = false ∧ ∃ u, R[p.1]? = some u ∧ u.1 = k.1.2 ∧ IsWay D u.2 k.2.1 k.2.2 p.2 := by
  unfold packsF packT at h
  obtain ⟨n, -, h⟩ := List.mem_flatMap.1 h
  obtain ⟨rfl, h2, h3⟩ := packN_mem h
  exact ⟨h2, h3⟩
theorem packs_mem2 {R : List Ru} {k : Ky} {n : Nat} {u : Ru} {w : List Ky} (h1 : k.1.1 = false) (h2 : R[n]? = some u) (h3 : u.1 = k.1.2) (h4 : IsWay D u.2 k.2.1 k.2.2 w) : (n, w) ∈ packsF D R k := by
  unfold packsF packT
  refine List.mem_flatMap.2 ⟨n, List.mem_range.2 (List.getElem?_eq_some_iff.1 h2).1, ?_⟩
  unfold packN
  rw [h2]
  simp only [h3, h1, and_self, if_true]
  exact List.mem_map.2 ⟨w, ways_iff.2 h4, rfl⟩
theorem packT_next (R : List Ru) (k : Ky) (m : Nat) : packT D R k (m + 1) = packT D R k m ++ packN D R k m := by
  unfold packT; rw [List.range_succ, List.flatMap_append]; simp

/-! ### the order of nodes -/
/-- keys of small size: their number tells them -/
def Ky.Ok (k : Ky) : Prop := k.2.1 < 100 ∧ k.2.2 < 100 ∧ k.1.2 < 100
end
end Go.Proofs.YtfmnmgnhanogmaaDoor



namespace Go.Proofs.YtfmnmgnhanogmaaDoor
open Go.RowKit

def wordI (t : Int) (q : Nat) (ls : List Int) : List Int := (ls.take q).map (belowI · t)
theorem wordI_len (t : Int) (q : Nat) (ls : List Int) : (wordI t q ls).length ≤ q := by simp [wordI]; omega
theorem wordI_mem (t : Int) (q : Nat) (ls : List Int) (ht : 1 ≤ t) : ∀ x ∈ wordI t q ls, 0 ≤ x ∧ x < t := by
  intro x hx
  obtain ⟨y, _, rfl⟩ := List.mem_map.1 hx
  exact ⟨belowI_lo y t ht, belowI_hi y t ht⟩
theorem take_snoc {α : Type} (l : List α) (d : α) (k : Nat) (h : k < l.length) : l.take (k + 1) = l.take k ++ [l.getD k d] := by
  rw [List.take_succ_eq_append_getElem h]; simp [List.getD_eq_getElem?_getD, h]

/-- after k rounds -/
def WordRel (w : World) (t : Int) (n q : Nat) (ls : List Int) (k : Nat) (v : Value) (wr : World) : Prop :=
  k ≤ n ∧ k ≤ q ∧ OwnI wr w.heap.size v k ((ls.take k).map (belowI · t)) ∧ Below w.heap.size w wr
def WordPost (w : World) (t : Int) (q : Nat) (ls : List Int) (e : Ending) (w' : World) : Prop :=
  ∃ v k, e = .returned v ∧ OwnI w' w.heap.size v k (wordI t q ls) ∧ Below w.heap.size w w'
theorem WordRel.done {w : World} {t : Int} {n q : Nat} {ls : List Int} {k : Nat} {v : Value} {wr : World} (h : WordRel w t n q ls k v wr) (hl : ls.length = n) (hk : k = q ∨ k = n) : WordPost w t q ls (.returned v) wr := by
  obtain ⟨h1, h2, h3, h4⟩ := h
  refine ⟨v, k, rfl, ?_, h4⟩
  have : wordI t q ls = (ls.take k).map (belowI · t) := by
    unfold wordI
    rcases hk with rfl | rfl
    · rfl
    · rw [List.take_of_length_le (by omega), List.take_of_length_le (by omega)]
  rw [this]; exact h3

set_option maxHeartbeats 1000000 in
theorem word_c (t : Int) (q : Nat) (A : Option Addr) (n c : Nat) (ls : List Int) (w : World) (h : Ints w A n c ls) (ht : 1 ≤ t) (ht2 : t ≤ 1000000) (hq : q ≤ 1000000) :
    Calls Tryd.prog 21 #[.int .i64 t, .int .i64 (q : Int), .slice A n c] w (WordPost w t q ls) := by
  have HL := Lib.hid h.len
  go_enter Tryd.func21, Tryd.ntmps21
  go_wp2
  go_loopw [7, 12] (fun v i wr => ∃ k : Nat, i = .int .i64 k ∧ WordRel w t n q ls k v wr) (fun _ i _ => n - (intOf i).toNat)
  case atStart => exact ⟨0, rfl, Nat.zero_le _, Nat.zero_le _, OwnI.nil _ _, Below.refl _ _⟩
  case round =>
    obtain ⟨k, rfl, hr⟩ := hrel
    obtain ⟨A1, c1, rfl, hI1⟩ := hr.2.2.1.form
    have hkn := hr.1
    have hkq := hr.2.1
    by_cases hlt : k < n
    · obtain ⟨b, off, hA, hb, hx⟩ := h.at_ hlt
      have hx' : wr.cell? ⟨b, off + k, none⟩ = some (.int .i64 (ls.getD k 0)) := (hr.2.2.2.cell (p := ⟨b, off + k, none⟩) hb).trans hx
      have hsn := take_snoc ls 0 k (by rw [h.len]; exact hlt)
      have HS := Lib.hid hsn
      have HR := Lib.hid hr
      subst hA
      generalize ls.getD k 0 = x at *
      by_cases hkq' : k = q
      · subst hkq'
        clear hsn hr hx h hI1
        have HE := Lib.hid (HR.out.done HL.out (Or.inl rfl))
        clear HR
        go_wp2_with fail
        go_ret
        exact HE.out
      · have k1 : ((k : Int) == (q : Int)) = false := by simp; omega
        have hown := hr.2.2.1
        have hsz := hr.2.2.2.size
        clear hsn hr hx h hI1
        go_wp2_with (first | (go_at_call 49; refine (below_c x t _ (by omega) (by omega)).mono ?_; rintro e w' ⟨rfl, rfl⟩) | (at_builtin; refine wpList_append_ints _ rfl (.tmp 20) (.tmp 24) rfl w.heap.size (.slice A1 k c1) k _ rfl (hown.alloc _) (some ⟨wr.heap.size, 0, none⟩) 1 1 [belowI x t] rfl (Ints.one _ _ _) (by omega) (by simp; omega) ?_; intro Av1 cv1 w1 hown1 hg1 hat1))
        go_roundw
        case rel =>
          refine ⟨k + 1, by go_num, by omega, by omega, ?_, ?_⟩
          · rw [HS.out, List.map_append]; exact hown1
          · exact (HR.out.2.2.1.alloc _).grown (HR.out.2.2.2.alloc hsz _) hg1 (Nat.le_refl _) (by simp; omega)
        case measure => simp [intOf]; omega
    · clear h hI1
      have HE := Lib.hid (hr.done HL.out (Or.inr (by omega)))
      clear hr
      go_wp2_with fail
      go_ret
      exact HE.out
end Go.Proofs.YtfmnmgnhanogmaaDoor



namespace Go.Proofs.YtfmnmgnhanogmaaDoor
open Go.RowKit
theorem tree_info : (Tryd.prog.info? 34).map (fun i => (i.zero, i.size, i.bytes)) = some (some (.agg #[.int .i64 0, .int .i64 0, .slice none 0 0]), 3, 40) := by kernel_rfl

def Tr.rl : Tr → Int
  | .leaf _ => -1
  | .node r _ => r
def Tr.tm : Tr → Int
  | .leaf k => k
  | .node _ _ => 0
theorem TreeR.parts {ok : Nat → Prop} {w : World} {v : TrV} {t : Tr} (h : TreeR ok w v t) : v.1 = t.rl ∧ v.2.1 = t.tm ∧ Sl TrE ok w v.2.2.1 v.2.2.2.1 v.2.2.2.2 t.kids := by
  cases t with
  | leaf k => cases h; exact ⟨rfl, rfl, rfl, Nat.zero_le _, [], rfl, Cel.nil, fun i r x hx => by simp at hx⟩
  | node r ks =>
    obtain ⟨a, b, A, n, c⟩ := v
    obtain ⟨rfl, rfl, h3⟩ := h.kids
    exact ⟨rfl, rfl, h3⟩
theorem TreeR.of {ok : Nat → Prop} {w : World} {t : Tr} {A : Option Addr} {n c : Nat} (h : Sl TrE ok w A n c t.kids) : TreeR ok w (t.rl, t.tm, A, n, c) t := by
  cases t with
  | leaf k =>
    have hn : n = 0 := h.len.symm
    subst hn
    exact .leaf k A c
  | node r ks => exact TreeR.mk r h
theorem Tr.size_kid {t x : Tr} (h : x ∈ t.kids) : x.size < t.size := by
  cases t with
  | leaf k => simp [Tr.kids] at h
  | node r ks => have := Tr.size_mem (ks := ks) h; simp only [Tr.size]; omega
theorem Tr.kids_len (t : Tr) : t.kids.length < t.size := by
  cases t with
  | leaf k => simp [Tr.kids, Tr.size]
  | node r ks =>
    simp only [Tr.kids, Tr.size]
    have : ∀ l : List Tr, l.length ≤ Tr.sizes l := by
      intro l
      induction l with
      | nil => simp
      | cons a l ih => have := a.size_pos; simp only [List.length_cons, Tr.sizes]; omega
    have := this ks
    omega

/-! ### appending a tree -/
theorem step_append_tr {ops : Array Oper} {o : Oper} {a : Act} {K : Act → World → Prop} {Q : Exit → Act → World → Prop} {F : Prop} (w : World) (hgd : o.guard = none) (s y : Operand)
    (ho : o.op = .call { callee := .builtin .append, args := #[s, y], argTypes := #[32, 32] })
    (ok : Nat → Prop) (base : Nat) (v : Value) (n : Nat) (l : List Tr) (hv : a.eval s = v) (hown : Own TrE 34 ok w base v n l)
    (b : Nat) (r : TrV) (x : Tr) (hy : a.eval y = .slice (some ⟨b, 0, none⟩) 1 1) (hcell : Blk w b 34 #[.int .i64 r.1, .int .i64 r.2.1, .slice r.2.2.1 r.2.2.2.1 r.2.2.2.2]) (hrel : TreeR (fun b => ok b ∧ some b ≠ v.ownBlock) w r x)
    (h63 : n + 1 ≤ 1000000) (hbase : base ≤ w.heap.size)
    (h : ∀ A' c' w', Own TrE 34 ok w' base (.slice A' (n + 1) c') (n + 1) (l ++ [x]) → w.grownBy w' v.ownBlock → ((Value.slice A' (n + 1) c').ownBlock = v.ownBlock ∨ (Value.slice A' (n + 1) c').ownBlock = some w.heap.size) → K (a.put o.dst (.slice A' (n + 1) c')) w') :
    if Region.wanted o (yielded ops a.tmps) = true then Oper.wp Tryd.prog o a w K Q else F := by
  obtain ⟨i, hi, hz⟩ := Option.map_eq_some_iff.1 tree_info
  simp only [Prod.mk.injEq] at hz
  refine step_append_E (E := TrE) w hgd s y 32 34 ho i (.agg #[.int .i64 0, .int .i64 0, .slice none 0 0]) 40 (by kernel_rfl) hi hz.1 hz.2.1 hz.2.2 rfl ok base v n l hv hown b r x hy (fun j u hu => ?_) hrel (by simp [maxLen]; omega) (by omega) hbase h
  rw [hcell.cell j]
  rw [List.getElem?_toArray]; exact hu
/-! ### kids -/
/-! ### CopyTree -/
def CopyP (w : World) (t : Tr) (e : Ending) (w' : World) : Prop := ∃ v, e = .returned (trVal v) ∧ TreeR (fun b => w.heap.size ≤ b) w' v t ∧ Below w.heap.size w w'
structure CpRel (w : World) (t : Tr) (k : Nat) (v : Value) (wr : World) : Prop where
  b1 : Blk wr (w.heap.size + 1) 34 #[.int .i64 0, .int .i64 0, .slice none 0 0]
  b2 : Blk wr (w.heap.size + 1 + 1) 34 #[.int .i64 t.rl, .int .i64 t.tm, v]
  own : Own TrE 34 (fun b => w.heap.size + 3 ≤ b) wr (w.heap.size + 3) v k (t.kids.take k)
  bel : Below w.heap.size w wr
  size : w.heap.size + 3 ≤ wr.heap.size

theorem CpRel.via {w wr wa : World} {t : Tr} {k : Nat} {v : Value} (h : CpRel w t k v wr) (hb : Below wr.heap.size wr wa) : CpRel w t k v wa :=
  ⟨h.b1.via hb, h.b2.via hb, h.own.via hb, h.bel.via hb, Nat.le_trans h.size hb.size⟩
theorem CpRel.push {w wr w1 : World} {t y : Tr} {k : Nat} {v v' : Value} (h : CpRel w t k v wr) (hy : t.kids[k]? = some y) (ho : Own TrE 34 (fun b => w.heap.size + 3 ≤ b) w1 (w.heap.size + 3) v' (k + 1) (t.kids.take k ++ [y])) (hg : wr.grownBy w1 v.ownBlock) :
    CpRel w t (k + 1) v' (w1.setCell ⟨w.heap.size + 1 + 1, 2, none⟩ v') := by
  have hne : ∀ j, j < w.heap.size + 3 → some j ≠ v.ownBlock := fun j hj e => by have := (h.own.lt j e.symm).1; omega
  have hsz := h.size
  refine ⟨?_, ?_, ?_, ?_, ?_⟩
  · exact (h.b1.grown hg (hne _ (by omega))).far (by simp) _
  · have := (h.b2.grown hg (hne _ (by omega))).set_ 2 v'; simpa using this
  · have e : t.kids.take (k + 1) = t.kids.take k ++ [y] := by
      have hl := (List.getElem?_eq_some_iff.1 hy)
      rw [List.take_succ_eq_append_getElem hl.1, hl.2]
    rw [e]
    exact ho.setCell _ (fun b hb => by show b ≠ w.heap.size + 1 + 1; omega) (by show w.heap.size + 1 + 1 < _; omega)
  · exact (h.bel.grown hg (by omega) fun j hj => by have := (h.own.lt j hj).1; omega).setCell (by simp; omega) _
  · have := hg.size; simp; omega

/-! ### Clone -/
end Go.Proofs.YtfmnmgnhanogmaaDoor



namespace Go.Proofs.YtfmnmgnhanogmaaDoor
open Go.RowKit

theorem Agr.lo {lo : Nat} {w w' : World} (h : Below lo w w') : Agr (fun b => b < lo) w w' := fun b hb _ => h.block b hb

theorem enters_c {P : Program} {f : FuncId} {fn : Func} {c : Code} (hf : P.funcs[f]? = some fn) (hname : (fn.name == "runtime.NumGoroutine") = false) (hb : fn.body = some c) : ∀ (args : Array Value) (w : World), (callFunc f args).run P w = .ok (.enter f args) w := by
  intro args w
  have h1 : fn.name ≠ "runtime.NumGoroutine" := by simpa using hname
  simp [callFunc, hf, h1, hb, mark]

/-! ### Size -/
end Go.Proofs.YtfmnmgnhanogmaaDoor



namespace Go.Proofs.YtfmnmgnhanogmaaDoor
open Go.RowKit

/-- what a node gives to the word -/
def Tr.term : Tr → List Int
  | .leaf k => [(k : Int)]
  | .node _ _ => []

theorem OwnI.mono {w : World} {base b' n : Nat} {v : Value} {xs : List Int} (h : OwnI w base v n xs) (hb : b' ≤ base) : OwnI w b' v n xs := by
  refine ⟨h.1, ?_⟩
  rcases h.2 with h0 | ⟨g, cap, cur, h1, h2, h3⟩
  · exact Or.inl h0
  · exact Or.inr ⟨g, cap, cur, h1, Nat.le_trans hb h2, h3⟩

end Go.Proofs.YtfmnmgnhanogmaaDoor



namespace Go.Proofs.YtfmnmgnhanogmaaDoor
open Go.RowKit

def cmpI (x y : Int) : Int := if x < y then -1 else if y < x then 1 else 0
def cmpL : List Int → List Int → Int
  | [], [] => 0
  | [], _ :: _ => -1
  | _ :: _, [] => 1
  | x :: xs, y :: ys => if cmpI x y = 0 then cmpL xs ys else cmpI x y
def IntS (w : World) (x : Int) (e : Ending) (w' : World) : Prop := e = .returned (.int .i64 x) ∧ w' = w

set_option maxHeartbeats 1000000 in
theorem nan_c (x : Int) (w : World) : Calls Tryd.prog 78 #[.int .i64 x] w fun e w' => e = .returned (.bool false) ∧ w' = w := by
  go_enter Tryd.func78, Tryd.ntmps78
  go_wp2_with fail
  go_ret
  exact ⟨rfl, rfl⟩
set_option maxHeartbeats 1000000 in
theorem cmp_c (x y : Int) (w : World) : Calls Tryd.prog 70 #[.int .i64 x, .int .i64 y] w (IntS w (cmpI x y)) := by
  by_cases h1 : x < y
  · have hv : cmpI x y = -1 := by simp [cmpI, h1]
    rw [hv]
    clear hv
    go_enter Tryd.func70, Tryd.ntmps70
    go_wp2_with (go_at_call 78; refine (nan_c _ _).mono ?_; rintro e w' ⟨rfl, rfl⟩)
    go_ret
    exact ⟨rfl, rfl⟩
  · by_cases h2 : y < x
    · have hv : cmpI x y = 1 := by simp [cmpI, h1, h2]
      rw [hv]
      clear hv
      go_enter Tryd.func70, Tryd.ntmps70
      go_wp2_with (go_at_call 78; refine (nan_c _ _).mono ?_; rintro e w' ⟨rfl, rfl⟩)
      go_ret
      exact ⟨rfl, rfl⟩
    · have hv : cmpI x y = 0 := by simp [cmpI, h1, h2]
      rw [hv]
      clear hv
      go_enter Tryd.func70, Tryd.ntmps70
      go_wp2_with (go_at_call 78; refine (nan_c _ _).mono ?_; rintro e w' ⟨rfl, rfl⟩)
      go_ret
      exact ⟨rfl, rfl⟩

/-- the first that is not 0 -/
def orL : List Int → Int
  | [] => 0
  | x :: xs => if x = 0 then orL xs else x
theorem orL_step {xs : List Int} {k : Nat} (hx : k < xs.length) (h : xs.getD k 0 = 0) : orL (xs.drop k) = orL (xs.drop (k + 1)) := by
  rw [List.drop_eq_getElem_cons hx, orL, if_pos]
  simpa [List.getD_eq_getElem?_getD, hx] using h
theorem orL_stop {xs : List Int} {k : Nat} (hx : k < xs.length) (h : xs.getD k 0 ≠ 0) : orL (xs.drop k) = xs.getD k 0 := by
  rw [List.drop_eq_getElem_cons hx, orL, if_neg]
  · simp [List.getD_eq_getElem?_getD, hx]
  · simpa [List.getD_eq_getElem?_getD, hx] using h
set_option maxRecDepth 100000 in
set_option maxHeartbeats 4000000 in
theorem or_c (A : Option Addr) (n c : Nat) (xs : List Int) (w : World) (h1 : Ints w A n c xs) (hn : n ≤ 1000000) :
    Calls Tryd.prog 69 #[.slice A n c] w (IntS w (orL xs)) := by
  have H1 := Lib.hid h1
  have L1 := Lib.hid h1.len
  clear h1
  go_enter Tryd.func69, Tryd.ntmps69
  go_wp2_with fail
  go_loopw [8] (fun i wr => ∃ k : Nat, i = .int .i64 k ∧ k ≤ n ∧ Hid (orL xs = orL (xs.drop k)) ∧ wr = w) (fun i _ => n - (intOf i).toNat)
  case atStart => exact ⟨0, rfl, Nat.zero_le _, Lib.hid rfl, rfl⟩
  case round =>
    obtain ⟨k, rfl, hk, HC, rfl⟩ := hrel
    by_cases hkn : k < n
    · obtain ⟨b1, o1, rfl, hb1, hx⟩ := H1.out.at_ hkn
      have HS := Lib.hid (fun h => orL_step (xs := xs) (k := k) (by rw [L1.out]; exact hkn) h)
      have HT := Lib.hid (fun h => orL_stop (xs := xs) (k := k) (by rw [L1.out]; exact hkn) h)
      generalize xs.getD k 0 = x at *
      have i0 : (0 : Int) ≤ (k : Int) := by omega
      have i1 : (k : Int) < (n : Int) := by omega
      by_cases hc : x = 0
      · have HE := Lib.hid (HC.out.trans (HS.out hc))
        subst hc
        clear HS HT
        go_wp2_with fail
        exact ⟨⟨k + 1, by go_num, by omega, HE, by trivial⟩, by simp [intOf]; omega⟩
      · have HE := Lib.hid (HC.out.trans (HT.out hc))
        clear HS HT HC
        have hc2 : (x != 0) = true := by simpa using hc
        go_wp2_with fail
        go_ret
        exact ⟨by rw [HE.out]; rfl, rfl⟩
    · have hv : orL xs = 0 := by
        rw [HC.out, List.drop_of_length_le (by rw [L1.out]; omega)]; rfl
      have HV := Lib.hid hv
      clear hv
      go_wp2_with fail
      go_ret
      exact ⟨by rw [HV.out]; rfl, rfl⟩
end Go.Proofs.YtfmnmgnhanogmaaDoor



namespace Go.Proofs.YtfmnmgnhanogmaaDoor
open Go.RowKit

section
variable {c0 c1 : Int} {g : Int → Int → Int → Int}
variable {xs ys : List Int}
end

/-- a counter on its way down -/
def down : Nat → Int
  | 0 => -1
  | k + 1 => (k : Int)
/-! ### make -/
def mkCells (z : Value) (n : Nat) : Array Value := madeCells #[z] n
theorem mkCells_size (z : Value) (n : Nat) : (mkCells z n).size = n := size_madeCells _ _
/-! ### a table in memory: the rows from i on are filled -/
section
variable {w w' : World} {bd n m i lo : Nat} {rb : Nat → Nat} {V : Nat → Nat → Int}
end
section
variable {w : World} {bd m k b j : Nat} {V : Nat → Int}
end
end Go.Proofs.YtfmnmgnhanogmaaDoor



namespace Go.Proofs.YtfmnmgnhanogmaaDoor
open Go.RowKit

/-! ### alignments: w is turned into v at cost k (c0: insert, c1: delete, c2: replace) -/
section
variable {c0 c1 c2 : Int}
/-! ### one letter -/
def mn (a b : Int) : Int := if b < a then b else a
/-- the least cost of turning a part into one letter -/
def oneC (c0 c1 c2 t : Int) (p : List Int) : Int :=
  if t ∈ p then mn (mn (c0 + (p.length : Int) * c1) (c2 + ((p.length : Int) - 1) * c1)) (((p.length : Int) - 1) * c1)
  else if p = [] then c0 + (p.length : Int) * c1 else mn (c0 + (p.length : Int) * c1) (c2 + ((p.length : Int) - 1) * c1)
end
/-! ### words of lists of symbols -/
inductive Dv (rules : List Ru) : List Sy → List Int → Prop
  | nil : Dv rules [] []
  | term (t : Nat) {l : List Sy} {v : List Int} (h : Dv rules l v) : Dv rules ((true, t) :: l) ((t : Int) :: v)
  | non (N : Nat) {rhs l : List Sy} {u v : List Int} (hr : (N, rhs) ∈ rules) (h1 : Dv rules rhs u) (h2 : Dv rules l v) : Dv rules ((false, N) :: l) (u ++ v)
section
variable {rules : List Ru}
theorem Dv.append {a b : List Sy} {u v : List Int} (h : Dv rules a u) (k : Dv rules b v) : Dv rules (a ++ b) (u ++ v) := by
  induction h with
  | nil => simpa using k
  | term t _ ih => exact .term t ih
  | non N hr h1 _ _ ih => rw [List.append_assoc]; exact .non N hr h1 ih
theorem Dv.one {s : Nat} {rhs : List Sy} {v : List Int} (hr : (s, rhs) ∈ rules) (h : Dv rules rhs v) : Dv rules [(false, s)] v := by
  have := Dv.non s hr h (Dv.nil (rules := rules))
  simpa using this
theorem Dv.letter (t : Nat) : Dv rules [(true, t)] [(t : Int)] := .term t .nil
end

/-! ### ways -/
structure Way where
  cost : Int
  size : Int
  w : List Int
  ok : Bool
def Way.no : Way := ⟨0, 0, [], false⟩
def wcmp (a b : Way) : Int := orL [cmpI a.cost b.cost, cmpI a.size b.size, cmpL a.w b.w]
def lessW (a b : Way) : Bool := if !b.ok || !a.ok then a.ok else decide (wcmp a b < 0)
def thenW (a b : Way) : Way := ⟨a.cost + b.cost, a.size + b.size, if (a.ok && b.ok) && decide (a.size + b.size ≤ 2000) then a.w ++ b.w else [], a.ok && b.ok⟩
def hopeW (a b t : Way) : Bool := if !a.ok || !b.ok then true else t.ok && decide (orL [cmpI (a.cost + b.cost) t.cost, cmpI (a.size + b.size) t.size] > 0)
theorem cmpI_zero {x y : Int} : cmpI x y = 0 ↔ x = y := by unfold cmpI; split <;> (try split) <;> omega
/-! ### rows of ways -/
def upd (f : Nat → Way) (j : Nat) (y : Way) : Nat → Way := fun i => if i = j then y else f i
/-- one step: a, then the way x of the next symbol, at place j -/
def goJ (a x : Way) (next : Nat → Way) (j : Nat) : Nat → Way :=
  if hopeW a x (next j) then next else if lessW (thenW a x) (next j) then upd next j (thenW a x) else next
/-- m steps from place k on -/
def rowJ (a : Way) (sym : Nat → Way) (k : Nat) (next : Nat → Way) : Nat → Nat → Way
  | 0 => next
  | m + 1 => goJ a (sym (k + m)) (rowJ a sym k next m) (k + m)
/-- from m places on, the first one i; the last place is n -/
def rowK (at_ : Nat → Way) (sym : Nat → Nat → Way) (n i : Nat) : Nat → Nat → Way
  | 0 => fun _ => Way.no
  | m + 1 => if (at_ (i + m)).ok then rowJ (at_ (i + m)) (sym (i + m)) (i + m) (rowK at_ sym n i m) (n + 1 - (i + m)) else rowK at_ sym n i m
def symW (c0 c1 c2 : Int) (w : List Int) (st : Nat → Nat → Nat → Way) (s : Sy) (i j : Nat) : Way :=
  if s.1 then ⟨oneC c0 c1 c2 (s.2 : Int) ((w.take j).drop i), 1, [(s.2 : Int)], true⟩ else st s.2 i j
def ruleAt (c0 c1 c2 : Int) (w : List Int) (st : Nat → Nat → Nat → Way) (n i : Nat) : List Sy → (Nat → Way)
  | l => l.foldl (fun f s => rowK f (symW c0 c1 c2 w st s) n i (n + 1 - i)) (upd (fun _ => Way.no) i ⟨0, 0, [], true⟩)
def ruleW (c0 c1 c2 : Int) (w : List Int) (st : Nat → Nat → Nat → Way) (n i : Nat) (l : List Sy) : Nat → Way :=
  if l = [] then (fun j => if i ≤ j ∧ j ≤ n then ⟨((j : Int) - (i : Int)) * c1, 0, [], true⟩ else Way.no) else ruleAt c0 c1 c2 w st n i l

end Go.Proofs.YtfmnmgnhanogmaaDoor



namespace Go.Proofs.YtfmnmgnhanogmaaDoor
open Go.RowKit

/-! ### the fixed point knows every word: completeness -/
def part (w : List Int) (i j : Nat) : List Int := (w.take j).drop i
theorem part_len {w : List Int} {i j : Nat} (h2 : j ≤ w.length) : (part w i j).length = j - i := by simp [part]; omega
theorem part_split {w p1 p2 : List Int} {i j : Nat} (h1 : i ≤ j) (h2 : j ≤ w.length) (h : part w i j = p1 ++ p2) : ∃ m, i ≤ m ∧ m ≤ j ∧ part w i m = p1 ∧ part w m j = p2 := by
  have hl := part_len (i := i) h2
  rw [h, List.length_append] at hl
  refine ⟨i + p1.length, by omega, by omega, ?_, ?_⟩
  · have e : part w i (i + p1.length) = (part w i j).take p1.length := by
      unfold part
      rw [List.take_drop, List.take_take]
      congr 2; omega
    rw [e, h]; simp
  · have e : part w (i + p1.length) j = (part w i j).drop p1.length := by
      unfold part; rw [List.drop_drop]
    rw [e, h]; simp
theorem part_all (w : List Int) : part w 0 w.length = w := by simp [part]
theorem part_same (w : List Int) (i : Nat) : part w i i = [] := by simp [part]
theorem part_append {w : List Int} {i m j : Nat} (h1 : i ≤ m) (h2 : m ≤ j) : part w i m ++ part w m j = part w i j := by
  have e : (w.take j).drop i = ((w.take j).drop i).take (m - i) ++ ((w.take j).drop i).drop (m - i) := (List.take_append_drop _ _).symm
  unfold part
  rw [e, List.drop_drop, List.take_drop, List.take_take]
  congr 2 <;> (congr 1; omega)

section
variable {c0 c1 c2 : Int} {w : List Int} {st : Nat → Nat → Nat → Way} {n i : Nat}
theorem snoc_induction {α : Type} {P : List α → Prop} (h0 : P []) (hs : ∀ l a, P l → P (l ++ [a])) (l : List α) : P l := by
  have : ∀ (k : Nat) (l : List α), l.length = k → P l := by
    intro k
    induction k with
    | zero => intro l h; rw [List.length_eq_zero_iff.1 h]; exact h0
    | succ k ih =>
      intro l h
      rcases List.eq_nil_or_concat l with rfl | ⟨a, b, rfl⟩
      · exact h0
      · rw [List.concat_eq_append]
        exact hs a b (ih a (by simp at h; exact h))
  exact this _ l rfl
end
section
variable {c0 c1 c2 : Int} {rules : List Ru} {w : List Int} {st : Nat → Nat → Nat → Way}
end

/-! ### what is kept is the way to a word: soundness -/
section
variable {c0 c1 c2 : Int} {rules : List Ru} {w : List Int} {st : Nat → Nat → Nat → Way}
end
/-! ### bounds -/
section
variable {c0 c1 c2 : Int} {w : List Int} {st : Nat → Nat → Nat → Way}
end

/-! ### states: which nonterminals have a way, and what it costs at the most -/
structure Pm where
  c0 : Int
  c1 : Int
  c2 : Int
  nons : Nat
  rules : List Ru
  w : List Int
structure Pm.Ok (p : Pm) : Prop where
  c0 : 1 ≤ p.c0 ∧ p.c0 ≤ 100
  c1 : 1 ≤ p.c1 ∧ p.c1 ≤ 100
  c2 : 1 ≤ p.c2 ∧ p.c2 ≤ 100
  nons : p.nons ≤ 10
  left : ∀ r ∈ p.rules, r.1 < p.nons
  right : ∀ r ∈ p.rules, r.2.length ≤ 4
  lets : ∀ r ∈ p.rules, ∀ s ∈ r.2, s.1 = true → s.2 < 8
  len : p.w.length ≤ 12
abbrev WSt := Nat → Nat → Nat → Way
def Pm.rule (p : Pm) (st : WSt) (i : Nat) (l : List Sy) : Nat → Way := ruleW p.c0 p.c1 p.c2 p.w st p.w.length i l
def Pm.sym (p : Pm) (st : WSt) (s : Sy) (i j : Nat) : Way := symW p.c0 p.c1 p.c2 p.w st s i j
def cnt (nons : Nat) (st : WSt) : Nat := ((List.range nons).filter fun N => (st N 0 0).ok).length
section
variable {p : Pm} {st st1 stI : WSt} {r : Ru} {i j : Nat}
end
end Go.Proofs.YtfmnmgnhanogmaaDoor



namespace Go.Proofs.YtfmnmgnhanogmaaDoor
open Go.RowKit

/-! ### every step makes a state smaller -/
def long : Nat := 2000
def sumTo (f : Nat → Nat) : Nat → Nat
  | 0 => 0
  | n + 1 => sumTo f n + f n
theorem sumTo_le {f g : Nat → Nat} (n : Nat) (h : ∀ k, f k ≤ g k) : sumTo f n ≤ sumTo g n := by
  induction n with
  | zero => exact Nat.le_refl _
  | succ n ih => have := h n; simp only [sumTo]; omega
theorem sumTo_lt {f g : Nat → Nat} {n k : Nat} (h : ∀ k, f k ≤ g k) (hk : k < n) (hl : f k < g k) : sumTo f n < sumTo g n := by
  induction n with
  | zero => omega
  | succ n ih =>
    simp only [sumTo]
    by_cases e : k = n
    · subst e; have := sumTo_le (f := f) (g := g) k h; omega
    · have := ih (by omega); have := h n; omega
/-- the letters of a word -/
theorem Dv.lets {rules : List Ru} {B : Nat} (hr : ∀ r ∈ rules, ∀ s ∈ r.2, s.1 = true → s.2 < B) {l : List Sy} {v : List Int} (h : Dv rules l v) : (∀ s ∈ l, s.1 = true → s.2 < B) → ∀ y ∈ v, 0 ≤ y ∧ y < (B : Int) := by
  induction h with
  | nil => intro _ y hy; cases hy
  | @term t l v h ih =>
    intro hl y hy
    rcases List.mem_cons.1 hy with rfl | hy
    · have := hl (true, t) (List.mem_cons_self ..) rfl
      simp only at this; omega
    · exact ih (fun s hs => hl s (List.mem_cons_of_mem _ hs)) y hy
  | @non N rhs l u v hm h1 h2 ih1 ih2 =>
    intro hl y hy
    rcases List.mem_append.1 hy with hy | hy
    · exact ih1 (hr _ hm) y hy
    · exact ih2 (fun s hs => hl s (List.mem_cons_of_mem _ hs)) y hy
section
variable {p : Pm} {st st1 stI : WSt} {r : Ru} {i j : Nat}
end
end Go.Proofs.YtfmnmgnhanogmaaDoor



namespace Go.Proofs.YtfmnmgnhanogmaaDoor
open Go.RowKit

/-! ### rows by folding -/
/-! ### cells, and words that fit them -/
abbrev Ce := Bool × Int
def gpart {α : Type} (w : List α) (i j : Nat) : List α := (w.take j).drop i
section
variable {α : Type}
theorem gpart_one {w : List α} {i : Nat} {c : α} (h : gpart w i (i + 1) = [c]) : w[i]? = some c := by
  have : (gpart w i (i + 1))[0]? = some c := by rw [h]; rfl
  unfold gpart at this
  rw [List.getElem?_drop, List.getElem?_take, if_pos (by omega)] at this
  exact this
theorem gpart_at {w : List α} {i : Nat} {c : α} (h : w[i]? = some c) : gpart w i (i + 1) = [c] := by
  have hl := List.getElem?_eq_some_iff.1 h
  have hl1 := hl.1
  unfold gpart
  rw [List.take_succ_eq_append_getElem hl.1, List.drop_append_of_le_length (by rw [List.length_take]; omega), List.drop_of_length_le (by rw [List.length_take]; omega), hl.2]; rfl
end
section
variable {rules : List Ru}
end

/-! ### the table of hole -/
section
variable {rules : List Ru} {cells : List Ce} {st : WSt}
end
section
variable {rules : List Ru} {cells : List Ce} {st stI : WSt} {r : Ru} {i j nons : Nat}
end
end Go.Proofs.YtfmnmgnhanogmaaDoor





namespace Go.Proofs.YtfmnmgnhanogmaaDoor
open Go.RowKit

/-! ### the or of some masks, one for each bit -/
def gath (C : Nat → Nat) : Nat → Nat → Nat
  | 0, _ => 0
  | m + 1, y => if y.testBit m then gath C m y ||| C m else gath C m y
theorem gath_bit (C : Nat → Nat) (y j : Nat) : ∀ m, (gath C m y).testBit j = true ↔ ∃ p, p < m ∧ y.testBit p = true ∧ (C p).testBit j = true
  | 0 => by simp [gath]
  | m + 1 => by
    rw [gath]
    by_cases hm : y.testBit m = true
    · rw [if_pos hm, Nat.testBit_or, Bool.or_eq_true, gath_bit C y j m]
      constructor
      · rintro (⟨p, h1, h2, h3⟩ | h)
        · exact ⟨p, by omega, h2, h3⟩
        · exact ⟨m, by omega, hm, h⟩
      · rintro ⟨p, h1, h2, h3⟩
        by_cases e : p = m
        · subst e; exact Or.inr h3
        · exact Or.inl ⟨p, by omega, h2, h3⟩
    · rw [if_neg hm, gath_bit C y j m]
      constructor
      · rintro ⟨p, h1, h2, h3⟩; exact ⟨p, by omega, h2, h3⟩
      · rintro ⟨p, h1, h2, h3⟩
        by_cases e : p = m
        · subst e; exact absurd h2 hm
        · exact ⟨p, by omega, h2, h3⟩
theorem gath_zero (C : Nat → Nat) : ∀ m, gath C m 0 = 0
  | 0 => rfl
  | m + 1 => by rw [gath, if_neg (by simp), gath_zero C m]
/-- the lowest bit taken away -/
theorem low_bit {x : Nat} (h0 : x ≠ 0) (h : x < 4294967296) : ∃ k, k = Lib.ctz 32 x ∧ k < 32 ∧ x &&& (x - 1) < x ∧ ∀ p, x.testBit p = true ↔ p = k ∨ (x &&& (x - 1)).testBit p = true := by
  obtain ⟨m, hm, hk⟩ := Lib.ctzFrom_spec 32 x (by omega) (by omega)
  have e : Lib.ctz 32 x = Lib.ctzFrom 32 x := by simp [Lib.ctz, h0]
  rw [e]
  generalize Lib.ctzFrom 32 x = k at *
  have hp : 0 < 2 ^ k := Nat.pos_of_ne_zero (by simp)
  have key : ∀ p, (x - 1).testBit p = if p < k then true else if p = k then false else x.testBit p := by
    intro p
    have e1 : x - 1 = 2 ^ k * (2 * m) + (2 ^ k - 1) := by rw [hm, Nat.mul_add]; omega
    rw [e1, Nat.testBit_two_pow_mul_add _ (by omega), Nat.testBit_two_pow_sub_one]
    by_cases h1 : p < k
    · simp [h1]
    · rw [if_neg h1, if_neg h1, hm, Nat.mul_comm (2 ^ k), Nat.testBit_mul_two_pow]
      by_cases h2 : p = k
      · subst h2; simp [Nat.testBit_zero]
      · obtain ⟨q, rfl⟩ : ∃ q, p = k + (q + 1) := ⟨p - k - 1, by omega⟩
        rw [if_neg h2]
        have e2 : k + (q + 1) - k = q + 1 := by omega
        rw [e2, Nat.testBit_succ, Nat.testBit_succ]
        have d1 : 2 * m / 2 = m := by omega
        have d2 : (2 * m + 1) / 2 = m := by omega
        rw [d1, d2]; simp
  have hx : ∀ p, x.testBit p = if p < k then false else if p = k then true else x.testBit p := by
    intro p
    by_cases h1 : p < k
    · rw [if_pos h1, hm, Nat.mul_comm (2 ^ k), Nat.testBit_mul_two_pow]; simp; omega
    · rw [if_neg h1]
      by_cases h2 : p = k
      · subst h2; rw [if_pos rfl, hm, Nat.mul_comm (2 ^ p), Nat.testBit_mul_two_pow]; simp [Nat.testBit_zero]
      · rw [if_neg h2]
  refine ⟨k, rfl, hk, ?_, fun p => ?_⟩
  · have := Nat.and_le_right (n := x) (m := x - 1); omega
  · rw [Nat.testBit_and, key]
    by_cases h1 : p < k
    · have := hx p; rw [if_pos h1] at this
      simp [h1, this]; omega
    · rw [if_neg h1]
      by_cases h2 : p = k
      · subst h2
        have := hx p; rw [if_neg h1, if_pos rfl] at this
        simp [this]
      · simp [h2]
theorem gath_step (C : Nat → Nat) {x : Nat} (h0 : x ≠ 0) (h : x < 4294967296) : gath C 32 x = C (Lib.ctz 32 x) ||| gath C 32 (x &&& (x - 1)) := by
  obtain ⟨k, rfl, hk, _, hb⟩ := low_bit h0 h
  apply Nat.eq_of_testBit_eq
  intro j
  rw [Nat.testBit_or]
  have e1 := gath_bit C x j 32
  have e2 := gath_bit C (x &&& (x - 1)) j 32
  rw [Bool.eq_iff_iff, Bool.or_eq_true, e1, e2]
  constructor
  · rintro ⟨p, h1, h2, h3⟩
    rcases (hb p).1 h2 with rfl | h4
    · exact Or.inl h3
    · exact Or.inr ⟨p, h1, h4, h3⟩
  · rintro (h3 | ⟨p, h1, h2, h3⟩)
    · exact ⟨_, hk, (hb _).2 (Or.inl rfl), h3⟩
    · exact ⟨p, h1, (hb p).2 (Or.inr h2), h3⟩

/-! ### ends -/
abbrev EnS := Nat → Nat → Nat
def cOf (xs : List Int) (E : EnS) (s : Sy) (p : Nat) : Nat := if s.1 then (if xs[p]? = some (s.2 : Int) then 2 ^ (p + 1) else 0) else E s.2 p
def stepM (xs : List Int) (E : EnS) (s : Sy) (y : Nat) : Nat := gath (cOf xs E s) 32 y
def reachM (xs : List Int) (E : EnS) (l : List Sy) (i : Nat) : Nat := l.foldl (fun y s => stepM xs E s y) (2 ^ i)
theorem reachM_snoc (xs : List Int) (E : EnS) (l : List Sy) (s : Sy) (i : Nat) : reachM xs E (l ++ [s]) i = stepM xs E s (reachM xs E l i) := by simp [reachM, List.foldl_append]
theorem stepM_bit {xs : List Int} {E : EnS} {s : Sy} {y j : Nat} : (stepM xs E s y).testBit j = true ↔ ∃ p, p < 32 ∧ y.testBit p = true ∧ (cOf xs E s p).testBit j = true := gath_bit _ _ _ _
structure SndE (rules : List Ru) (xs : List Int) (E : EnS) : Prop where
  snd : ∀ N i j, (E N i).testBit j = true → i ≤ j ∧ j ≤ xs.length ∧ Dv rules [(false, N)] (part xs i j)
section
variable {rules : List Ru} {xs : List Int} {E : EnS}
theorem SndE.start (rules : List Ru) (xs : List Int) : SndE rules xs (fun _ _ => 0) := ⟨fun _ _ _ h => by simp at h⟩
theorem lt_of_bits {n x : Nat} (h : ∀ j, x.testBit j = true → j ≤ n) : x < 2 ^ (n + 1) :=
  Nat.lt_pow_two_of_testBit x fun j hj => by
    cases hb : x.testBit j with
    | false => rfl
    | true => have := h j hb; omega
theorem SndE.lt (h : SndE rules xs E) (N i : Nat) : E N i < 2 ^ (xs.length + 1) := lt_of_bits fun j hj => (h.snd N i j hj).2.1
theorem SndE.reach (h : SndE rules xs E) (l : List Sy) {i : Nat} (hi : i ≤ xs.length) : ∀ j, (reachM xs E l i).testBit j = true → i ≤ j ∧ j ≤ xs.length ∧ Dv rules l (part xs i j) := by
  induction l using snoc_induction with
  | h0 =>
    intro j hj
    simp only [reachM, List.foldl_nil, Nat.testBit_two_pow, decide_eq_true_eq] at hj
    subst hj
    exact ⟨Nat.le_refl _, hi, by rw [part_same]; exact .nil⟩
  | hs l s ih =>
    intro j hj
    rw [reachM_snoc, stepM_bit] at hj
    obtain ⟨p, hp, h1, h2⟩ := hj
    obtain ⟨h3, h4, h5⟩ := ih p h1
    obtain ⟨b, t⟩ := s
    cases b with
    | false =>
      simp only [cOf, Bool.false_eq_true, if_false] at h2
      obtain ⟨h6, h7, h8⟩ := h.snd _ _ _ h2
      exact ⟨by omega, h7, by rw [← part_append h3 h6]; exact h5.append h8⟩
    | true =>
      simp only [cOf, if_true] at h2
      by_cases hx : xs[p]? = some (t : Int)
      · rw [if_pos hx, Nat.testBit_two_pow, decide_eq_true_eq] at h2
        subst h2
        have hl := (List.getElem?_eq_some_iff.1 hx).1
        refine ⟨by omega, by omega, ?_⟩
        rw [← part_append h3 (Nat.le_succ p)]
        have e : part xs p (p + 1) = [(t : Int)] := gpart_at hx
        rw [e]
        exact h5.append (Dv.letter t)
      · rw [if_neg hx] at h2; simp at h2
theorem SndE.put (h : SndE rules xs E) {r : Ru} (hr : r ∈ rules) {i : Nat} (hi : i ≤ xs.length) : SndE rules xs (fun N k => if N = r.1 ∧ k = i then E r.1 i ||| reachM xs E r.2 i else E N k) := by
  refine ⟨fun N k j hj => ?_⟩
  by_cases e : N = r.1 ∧ k = i
  · obtain ⟨rfl, rfl⟩ := e
    rw [if_pos ⟨rfl, rfl⟩, Nat.testBit_or, Bool.or_eq_true] at hj
    rcases hj with hj | hj
    · exact h.snd _ _ _ hj
    · obtain ⟨h1, h2, h3⟩ := h.reach r.2 hi j hj
      exact ⟨h1, h2, Dv.one hr h3⟩
  · rw [if_neg e] at hj; exact h.snd _ _ _ hj
/-- nothing more is found -/
def FixE (rules : List Ru) (xs : List Int) (E : EnS) : Prop := ∀ r ∈ rules, ∀ i, i ≤ xs.length → ∀ j, (reachM xs E r.2 i).testBit j = true → (E r.1 i).testBit j = true
theorem FixE.all (hf : FixE rules xs E) (hl : xs.length < 32) {l : List Sy} {v : List Int} (h : Dv rules l v) : ∀ i j, i ≤ j → j ≤ xs.length → v = part xs i j → ∀ l0 a, (reachM xs E l0 a).testBit i = true → (reachM xs E (l0 ++ l) a).testBit j = true := by
  induction h with
  | nil =>
    intro i j h1 h2 e l0 a ha
    have := part_len (i := i) h2
    rw [← e] at this
    simp at this
    obtain rfl : i = j := by omega
    simpa using ha
  | @term t l v h ih =>
    intro i j h1 h2 e l0 a ha
    obtain ⟨m, m1, m2, e1, e2⟩ := part_split (p1 := [(t : Int)]) h1 h2 e.symm
    have hm : m = i + 1 := by
      have := part_len (w := xs) (i := i) (j := m) (by omega)
      rw [e1] at this; simp at this; omega
    subst hm
    have hx : xs[i]? = some (t : Int) := gpart_one e1
    have := ih (i + 1) j m2 h2 e2.symm (l0 ++ [(true, t)]) a (by
      rw [reachM_snoc, stepM_bit]
      exact ⟨i, by omega, ha, by simp [cOf, hx]⟩)
    simpa using this
  | @non N rhs l u v hr hu hv ih1 ih2 =>
    intro i j h1 h2 e l0 a ha
    obtain ⟨m, m1, m2, e1, e2⟩ := part_split h1 h2 e.symm
    have h3 := ih1 i m m1 (by omega) e1.symm [] i (by simp [reachM])
    have h4 : (E N i).testBit m = true := hf _ hr i (by omega) m (by simpa using h3)
    have := ih2 m j m2 h2 e2.symm (l0 ++ [(false, N)]) a (by
      rw [reachM_snoc, stepM_bit]
      exact ⟨i, by omega, ha, by simpa [cOf] using h4⟩)
    simpa using this
theorem ends_iff (hs : SndE rules xs E) (hf : FixE rules xs E) (hl : xs.length < 32) (N : Nat) : (E N 0).testBit xs.length = true ↔ Dv rules [(false, N)] xs := by
  constructor
  · intro h
    have := (hs.snd N 0 _ h).2.2
    rwa [part_all] at this
  · intro h
    have := hf.all hl h 0 xs.length (Nat.zero_le _) (Nat.le_refl _) (part_all xs).symm [] 0 (by simp [reachM])
    rw [List.nil_append, show [(false, N)] = [] ++ [((false, N) : Sy)] from rfl, reachM_snoc, stepM_bit] at this
    obtain ⟨p, hp, h1, h2⟩ := this
    simp only [reachM, List.foldl_nil, Nat.testBit_two_pow, decide_eq_true_eq] at h1
    subst h1
    simpa [cOf] using h2
end

/-! ### how much is still to be found -/
def totE (nons n : Nat) (E : EnS) : Nat := sumTo (fun N => sumTo (fun i => 8192 - E N i) (n + 1)) nons
theorem totE_lt {nons n : Nat} {E : EnS} {N i y : Nat} (hN : N < nons) (hi : i ≤ n) (h : E N i < y) (hy : y ≤ 8192) : totE nons n (fun a b => if a = N ∧ b = i then y else E a b) < totE nons n E := by
  have key : ∀ a b, 8192 - (if a = N ∧ b = i then y else E a b) ≤ 8192 - E a b := fun a b => by
    by_cases e : a = N ∧ b = i
    · obtain ⟨rfl, rfl⟩ := e; rw [if_pos ⟨rfl, rfl⟩]; omega
    · rw [if_neg e]; exact Nat.le_refl _
  refine sumTo_lt (k := N) (fun a => sumTo_le _ fun b => key a b) hN (sumTo_lt (k := i) (fun b => key N b) (by omega) ?_)
  show 8192 - (if N = N ∧ i = i then y else E N i) < 8192 - E N i
  rw [if_pos ⟨rfl, rfl⟩]; omega
theorem or_lt_of {e x : Nat} (h : x &&& (4294967295 - e) ≠ 0) (he : e < 4294967296) : e < e ||| x := by
  have h1 : e ≤ e ||| x := Nat.left_le_or
  rcases Nat.lt_or_eq_of_le h1 with h2 | h2
  · exact h2
  · exfalso
    apply h
    apply Nat.eq_of_testBit_eq
    intro j
    rw [Nat.zero_testBit, Nat.testBit_and, show 4294967295 - e = 2 ^ 32 - (e + 1) by omega, Nat.testBit_two_pow_sub_succ (by omega)]
    have h3 : (e ||| x).testBit j = e.testBit j := by rw [← h2]
    rw [Nat.testBit_or] at h3
    cases hx : x.testBit j with
    | false => rfl
    | true =>
      rw [hx, Bool.or_true] at h3
      rw [← h3]; simp
theorem sub_of {e x : Nat} (h : x &&& (4294967295 - e) = 0) (he : e < 4294967296) (hx : x < 4294967296) (j : Nat) (hj : x.testBit j = true) : e.testBit j = true := by
  have h1 : (x &&& (4294967295 - e)).testBit j = false := by rw [h]; simp
  rw [Nat.testBit_and, show 4294967295 - e = 2 ^ 32 - (e + 1) by omega, Nat.testBit_two_pow_sub_succ (by omega), hj] at h1
  have hjl : j < 32 := by
    rcases Nat.lt_or_ge j 32 with h2 | h2
    · exact h2
    · have := Nat.testBit_lt_two_pow (x := x) (i := j) (Nat.lt_of_lt_of_le hx (by
        have := Nat.pow_le_pow_right (n := 2) (by omega) h2
        omega))
      rw [this] at hj; cases hj
  simpa [hjl] using h1
end Go.Proofs.YtfmnmgnhanogmaaDoor

