/- Texts KA, KB, KC, KN, KO, KP, laid together. -/
import Derived.Test.YthiikgjeamoocaaDoorRows
import Derived.WalkKit
import Derived.WalkSpells
import Derived.WalkLawsBesides
import Derived.BigQuiet
import Derived.Deep.QuietTactic
import Derived.Deep.RegionHeld3
import Derived.StillTailTactics
import Derived.Deep.DeepFit
import Derived.Deep.DeepCutAuto
import Derived.Deep.LoopGhost
import Derived.Deep.DeepMust
import Derived.Lib.Hide
import Derived.Maps.AppendAt
import Derived.Deep.AppendLies
import Derived.Laws.StructEq
















namespace Go.Proofs.YthiikgjeamoocaaDoor
open Go.RowKit

/-- the slice value '.slice A n c' reads as xs in w -/
def Ints (w : World) (A : Option Addr) (n c : Nat) (xs : List Int) : Prop :=
  xs.length = n ∧ n ≤ c ∧ (0 < n → ∃ b off, A = some ⟨b, off, none⟩ ∧ ∀ i, i < n → w.cell? ⟨b, off + i, none⟩ = some (.int .i64 (xs.getD i 0)))

section
variable {w w' : World} {A : Option Addr} {n c : Nat} {xs : List Int}
theorem Ints.len (h : Ints w A n c xs) : xs.length = n := h.1
theorem Ints.le (h : Ints w A n c xs) : n ≤ c := h.2.1
theorem Ints.nil (w : World) : Ints w none 0 0 [] := ⟨rfl, Nat.le_refl _, fun h => absurd h (by omega)⟩
theorem Ints.at_ (h : Ints w A n c xs) {k : Nat} (hk : k < n) : ∃ b off, A = some ⟨b, off, none⟩ ∧ b < w.heap.size ∧ w.cell? ⟨b, off + k, none⟩ = some (.int .i64 (xs.getD k 0)) := by
  obtain ⟨b, off, e, hc⟩ := h.2.2 (by omega)
  have := hc k hk
  exact ⟨b, off, e, World.block_lt_of_cell? w _ this, this⟩
theorem Ints.keep (h : Ints w A n c xs) {B : Nat} (hb : Below B w w') (hB : w.heap.size ≤ B) : Ints w' A n c xs :=
  ⟨h.1, h.2.1, fun hn => by
    obtain ⟨b, off, e, hc⟩ := h.2.2 hn
    refine ⟨b, off, e, fun i hi => ?_⟩
    rw [hb.cell (p := ⟨b, off + i, none⟩)]
    · exact hc i hi
    · exact Nat.lt_of_lt_of_le (World.block_lt_of_cell? w _ (hc i hi)) hB⟩
theorem Ints.drewN (h : Ints w A n c xs) (k : Nat) : Ints (w.drewN k) A n c xs := h
theorem Ints.cut (h : Ints w A n c xs) {l m : Nat} (hl : l ≤ m) (hm : m ≤ n) :
    Ints w (if c = l then A else A.map (·.add (l * 1))) (m - l) (c - l) ((xs.take m).drop l) := by
  have hle := h.2.1
  refine ⟨by simp [h.1]; omega, by omega, fun hn => ?_⟩
  obtain ⟨b, off, e, hc⟩ := h.2.2 (by omega)
  rw [if_neg (by omega)]
  refine ⟨b, off + l, ?_, fun i hi => ?_⟩
  · subst e; simp only [Option.map_some, Nat.mul_one]
    unfold Addr.add
    split
    · rename_i h0; simp [h0]
    · rfl
  · have := hc (l + i) (by omega)
    rw [← Nat.add_assoc] at this
    rw [this]
    congr 2
    simp only [List.getD_eq_getElem?_getD, List.getElem?_drop, List.getElem?_take]
    rw [if_pos (by omega)]
theorem Ints.head (h : Ints w A n c xs) {m : Nat} (hm : m ≤ n) : Ints w A m c (xs.take m) := by
  refine ⟨by simp [h.1]; omega, Nat.le_trans hm h.2.1, fun hn => ?_⟩
  obtain ⟨b, off, e, hc⟩ := h.2.2 (by omega)
  refine ⟨b, off, e, fun i hi => ?_⟩
  rw [hc i (by omega)]
  congr 2
  simp only [List.getD_eq_getElem?_getD, List.getElem?_take]
  rw [if_pos hi]
theorem Ints.mid (h : Ints w A n c xs) {l m : Nat} (hl : l ≤ m) (hm : m ≤ n) : ∃ A', (if c = l then A else Option.map (fun x => x.add l) A) = A' ∧ Ints w A' (m - l) (c - l) ((xs.take m).drop l) := by
  have h' := Ints.cut h hl hm
  rw [Nat.mul_one] at h'
  exact ⟨_, rfl, h'⟩
theorem Ints.drew (h : Ints w A n c xs) : Ints w.drew A n c xs := h
end

@[go_sem] theorem World.cell?_setCell_apart (w : World) (b i c j : Nat) (v : Value) (h : b ≠ c) : (w.setCell ⟨b, i, none⟩ v).cell? ⟨c, j, none⟩ = w.cell? ⟨c, j, none⟩ :=
  World.cell?_setCell_other w _ _ v (fun e => h (congrArg Addr.block e))

/-- block g is just the cells cs, of element type t, none frozen -/
def Blk (w : World) (g : Nat) (t : TypeId) (cs : Array Value) : Prop := w.heap[g]? = some (.cells cs t (0, 0))
section
variable {w w' : World} {g : Nat} {t : TypeId} {cs : Array Value}
theorem Blk.lt (h : Blk w g t cs) : g < w.heap.size := (Array.getElem?_eq_some_iff.1 h).1
theorem Blk.cell (h : Blk w g t cs) (i : Nat) : w.cell? ⟨g, i, none⟩ = cs[i]? := cell_of_row w g i cs t (0, 0) h
theorem Blk.frozen (h : Blk w g t cs) (i : Nat) : w.frozen? ⟨g, i, none⟩ = false := by
  unfold Blk at h
  simp [World.frozen?, h]
theorem Blk.new (w : World) (t : TypeId) (cs : Array Value) : Blk (w.alloc (.cells cs t)) w.heap.size t cs := heap_alloc_new w _
theorem Blk.drew (h : Blk w g t cs) : Blk w.drew g t cs := h
theorem Blk.alloc (h : Blk w g t cs) (o : Obj) : Blk (w.alloc o) g t cs := (Below.heap_alloc w o g h.lt).trans h
theorem Blk.set_ (h : Blk w g t cs) (i : Nat) (u : Value) : Blk (w.setCell ⟨g, i, none⟩ u) g t (cs.setIfInBounds i u) := by
  unfold Blk at h ⊢
  simp [World.setCell, Array.getElem?_modify, h]
theorem Blk.far (h : Blk w g t cs) {p : Addr} (hp : g ≠ p.block) (u : Value) : Blk (w.setCell p u) g t cs := (Below.heap_setCell w p u g hp).trans h
theorem Blk.below {B : Nat} (h : Blk w g t cs) (hb : Below B w w') (hg : g < B) : Blk w' g t cs := (hb.block g hg).trans h
theorem Blk.grown {row : Option Nat} (h : Blk w g t cs) (hb : w.grownBy w' row) (hg : some g ≠ row) : Blk w' g t cs := (hb.block g h.lt hg).trans h
end

/-! facts carried over a call ('via'), over a new block ('al'), over a draw ('dr') -/
section
variable {w w' w0 : World} {A : Option Addr} {n c g : Nat} {xs : List Int} {t : TypeId} {cs : Array Value}
theorem Ints.via (h : Ints w A n c xs) (hb : Below w.heap.size w w') : Ints w' A n c xs := h.keep hb (Nat.le_refl _)
theorem Ints.al (h : Ints w A n c xs) (o : Obj) : Ints (w.alloc o) A n c xs := h.keep ((Below.refl w.heap.size w).alloc (Nat.le_refl _) o) (Nat.le_refl _)
theorem Ints.dr (h : Ints w A n c xs) : Ints w.drew A n c xs := h
theorem Blk.via (h : Blk w g t cs) (hb : Below w.heap.size w w') : Blk w' g t cs := h.below hb h.lt
theorem Blk.al (h : Blk w g t cs) (o : Obj) : Blk (w.alloc o) g t cs := h.alloc o
theorem Blk.dr (h : Blk w g t cs) : Blk w.drew g t cs := h
theorem _root_.Go.RowKit.Below.via (h : Below w0.heap.size w0 w) (hb : Below w.heap.size w w') : Below w0.heap.size w0 w' := h.trans (hb.mono h.size)
theorem _root_.Go.RowKit.Below.al (h : Below w0.heap.size w0 w) (o : Obj) : Below w0.heap.size w0 (w.alloc o) := h.alloc h.size o
theorem _root_.Go.RowKit.Below.dr (h : Below w0.heap.size w0 w) : Below w0.heap.size w0 w.drew := h.drew
/-- a store elsewhere -/
theorem Ints.far (h : Ints w A n c xs) {p : Addr} (hp : ∀ ad, A = some ad → ad.block ≠ p.block) (u : Value) : Ints (w.setCell p u) A n c xs := by
  refine ⟨h.1, h.2.1, fun hn => ?_⟩
  obtain ⟨b, off, e, hc⟩ := h.2.2 hn
  refine ⟨b, off, e, fun i hi => ?_⟩
  rw [World.cell?_setCell_other w p ⟨b, off + i, none⟩ u (fun e' => hp _ e (by rw [e']))]
  exact hc i hi
end

/-- parlmake.Below on plain integers -/
def belowI (x n : Int) : Int := if x.tmod n < 0 then x.tmod n + n else x.tmod n
theorem tmod_lo (x n : Int) (h : 1 ≤ n) : -n < x.tmod n := by
  rcases Int.le_total 0 x with hx | hx
  · have := Int.tmod_nonneg (b := n) hx; omega
  · have h1 := Int.tmod_lt_of_pos (-x) (show 0 < n by omega)
    rw [Int.neg_tmod] at h1; omega
theorem belowI_lo (x n : Int) (h1 : 1 ≤ n) : 0 ≤ belowI x n := by
  have := Int.tmod_lt_of_pos x (show 0 < n by omega)
  have := tmod_lo x n h1
  unfold belowI; split <;> omega
theorem belowI_hi (x n : Int) (h1 : 1 ≤ n) : belowI x n < n := by
  have := Int.tmod_lt_of_pos x (show 0 < n by omega)
  unfold belowI; split <;> omega

set_option maxHeartbeats 400000 in
theorem below_c (x n : Int) (w : World) (h1 : 1 ≤ n) (h2 : n ≤ 1000000000000) :
    Calls Tryd.prog 22 #[.int .i64 x, .int .i64 n] w fun e w' => e = .returned (.int .i64 (belowI x n)) ∧ w = w' := by
  have b1 := Int.tmod_lt_of_pos x (show 0 < n by omega)
  have b2 := tmod_lo x n h1
  by_cases hx : x.tmod n < 0
  all_goals
    have hv : Hid (belowI x n = _) := (show belowI x n = ite _ _ _ from rfl)
    go_enter Tryd.func22, Tryd.ntmps22
    go_wp2
    go_ret
    rw [hv.out]
    refine ⟨?_, rfl⟩
    congr 2
    repeat (first | rfl | omega | split)

end Go.Proofs.YthiikgjeamoocaaDoor



namespace Go.Proofs.YthiikgjeamoocaaDoor
open Go.RowKit

theorem int_info : (Tryd.prog.info? 3).map (fun i => (i.zero, i.size, i.bytes)) = some (some (.int .i64 0), 1, 8) := by kernel_rfl

/-- the call's own row of ints -/
def OwnI (w : World) (base : Nat) (v : Value) (n : Nat) (xs : List Int) : Prop := w.ownsRow base 3 1 v n (xs.map (Value.int .i64))

section
variable {w w' : World} {base n c : Nat} {v : Value} {A : Option Addr} {xs ys : List Int}
theorem OwnI.lt (h : OwnI w base v n xs) : ∀ k, v.ownBlock = some k → base ≤ k ∧ k < w.heap.size := World.ownsRow.lt h
theorem OwnI.form (h : OwnI w base v n xs) : ∃ A c, v = .slice A n c ∧ Ints w A n c xs := by
  have hl := h.1
  simp only [List.length_map, Nat.mul_one] at hl
  rcases h.2 with ⟨rfl, rfl⟩ | ⟨g, cap, cur, rfl, hb, hh, hc1, hc2, hc3, htk⟩
  · have : xs = [] := List.eq_nil_of_length_eq_zero hl
    subst this
    exact ⟨none, 0, rfl, Ints.nil w⟩
  · refine ⟨_, _, rfl, hl, hc1, fun _ => ⟨g, 0, rfl, fun i hi => ?_⟩⟩
    rw [Nat.zero_add, cell_of_row w g i cur _ (0, 0) hh]
    have e1 : (xs.map (Value.int .i64))[i]? = some (.int .i64 (xs.getD i 0)) := by
      simp [List.getD_eq_getElem?_getD, List.getElem?_eq_getElem (show i < xs.length by omega)]
    rw [← htk, List.getElem?_take, if_pos (by omega)] at e1
    simpa using e1
theorem OwnI.toInts {n' c' : Nat} (h : OwnI w base (.slice A n' c') n xs) : Ints w A n c' xs := by
  obtain ⟨A1, c1, e, hI⟩ := h.form
  cases e
  exact hI
theorem OwnI.block {n' c' : Nat} (h : OwnI w base (.slice A n' c') n xs) : ∀ ad, A = some ad → base ≤ ad.block ∧ ad.block < w.heap.size := fun ad e => h.lt ad.block (by simp [Value.ownBlock, e])
theorem OwnI.keep (h : OwnI w base v n xs) {B : Nat} (hb : Below B w w') (hB : w.heap.size ≤ B) : OwnI w' base v n xs := by
  refine ⟨h.1, ?_⟩
  rcases h.2 with h0 | ⟨g, cap, cur, rfl, h1, hh, hr⟩
  · exact Or.inl h0
  · refine Or.inr ⟨g, cap, cur, rfl, h1, ?_, hr⟩
    rw [hb.block g (Nat.lt_of_lt_of_le (Array.getElem?_eq_some_iff.1 hh).1 hB)]
    exact hh
theorem OwnI.nil (w : World) (base : Nat) : OwnI w base (.slice none 0 0) 0 [] := World.ownsRow_nil w base _ 1
theorem Ints.cells {a : Addr} (h : Ints w (some a) n c xs) : ∀ j u, (xs.map (Value.int .i64))[j]? = some u → w.cell? (a.add j) = some u := by
  intro j u hu
  have hj : j < xs.length := by
    have := (List.getElem?_eq_some_iff.1 hu).1
    simpa using this
  obtain ⟨b, off, e, hc⟩ := h.2.2 (by have := h.1; omega)
  have := Option.some.inj e
  subst this
  rw [Addr.add_lit]
  rw [hc j (by have := h.1; omega), ← hu]
  simp [List.getD_eq_getElem?_getD, hj]
end

section
variable {P : Program} (w : World)
/-- append onto an own row, the source any int slice, nil let in -/
theorem run_append_ints (base : Nat) (ty : TypeId) (v : Value) (n : Nat) (xs : List Int) (hown : OwnI w base v n xs)
    (A : Option Addr) (m c : Nat) (ys : List Int) (hr : Ints w A m c ys) (hb : n + m ≤ 17592186044416) (hbase : base ≤ w.heap.size) :
    ∃ v' w', (Builtin.append_ #[25, 25] ty #[v, .slice A m c]).run Tryd.prog w = .ok v' w' ∧ OwnI w' base v' (n + m) (xs ++ ys) ∧ w.grownBy w' v.ownBlock ∧
      (v'.ownBlock = v.ownBlock ∨ v'.ownBlock = some w.heap.size) := by
  obtain ⟨i, hi, hz, hs, hby⟩ := info_parts int_info
  unfold OwnI
  rw [List.map_append]
  rcases A with _ | ad
  · have hm : m = 0 := by
      rcases Nat.eq_zero_or_pos m with h0 | h0
      · exact h0
      · obtain ⟨b, off, h, _⟩ := hr.2.2 h0
        cases h
    subst hm
    have hn : ys = [] := List.eq_nil_of_length_eq_zero hr.1
    subst hn
    refine ⟨v, w, ?_, by rw [List.map_nil, List.append_nil]; exact hown, World.grownBy.refl w _, Or.inl rfl⟩
    rcases hown.2 with ⟨rfl, rfl⟩ | ⟨g, cap, cur, rfl, _, _, hnc, _⟩
    · simp [Builtin.append_, run_underlying Tryd.underlying25, sizeOf, typeInfo, hi, Builtin.lenOf, Builtin.firstCells]
    · simp [Builtin.append_, run_underlying Tryd.underlying25, sizeOf, typeInfo, hi, Builtin.lenOf, Builtin.firstCells, hnc, storeCells]
  · obtain ⟨v', w', hrun, h2, h3, _, h5⟩ := run_append_own_at (P := Tryd.prog) w base 25 ty 3 i _ 1 8 Tryd.underlying25 hi hz hs hby rfl (by omega) v n _ hown ad m c (ys.map (Value.int .i64)) (by simp [hr.1]) hr.cells (ints_oneCell _ _) (by simp only [maxLen]; omega) (by omega) hbase
    exact ⟨v', w', hrun, h2, h3, h5⟩

theorem wp_append_ints {o : Oper} {a : Act} {K : Act → World → Prop} {Q : Exit → Act → World → Prop} (s x : Operand)
    (ho : o.op = .call { callee := .builtin .append, args := #[s, x], argTypes := #[25, 25] })
    (base : Nat) (v : Value) (n : Nat) (xs : List Int) (hs : a.eval s = v) (hown : OwnI w base v n xs)
    (A : Option Addr) (m c : Nat) (ys : List Int) (hx : a.eval x = .slice A m c) (hr : Ints w A m c ys) (hb : n + m ≤ 17592186044416) (hbase : base ≤ w.heap.size)
    (h : ∀ A' c' w', OwnI w' base (.slice A' (n + m) c') (n + m) (xs ++ ys) → w.grownBy w' v.ownBlock → ((Value.slice A' (n + m) c').ownBlock = v.ownBlock ∨ (Value.slice A' (n + m) c').ownBlock = some w.heap.size) → K (a.put o.dst (.slice A' (n + m) c')) w') : o.wp Tryd.prog a w K Q := by
  obtain ⟨v', w', hrun, h2, h3, h4⟩ := run_append_ints w base o.type v n xs hown A m c ys hr hb hbase
  unfold Oper.wp execOp
  simp only [ho, resolve, invoke, builtin, Sem.run_bind, Sem.run_pure, Result.andThen_ok, List.map_toArray, List.map_cons, List.map_nil, hs, hx, hrun]
  obtain ⟨A', c', rfl, _⟩ := h2.form
  exact h A' c' w' h2 h3 h4

theorem wpList_append_ints {ops : Array Oper} {rest : List Oper} {o : Oper} {a : Act} {Q : Exit → Act → World → Prop} (hgd : o.guard = none) (s x : Operand)
    (ho : o.op = .call { callee := .builtin .append, args := #[s, x], argTypes := #[25, 25] })
    (base : Nat) (v : Value) (n : Nat) (xs : List Int) (hs : a.eval s = v) (hown : OwnI w base v n xs)
    (A : Option Addr) (m c : Nat) (ys : List Int) (hx : a.eval x = .slice A m c) (hr : Ints w A m c ys) (hb : n + m ≤ 17592186044416) (hbase : base ≤ w.heap.size)
    (h : ∀ A' c' w', OwnI w' base (.slice A' (n + m) c') (n + m) (xs ++ ys) → w.grownBy w' v.ownBlock → ((Value.slice A' (n + m) c').ownBlock = v.ownBlock ∨ (Value.slice A' (n + m) c').ownBlock = some w.heap.size) → wpList Tryd.prog ops Q rest (a.put o.dst (.slice A' (n + m) c')) w') : wpList Tryd.prog ops Q (o :: rest) a w :=
  wpList_plain hgd fun _ hK => wp_append_ints w s x ho base v n xs hs hown A m c ys hx hr hb hbase fun A' c' w' h2 h3 h4 => hK _ _ (h A' c' w' h2 h3 h4)
end

theorem OwnI.alloc {w : World} {base n : Nat} {v : Value} {xs : List Int} (h : OwnI w base v n xs) (o : Obj) : OwnI (w.alloc o) base v n xs := World.ownsRow.alloc h o
theorem Ints.alloc {w : World} {A : Option Addr} {n c : Nat} {xs : List Int} (h : Ints w A n c xs) (o : Obj) : Ints (w.alloc o) A n c xs :=
  h.keep ((Below.refl w.heap.size w).alloc (Nat.le_refl _) o) (Nat.le_refl _)
theorem Ints.one (w : World) (y : Int) (t : TypeId) : Ints (w.alloc (.cells #[.int .i64 y] t)) (some ⟨w.heap.size, 0, none⟩) 1 1 [y] :=
  ⟨rfl, Nat.le_refl _, fun _ => ⟨w.heap.size, 0, rfl, fun i hi => by
    have : i = 0 := by omega
    subst this
    rw [Nat.zero_add, World.cell?_alloc_new]; rfl⟩⟩
theorem OwnI.setCell {w : World} {base n : Nat} {v : Value} {xs : List Int} (h : OwnI w base v n xs) {p : Addr} (hp : p.block < base) (u : Value) : OwnI (w.setCell p u) base v n xs := ownsRow_setCell_below h hp u
/-- what an append onto an own row leaves of 'Below' -/
theorem OwnI.grown {w w' w0 : World} {base n B : Nat} {v : Value} {xs : List Int} (h : OwnI w base v n xs) (hb : Below B w0 w) (hg : w.grownBy w' v.ownBlock) (hB : B ≤ base) (hs : B ≤ w.heap.size) : Below B w0 w' :=
  hb.grown hg hs fun k hk => Nat.le_trans hB (h.lt k hk).1
end Go.Proofs.YthiikgjeamoocaaDoor



namespace Go.Proofs.YthiikgjeamoocaaDoor
open Go.RowKit

theorem setCell_self {w : World} {b i : Nat} {v : Value} (h : w.cell? ⟨b, i, none⟩ = some v) : w.setCell ⟨b, i, none⟩ v = w := by
  unfold World.cell? at h
  split at h
  · rename_i c e f hb
    have hc : c[i]? = some v := by simpa using h
    have : w.heap.modify b (fun x => match x with | .cells c elem frozen => .cells (c.setIfInBounds i v) elem frozen | o => o) = w.heap := by
      apply Array.ext_getElem?
      intro k
      rw [Array.getElem?_modify]
      split
      · rename_i hk
        subst hk
        rw [hb]
        simp only [Option.map_some, Option.some.injEq, Obj.cells.injEq, and_true]
        apply Array.ext_getElem?
        intro j
        rw [Array.getElem?_setIfInBounds]
        split
        · rename_i hj
          subst hj
          obtain ⟨hlt, _⟩ := Array.getElem?_eq_some_iff.1 hc
          rw [if_pos hlt, hc]
        · rfl
      · rfl
    unfold World.setCell
    simp only [Option.isSome_none, Bool.false_eq_true, if_false]
    exact congrArg (fun hp => ({ w with heap := hp } : World)) this
  · cases h

/-- .. where n is at least 1 -/
def NextP1 (w0 w : World) (m0 : Nat) (b : Nat) (n : Int) (e : Ending) (w' : World) : Prop :=
  ∃ v A m c ls, e = .returned (.int .i64 v) ∧ 0 ≤ v ∧ v < n ∧ m ≤ m0 ∧ w' = w.setCell ⟨b, 0, none⟩ (.slice A m c) ∧ Ints w0 A m c ls
end Go.Proofs.YthiikgjeamoocaaDoor




namespace Go.Proofs.YthiikgjeamoocaaDoor
open Go.RowKit

/-- the blocks that meet 'ok' are as they were -/
def Agr (ok : Nat → Prop) (w w' : World) : Prop := ∀ b, ok b → b < w.heap.size → w'.heap[b]? = w.heap[b]?
section
variable {ok ok' : Nat → Prop} {w w' w'' : World}
theorem Agr.refl : Agr ok w w := fun _ _ _ => rfl
theorem Agr.trans (h : Agr ok w w') (k : Agr ok w' w'') : Agr ok w w'' := fun b hb hlt => by
  have h1 := h b hb hlt
  have : b < w'.heap.size := by
    have h2 : w.heap[b]? = some w.heap[b] := Array.getElem?_eq_getElem hlt
    rw [h2] at h1
    exact (Array.getElem?_eq_some_iff.1 h1).1
  rw [k b hb this, h1]
theorem Agr.mono (h : Agr ok w w') (hm : ∀ b, ok' b → ok b) : Agr ok' w w' := fun b hb hlt => h b (hm b hb) hlt
theorem Agr.below (h : Below w.heap.size w w') : Agr ok w w' := fun b _ hlt => h.block b hlt
theorem Agr.grown {row : Option Nat} (h : w.grownBy w' row) (hr : ∀ b, ok b → some b ≠ row) : Agr ok w w' := fun b hb hlt => h.block b hlt (hr b hb)
theorem Agr.setCell {p : Addr} (u : Value) (hr : ∀ b, ok b → b ≠ p.block) : Agr ok w (w.setCell p u) := fun b hb _ => Below.heap_setCell w p u b (hr b hb)
theorem Agr.cell (h : Agr ok w w') {b i : Nat} (hb : ok b) {v : Value} (hc : w.cell? ⟨b, i, none⟩ = some v) : w'.cell? ⟨b, i, none⟩ = some v :=
  (World.cell?_of_block (w := w) (a := ⟨b, i, none⟩) (h b hb (World.block_lt_of_cell? w _ hc))).trans hc
end

/-- the cells cs lie at A, in a block that meets 'ok' -/
def Cel (ok : Nat → Prop) (w : World) (A : Option Addr) (cs : List Value) : Prop :=
  cs ≠ [] → ∃ b off, A = some ⟨b, off, none⟩ ∧ ok b ∧ ∀ j u, cs[j]? = some u → w.cell? ⟨b, off + j, none⟩ = some u
section
variable {ok ok' : Nat → Prop} {w w' : World} {A : Option Addr} {cs : List Value}
theorem Cel.agr (h : Cel ok w A cs) (k : Agr ok w w') : Cel ok w' A cs := fun hn => by
  obtain ⟨b, off, e, hb, hc⟩ := h hn
  exact ⟨b, off, e, hb, fun j u hu => k.cell hb (hc j u hu)⟩
theorem Cel.mono (h : Cel ok w A cs) (hm : ∀ b, b < w.heap.size → ok b → ok' b) : Cel ok' w A cs := fun hn => by
  obtain ⟨b, off, e, hb, hc⟩ := h hn
  refine ⟨b, off, e, hm b ?_ hb, hc⟩
  cases cs with
  | nil => exact absurd rfl hn
  | cons u r => exact World.block_lt_of_cell? w _ (hc 0 u rfl)
theorem Cel.nil : Cel ok w A [] := fun h => absurd rfl h
end

/-- a kind of elements: 'ρ' what the cells hold, 'α' what it stands for -/
structure Elem (α ρ : Type) where
  k : Nat
  cells : ρ → List Value
  rel : (Nat → Prop) → World → ρ → α → Prop
  pos : 0 < k
  len : ∀ r, (cells r).length = k
  one : ∀ r, ∀ u ∈ cells r, u.oneCell' = true
  agr : ∀ {ok w w' r x}, rel ok w r x → Agr ok w w' → rel ok w' r x
  mono : ∀ {ok ok' : Nat → Prop} {w r x}, rel ok w r x → (∀ b, b < w.heap.size → ok b → ok' b) → rel ok' w r x

section
variable {α ρ : Type} (E : Elem α ρ)
def flat (raw : List ρ) : List Value := raw.flatMap E.cells
variable {E}
theorem flat_len (raw : List ρ) : (flat E raw).length = raw.length * E.k := by
  induction raw with
  | nil => simp [flat]
  | cons r raw ih => simp only [flat, List.flatMap_cons, List.length_append, E.len, List.length_cons] at *; rw [ih, Nat.add_mul]; omega
theorem flat_at (raw : List ρ) : ∀ i r j u, raw[i]? = some r → (E.cells r)[j]? = some u → (flat E raw)[i * E.k + j]? = some u := by
  induction raw with
  | nil => intro i r j u h; simp at h
  | cons a raw ih =>
    intro i r j u h hu
    have hj : j < E.k := by rw [← E.len r]; exact (List.getElem?_eq_some_iff.1 hu).1
    cases i with
    | zero =>
      simp at h; subst h
      simp only [flat, List.flatMap_cons, Nat.zero_mul, Nat.zero_add]
      rw [List.getElem?_append_left (by rw [E.len]; exact hj)]; exact hu
    | succ i =>
      simp at h
      have := ih i r j u h hu
      simp only [flat, List.flatMap_cons] at *
      rw [List.getElem?_append_right (by rw [E.len, Nat.add_mul]; omega), E.len, Nat.add_mul]
      rw [show i * E.k + 1 * E.k + j - E.k = i * E.k + j from by omega]
      exact this
theorem flat_snoc (raw : List ρ) (r : ρ) : flat E (raw ++ [r]) = flat E raw ++ E.cells r := by simp [flat]
end

/-- the slice value '.slice A n c' reads as l -/
def Sl {α ρ : Type} (E : Elem α ρ) (ok : Nat → Prop) (w : World) (A : Option Addr) (n c : Nat) (l : List α) : Prop :=
  l.length = n ∧ n ≤ c ∧ ∃ raw : List ρ, raw.length = n ∧ Cel ok w A (flat E raw) ∧ ∀ (i : Nat) (r : ρ) (x : α), raw[i]? = some r → l[i]? = some x → E.rel ok w r x

section
variable {α ρ : Type} {E : Elem α ρ} {ok ok' : Nat → Prop} {w w' : World} {A : Option Addr} {n c : Nat} {l : List α}
theorem Sl.len (h : Sl E ok w A n c l) : l.length = n := h.1
theorem Sl.le (h : Sl E ok w A n c l) : n ≤ c := h.2.1
theorem Sl.agr (h : Sl E ok w A n c l) (k : Agr ok w w') : Sl E ok w' A n c l := by
  obtain ⟨h1, h2, raw, h3, h4, h5⟩ := h
  exact ⟨h1, h2, raw, h3, h4.agr k, fun i r x hr hx => E.agr (h5 i r x hr hx) k⟩
theorem Sl.mono (h : Sl E ok w A n c l) (hm : ∀ b, b < w.heap.size → ok b → ok' b) : Sl E ok' w A n c l := by
  obtain ⟨h1, h2, raw, h3, h4, h5⟩ := h
  exact ⟨h1, h2, raw, h3, h4.mono hm, fun i r x hr hx => E.mono (h5 i r x hr hx) hm⟩
theorem Sl.via (h : Sl E ok w A n c l) (hb : Below w.heap.size w w') : Sl E ok w' A n c l := h.agr (Agr.below hb)
theorem Sl.al (h : Sl E ok w A n c l) (o : Obj) : Sl E ok (w.alloc o) A n c l := h.agr (Agr.below ((Below.refl w.heap.size w).alloc (Nat.le_refl _) o))
theorem Sl.dr (h : Sl E ok w A n c l) : Sl E ok w.drew A n c l := h.agr (Agr.below ((Below.refl w.heap.size w).drew))
theorem Sl.nil (c : Nat) : Sl E ok w none 0 c [] := ⟨rfl, Nat.zero_le _, [], rfl, Cel.nil, fun i r x h => by simp at h⟩
theorem Sl.at_ (h : Sl E ok w A n c l) {i : Nat} (hi : i < n) : ∃ b off r x, A = some ⟨b, off, none⟩ ∧ ok b ∧ b < w.heap.size ∧ l[i]? = some x ∧ E.rel ok w r x ∧ ∀ j u, (E.cells r)[j]? = some u → w.cell? ⟨b, off + i * E.k + j, none⟩ = some u := by
  obtain ⟨h1, h2, raw, h3, h4, h5⟩ := h
  have hr : raw[i]? = some raw[i] := List.getElem?_eq_getElem (by omega)
  have hx : l[i]? = some l[i] := List.getElem?_eq_getElem (by omega)
  have hne : flat E raw ≠ [] := fun e => by
    have := flat_len (E := E) raw
    rw [e, h3] at this
    have hp := Nat.mul_pos (show 0 < n by omega) E.pos
    simp at this; omega
  obtain ⟨b, off, e, hb, hc⟩ := h4 hne
  have hcell : ∀ j u, (E.cells raw[i])[j]? = some u → w.cell? ⟨b, off + i * E.k + j, none⟩ = some u := fun j u hu => by
    have := hc _ u (flat_at raw i raw[i] j u hr hu)
    rwa [← Nat.add_assoc] at this
  have hp0 : 0 < (E.cells raw[i]).length := by rw [E.len]; exact E.pos
  have h0 : (E.cells raw[i])[0]? = some (E.cells raw[i])[0] := List.getElem?_eq_getElem hp0
  exact ⟨b, off, raw[i], l[i], e, hb, World.block_lt_of_cell? w _ (hcell 0 _ h0), hx, h5 i _ _ hr hx, hcell⟩
end

/-- the call's own row of such elements; what they lead to lies elsewhere -/
def Own {α ρ : Type} (E : Elem α ρ) (e : TypeId) (ok : Nat → Prop) (w : World) (base : Nat) (v : Value) (n : Nat) (l : List α) : Prop :=
  l.length = n ∧ ∃ raw : List ρ, raw.length = n ∧ w.ownsRow base e E.k v n (flat E raw) ∧ ∀ (i : Nat) (r : ρ) (x : α), raw[i]? = some r → l[i]? = some x → E.rel (fun b => ok b ∧ some b ≠ v.ownBlock) w r x

section
variable {α ρ : Type} {E : Elem α ρ} {e : TypeId} {ok ok' : Nat → Prop} {w w' : World} {base n : Nat} {v : Value} {l : List α}
theorem Own.nil (w : World) (base : Nat) : Own E e ok w base (.slice none 0 0) 0 [] := ⟨rfl, [], rfl, World.ownsRow_nil w base e E.k, fun i r x h => by simp at h⟩
theorem Own.agr (h : Own E e ok w base v n l) (k : Agr (fun b => ok b ∨ some b = v.ownBlock) w w') : Own E e ok w' base v n l := by
  obtain ⟨h1, raw, h3, h4, h5⟩ := h
  refine ⟨h1, raw, h3, ⟨h4.1, ?_⟩, fun i r x hr hx => E.agr (h5 i r x hr hx) (k.mono fun b hb => Or.inl hb.1)⟩
  rcases h4.2 with h0 | ⟨g, cap, cur, rfl, hb, hh, hr⟩
  · exact Or.inl h0
  · refine Or.inr ⟨g, cap, cur, rfl, hb, ?_, hr⟩
    rw [k g (Or.inr rfl) (Array.getElem?_eq_some_iff.1 hh).1]
    exact hh
theorem Own.mono (h : Own E e ok w base v n l) (hm : ∀ b, b < w.heap.size → ok b → ok' b) : Own E e ok' w base v n l := by
  obtain ⟨h1, raw, h3, h4, h5⟩ := h
  exact ⟨h1, raw, h3, h4, fun i r x hr hx => E.mono (h5 i r x hr hx) fun b hb hk => ⟨hm b hb hk.1, hk.2⟩⟩
theorem Own.via (h : Own E e ok w base v n l) (hb : Below w.heap.size w w') : Own E e ok w' base v n l := h.agr (Agr.below hb)
theorem Own.al (h : Own E e ok w base v n l) (o : Obj) : Own E e ok (w.alloc o) base v n l := h.agr (Agr.below ((Below.refl w.heap.size w).alloc (Nat.le_refl _) o))
theorem Own.dr (h : Own E e ok w base v n l) : Own E e ok w.drew base v n l := h.agr (Agr.below ((Below.refl w.heap.size w).drew))
theorem Own.lt (h : Own E e ok w base v n l) : ∀ k, v.ownBlock = some k → base ≤ k ∧ k < w.heap.size := by
  obtain ⟨_, raw, _, h4, _⟩ := h
  exact h4.lt
theorem Own.len (h : Own E e ok w base v n l) : l.length = n := h.1
theorem Own.form (h : Own E e ok w base v n l) : ∃ A c, v = .slice A n c ∧ n ≤ c := by
  obtain ⟨_, raw, _, h4, _⟩ := h
  rcases h4.2 with ⟨rfl, rfl⟩ | ⟨g, cap, cur, rfl, _, _, hc, _⟩
  · exact ⟨none, 0, rfl, Nat.le_refl _⟩
  · exact ⟨_, _, rfl, hc⟩
theorem Own.toSl {A : Option Addr} {n' c : Nat} (h : Own E e ok w base (.slice A n' c) n l) (hm : ∀ b, b < w.heap.size → ok b → ok' b) (hb : ∀ b, base ≤ b → ok' b) : Sl E ok' w A n c l := by
  obtain ⟨A', c', e', hc⟩ := h.form
  obtain ⟨h1, raw, h3, h4, h5⟩ := h
  cases e'
  refine ⟨h1, hc, raw, h3, fun hne => ?_, fun i r x hr hx => E.mono (h5 i r x hr hx) fun b hb hk => hm b hb hk.1⟩
  rcases h4.2 with ⟨h0, hn⟩ | ⟨g, cap, cur, hv, hbg, hh, hr⟩
  · have : raw = [] := List.eq_nil_of_length_eq_zero (by omega)
    subst this; exact absurd rfl hne
  · cases hv
    refine ⟨g, 0, rfl, hb g hbg, fun j u hu => ?_⟩
    have := h4.cells (g := g) rfl j u hu
    rwa [Addr.add_lit] at this
theorem Own.setCell (h : Own E e ok w base v n l) {p : Addr} (u : Value) (h1 : ∀ b, ok b → b ≠ p.block) (h2 : p.block < base) : Own E e ok (w.setCell p u) base v n l := by
  refine h.agr (Agr.setCell u fun b hb => ?_)
  rcases hb with hb | hb
  · exact h1 b hb
  · have := (h.lt b hb.symm).1; omega
end

/-! ### append of one element onto an own row -/
section
variable {α ρ : Type} {E : Elem α ρ}
theorem run_append_E (w : World) (t ty e : TypeId) (i : TypeInfo) (z : Value) (bytes : Nat) (ht : Tryd.prog.underlying t = some (.slice e)) (hi : Tryd.prog.info? e = some i) (hz : i.zero = some z) (hs : i.size = E.k) (hby : i.bytes = bytes) (hzs : z.cells.size = E.k)
    (ok : Nat → Prop) (base : Nat) (v : Value) (n : Nat) (l : List α) (hown : Own E e ok w base v n l)
    (b : Nat) (r : ρ) (x : α) (hcell : ∀ j u, (E.cells r)[j]? = some u → w.cell? ⟨b, j, none⟩ = some u) (hrel : E.rel (fun b => ok b ∧ some b ≠ v.ownBlock) w r x)
    (h63 : n + 1 ≤ maxLen) (hbytes : (n + 1) * bytes ≤ 140737488355328) (hbase : base ≤ w.heap.size) :
    ∃ A' c' w', (Builtin.append_ #[t, t] ty #[v, .slice (some ⟨b, 0, none⟩) 1 1]).run Tryd.prog w = .ok (.slice A' (n + 1) c') w' ∧ Own E e ok w' base (.slice A' (n + 1) c') (n + 1) (l ++ [x]) ∧ w.grownBy w' v.ownBlock ∧
      ((Value.slice A' (n + 1) c').ownBlock = v.ownBlock ∨ (Value.slice A' (n + 1) c').ownBlock = some w.heap.size) := by
  obtain ⟨h1, raw, h3, h4, h5⟩ := hown
  obtain ⟨v', w', hrun, h6, h7, _, h8⟩ := run_append_own_at (P := Tryd.prog) w base t ty e i z E.k bytes ht hi hz hs hby hzs E.pos v n _ h4 ⟨b, 0, none⟩ 1 1 (E.cells r) (by rw [E.len, Nat.one_mul]) (fun j u hu => by rw [Addr.add_lit, Nat.zero_add]; exact hcell j u hu) (E.one r) h63 hbytes hbase
  have hown' : Own E e ok w' base v' (n + 1) (l ++ [x]) := by
    refine ⟨by simp [h1], raw ++ [r], by simp [h3], by rw [flat_snoc]; exact h6, fun i r' x' hr' hx' => ?_⟩
    have key : E.rel (fun b => ok b ∧ some b ≠ v.ownBlock) w r' x' := by
      rcases Nat.lt_or_ge i n with hi' | hi'
      · rw [List.getElem?_append_left (by omega)] at hr' hx'
        exact h5 i r' x' hr' hx'
      · rw [List.getElem?_append_right (by omega)] at hr' hx'
        have e1 : i - raw.length = 0 := by
          have := (List.getElem?_eq_some_iff.1 hr').1
          simp at this; omega
        have e2 : i - l.length = 0 := by omega
        rw [e1] at hr'; rw [e2] at hx'
        simp at hr' hx'
        subst hr'; subst hx'
        exact hrel
    have k1 := E.mono (ok' := fun b => (ok b ∧ some b ≠ v.ownBlock) ∧ b < w.heap.size) key fun b hb hk => ⟨hk, hb⟩
    refine E.mono (E.agr k1 (Agr.grown h7 fun b hb => hb.1.2)) fun b _ hk => ⟨hk.1.1, ?_⟩
    rcases h8 with e8 | e8
    · rw [e8]; exact hk.1.2
    · rw [e8]; intro e9; cases e9; exact absurd hk.2 (Nat.lt_irrefl _)
  obtain ⟨A', c', rfl, _⟩ := hown'.form
  exact ⟨A', c', w', hrun, hown', h7, h8⟩

theorem wp_append_E {o : Oper} {a : Act} {K : Act → World → Prop} {Q : Exit → Act → World → Prop} (w : World) (s y : Operand) (t e : TypeId)
    (ho : o.op = .call { callee := .builtin .append, args := #[s, y], argTypes := #[t, t] }) (i : TypeInfo) (z : Value) (bytes : Nat) (ht : Tryd.prog.underlying t = some (.slice e)) (hi : Tryd.prog.info? e = some i) (hz : i.zero = some z) (hs : i.size = E.k) (hby : i.bytes = bytes) (hzs : z.cells.size = E.k)
    (ok : Nat → Prop) (base : Nat) (v : Value) (n : Nat) (l : List α) (hv : a.eval s = v) (hown : Own E e ok w base v n l)
    (b : Nat) (r : ρ) (x : α) (hy : a.eval y = .slice (some ⟨b, 0, none⟩) 1 1) (hcell : ∀ j u, (E.cells r)[j]? = some u → w.cell? ⟨b, j, none⟩ = some u) (hrel : E.rel (fun b => ok b ∧ some b ≠ v.ownBlock) w r x)
    (h63 : n + 1 ≤ maxLen) (hbytes : (n + 1) * bytes ≤ 140737488355328) (hbase : base ≤ w.heap.size)
    (h : ∀ A' c' w', Own E e ok w' base (.slice A' (n + 1) c') (n + 1) (l ++ [x]) → w.grownBy w' v.ownBlock → ((Value.slice A' (n + 1) c').ownBlock = v.ownBlock ∨ (Value.slice A' (n + 1) c').ownBlock = some w.heap.size) → K (a.put o.dst (.slice A' (n + 1) c')) w') : o.wp Tryd.prog a w K Q := by
  obtain ⟨A', c', w', hrun, h2, h3, h4⟩ := run_append_E w t o.type e i z bytes ht hi hz hs hby hzs ok base v n l hown b r x hcell hrel h63 hbytes hbase
  unfold Oper.wp execOp
  simp only [ho, resolve, invoke, builtin, Sem.run_bind, Sem.run_pure, Result.andThen_ok, List.map_toArray, List.map_cons, List.map_nil, hv, hy, hrun]
  exact h A' c' w' h2 h3 h4

theorem wpList_append_E {ops : Array Oper} {rest : List Oper} {o : Oper} {a : Act} {Q : Exit → Act → World → Prop} (w : World) (hgd : o.guard = none) (s y : Operand) (t e : TypeId)
    (ho : o.op = .call { callee := .builtin .append, args := #[s, y], argTypes := #[t, t] }) (i : TypeInfo) (z : Value) (bytes : Nat) (ht : Tryd.prog.underlying t = some (.slice e)) (hi : Tryd.prog.info? e = some i) (hz : i.zero = some z) (hs : i.size = E.k) (hby : i.bytes = bytes) (hzs : z.cells.size = E.k)
    (ok : Nat → Prop) (base : Nat) (v : Value) (n : Nat) (l : List α) (hv : a.eval s = v) (hown : Own E e ok w base v n l)
    (b : Nat) (r : ρ) (x : α) (hy : a.eval y = .slice (some ⟨b, 0, none⟩) 1 1) (hcell : ∀ j u, (E.cells r)[j]? = some u → w.cell? ⟨b, j, none⟩ = some u) (hrel : E.rel (fun b => ok b ∧ some b ≠ v.ownBlock) w r x)
    (h63 : n + 1 ≤ maxLen) (hbytes : (n + 1) * bytes ≤ 140737488355328) (hbase : base ≤ w.heap.size)
    (h : ∀ A' c' w', Own E e ok w' base (.slice A' (n + 1) c') (n + 1) (l ++ [x]) → w.grownBy w' v.ownBlock → ((Value.slice A' (n + 1) c').ownBlock = v.ownBlock ∨ (Value.slice A' (n + 1) c').ownBlock = some w.heap.size) → wpList Tryd.prog ops Q rest (a.put o.dst (.slice A' (n + 1) c')) w') : wpList Tryd.prog ops Q (o :: rest) a w :=
  wpList_plain hgd fun _ hK => wp_append_E w s y t e ho i z bytes ht hi hz hs hby hzs ok base v n l hv hown b r x hy hcell hrel h63 hbytes hbase fun A' c' w' h2 h3 h4 => hK _ _ (h A' c' w' h2 h3 h4)

theorem step_append_E {ops : Array Oper} {o : Oper} {a : Act} {K : Act → World → Prop} {Q : Exit → Act → World → Prop} {F : Prop} (w : World) (hgd : o.guard = none) (s y : Operand) (t e : TypeId)
    (ho : o.op = .call { callee := .builtin .append, args := #[s, y], argTypes := #[t, t] }) (i : TypeInfo) (z : Value) (bytes : Nat) (ht : Tryd.prog.underlying t = some (.slice e)) (hi : Tryd.prog.info? e = some i) (hz : i.zero = some z) (hs : i.size = E.k) (hby : i.bytes = bytes) (hzs : z.cells.size = E.k)
    (ok : Nat → Prop) (base : Nat) (v : Value) (n : Nat) (l : List α) (hv : a.eval s = v) (hown : Own E e ok w base v n l)
    (b : Nat) (r : ρ) (x : α) (hy : a.eval y = .slice (some ⟨b, 0, none⟩) 1 1) (hcell : ∀ j u, (E.cells r)[j]? = some u → w.cell? ⟨b, j, none⟩ = some u) (hrel : E.rel (fun b => ok b ∧ some b ≠ v.ownBlock) w r x)
    (h63 : n + 1 ≤ maxLen) (hbytes : (n + 1) * bytes ≤ 140737488355328) (hbase : base ≤ w.heap.size)
    (h : ∀ A' c' w', Own E e ok w' base (.slice A' (n + 1) c') (n + 1) (l ++ [x]) → w.grownBy w' v.ownBlock → ((Value.slice A' (n + 1) c').ownBlock = v.ownBlock ∨ (Value.slice A' (n + 1) c').ownBlock = some w.heap.size) → K (a.put o.dst (.slice A' (n + 1) c')) w') :
    if Region.wanted o (yielded ops a.tmps) = true then Oper.wp Tryd.prog o a w K Q else F := by
  rw [if_pos (by simp [Region.wanted, hgd])]
  exact wp_append_E w s y t e ho i z bytes ht hi hz hs hby hzs ok base v n l hv hown b r x hy hcell hrel h63 hbytes hbase h
end
end Go.Proofs.YthiikgjeamoocaaDoor



namespace Go.Proofs.YthiikgjeamoocaaDoor
open Go.RowKit

abbrev SlV := Option Addr × Nat × Nat

/-! ### symbols: a terminal or not, its number -/
abbrev Sy := Bool × Nat
def SyE : Elem Sy Sy where
  k := 2
  cells s := [.bool s.1, .int .i64 (s.2 : Int)]
  rel _ _ r x := r = x
  pos := by omega
  len _ := rfl
  one r u hu := by simp at hu; rcases hu with rfl | rfl <;> rfl
  agr h _ := h
  mono h _ := h

/-! ### rules: the left side's number, the right side -/
abbrev Ru := Nat × List Sy
def RuE : Elem Ru (Nat × SlV) where
  k := 2
  cells r := [.int .i64 (r.1 : Int), .slice r.2.1 r.2.2.1 r.2.2.2]
  rel ok w r x := r.1 = x.1 ∧ Sl SyE ok w r.2.1 r.2.2.1 r.2.2.2 x.2
  pos := by omega
  len _ := rfl
  one r u hu := by simp at hu; rcases hu with rfl | rfl <;> rfl
  agr h k := ⟨h.1, h.2.agr k⟩
  mono h k := ⟨h.1, h.2.mono k⟩

/-- a grammar -/
structure Gr where
  terms : Nat
  nons : Nat
  start : Nat
  rules : List Ru

/-! ### trees -/
inductive Tr where
  | leaf (t : Nat)
  | node (r : Nat) (kids : List Tr)

abbrev TrV := Int × Int × SlV
def trCells (r : TrV) : List Value := [.int .i64 r.1, .int .i64 r.2.1, .slice r.2.2.1 r.2.2.2.1 r.2.2.2.2]

inductive TreeR (ok : Nat → Prop) (w : World) : TrV → Tr → Prop
  | leaf (t : Nat) (A : Option Addr) (c : Nat) : TreeR ok w (-1, (t : Int), A, 0, c) (.leaf t)
  | node (r : Nat) (A : Option Addr) (n c : Nat) (kids : List Tr) (raw : List TrV) (hl : kids.length = n) (hc : n ≤ c) (hr : raw.length = n) (hcel : Cel ok w A (raw.flatMap trCells))
      (hk : ∀ (i : Nat) (x : TrV) (t : Tr), raw[i]? = some x → kids[i]? = some t → TreeR ok w x t) : TreeR ok w ((r : Int), 0, A, n, c) (.node r kids)

theorem TreeR.agr {ok : Nat → Prop} {w w' : World} {v : TrV} {t : Tr} (h : TreeR ok w v t) (k : Agr ok w w') : TreeR ok w' v t := by
  induction h with
  | leaf t A c => exact .leaf t A c
  | node r A n c kids raw hl hc hr hcel _ ih => exact .node r A n c kids raw hl hc hr (hcel.agr k) ih
theorem TreeR.mono {ok ok' : Nat → Prop} {w : World} {v : TrV} {t : Tr} (h : TreeR ok w v t) (k : ∀ b, b < w.heap.size → ok b → ok' b) : TreeR ok' w v t := by
  induction h with
  | leaf t A c => exact .leaf t A c
  | node r A n c kids raw hl hc hr hcel _ ih => exact .node r A n c kids raw hl hc hr (hcel.mono k) ih

def TrE : Elem Tr TrV where
  k := 3
  cells := trCells
  rel := TreeR
  pos := by omega
  len _ := rfl
  one r u hu := by simp [trCells] at hu; rcases hu with rfl | rfl | rfl <;> rfl
  agr h k := h.agr k
  mono h k := h.mono k

section
variable {ok ok' : Nat → Prop} {w w' : World} {v : TrV} {t : Tr}
theorem TreeR.via (h : TreeR ok w v t) (hb : Below w.heap.size w w') : TreeR ok w' v t := h.agr (Agr.below hb)
theorem TreeR.al (h : TreeR ok w v t) (o : Obj) : TreeR ok (w.alloc o) v t := h.agr (Agr.below ((Below.refl w.heap.size w).alloc (Nat.le_refl _) o))
theorem TreeR.dr (h : TreeR ok w v t) : TreeR ok w.drew v t := h.agr (Agr.below ((Below.refl w.heap.size w).drew))
theorem TreeR.kids {r tm : Int} {A : Option Addr} {n c : Nat} {rn : Nat} {kids : List Tr} (h : TreeR ok w (r, tm, A, n, c) (.node rn kids)) : r = rn ∧ tm = 0 ∧ Sl TrE ok w A n c kids := by
  cases h with
  | node _ _ _ _ _ raw hl hc hr hcel hk => exact ⟨rfl, rfl, hl, hc, raw, hr, hcel, hk⟩
theorem TreeR.mk (rn : Nat) {A : Option Addr} {n c : Nat} {kids : List Tr} (h : Sl TrE ok w A n c kids) : TreeR ok w ((rn : Int), 0, A, n, c) (.node rn kids) := by
  obtain ⟨h1, h2, raw, h3, h4, h5⟩ := h
  exact .node rn A n c kids raw h1 h2 h3 h4 h5
end

/-- the value of a tree -/
def trVal (v : TrV) : Value := .agg #[.int .i64 v.1, .int .i64 v.2.1, .slice v.2.2.1 v.2.2.2.1 v.2.2.2.2]
def grVal (g : Gr) (A : Option Addr) (n c : Nat) : Value := .agg #[.int .i64 (g.terms : Int), .int .i64 (g.nons : Int), .int .i64 (g.start : Int), .slice A n c]

/-! ### plain functions on trees -/
mutual
def Tr.size : Tr → Nat
  | .leaf _ => 1
  | .node _ ks => Tr.sizes ks + 1
def Tr.sizes : List Tr → Nat
  | [] => 0
  | t :: ts => t.size + Tr.sizes ts
end
mutual
def Tr.word : Tr → List Nat
  | .leaf t => [t]
  | .node _ ks => Tr.words ks
def Tr.words : List Tr → List Nat
  | [] => []
  | t :: ts => t.word ++ Tr.words ts
end
def Tr.kids : Tr → List Tr
  | .leaf _ => []
  | .node _ ks => ks
/-- a valid grammar -/
def Gr.okSy (g : Gr) (s : Sy) : Prop := if s.1 then s.2 < g.terms else s.2 < g.nons
structure Gr.Ok (g : Gr) : Prop where
  terms : 1 ≤ g.terms ∧ g.terms ≤ 8
  nons : 1 ≤ g.nons ∧ g.nons ≤ 10
  start : g.start < g.nons
  count : g.rules.length ≤ 32
  left : ∀ r ∈ g.rules, r.1 < g.nons
  right : ∀ r ∈ g.rules, r.2.length ≤ 4 ∧ ∀ s ∈ r.2, g.okSy s
end Go.Proofs.YthiikgjeamoocaaDoor




namespace Go.Proofs.YthiikgjeamoocaaDoor
open Go.RowKit

set_option maxHeartbeats 1000000 in
theorem snext_c1 (w0 w : World) (b : Nat) (n : Int) (A : Option Addr) (m c : Nat) (ls : List Int) (hI : Ints w0 A m c ls) (hB : Below w0.heap.size w0 w)
    (hcell : w.cell? ⟨b, 0, none⟩ = some (.slice A m c)) (hf : w.frozen? ⟨b, 0, none⟩ = false) (hn : n ≤ 1000000000) (hn1 : 1 ≤ n) :
    Calls Tryd.prog 20 #[.pointer (some ⟨b, 0, none⟩), .int .i64 n] w (NextP1 w0 w m b n) := by
  by_cases h0 : m = 0
  · have hfin : NextP1 w0 w m b n (.returned (.int .i64 0)) w := ⟨0, A, m, c, ls, rfl, by omega, by omega, Nat.le_refl _, (setCell_self hcell).symm, hI⟩
    have hfin' := Lib.hid hfin
    clear hfin hI
    subst h0
    go_enter Tryd.func20, Tryd.ntmps20
    go_wp2
    go_ret
    exact hfin'.out
  · have h1 : 0 < m := by omega
    have h2 : 1 ≤ n := hn1
    clear h0
    obtain ⟨b1, off, hA, hb1, hx⟩ := hI.at_ h1
    have hx' : w.cell? ⟨b1, off, none⟩ = some (.int .i64 (ls.getD 0 0)) := (hB.cell (p := ⟨b1, off, none⟩) hb1).trans hx
    have hcut := Ints.cut (l := 1) (m := m) hI (by omega) (Nat.le_refl _)
    have hcut' := Lib.hid hcut
    have hlo := belowI_lo (ls.getD 0 0) n h2
    have hhi := belowI_hi (ls.getD 0 0) n h2
    subst hA
    generalize ls.getD 0 0 = x at *
    clear hcut hI hB hx
    have k1 : ((m : Int) == 0) = false := by simp; omega
    have k2 : decide (n < 1) = false := by simp; omega
    go_enter Tryd.func20, Tryd.ntmps20
    go_wp2_with (go_at_call 22; refine (below_c x n _ (by omega) (by omega)).mono ?_; rintro e w' ⟨rfl, rfl⟩)
    all_goals
      go_ret
      refine ⟨_, _, _, _, (ls.take m).drop 1, rfl, hlo, hhi, Nat.sub_le _ _, rfl, ?_⟩
      simpa [*, Addr.add] using hcut'.out

/-- one number, as a natural number -/
def NextN (w0 w : World) (m0 : Nat) (b : Nat) (n : Nat) (e : Ending) (w' : World) : Prop :=
  ∃ (v : Nat) (A : Option Addr) (m c : Nat) (ls : List Int), e = .returned (.int .i64 (v : Int)) ∧ v < n ∧ m ≤ m0 ∧ w' = w.setCell ⟨b, 0, none⟩ (.slice A m c) ∧ Ints w0 A m c ls
theorem snext_n (w0 w : World) (b : Nat) (n : Nat) (q : Int) (hq : q = (n : Int)) (A : Option Addr) (m c : Nat) (ls : List Int) (hI : Ints w0 A m c ls) (hB : Below w0.heap.size w0 w)
    (hcell : w.cell? ⟨b, 0, none⟩ = some (.slice A m c)) (hf : w.frozen? ⟨b, 0, none⟩ = false) (hn : n ≤ 1000000000) (hn1 : 1 ≤ n) :
    Calls Tryd.prog 20 #[.pointer (some ⟨b, 0, none⟩), .int .i64 q] w (NextN w0 w m b n) := by
  subst hq
  refine (snext_c1 w0 w b n A m c ls hI hB hcell hf (by omega) (by omega)).mono ?_
  rintro e w' ⟨v, A', m', c', l', rfl, h2, h3, h4⟩
  exact ⟨v.toNat, A', m', c', l', by rw [Int.toNat_of_nonneg h2], by omega, h4⟩
end Go.Proofs.YthiikgjeamoocaaDoor

