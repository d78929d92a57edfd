/- Append onto a row of the call's own from any int slice. -/
import Derived.Test.YtghnkgbingcbcaaKA
namespace Go.Proofs.Ytghnkgbingcbcaa
open Go.RowKit

theorem int_info : (Try.prog.info? 3).map (fun i => (i.zero, i.size, i.bytes)) = some (some (.int .i64 0), 1, 8) := by kernel_rfl

/-- the call's own row of ints -/
def OwnI (w : World) (base : Nat) (v : Value) (n : Nat) (xs : List Int) : Prop := w.ownsRow base 3 1 v n (xs.map (Value.int .i64))

section
variable {w w' : World} {base n c : Nat} {v : Value} {A : Option Addr} {xs ys : List Int}
theorem OwnI.lt (h : OwnI w base v n xs) : ∀ k, v.ownBlock = some k → base ≤ k ∧ k < w.heap.size := World.ownsRow.lt h
theorem OwnI.form (h : OwnI w base v n xs) : ∃ A c, v = .slice A n c ∧ Ints w A n c xs := by
  have hl := h.1
  simp only [List.length_map, Nat.mul_one] at hl
  rcases h.2 with ⟨rfl, rfl⟩ | ⟨g, cap, cur, rfl, hb, hh, hc1, hc2, hc3, htk⟩
  · have : xs = [] := List.eq_nil_of_length_eq_zero hl
    subst this
    exact ⟨none, 0, rfl, Ints.nil w⟩
  · refine ⟨_, _, rfl, hl, hc1, fun _ => ⟨g, 0, rfl, fun i hi => ?_⟩⟩
    rw [Nat.zero_add, cell_of_row w g i cur _ (0, 0) hh]
    have e1 : (xs.map (Value.int .i64))[i]? = some (.int .i64 (xs.getD i 0)) := by
      simp [List.getD_eq_getElem?_getD, List.getElem?_eq_getElem (show i < xs.length by omega)]
    rw [← htk, List.getElem?_take, if_pos (by omega)] at e1
    simpa using e1
theorem OwnI.toInts {n' c' : Nat} (h : OwnI w base (.slice A n' c') n xs) : Ints w A n c' xs := by
  obtain ⟨A1, c1, e, hI⟩ := h.form
  cases e
  exact hI
theorem OwnI.block {n' c' : Nat} (h : OwnI w base (.slice A n' c') n xs) : ∀ ad, A = some ad → base ≤ ad.block ∧ ad.block < w.heap.size := fun ad e => h.lt ad.block (by simp [Value.ownBlock, e])
theorem OwnI.keep (h : OwnI w base v n xs) {B : Nat} (hb : Below B w w') (hB : w.heap.size ≤ B) : OwnI w' base v n xs := by
  refine ⟨h.1, ?_⟩
  rcases h.2 with h0 | ⟨g, cap, cur, rfl, h1, hh, hr⟩
  · exact Or.inl h0
  · refine Or.inr ⟨g, cap, cur, rfl, h1, ?_, hr⟩
    rw [hb.block g (Nat.lt_of_lt_of_le (Array.getElem?_eq_some_iff.1 hh).1 hB)]
    exact hh
theorem OwnI.nil (w : World) (base : Nat) : OwnI w base (.slice none 0 0) 0 [] := World.ownsRow_nil w base _ 1
theorem OwnI.lt' (h : OwnI w base v n xs) : ∀ k, v.ownBlock = some k → base ≤ k ∧ k < w.heap.size := World.ownsRow.lt h
theorem Ints.cells {a : Addr} (h : Ints w (some a) n c xs) : ∀ j u, (xs.map (Value.int .i64))[j]? = some u → w.cell? (a.add j) = some u := by
  intro j u hu
  have hj : j < xs.length := by
    have := (List.getElem?_eq_some_iff.1 hu).1
    simpa using this
  obtain ⟨b, off, e, hc⟩ := h.2.2 (by have := h.1; omega)
  have := Option.some.inj e
  subst this
  rw [Addr.add_lit]
  rw [hc j (by have := h.1; omega), ← hu]
  simp [List.getD_eq_getElem?_getD, hj]
end

section
variable {P : Program} (w : World)
/-- append onto an own row, the source any int slice, nil let in -/
theorem run_append_ints (base : Nat) (ty : TypeId) (v : Value) (n : Nat) (xs : List Int) (hown : OwnI w base v n xs)
    (A : Option Addr) (m c : Nat) (ys : List Int) (hr : Ints w A m c ys) (hb : n + m ≤ 17592186044416) (hbase : base ≤ w.heap.size) :
    ∃ v' w', (Builtin.append_ #[22, 22] ty #[v, .slice A m c]).run Try.prog w = .ok v' w' ∧ OwnI w' base v' (n + m) (xs ++ ys) ∧ w.grownBy w' v.ownBlock ∧
      (v'.ownBlock = v.ownBlock ∨ v'.ownBlock = some w.heap.size) := by
  obtain ⟨i, hi, hz, hs, hby⟩ := info_parts int_info
  unfold OwnI
  rw [List.map_append]
  rcases A with _ | ad
  · have hm : m = 0 := by
      rcases Nat.eq_zero_or_pos m with h0 | h0
      · exact h0
      · obtain ⟨b, off, h, _⟩ := hr.2.2 h0
        cases h
    subst hm
    have hn : ys = [] := List.eq_nil_of_length_eq_zero hr.1
    subst hn
    refine ⟨v, w, ?_, by rw [List.map_nil, List.append_nil]; exact hown, World.grownBy.refl w _, Or.inl rfl⟩
    rcases hown.2 with ⟨rfl, rfl⟩ | ⟨g, cap, cur, rfl, _, _, hnc, _⟩
    · simp [Builtin.append_, run_underlying Try.underlying22, sizeOf, typeInfo, hi, Builtin.lenOf, Builtin.firstCells]
    · simp [Builtin.append_, run_underlying Try.underlying22, sizeOf, typeInfo, hi, Builtin.lenOf, Builtin.firstCells, hnc, storeCells]
  · obtain ⟨v', w', hrun, h2, h3, _, h5⟩ := run_append_own_at (P := Try.prog) w base 22 ty 3 i _ 1 8 Try.underlying22 hi hz hs hby rfl (by omega) v n _ hown ad m c (ys.map (Value.int .i64)) (by simp [hr.1]) hr.cells (ints_oneCell _ _) (by simp only [maxLen]; omega) (by omega) hbase
    exact ⟨v', w', hrun, h2, h3, h5⟩

theorem wp_append_ints {o : Oper} {a : Act} {K : Act → World → Prop} {Q : Exit → Act → World → Prop} (s x : Operand)
    (ho : o.op = .call { callee := .builtin .append, args := #[s, x], argTypes := #[22, 22] })
    (base : Nat) (v : Value) (n : Nat) (xs : List Int) (hs : a.eval s = v) (hown : OwnI w base v n xs)
    (A : Option Addr) (m c : Nat) (ys : List Int) (hx : a.eval x = .slice A m c) (hr : Ints w A m c ys) (hb : n + m ≤ 17592186044416) (hbase : base ≤ w.heap.size)
    (h : ∀ A' c' w', OwnI w' base (.slice A' (n + m) c') (n + m) (xs ++ ys) → w.grownBy w' v.ownBlock → ((Value.slice A' (n + m) c').ownBlock = v.ownBlock ∨ (Value.slice A' (n + m) c').ownBlock = some w.heap.size) → K (a.put o.dst (.slice A' (n + m) c')) w') : o.wp Try.prog a w K Q := by
  obtain ⟨v', w', hrun, h2, h3, h4⟩ := run_append_ints w base o.type v n xs hown A m c ys hr hb hbase
  unfold Oper.wp execOp
  simp only [ho, resolve, invoke, builtin, Sem.run_bind, Sem.run_pure, Result.andThen_ok, List.map_toArray, List.map_cons, List.map_nil, hs, hx, hrun]
  obtain ⟨A', c', rfl, _⟩ := h2.form
  exact h A' c' w' h2 h3 h4

theorem wpList_append_ints {ops : Array Oper} {rest : List Oper} {o : Oper} {a : Act} {Q : Exit → Act → World → Prop} (hgd : o.guard = none) (s x : Operand)
    (ho : o.op = .call { callee := .builtin .append, args := #[s, x], argTypes := #[22, 22] })
    (base : Nat) (v : Value) (n : Nat) (xs : List Int) (hs : a.eval s = v) (hown : OwnI w base v n xs)
    (A : Option Addr) (m c : Nat) (ys : List Int) (hx : a.eval x = .slice A m c) (hr : Ints w A m c ys) (hb : n + m ≤ 17592186044416) (hbase : base ≤ w.heap.size)
    (h : ∀ A' c' w', OwnI w' base (.slice A' (n + m) c') (n + m) (xs ++ ys) → w.grownBy w' v.ownBlock → ((Value.slice A' (n + m) c').ownBlock = v.ownBlock ∨ (Value.slice A' (n + m) c').ownBlock = some w.heap.size) → wpList Try.prog ops Q rest (a.put o.dst (.slice A' (n + m) c')) w') : wpList Try.prog ops Q (o :: rest) a w :=
  wpList_plain hgd fun _ hK => wp_append_ints w s x ho base v n xs hs hown A m c ys hx hr hb hbase fun A' c' w' h2 h3 h4 => hK _ _ (h A' c' w' h2 h3 h4)
end

theorem step_append_ints (w : World) {ops : Array Oper} {o : Oper} {a : Act} {K : Act → World → Prop} {Q : Exit → Act → World → Prop} {E : Prop} (hgd : o.guard = none) (s x : Operand)
    (ho : o.op = .call { callee := .builtin .append, args := #[s, x], argTypes := #[22, 22] })
    (base : Nat) (v : Value) (n : Nat) (xs : List Int) (hs : a.eval s = v) (hown : OwnI w base v n xs)
    (A : Option Addr) (m c : Nat) (ys : List Int) (hx : a.eval x = .slice A m c) (hr : Ints w A m c ys) (hb : n + m ≤ 17592186044416) (hbase : base ≤ w.heap.size)
    (h : ∀ A' c' w', OwnI w' base (.slice A' (n + m) c') (n + m) (xs ++ ys) → w.grownBy w' v.ownBlock → ((Value.slice A' (n + m) c').ownBlock = v.ownBlock ∨ (Value.slice A' (n + m) c').ownBlock = some w.heap.size) → K (a.put o.dst (.slice A' (n + m) c')) w') :
    if Region.wanted o (yielded ops a.tmps) = true then Oper.wp Try.prog o a w K Q else E := by
  rw [if_pos (by simp [Region.wanted, hgd])]
  exact wp_append_ints w s x ho base v n xs hs hown A m c ys hx hr hb hbase h

theorem Ints.isNone {w : World} {n c : Nat} {xs : List Int} (h : Ints w none n c xs) : n = 0 ∧ xs = [] := by
  have : n = 0 := by
    rcases Nat.eq_zero_or_pos n with h0 | h0
    · exact h0
    · obtain ⟨b, off, e, _⟩ := h.2.2 h0; cases e
  exact ⟨this, List.eq_nil_of_length_eq_zero (by rw [h.1, this])⟩

theorem OwnI.alloc {w : World} {base n : Nat} {v : Value} {xs : List Int} (h : OwnI w base v n xs) (o : Obj) : OwnI (w.alloc o) base v n xs := World.ownsRow.alloc h o
theorem Ints.alloc {w : World} {A : Option Addr} {n c : Nat} {xs : List Int} (h : Ints w A n c xs) (o : Obj) : Ints (w.alloc o) A n c xs :=
  h.keep ((Below.refl w.heap.size w).alloc (Nat.le_refl _) o) (Nat.le_refl _)
theorem Ints.one (w : World) (y : Int) (t : TypeId) : Ints (w.alloc (.cells #[.int .i64 y] t)) (some ⟨w.heap.size, 0, none⟩) 1 1 [y] :=
  ⟨rfl, Nat.le_refl _, fun _ => ⟨w.heap.size, 0, rfl, fun i hi => by
    have : i = 0 := by omega
    subst this
    rw [Nat.zero_add, World.cell?_alloc_new]; rfl⟩⟩
theorem OwnI.setCell {w : World} {base n : Nat} {v : Value} {xs : List Int} (h : OwnI w base v n xs) {p : Addr} (hp : p.block < base) (u : Value) : OwnI (w.setCell p u) base v n xs := ownsRow_setCell_below h hp u
/-- what an append onto an own row leaves of 'Below' -/
theorem OwnI.grown {w w' w0 : World} {base n B : Nat} {v : Value} {xs : List Int} (h : OwnI w base v n xs) (hb : Below B w0 w) (hg : w.grownBy w' v.ownBlock) (hB : B ≤ base) (hs : B ≤ w.heap.size) : Below B w0 w' :=
  hb.grown hg hs fun k hk => Nat.le_trans hB (h.lt k hk).1
end Go.Proofs.Ytghnkgbingcbcaa
