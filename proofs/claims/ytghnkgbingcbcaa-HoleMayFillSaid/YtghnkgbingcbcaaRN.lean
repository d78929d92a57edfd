/- price, slices.ContainsFunc on costs, operations in memory. -/
import Derived.Test.YtghnkgbingcbcaaRM
namespace Go.Proofs.Ytghnkgbingcbcaa
open Go.RowKit

def PriceP (w : World) (e : Ending) (w' : World) : Prop :=
  ∃ c0 c1 c2 : Int, e = .returned (.agg #[.int .i64 c0, .int .i64 c1, .int .i64 c2]) ∧ 1 ≤ c0 ∧ c0 ≤ 9 ∧ 1 ≤ c1 ∧ c1 ≤ 9 ∧ 1 ≤ c2 ∧ c2 ≤ 9 ∧ Below w.heap.size w w'

set_option maxRecDepth 100000 in
set_option maxHeartbeats 2000000 in
theorem price_c (A : Option Addr) (m c : Nat) (ls : List Int) (w : World) (h : Ints w A m c ls) :
    Calls Try.prog 10 #[.slice A m c] w (PriceP w) := by
  have B0 := (Blk.new w 30 #[.int .i64 0, .int .i64 0, .int .i64 0]).al (.cells #[.slice A m c] 88)
  have B1 := Blk.new (w.alloc (.cells #[.int .i64 0, .int .i64 0, .int .i64 0] 30)) 88 #[.slice A m c]
  rw [World.size_alloc] at B1
  have hB := ((Below.refl w.heap.size w).al (.cells #[.int .i64 0, .int .i64 0, .int .i64 0] 30)).al (.cells #[.slice A m c] 88)
  go_enter Try.func10, Try.ntmps10
  go_wp2_with fail
  generalize (w.alloc (.cells #[.int .i64 0, .int .i64 0, .int .i64 0] 30)).alloc (.cells #[.slice A m c] 88) = W at *
  refine (rnext_n w W (w.heap.size + 1) 9 _ rfl A m c ls h hB (B1.cell 0) (B1.frozen 0) (by omega) (by omega)).mono ?_
  rintro e w' ⟨v1, A1, m1, c1, l1, rfl, hv1, hm1, rfl, hI1⟩
  replace B0 := B0.far (p := ⟨w.heap.size + 1, 0, none⟩) (by simp) (.slice A1 m1 c1)
  replace B1 := B1.set1 (.slice A1 m1 c1)
  replace hB := hB.setCell (p := ⟨w.heap.size + 1, 0, none⟩) (by simp) (.slice A1 m1 c1)
  generalize W.setCell ⟨w.heap.size + 1, 0, none⟩ (.slice A1 m1 c1) = W1 at *
  clear h hm1
  go_wp2_with fail
  refine (rnext_n w W1 (w.heap.size + 1) 9 _ rfl A1 m1 c1 l1 hI1 hB (B1.cell 0) (B1.frozen 0) (by omega) (by omega)).mono ?_
  rintro e w' ⟨v2, A2, m2, c2, l2, rfl, hv2, hm2, rfl, hI2⟩
  replace B0 := B0.far (p := ⟨w.heap.size + 1, 0, none⟩) (by simp) (.slice A2 m2 c2)
  replace B1 := B1.set1 (.slice A2 m2 c2)
  replace hB := hB.setCell (p := ⟨w.heap.size + 1, 0, none⟩) (by simp) (.slice A2 m2 c2)
  generalize W1.setCell ⟨w.heap.size + 1, 0, none⟩ (.slice A2 m2 c2) = W2 at *
  clear hI1 hm2
  go_wp2_with fail
  refine (rnext_n w W2 (w.heap.size + 1) 9 _ rfl A2 m2 c2 l2 hI2 hB (B1.cell 0) (B1.frozen 0) (by omega) (by omega)).mono ?_
  rintro e w' ⟨v3, A3, m3, c3, l3, rfl, hv3, hm3, rfl, hI3⟩
  replace B0 := B0.far (p := ⟨w.heap.size + 1, 0, none⟩) (by simp) (.slice A3 m3 c3)
  replace hB := hB.setCell (p := ⟨w.heap.size + 1, 0, none⟩) (by simp) (.slice A3 m3 c3)
  generalize W2.setCell ⟨w.heap.size + 1, 0, none⟩ (.slice A3 m3 c3) = W3 at *
  clear hI2 hm3 hI3 B1
  have HB := Lib.hid hB
  clear hB
  have cB0 := B0.cell
  have fB0 := B0.frozen
  have lB0 := B0.lt
  go_wp2_with fail
  refine bodyPost_ret (v := .agg #[.int .i64 (1 + (v1 : Int)), .int .i64 (1 + (v2 : Int)), .int .i64 (1 + (v3 : Int))]) (by simp [results, Try.results10, go_sem, cB0]) rfl ⟨_, _, _, rfl, by omega, by omega, by omega, by omega, by omega, by omega, below_set3 HB.out (by omega) _ _ _⟩

set_option maxRecDepth 100000 in
set_option maxHeartbeats 1000000 in
theorem rng_c (x : Int) (w : World) (h1 : 1 ≤ x) (h2 : x ≤ 100) : Calls Try.prog 35 #[.int .i64 x] w fun e w' => e = .returned (.bool false) ∧ w' = w := by
  have e1 : decide (x < 1) = false := by simp; omega
  have e2 : decide (100 < x) = false := by simp; omega
  go_enter Try.func35, Try.ntmps35
  go_wp2_with fail
  go_ret
  exact ⟨rfl, rfl⟩
set_option maxRecDepth 100000 in
set_option maxHeartbeats 1000000 in
theorem indexf_c (A : Option Addr) (n c : Nat) (xs : List Int) (w : World) (h : Ints w A n c xs) (hn : n ≤ 1000) (hx : ∀ x ∈ xs, 1 ≤ x ∧ x ≤ 100) :
    Calls Try.prog 55 #[.slice A n c, .func (.func 35) #[] #[]] w (IntS w (-1)) := by
  have H := Lib.hid h
  have HX := Lib.hid hx
  clear h hx
  go_enter Try.func55, Try.ntmps55
  go_wp2_with fail
  go_loopw [8] (fun i wr => ∃ k : Nat, i = .int .i64 k ∧ k ≤ n ∧ wr = w) (fun i _ => n - (intOf i).toNat)
  case atStart => exact ⟨0, rfl, Nat.zero_le _, rfl⟩
  case round =>
    obtain ⟨k, rfl, hk, rfl⟩ := hrel
    by_cases hlt : k < n
    · obtain ⟨b, o, rfl, hb, hc⟩ := H.out.at_ hlt
      have hm : xs.getD k 0 ∈ xs := by
        have hl : k < xs.length := by rw [H.out.len]; exact hlt
        rw [List.getD_eq_getElem?_getD, List.getElem?_eq_getElem hl]; exact List.getElem_mem hl
      have hr := HX.out _ hm
      clear hm
      generalize xs.getD k 0 = x at *
      have i0 : (0 : Int) ≤ (k : Int) := by omega
      have i1 : (k : Int) < (n : Int) := by omega
      go_wp2_with (go_at_call 35; refine (rng_c x _ hr.1 hr.2).mono ?_; rintro e w' ⟨rfl, rfl⟩)
      exact ⟨⟨k + 1, by go_num, by omega, by trivial⟩, by simp [intOf]; omega⟩
    · go_wp2_with fail
      go_ret
      exact ⟨rfl, rfl⟩
set_option maxRecDepth 100000 in
set_option maxHeartbeats 1000000 in
theorem containsf_c (A : Option Addr) (n c : Nat) (xs : List Int) (w : World) (h : Ints w A n c xs) (hn : n ≤ 1000) (hx : ∀ x ∈ xs, 1 ≤ x ∧ x ≤ 100) :
    Calls Try.prog 26 #[.slice A n c, .func (.func 35) #[] #[]] w fun e w' => e = .returned (.bool false) ∧ w = w' := by
  have H := Lib.hid h
  have HX := Lib.hid hx
  clear h hx
  go_enter Try.func26, Try.ntmps26
  go_wp2_with fail
  refine (indexf_c A n c xs w H.out hn HX.out).mono ?_
  rintro e w' ⟨rfl, rfl⟩
  go_wp2_with fail
  go_ret
  exact ⟨rfl, rfl⟩

/-! ### operations: kind, position, terminal -/
abbrev OpV := Int × Int × Int
def OpE : Elem OpV OpV where
  k := 3
  cells s := [.int .i64 s.1, .int .i64 s.2.1, .int .i64 s.2.2]
  rel _ _ r x := r = x
  pos := by omega
  len _ := rfl
  one r u hu := by simp at hu; rcases hu with rfl | rfl | rfl <;> rfl
  agr h _ := h
  mono h _ := h
theorem op_info : (Try.prog.info? 94).map (fun i => (i.zero, i.size, i.bytes)) = some (some (.agg #[.int .i64 0, .int .i64 0, .int .i64 0]), 3, 24) := by kernel_rfl
theorem wpList_append_op {ops : Array Oper} {rest : List Oper} {o : Oper} {a : Act} {Q : Exit → Act → World → Prop} (w : World) (hgd : o.guard = none) (s y : Operand)
    (ho : o.op = .call { callee := .builtin .append, args := #[s, y], argTypes := #[39, 39] })
    (ok : Nat → Prop) (base : Nat) (v : Value) (n : Nat) (l : List OpV) (hv : a.eval s = v) (hown : Own OpE 94 ok w base v n l)
    (b : Nat) (x : OpV) (hy : a.eval y = .slice (some ⟨b, 0, none⟩) 1 1) (hcell : Blk w b 94 #[.int .i64 x.1, .int .i64 x.2.1, .int .i64 x.2.2])
    (h63 : n + 1 ≤ 1000000) (hbase : base ≤ w.heap.size)
    (h : ∀ A' c' w', Own OpE 94 ok w' base (.slice A' (n + 1) c') (n + 1) (l ++ [x]) → w.grownBy w' v.ownBlock → ((Value.slice A' (n + 1) c').ownBlock = v.ownBlock ∨ (Value.slice A' (n + 1) c').ownBlock = some w.heap.size) → wpList Try.prog ops Q rest (a.put o.dst (.slice A' (n + 1) c')) w') : wpList Try.prog ops Q (o :: rest) a w := by
  obtain ⟨i, hi, hz⟩ := Option.map_eq_some_iff.1 op_info
  simp only [Prod.mk.injEq] at hz
  refine wpList_append_E (E := OpE) w hgd s y 39 94 ho i (.agg #[.int .i64 0, .int .i64 0, .int .i64 0]) 24 (by kernel_rfl) hi hz.1 hz.2.1 hz.2.2 rfl ok base v n l hv hown b x x hy (fun j u hu => ?_) rfl (by simp [maxLen]; omega) (by omega) hbase h
  rw [hcell.cell j]
  rw [List.getElem?_toArray]; exact hu

/-- how far operations have come in the first word, and in the second one -/
def iOf (os : List OpV) : Nat := (os.filter fun o => o.1 != 1).length
def jOf (os : List OpV) : Nat := (os.filter fun o => o.1 != 2).length
theorem iOf_snoc (os : List OpV) (o : OpV) : iOf (os ++ [o]) = iOf os + if o.1 = 1 then 0 else 1 := by
  unfold iOf; rw [List.filter_append]; by_cases h : o.1 = 1 <;> simp [h]
theorem jOf_snoc (os : List OpV) (o : OpV) : jOf (os ++ [o]) = jOf os + if o.1 = 2 then 0 else 1 := by
  unfold jOf; rw [List.filter_append]; by_cases h : o.1 = 2 <;> simp [h]
/-- an operation that fits at positions i and j -/
def OpOk (xs ys : List Int) (i j : Nat) (o : OpV) : Prop :=
  o.2.1 = (i : Int) ∧ ((o.1 = 0 ∧ xs[i]? = some o.2.2 ∧ ys[j]? = some o.2.2) ∨ (o.1 = 1 ∧ ys[j]? = some o.2.2) ∨ (o.1 = 2 ∧ i < xs.length) ∨ (o.1 = 3 ∧ i < xs.length ∧ ys[j]? = some o.2.2))
def OpsOk (xs ys : List Int) (os : List OpV) : Prop := ∀ k o, os[k]? = some o → OpOk xs ys (iOf (os.take k)) (jOf (os.take k)) o
theorem OpsOk.nil (xs ys : List Int) : OpsOk xs ys [] := fun k o h => by simp at h
theorem OpsOk.snoc {xs ys : List Int} {os : List OpV} {o : OpV} (h : OpsOk xs ys os) (h2 : OpOk xs ys (iOf os) (jOf os) o) : OpsOk xs ys (os ++ [o]) := by
  intro k x hx
  rcases Nat.lt_or_ge k os.length with hk | hk
  · rw [List.getElem?_append_left hk] at hx
    rw [List.take_append_of_le_length (by omega)]
    exact h k x hx
  · rw [List.getElem?_append_right hk] at hx
    have e0 : k - os.length = 0 := by
      have := (List.getElem?_eq_some_iff.1 hx).1; simp at this; omega
    rw [e0] at hx
    simp at hx
    subst hx
    have : k = os.length := by omega
    subst this
    rw [List.take_left']
    · exact h2
    · rfl
/-- what operations cost -/
def opCost (c0 c1 c2 : Int) (o : OpV) : Int := if o.1 = 1 then c0 else if o.1 = 2 then c1 else if o.1 = 3 then c2 else 0
def opsCost (c0 c1 c2 : Int) : List OpV → Int
  | [] => 0
  | o :: os => opCost c0 c1 c2 o + opsCost c0 c1 c2 os
theorem opsCost_append (c0 c1 c2 : Int) (a b : List OpV) : opsCost c0 c1 c2 (a ++ b) = opsCost c0 c1 c2 a + opsCost c0 c1 c2 b := by
  induction a with
  | nil => simp [opsCost]
  | cons o os ih => simp only [List.cons_append, opsCost, ih]; omega
theorem take_at {α : Type} {l : List α} {k : Nat} {x : α} (h : l[k]? = some x) : l.take (k + 1) = l.take k ++ [x] := by
  have hl := List.getElem?_eq_some_iff.1 h
  rw [List.take_succ_eq_append_getElem hl.1, hl.2]
theorem Ints.three (w : World) (x y z : Int) (t : TypeId) : Ints (w.alloc (.cells #[.int .i64 x, .int .i64 y, .int .i64 z] t)) (some ⟨w.heap.size, 0, none⟩) 3 3 [x, y, z] :=
  ⟨rfl, Nat.le_refl _, fun _ => ⟨w.heap.size, 0, rfl, fun i hi => by
    rw [Nat.zero_add]
    match i, hi with
    | 0, _ => rw [World.cell?_alloc_new]; rfl
    | 1, _ => rw [World.cell?_alloc_new]; rfl
    | 2, _ => rw [World.cell?_alloc_new]; rfl⟩⟩
theorem Ints.two (w : World) (x y : Int) (t : TypeId) : Ints (w.alloc (.cells #[.int .i64 x, .int .i64 y] t)) (some ⟨w.heap.size, 0, none⟩) 2 2 [x, y] :=
  ⟨rfl, Nat.le_refl _, fun _ => ⟨w.heap.size, 0, rfl, fun i hi => by
    rw [Nat.zero_add]
    match i, hi with
    | 0, _ => rw [World.cell?_alloc_new]; rfl
    | 1, _ => rw [World.cell?_alloc_new]; rfl⟩⟩
end Go.Proofs.Ytghnkgbingcbcaa
