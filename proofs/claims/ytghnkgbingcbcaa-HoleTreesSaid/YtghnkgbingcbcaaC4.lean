/- Texts RN, RP, laid together. -/
import Derived.Test.YtghnkgbingcbcaaC3


namespace Go.Proofs.Ytghnkgbingcbcaa
open Go.RowKit

def PriceP (w : World) (e : Ending) (w' : World) : Prop :=
  ∃ c0 c1 c2 : Int, e = .returned (.agg #[.int .i64 c0, .int .i64 c1, .int .i64 c2]) ∧ 1 ≤ c0 ∧ c0 ≤ 9 ∧ 1 ≤ c1 ∧ c1 ≤ 9 ∧ 1 ≤ c2 ∧ c2 ≤ 9 ∧ Below w.heap.size w w'

set_option maxRecDepth 100000 in
set_option maxHeartbeats 2000000 in
theorem price_c (A : Option Addr) (m c : Nat) (ls : List Int) (w : World) (h : Ints w A m c ls) :
    Calls Try.prog 10 #[.slice A m c] w (PriceP w) := by
  have B0 := (Blk.new w 30 #[.int .i64 0, .int .i64 0, .int .i64 0]).al (.cells #[.slice A m c] 88)
  have B1 := Blk.new (w.alloc (.cells #[.int .i64 0, .int .i64 0, .int .i64 0] 30)) 88 #[.slice A m c]
  rw [World.size_alloc] at B1
  have hB := ((Below.refl w.heap.size w).al (.cells #[.int .i64 0, .int .i64 0, .int .i64 0] 30)).al (.cells #[.slice A m c] 88)
  go_enter Try.func10, Try.ntmps10
  go_wp2_with fail
  generalize (w.alloc (.cells #[.int .i64 0, .int .i64 0, .int .i64 0] 30)).alloc (.cells #[.slice A m c] 88) = W at *
  refine (rnext_n w W (w.heap.size + 1) 9 _ rfl A m c ls h hB (B1.cell 0) (B1.frozen 0) (by omega) (by omega)).mono ?_
  rintro e w' ⟨v1, A1, m1, c1, l1, rfl, hv1, hm1, rfl, hI1⟩
  replace B0 := B0.far (p := ⟨w.heap.size + 1, 0, none⟩) (by simp) (.slice A1 m1 c1)
  replace B1 := B1.set1 (.slice A1 m1 c1)
  replace hB := hB.setCell (p := ⟨w.heap.size + 1, 0, none⟩) (by simp) (.slice A1 m1 c1)
  generalize W.setCell ⟨w.heap.size + 1, 0, none⟩ (.slice A1 m1 c1) = W1 at *
  clear h hm1
  go_wp2_with fail
  refine (rnext_n w W1 (w.heap.size + 1) 9 _ rfl A1 m1 c1 l1 hI1 hB (B1.cell 0) (B1.frozen 0) (by omega) (by omega)).mono ?_
  rintro e w' ⟨v2, A2, m2, c2, l2, rfl, hv2, hm2, rfl, hI2⟩
  replace B0 := B0.far (p := ⟨w.heap.size + 1, 0, none⟩) (by simp) (.slice A2 m2 c2)
  replace B1 := B1.set1 (.slice A2 m2 c2)
  replace hB := hB.setCell (p := ⟨w.heap.size + 1, 0, none⟩) (by simp) (.slice A2 m2 c2)
  generalize W1.setCell ⟨w.heap.size + 1, 0, none⟩ (.slice A2 m2 c2) = W2 at *
  clear hI1 hm2
  go_wp2_with fail
  refine (rnext_n w W2 (w.heap.size + 1) 9 _ rfl A2 m2 c2 l2 hI2 hB (B1.cell 0) (B1.frozen 0) (by omega) (by omega)).mono ?_
  rintro e w' ⟨v3, A3, m3, c3, l3, rfl, hv3, hm3, rfl, hI3⟩
  replace B0 := B0.far (p := ⟨w.heap.size + 1, 0, none⟩) (by simp) (.slice A3 m3 c3)
  replace hB := hB.setCell (p := ⟨w.heap.size + 1, 0, none⟩) (by simp) (.slice A3 m3 c3)
  generalize W2.setCell ⟨w.heap.size + 1, 0, none⟩ (.slice A3 m3 c3) = W3 at *
  clear hI2 hm3 hI3 B1
  have HB := Lib.hid hB
  clear hB
  have cB0 := B0.cell
  have fB0 := B0.frozen
  have lB0 := B0.lt
  go_wp2_with fail
  refine bodyPost_ret (v := .agg #[.int .i64 (1 + (v1 : Int)), .int .i64 (1 + (v2 : Int)), .int .i64 (1 + (v3 : Int))]) (by simp [results, Try.results10, go_sem, cB0]) rfl ⟨_, _, _, rfl, by omega, by omega, by omega, by omega, by omega, by omega, below_set3 HB.out (by omega) _ _ _⟩

set_option maxRecDepth 100000 in
set_option maxHeartbeats 1000000 in
theorem rng_c (x : Int) (w : World) (h1 : 1 ≤ x) (h2 : x ≤ 100) : Calls Try.prog 35 #[.int .i64 x] w fun e w' => e = .returned (.bool false) ∧ w' = w := by
  have e1 : decide (x < 1) = false := by simp; omega
  have e2 : decide (100 < x) = false := by simp; omega
  go_enter Try.func35, Try.ntmps35
  go_wp2_with fail
  go_ret
  exact ⟨rfl, rfl⟩
set_option maxRecDepth 100000 in
set_option maxHeartbeats 1000000 in
theorem indexf_c (A : Option Addr) (n c : Nat) (xs : List Int) (w : World) (h : Ints w A n c xs) (hn : n ≤ 1000) (hx : ∀ x ∈ xs, 1 ≤ x ∧ x ≤ 100) :
    Calls Try.prog 55 #[.slice A n c, .func (.func 35) #[] #[]] w (IntS w (-1)) := by
  have H := Lib.hid h
  have HX := Lib.hid hx
  clear h hx
  go_enter Try.func55, Try.ntmps55
  go_wp2_with fail
  go_loopw [8] (fun i wr => ∃ k : Nat, i = .int .i64 k ∧ k ≤ n ∧ wr = w) (fun i _ => n - (intOf i).toNat)
  case atStart => exact ⟨0, rfl, Nat.zero_le _, rfl⟩
  case round =>
    obtain ⟨k, rfl, hk, rfl⟩ := hrel
    by_cases hlt : k < n
    · obtain ⟨b, o, rfl, hb, hc⟩ := H.out.at_ hlt
      have hm : xs.getD k 0 ∈ xs := by
        have hl : k < xs.length := by rw [H.out.len]; exact hlt
        rw [List.getD_eq_getElem?_getD, List.getElem?_eq_getElem hl]; exact List.getElem_mem hl
      have hr := HX.out _ hm
      clear hm
      generalize xs.getD k 0 = x at *
      have i0 : (0 : Int) ≤ (k : Int) := by omega
      have i1 : (k : Int) < (n : Int) := by omega
      go_wp2_with (go_at_call 35; refine (rng_c x _ hr.1 hr.2).mono ?_; rintro e w' ⟨rfl, rfl⟩)
      exact ⟨⟨k + 1, by go_num, by omega, by trivial⟩, by simp [intOf]; omega⟩
    · go_wp2_with fail
      go_ret
      exact ⟨rfl, rfl⟩
set_option maxRecDepth 100000 in
set_option maxHeartbeats 1000000 in
theorem containsf_c (A : Option Addr) (n c : Nat) (xs : List Int) (w : World) (h : Ints w A n c xs) (hn : n ≤ 1000) (hx : ∀ x ∈ xs, 1 ≤ x ∧ x ≤ 100) :
    Calls Try.prog 26 #[.slice A n c, .func (.func 35) #[] #[]] w fun e w' => e = .returned (.bool false) ∧ w = w' := by
  have H := Lib.hid h
  have HX := Lib.hid hx
  clear h hx
  go_enter Try.func26, Try.ntmps26
  go_wp2_with fail
  refine (indexf_c A n c xs w H.out hn HX.out).mono ?_
  rintro e w' ⟨rfl, rfl⟩
  go_wp2_with fail
  go_ret
  exact ⟨rfl, rfl⟩

/-! ### operations: kind, position, terminal -/
abbrev OpV := Int × Int × Int
def OpE : Elem OpV OpV where
  k := 3
  cells s := [.int .i64 s.1, .int .i64 s.2.1, .int .i64 s.2.2]
  rel _ _ r x := r = x
  pos := by omega
  len _ := rfl
  one r u hu := by simp at hu; rcases hu with rfl | rfl | rfl <;> rfl
  agr h _ := h
  mono h _ := h
theorem op_info : (Try.prog.info? 94).map (fun i => (i.zero, i.size, i.bytes)) = some (some (.agg #[.int .i64 0, .int .i64 0, .int .i64 0]), 3, 24) := by kernel_rfl
theorem wpList_append_op {ops : Array Oper} {rest : List Oper} {o : Oper} {a : Act} {Q : Exit → Act → World → Prop} (w : World) (hgd : o.guard = none) (s y : Operand)
    (ho : o.op = .call { callee := .builtin .append, args := #[s, y], argTypes := #[39, 39] })
    (ok : Nat → Prop) (base : Nat) (v : Value) (n : Nat) (l : List OpV) (hv : a.eval s = v) (hown : Own OpE 94 ok w base v n l)
    (b : Nat) (x : OpV) (hy : a.eval y = .slice (some ⟨b, 0, none⟩) 1 1) (hcell : Blk w b 94 #[.int .i64 x.1, .int .i64 x.2.1, .int .i64 x.2.2])
    (h63 : n + 1 ≤ 1000000) (hbase : base ≤ w.heap.size)
    (h : ∀ A' c' w', Own OpE 94 ok w' base (.slice A' (n + 1) c') (n + 1) (l ++ [x]) → w.grownBy w' v.ownBlock → ((Value.slice A' (n + 1) c').ownBlock = v.ownBlock ∨ (Value.slice A' (n + 1) c').ownBlock = some w.heap.size) → wpList Try.prog ops Q rest (a.put o.dst (.slice A' (n + 1) c')) w') : wpList Try.prog ops Q (o :: rest) a w := by
  obtain ⟨i, hi, hz⟩ := Option.map_eq_some_iff.1 op_info
  simp only [Prod.mk.injEq] at hz
  refine wpList_append_E (E := OpE) w hgd s y 39 94 ho i (.agg #[.int .i64 0, .int .i64 0, .int .i64 0]) 24 (by kernel_rfl) hi hz.1 hz.2.1 hz.2.2 rfl ok base v n l hv hown b x x hy (fun j u hu => ?_) rfl (by simp [maxLen]; omega) (by omega) hbase h
  rw [hcell.cell j]
  rw [List.getElem?_toArray]; exact hu

/-- how far operations have come in the first word, and in the second one -/
def iOf (os : List OpV) : Nat := (os.filter fun o => o.1 != 1).length
def jOf (os : List OpV) : Nat := (os.filter fun o => o.1 != 2).length
theorem iOf_snoc (os : List OpV) (o : OpV) : iOf (os ++ [o]) = iOf os + if o.1 = 1 then 0 else 1 := by
  unfold iOf; rw [List.filter_append]; by_cases h : o.1 = 1 <;> simp [h]
theorem jOf_snoc (os : List OpV) (o : OpV) : jOf (os ++ [o]) = jOf os + if o.1 = 2 then 0 else 1 := by
  unfold jOf; rw [List.filter_append]; by_cases h : o.1 = 2 <;> simp [h]
/-- an operation that fits at positions i and j -/
def OpOk (xs ys : List Int) (i j : Nat) (o : OpV) : Prop :=
  o.2.1 = (i : Int) ∧ ((o.1 = 0 ∧ xs[i]? = some o.2.2 ∧ ys[j]? = some o.2.2) ∨ (o.1 = 1 ∧ ys[j]? = some o.2.2) ∨ (o.1 = 2 ∧ i < xs.length) ∨ (o.1 = 3 ∧ i < xs.length ∧ ys[j]? = some o.2.2))
def OpsOk (xs ys : List Int) (os : List OpV) : Prop := ∀ k o, os[k]? = some o → OpOk xs ys (iOf (os.take k)) (jOf (os.take k)) o
theorem OpsOk.nil (xs ys : List Int) : OpsOk xs ys [] := fun k o h => by simp at h
theorem OpsOk.snoc {xs ys : List Int} {os : List OpV} {o : OpV} (h : OpsOk xs ys os) (h2 : OpOk xs ys (iOf os) (jOf os) o) : OpsOk xs ys (os ++ [o]) := by
  intro k x hx
  rcases Nat.lt_or_ge k os.length with hk | hk
  · rw [List.getElem?_append_left hk] at hx
    rw [List.take_append_of_le_length (by omega)]
    exact h k x hx
  · rw [List.getElem?_append_right hk] at hx
    have e0 : k - os.length = 0 := by
      have := (List.getElem?_eq_some_iff.1 hx).1; simp at this; omega
    rw [e0] at hx
    simp at hx
    subst hx
    have : k = os.length := by omega
    subst this
    rw [List.take_left']
    · exact h2
    · rfl
/-- what operations cost -/
def opCost (c0 c1 c2 : Int) (o : OpV) : Int := if o.1 = 1 then c0 else if o.1 = 2 then c1 else if o.1 = 3 then c2 else 0
def opsCost (c0 c1 c2 : Int) : List OpV → Int
  | [] => 0
  | o :: os => opCost c0 c1 c2 o + opsCost c0 c1 c2 os
theorem opsCost_append (c0 c1 c2 : Int) (a b : List OpV) : opsCost c0 c1 c2 (a ++ b) = opsCost c0 c1 c2 a + opsCost c0 c1 c2 b := by
  induction a with
  | nil => simp [opsCost]
  | cons o os ih => simp only [List.cons_append, opsCost, ih]; omega
theorem take_at {α : Type} {l : List α} {k : Nat} {x : α} (h : l[k]? = some x) : l.take (k + 1) = l.take k ++ [x] := by
  have hl := List.getElem?_eq_some_iff.1 h
  rw [List.take_succ_eq_append_getElem hl.1, hl.2]
theorem Ints.three (w : World) (x y z : Int) (t : TypeId) : Ints (w.alloc (.cells #[.int .i64 x, .int .i64 y, .int .i64 z] t)) (some ⟨w.heap.size, 0, none⟩) 3 3 [x, y, z] :=
  ⟨rfl, Nat.le_refl _, fun _ => ⟨w.heap.size, 0, rfl, fun i hi => by
    rw [Nat.zero_add]
    match i, hi with
    | 0, _ => rw [World.cell?_alloc_new]; rfl
    | 1, _ => rw [World.cell?_alloc_new]; rfl
    | 2, _ => rw [World.cell?_alloc_new]; rfl⟩⟩
theorem Ints.two (w : World) (x y : Int) (t : TypeId) : Ints (w.alloc (.cells #[.int .i64 x, .int .i64 y] t)) (some ⟨w.heap.size, 0, none⟩) 2 2 [x, y] :=
  ⟨rfl, Nat.le_refl _, fun _ => ⟨w.heap.size, 0, rfl, fun i hi => by
    rw [Nat.zero_add]
    match i, hi with
    | 0, _ => rw [World.cell?_alloc_new]; rfl
    | 1, _ => rw [World.cell?_alloc_new]; rfl⟩⟩
end Go.Proofs.Ytghnkgbingcbcaa



namespace Go.Proofs.Ytghnkgbingcbcaa
open Go.RowKit

def AlignP (w : World) (xs ys : List Int) (c0 c1 c2 : Int) (e : Ending) (w' : World) : Prop :=
  ∃ (A : Option Addr) (k c : Nat) (os : List OpV), e = .returned (.tuple #[.int .i64 (dpV c0 c1 (gR c0 c1 c2) xs ys 0 0), .slice A k c, .int .i64 0]) ∧ Sl OpE (fun _ => True) w' A k c os ∧ OpsOk xs ys os ∧ iOf os = xs.length ∧ jOf os = ys.length ∧
    opsCost c0 c1 c2 os = dpV c0 c1 (gR c0 c1 c2) xs ys 0 0 ∧ k ≤ 400 ∧ Below w.heap.size w w'
/-- on the way -/
structure AlR (w1 : World) (xs ys : List Int) (c0 c1 c2 : Int) (os : List OpV) (k i j : Nat) (v : Value) (wr : World) : Prop where
  own : Own OpE 94 (fun _ => True) wr w1.heap.size v k os
  bel : Below w1.heap.size w1 wr
  ok : OpsOk xs ys os
  ei : iOf os = i
  ej : jOf os = j
  li : i ≤ xs.length
  lj : j ≤ ys.length
  len : k ≤ i + j
  cost : opsCost c0 c1 c2 os + dpV c0 c1 (gR c0 c1 c2) xs ys i j = dpV c0 c1 (gR c0 c1 c2) xs ys 0 0
section
variable {w1 wr wa w4 : World} {xs ys : List Int} {c0 c1 c2 : Int} {os : List OpV} {k i j : Nat} {v v' : Value}
theorem AlR.via (h : AlR w1 xs ys c0 c1 c2 os k i j v wr) (hb : Below wr.heap.size wr wa) : AlR w1 xs ys c0 c1 c2 os k i j v wa :=
  ⟨h.own.via hb, h.bel.via hb, h.ok, h.ei, h.ej, h.li, h.lj, h.len, h.cost⟩
theorem AlR.drN (h : AlR w1 xs ys c0 c1 c2 os k i j v wr) (q : Nat) : AlR w1 xs ys c0 c1 c2 os k i j v (wr.drewN q) := h.via (below_drewN (Below.refl _ _) q)
theorem AlR.al (h : AlR w1 xs ys c0 c1 c2 os k i j v wr) (o : Obj) : AlR w1 xs ys c0 c1 c2 os k i j v (wr.alloc o) := h.via ((Below.refl wr.heap.size wr).alloc (Nat.le_refl _) o)
theorem AlR.push {x : OpV} {i' j' : Nat} (h : AlR w1 xs ys c0 c1 c2 os k i j v wr) (ho : Own OpE 94 (fun _ => True) w4 w1.heap.size v' (k + 1) (os ++ [x])) (hg : wr.grownBy w4 v.ownBlock)
    (hx : OpOk xs ys i j x) (hi : i' = i + if x.1 = 1 then 0 else 1) (hj : j' = j + if x.1 = 2 then 0 else 1) (hli : i' ≤ xs.length) (hlj : j' ≤ ys.length)
    (hc : opCost c0 c1 c2 x + dpV c0 c1 (gR c0 c1 c2) xs ys i' j' = dpV c0 c1 (gR c0 c1 c2) xs ys i j) : AlR w1 xs ys c0 c1 c2 (os ++ [x]) (k + 1) i' j' v' w4 := by
  refine ⟨ho, h.bel.grown hg h.bel.size fun b hb => (h.own.lt b hb).1, h.ok.snoc (by rw [h.ei, h.ej]; exact hx), by rw [iOf_snoc, h.ei, hi], by rw [jOf_snoc, h.ej, hj], hli, hlj, ?_, ?_⟩
  · have := h.len
    subst hi hj
    split <;> split <;> omega
  · rw [opsCost_append]
    have := h.cost
    simp only [opsCost]; omega
end

set_option maxRecDepth 100000 in
set_option maxHeartbeats 8000000 in
theorem align_c (A B : Option Addr) (n c m d : Nat) (xs ys : List Int) (c0 c1 c2 : Int) (w : World) (hx : Ints w A n c xs) (hy : Ints w B m d ys) (hn : n ≤ 200) (hm : m ≤ 200)
    (p0 : 1 ≤ c0) (q0 : c0 ≤ 100) (p1 : 1 ≤ c1) (q1 : c1 ≤ 100) (p2 : 1 ≤ c2) (q2 : c2 ≤ 100) :
    Calls Try.prog 12 #[.slice A n c, .slice B m d, .agg #[.int .i64 c0, .int .i64 c1, .int .i64 c2]] w (AlignP w xs ys c0 c1 c2) := by
  have HX := Lib.hid hx.len
  have HY := Lib.hid hy.len
  have B0 := Blk.new w 30 #[.int .i64 c0, .int .i64 c1, .int .i64 c2]
  have hB := (Below.refl w.heap.size w).al (.cells #[.int .i64 c0, .int .i64 c1, .int .i64 c2] 30)
  replace hx := hx.al (.cells #[.int .i64 c0, .int .i64 c1, .int .i64 c2] 30)
  replace hy := hy.al (.cells #[.int .i64 c0, .int .i64 c1, .int .i64 c2] 30)
  have hc : Ints (w.alloc (.cells #[.int .i64 c0, .int .i64 c1, .int .i64 c2] 30)) (some ⟨w.heap.size, 0, none⟩) 3 3 [c0, c1, c2] := Ints.three w c0 c1 c2 _
  go_enter Try.func12, Try.ntmps12
  go_wp2_with fail
  generalize w.alloc (.cells #[.int .i64 c0, .int .i64 c1, .int .i64 c2] 30) = W at *
  refine (containsf_c _ 3 3 [c0, c1, c2] W hc (by omega) (by intro x hx; simp at hx; rcases hx with rfl | rfl | rfl <;> omega)).mono ?_
  rintro e w' ⟨rfl, rfl⟩
  clear hc
  have HIX := Lib.hid hx
  have HIY := Lib.hid hy
  have HB := Lib.hid hB
  clear hx hy hB
  have cB0 := B0.cell
  have fB0 := B0.frozen
  have lB0 := B0.lt
  go_wp2_with fail
  clear cB0 fB0 lB0
  refine (distances_c A B n c m d xs ys c0 c1 c2 W HIX.out HIY.out hn hm p0 q0 p1 q1 p2 q2).mono ?_
  rintro e w1 ⟨bd, rb, rfl, hT, hb⟩
  have HT := Lib.hid hT
  replace B0 := B0.via hb
  have HIX1 := Lib.hid (HIX.out.via hb)
  have HIY1 := Lib.hid (HIY.out.via hb)
  have HB1 := Lib.hid (HB.out.via hb)
  have HB0 := Lib.hid B0
  clear hT hb HIX HIY HB B0
  go_wp2_with fail
  go_loopw [10, 11, 12] (fun v i j wr => ∃ (os : List OpV) (k ii jj : Nat), i = .int .i64 ii ∧ j = .int .i64 jj ∧ AlR w1 xs ys c0 c1 c2 os k ii jj v wr) (fun _ i j _ => (n - (intOf i).toNat) + (m - (intOf j).toNat))
  case atStart => exact ⟨[], 0, 0, 0, rfl, rfl, ⟨Own.nil _ _, Below.refl _ _, OpsOk.nil _ _, rfl, rfl, Nat.zero_le _, Nat.zero_le _, Nat.le_refl _, by simp [opsCost]⟩⟩
  case round =>
    obtain ⟨os, k, ii, jj, rfl, rfl, hr⟩ := hrel
    obtain ⟨Av, cv, rfl, -⟩ := hr.own.form
    have hli := hr.li
    have hlj := hr.lj
    have hkl := hr.len
    rw [HX.out] at hli
    rw [HY.out] at hlj
    have hsz := hr.bel.size
    have hTr := HT.out.via hr.bel
    have hBr := HB0.out.via hr.bel
    have hIXr := HIX1.out.via hr.bel
    have hIYr := HIY1.out.via hr.bel
    have HR := Lib.hid hr
    have hBB := Lib.hid (HB1.out.via hr.bel)
    clear hr
    by_cases hi : ii < n
    · by_cases hj : jj < m
      · have hkk : k + 1 ≤ 1000000 := by omega
        have gL := gR_least (c0 := c0) (c1 := c1) (c2 := c2) (by omega) (by omega) (by omega)
        have hV := dpV_bound (xs := xs) (ys := ys) gL q0 q1
        rw [HX.out, HY.out] at hV
        obtain ⟨bx, ox, rfl, hbx, gx⟩ := hIXr.at_ hi
        obtain ⟨by_, oy, rfl, hby, gy⟩ := hIYr.at_ hj
        have hxl : ii < xs.length := by rw [HX.out]; exact hi
        have hyl : jj < ys.length := by rw [HY.out]; exact hj
        have gx2 : xs[ii]? = some (xs.getD ii 0) := by rw [List.getD_eq_getElem?_getD, List.getElem?_eq_getElem hxl]; rfl
        have gy2 : ys[jj]? = some (ys.getD jj 0) := by rw [List.getD_eq_getElem?_getD, List.getElem?_eq_getElem hyl]; rfl
        have a1 : (0 : Int) ≤ (ii : Int) := by omega
        have a2 : (ii : Int) < (n : Int) := by omega
        have a3 : (0 : Int) ≤ (jj : Int) := by omega
        have a4 : (jj : Int) < (m : Int) := by omega
        have d1 : decide (ii < n) = true := by simpa using hi
        have d2 : decide (jj < m) = true := by simpa using hj
        by_cases hxy : xs.getD ii 0 = ys.getD jj 0
        · have hq := dpV_eq (c0 := c0) (c1 := c1) (g := gR c0 c1 c2) hxl hyl hxy
          have HP := fun (wa w4 : World) (Av1 : Option Addr) (cv1 : Nat) (ho1 : Own OpE 94 (fun _ => True) w4 w1.heap.size (.slice Av1 (k + 1) cv1) (k + 1) (os ++ [(0, (ii : Int), xs.getD ii 0)])) (h : AlR w1 xs ys c0 c1 c2 os k ii jj (.slice Av k cv) wa) (hg1 : wa.grownBy w4 (Value.slice Av k cv).ownBlock) =>
            AlR.push h ho1 hg1 (x := (0, (ii : Int), xs.getD ii 0)) (i' := ii + 1) (j' := jj + 1) ⟨rfl, Or.inl ⟨rfl, gx2, by rw [hxy]; exact gy2⟩⟩ (by simp) (by simp) (by omega) (by omega) (by rw [hq]; simp [opCost])
          have HPH := Lib.hid HP
          rw [← hxy] at gy
          generalize xs.getD ii 0 = xv at *
          have e3 : (xv == xv) = true := by simp
          clear HP hq hxy gx2 gy2 hTr hBr hV hIXr hIYr
          go_wp2_with fail
          go_quiet (fail)
          go_wp2_with (at_builtin; refine wpList_append_op _ rfl (.tmp 72) (.tmp 79) rfl (fun _ => True) w1.heap.size (.slice Av k cv) k os rfl ((HR.out.drN _).al _).own wr.heap.size (0, (ii : Int), xv) rfl (Blk.newAt _ _ _ wr.heap.size (by simp)) hkk (by simp; omega) ?_; intro Av1 cv1 w4 ho1 hg1 hat1)
          exact ⟨⟨_, _, ii + 1, jj + 1, by go_num, by go_num, HPH.out _ _ _ _ ho1 ((HR.out.drN _).al _) hg1⟩, by simp [intOf]; omega⟩
        · have hq := dpV_ne (c0 := c0) (c1 := c1) (g := gR c0 c1 c2) hxl hyl hxy
          have v0 := hV ii jj
          have v1 := hV (ii + 1) (jj + 1)
          have v2 := hV (ii + 1) jj
          have ct1 := hTr.cellTop (k := ii + 1) (by omega) (by omega)
          have cr1 := hTr.cellRow (k := ii + 1) (j := jj + 1) (by omega) (by omega) (by omega)
          have cr2 := hTr.cellRow (k := ii + 1) (j := jj) (by omega) (by omega) (by omega)
          have ct2 := hTr.cellTop (k := ii) (by omega) (by omega)
          have cr3 := hTr.cellRow (k := ii) (j := jj) (by omega) (by omega) (by omega)
          have k1 := hBr.cell 1
          have k2 := hBr.cell 2
          have hqq : dpV c0 c1 (gR c0 c1 c2) xs ys (ii + 1) (jj + 1) + c2 ≠ dpV c0 c1 (gR c0 c1 c2) xs ys ii jj → dpV c0 c1 (gR c0 c1 c2) xs ys (ii + 1) jj + c1 ≠ dpV c0 c1 (gR c0 c1 c2) xs ys ii jj → dpV c0 c1 (gR c0 c1 c2) xs ys ii (jj + 1) + c0 = dpV c0 c1 (gR c0 c1 c2) xs ys ii jj := by
            rw [hq]; unfold gR; intro h1 h2; (repeat' split at *) <;> omega
          have hxye : (xs.getD ii 0 == ys.getD jj 0) = false := by rw [beq_eq_false_iff_ne]; exact hxy
          have b1 : (ii : Int) + 1 < (n : Int) + 1 := by omega
          have b2 : (jj : Int) + 1 < (m : Int) + 1 := by omega
          have b3 : (ii : Int) < (n : Int) + 1 := by omega
          have b4 : (jj : Int) < (m : Int) + 1 := by omega
          by_cases r1 : dpV c0 c1 (gR c0 c1 c2) xs ys (ii + 1) (jj + 1) + c2 = dpV c0 c1 (gR c0 c1 c2) xs ys ii jj
          · have HP := Lib.hid (fun (wa w4 : World) (Av1 : Option Addr) (cv1 : Nat) (ho1 : Own OpE 94 (fun _ => True) w4 w1.heap.size (.slice Av1 (k + 1) cv1) (k + 1) (os ++ [(3, (ii : Int), ys.getD jj 0)])) (h : AlR w1 xs ys c0 c1 c2 os k ii jj (.slice Av k cv) wa) (hg1 : wa.grownBy w4 (Value.slice Av k cv).ownBlock) =>
            AlR.push h ho1 hg1 (x := (3, (ii : Int), ys.getD jj 0)) (i' := ii + 1) (j' := jj + 1) ⟨rfl, Or.inr (Or.inr (Or.inr ⟨rfl, hxl, gy2⟩))⟩ (by simp) (by simp) (by omega) (by omega) (by simp only [opCost]; simp; omega))
            generalize dpV c0 c1 (gR c0 c1 c2) xs ys (ii + 1) (jj + 1) = z1 at *
            generalize dpV c0 c1 (gR c0 c1 c2) xs ys (ii + 1) jj = z2 at *
            generalize dpV c0 c1 (gR c0 c1 c2) xs ys ii jj = z0 at *
            generalize xs.getD ii 0 = xv at *
            generalize ys.getD jj 0 = yv at *
            have e4 : (z1 + c2 == z0) = true := by simpa using r1
            clear hqq hq hxy gx2 gy2 hTr hBr hV hIXr hIYr cr2 k1 r1 v2
            go_wp2_with fail
            go_quiet (fail)
            have w1' : IntKind.i64.wrap ((ii : Int) + 1) = (ii : Int) + 1 := IntWalk.i64_in _ (by omega)
            have w2' : IntKind.i64.wrap ((jj : Int) + 1) = (jj : Int) + 1 := IntWalk.i64_in _ (by omega)
            have w3' : (0 : Int) ≤ (ii : Int) + 1 := by omega
            have w4' : (0 : Int) ≤ (jj : Int) + 1 := by omega
            have w5' : ((ii : Int) + 1).toNat = ii + 1 := by omega
            have w6' : ((jj : Int) + 1).toNat = jj + 1 := by omega
            have w7' : IntKind.i64.wrap (z1 + c2) = z1 + c2 := IntWalk.i64_in _ (by omega)
            go_wp2_with fail
            go_quiet (fail)
            clear w1' w2' w3' w4' w5' w6' w7' e4
            go_wp2_with (at_builtin; refine wpList_append_op _ rfl (.tmp 109) (.tmp 116) rfl (fun _ => True) w1.heap.size (.slice Av k cv) k os rfl ((HR.out.drN _).al _).own wr.heap.size (3, (ii : Int), yv) rfl (Blk.newAt _ _ _ wr.heap.size (by simp)) hkk (by simp; omega) ?_; intro Av1 cv1 w4 ho1 hg1 hat1)
            exact ⟨⟨_, _, ii + 1, jj + 1, by go_num, by go_num, HP.out _ _ _ _ ho1 ((HR.out.drN _).al _) hg1⟩, by simp [intOf]; omega⟩
          · by_cases r2 : dpV c0 c1 (gR c0 c1 c2) xs ys (ii + 1) jj + c1 = dpV c0 c1 (gR c0 c1 c2) xs ys ii jj
            · have HP := Lib.hid (fun (wa w4 : World) (Av1 : Option Addr) (cv1 : Nat) (ho1 : Own OpE 94 (fun _ => True) w4 w1.heap.size (.slice Av1 (k + 1) cv1) (k + 1) (os ++ [(2, (ii : Int), xs.getD ii 0)])) (h : AlR w1 xs ys c0 c1 c2 os k ii jj (.slice Av k cv) wa) (hg1 : wa.grownBy w4 (Value.slice Av k cv).ownBlock) =>
            AlR.push h ho1 hg1 (x := (2, (ii : Int), xs.getD ii 0)) (i' := ii + 1) (j' := jj) ⟨rfl, Or.inr (Or.inr (Or.inl ⟨rfl, hxl⟩))⟩ (by simp) (by simp) (by omega) (by omega) (by simp only [opCost]; simp; omega))
              generalize dpV c0 c1 (gR c0 c1 c2) xs ys (ii + 1) (jj + 1) = z1 at *
              generalize dpV c0 c1 (gR c0 c1 c2) xs ys (ii + 1) jj = z2 at *
              generalize dpV c0 c1 (gR c0 c1 c2) xs ys ii jj = z0 at *
              generalize xs.getD ii 0 = xv at *
              generalize ys.getD jj 0 = yv at *
              have e4 : (z1 + c2 == z0) = false := by rw [beq_eq_false_iff_ne]; exact r1
              have e5 : (z2 + c1 == z0) = true := by simpa using r2
              clear hqq hq hxy gx2 gy2 hTr hBr hV hIXr hIYr r1 r2
              go_wp2_with fail
              go_quiet (fail)
              have w1' : IntKind.i64.wrap ((ii : Int) + 1) = (ii : Int) + 1 := IntWalk.i64_in _ (by omega)
              have w2' : IntKind.i64.wrap ((jj : Int) + 1) = (jj : Int) + 1 := IntWalk.i64_in _ (by omega)
              have w3' : (0 : Int) ≤ (ii : Int) + 1 := by omega
              have w4' : (0 : Int) ≤ (jj : Int) + 1 := by omega
              have w5' : ((ii : Int) + 1).toNat = ii + 1 := by omega
              have w6' : ((jj : Int) + 1).toNat = jj + 1 := by omega
              have w7' : IntKind.i64.wrap (z1 + c2) = z1 + c2 := IntWalk.i64_in _ (by omega)
              have w8' : IntKind.i64.wrap (z2 + c1) = z2 + c1 := IntWalk.i64_in _ (by omega)
              go_wp2_with fail
              go_quiet (fail)
              go_wp2_with fail
              go_quiet (fail)
              clear w1' w2' w3' w4' w5' w6' w7' w8' e4 e5
              go_wp2_with (at_builtin; refine wpList_append_op _ rfl (.tmp 148) (.tmp 155) rfl (fun _ => True) w1.heap.size (.slice Av k cv) k os rfl ((HR.out.drN _).al _).own wr.heap.size (2, (ii : Int), xv) rfl (Blk.newAt _ _ _ wr.heap.size (by simp)) hkk (by simp; omega) ?_; intro Av1 cv1 w4 ho1 hg1 hat1)
              exact ⟨⟨_, _, ii + 1, jj, by go_num, rfl, HP.out _ _ _ _ ho1 ((HR.out.drN _).al _) hg1⟩, by simp [intOf]; omega⟩
            · have r3 := hqq r1 r2
              have HP := Lib.hid (fun (wa w4 : World) (Av1 : Option Addr) (cv1 : Nat) (ho1 : Own OpE 94 (fun _ => True) w4 w1.heap.size (.slice Av1 (k + 1) cv1) (k + 1) (os ++ [(1, (ii : Int), ys.getD jj 0)])) (h : AlR w1 xs ys c0 c1 c2 os k ii jj (.slice Av k cv) wa) (hg1 : wa.grownBy w4 (Value.slice Av k cv).ownBlock) =>
            AlR.push h ho1 hg1 (x := (1, (ii : Int), ys.getD jj 0)) (i' := ii) (j' := jj + 1) ⟨rfl, Or.inr (Or.inl ⟨rfl, gy2⟩)⟩ (by simp) (by simp) (by omega) (by omega) (by simp only [opCost]; simp; omega))
              generalize dpV c0 c1 (gR c0 c1 c2) xs ys (ii + 1) (jj + 1) = z1 at *
              generalize dpV c0 c1 (gR c0 c1 c2) xs ys (ii + 1) jj = z2 at *
              generalize dpV c0 c1 (gR c0 c1 c2) xs ys ii jj = z0 at *
              generalize xs.getD ii 0 = xv at *
              generalize ys.getD jj 0 = yv at *
              have e4 : (z1 + c2 == z0) = false := by rw [beq_eq_false_iff_ne]; exact r1
              have e5 : (z2 + c1 == z0) = false := by rw [beq_eq_false_iff_ne]; exact r2
              clear hqq hq hxy gx2 gy2 hTr hBr hV hIXr hIYr r1 r2 r3
              go_wp2_with fail
              go_quiet (fail)
              have w1' : IntKind.i64.wrap ((ii : Int) + 1) = (ii : Int) + 1 := IntWalk.i64_in _ (by omega)
              have w2' : IntKind.i64.wrap ((jj : Int) + 1) = (jj : Int) + 1 := IntWalk.i64_in _ (by omega)
              have w3' : (0 : Int) ≤ (ii : Int) + 1 := by omega
              have w4' : (0 : Int) ≤ (jj : Int) + 1 := by omega
              have w5' : ((ii : Int) + 1).toNat = ii + 1 := by omega
              have w6' : ((jj : Int) + 1).toNat = jj + 1 := by omega
              have w7' : IntKind.i64.wrap (z1 + c2) = z1 + c2 := IntWalk.i64_in _ (by omega)
              have w8' : IntKind.i64.wrap (z2 + c1) = z2 + c1 := IntWalk.i64_in _ (by omega)
              go_wp2_with fail
              go_quiet (fail)
              go_wp2_with fail
              go_quiet (fail)
              clear w1' w2' w3' w4' w5' w6' w7' w8' e4 e5
              go_wp2_with (at_builtin; refine wpList_append_op _ rfl (.tmp 48) (.tmp 55) rfl (fun _ => True) w1.heap.size (.slice Av k cv) k os rfl ((HR.out.drN _).al _).own wr.heap.size (1, (ii : Int), yv) rfl (Blk.newAt _ _ _ wr.heap.size (by simp)) hkk (by simp; omega) ?_; intro Av1 cv1 w4 ho1 hg1 hat1)
              exact ⟨⟨_, _, ii, jj + 1, rfl, by go_num, HP.out _ _ _ _ ho1 ((HR.out.drN _).al _) hg1⟩, by simp [intOf]; omega⟩
      · have hkk : k + 1 ≤ 1000000 := by omega
        have gL := gR_least (c0 := c0) (c1 := c1) (c2 := c2) (by omega) (by omega) (by omega)
        have hV := dpV_bound (xs := xs) (ys := ys) gL q0 q1
        rw [HX.out, HY.out] at hV
        have hyl0 : jj ≤ ys.length := by rw [HY.out]; omega
        have e0 : jj = m := by omega
        subst e0
        obtain ⟨bx, ox, rfl, hbx, gx⟩ := hIXr.at_ hi
        have hxl : ii < xs.length := by rw [HX.out]; exact hi
        have gx2 : xs[ii]? = some (xs.getD ii 0) := by rw [List.getD_eq_getElem?_getD, List.getElem?_eq_getElem hxl]; rfl
        have a1 : (0 : Int) ≤ (ii : Int) := by omega
        have a2 : (ii : Int) < (n : Int) := by omega
        have d1 : decide (ii < n) = true := by simpa using hi
        have d2 : decide (jj < jj) = false := by simp
        have hq : dpV c0 c1 (gR c0 c1 c2) xs ys (ii + 1) jj + c1 = dpV c0 c1 (gR c0 c1 c2) xs ys ii jj := by
          rw [← HY.out, dpV_right _ (by rw [HX.out]; omega), dpV_right _ (by rw [HX.out]; omega), HX.out]
          have : (n : Int) - (ii : Int) = ((n : Int) - ((ii + 1 : Nat) : Int)) + 1 := by omega
          rw [this, Int.add_mul, Int.one_mul]
        have v0 := hV ii jj
        have v2 := hV (ii + 1) jj
        have ct1 := hTr.cellTop (k := ii + 1) (by omega) (by omega)
        have cr2 := hTr.cellRow (k := ii + 1) (j := jj) (by omega) (by omega) (by omega)
        have ct2 := hTr.cellTop (k := ii) (by omega) (by omega)
        have cr3 := hTr.cellRow (k := ii) (j := jj) (by omega) (by omega) (by omega)
        have k1 := hBr.cell 1
        have b1 : (ii : Int) + 1 < (n : Int) + 1 := by omega
        have b3 : (ii : Int) < (n : Int) + 1 := by omega
        have b4 : (jj : Int) < (jj : Int) + 1 := by omega
        have b5 : (0 : Int) ≤ (jj : Int) := by omega
        have HP := Lib.hid (fun (wa w4 : World) (Av1 : Option Addr) (cv1 : Nat) (ho1 : Own OpE 94 (fun _ => True) w4 w1.heap.size (.slice Av1 (k + 1) cv1) (k + 1) (os ++ [(2, (ii : Int), xs.getD ii 0)])) (h : AlR w1 xs ys c0 c1 c2 os k ii jj (.slice Av k cv) wa) (hg1 : wa.grownBy w4 (Value.slice Av k cv).ownBlock) =>
          AlR.push h ho1 hg1 (x := (2, (ii : Int), xs.getD ii 0)) (i' := ii + 1) (j' := jj) ⟨rfl, Or.inr (Or.inr (Or.inl ⟨rfl, hxl⟩))⟩ (by simp) (by simp) (by omega) (by omega) (by simp only [opCost]; simp; omega))
        generalize dpV c0 c1 (gR c0 c1 c2) xs ys (ii + 1) jj = z2 at *
        generalize dpV c0 c1 (gR c0 c1 c2) xs ys ii jj = z0 at *
        generalize xs.getD ii 0 = xv at *
        have e5 : (z2 + c1 == z0) = true := by simpa using hq
        clear hq gx2 hTr hBr hV hIXr hIYr
        go_wp2_with fail
        go_quiet (fail)
        go_wp2_with fail
        go_quiet (fail)
        have w1' : IntKind.i64.wrap ((ii : Int) + 1) = (ii : Int) + 1 := IntWalk.i64_in _ (by omega)
        have w3' : (0 : Int) ≤ (ii : Int) + 1 := by omega
        have w5' : ((ii : Int) + 1).toNat = ii + 1 := by omega
        have w8' : IntKind.i64.wrap (z2 + c1) = z2 + c1 := IntWalk.i64_in _ (by omega)
        go_wp2_with fail
        go_quiet (fail)
        clear w1' w3' w5' w8' e5
        go_wp2_with (at_builtin; refine wpList_append_op _ rfl (.tmp 148) (.tmp 155) rfl (fun _ => True) w1.heap.size (.slice Av k cv) k os rfl ((HR.out.drN _).al _).own wr.heap.size (2, (ii : Int), xv) rfl (Blk.newAt _ _ _ wr.heap.size (by simp)) hkk (by simp; omega) ?_; intro Av1 cv1 w4 ho1 hg1 hat1)
        exact ⟨⟨_, _, ii + 1, jj, by go_num, rfl, HP.out _ _ _ _ ho1 ((HR.out.drN _).al _) hg1⟩, by simp [intOf]; omega⟩
    · by_cases hj : jj < m
      · have hkk : k + 1 ≤ 1000000 := by omega
        have gL := gR_least (c0 := c0) (c1 := c1) (c2 := c2) (by omega) (by omega) (by omega)
        have hV := dpV_bound (xs := xs) (ys := ys) gL q0 q1
        rw [HX.out, HY.out] at hV
        have hxl0 : ii ≤ xs.length := by rw [HX.out]; omega
        have e0 : ii = n := by omega
        subst e0
        obtain ⟨by_, oy, rfl, hby, gy⟩ := hIYr.at_ hj
        have hyl : jj < ys.length := by rw [HY.out]; exact hj
        have gy2 : ys[jj]? = some (ys.getD jj 0) := by rw [List.getD_eq_getElem?_getD, List.getElem?_eq_getElem hyl]; rfl
        have a3 : (0 : Int) ≤ (jj : Int) := by omega
        have a4 : (jj : Int) < (m : Int) := by omega
        have d1 : decide (ii < ii) = false := by simp
        have d2 : decide (jj < m) = true := by simpa using hj
        have hq : dpV c0 c1 (gR c0 c1 c2) xs ys ii (jj + 1) + c0 = dpV c0 c1 (gR c0 c1 c2) xs ys ii jj := by
          rw [← HX.out, dpV_bottom _ (by rw [HY.out]; omega), dpV_bottom _ (by rw [HY.out]; omega), HY.out]
          have : (m : Int) - (jj : Int) = ((m : Int) - ((jj + 1 : Nat) : Int)) + 1 := by omega
          rw [this, Int.add_mul, Int.one_mul]
        have HP := Lib.hid (fun (wa w4 : World) (Av1 : Option Addr) (cv1 : Nat) (ho1 : Own OpE 94 (fun _ => True) w4 w1.heap.size (.slice Av1 (k + 1) cv1) (k + 1) (os ++ [(1, (ii : Int), ys.getD jj 0)])) (h : AlR w1 xs ys c0 c1 c2 os k ii jj (.slice Av k cv) wa) (hg1 : wa.grownBy w4 (Value.slice Av k cv).ownBlock) =>
          AlR.push h ho1 hg1 (x := (1, (ii : Int), ys.getD jj 0)) (i' := ii) (j' := jj + 1) ⟨rfl, Or.inr (Or.inl ⟨rfl, gy2⟩)⟩ (by simp) (by simp) (by omega) (by omega) (by simp only [opCost]; simp; omega))
        generalize ys.getD jj 0 = yv at *
        clear hq gy2 hTr hBr hV hIXr hIYr
        go_wp2_with fail
        go_quiet (fail)
        go_wp2_with fail
        go_quiet (fail)
        go_wp2_with fail
        go_quiet (fail)
        go_wp2_with (at_builtin; refine wpList_append_op _ rfl (.tmp 48) (.tmp 55) rfl (fun _ => True) w1.heap.size (.slice Av k cv) k os rfl ((HR.out.drN _).al _).own wr.heap.size (1, (ii : Int), yv) rfl (Blk.newAt _ _ _ wr.heap.size (by simp)) hkk (by simp; omega) ?_; intro Av1 cv1 w4 ho1 hg1 hat1)
        exact ⟨⟨_, _, ii, jj + 1, rfl, by go_num, HP.out _ _ _ _ ho1 ((HR.out.drN _).al _) hg1⟩, by simp [intOf]; omega⟩
      · have e1 : ii = n := by omega
        have e2 : jj = m := by omega
        subst e1 e2
        have d1 : decide (ii < ii) = false := by simp
        have d2 : decide (jj < jj) = false := by simp
        have c1' := hTr.cellTop (k := 0) (by omega) (by omega)
        have c2' := hTr.cellRow (k := 0) (j := 0) (by omega) (by omega) (by omega)
        have i1 : (0 : Int) < (ii : Int) + 1 := by omega
        have i2 : (0 : Int) < (jj : Int) + 1 := by omega
        have hf := HR.out.cost
        have hz : dpV c0 c1 (gR c0 c1 c2) xs ys ii jj = 0 := by rw [← HX.out, ← HY.out, dpV_bottom _ (Nat.le_refl _)]; simp
        rw [hz] at hf
        have HF : Hid (AlignP w xs ys c0 c1 c2 (.returned (.tuple #[.int .i64 (dpV c0 c1 (gR c0 c1 c2) xs ys 0 0), .slice Av k cv, .int .i64 0])) wr) :=
          Lib.hid ⟨Av, k, cv, os, rfl, HR.out.own.toSl (fun _ _ _ => trivial) (fun _ _ => trivial), HR.out.ok, by rw [HR.out.ei, HX.out], by rw [HR.out.ej, HY.out], by omega, by omega, hBB.out⟩
        generalize dpV c0 c1 (gR c0 c1 c2) xs ys 0 0 = N at *
        clear hTr hBr hIXr hIYr hf hz
        go_wp2_with fail
        go_ret3
        exact HF.out
end Go.Proofs.Ytghnkgbingcbcaa

