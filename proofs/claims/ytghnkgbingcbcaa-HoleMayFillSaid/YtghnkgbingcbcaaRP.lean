/- repair.Align. -/
import Derived.Test.YtghnkgbingcbcaaRN
namespace Go.Proofs.Ytghnkgbingcbcaa
open Go.RowKit

def AlignP (w : World) (xs ys : List Int) (c0 c1 c2 : Int) (e : Ending) (w' : World) : Prop :=
  ∃ (A : Option Addr) (k c : Nat) (os : List OpV), e = .returned (.tuple #[.int .i64 (dpV c0 c1 (gR c0 c1 c2) xs ys 0 0), .slice A k c, .int .i64 0]) ∧ Sl OpE (fun _ => True) w' A k c os ∧ OpsOk xs ys os ∧ iOf os = xs.length ∧ jOf os = ys.length ∧
    opsCost c0 c1 c2 os = dpV c0 c1 (gR c0 c1 c2) xs ys 0 0 ∧ k ≤ 400 ∧ Below w.heap.size w w'
/-- on the way -/
structure AlR (w1 : World) (xs ys : List Int) (c0 c1 c2 : Int) (os : List OpV) (k i j : Nat) (v : Value) (wr : World) : Prop where
  own : Own OpE 94 (fun _ => True) wr w1.heap.size v k os
  bel : Below w1.heap.size w1 wr
  ok : OpsOk xs ys os
  ei : iOf os = i
  ej : jOf os = j
  li : i ≤ xs.length
  lj : j ≤ ys.length
  len : k ≤ i + j
  cost : opsCost c0 c1 c2 os + dpV c0 c1 (gR c0 c1 c2) xs ys i j = dpV c0 c1 (gR c0 c1 c2) xs ys 0 0
section
variable {w1 wr wa w4 : World} {xs ys : List Int} {c0 c1 c2 : Int} {os : List OpV} {k i j : Nat} {v v' : Value}
theorem AlR.via (h : AlR w1 xs ys c0 c1 c2 os k i j v wr) (hb : Below wr.heap.size wr wa) : AlR w1 xs ys c0 c1 c2 os k i j v wa :=
  ⟨h.own.via hb, h.bel.via hb, h.ok, h.ei, h.ej, h.li, h.lj, h.len, h.cost⟩
theorem AlR.drN (h : AlR w1 xs ys c0 c1 c2 os k i j v wr) (q : Nat) : AlR w1 xs ys c0 c1 c2 os k i j v (wr.drewN q) := h.via (below_drewN (Below.refl _ _) q)
theorem AlR.al (h : AlR w1 xs ys c0 c1 c2 os k i j v wr) (o : Obj) : AlR w1 xs ys c0 c1 c2 os k i j v (wr.alloc o) := h.via ((Below.refl wr.heap.size wr).alloc (Nat.le_refl _) o)
theorem AlR.push {x : OpV} {i' j' : Nat} (h : AlR w1 xs ys c0 c1 c2 os k i j v wr) (ho : Own OpE 94 (fun _ => True) w4 w1.heap.size v' (k + 1) (os ++ [x])) (hg : wr.grownBy w4 v.ownBlock)
    (hx : OpOk xs ys i j x) (hi : i' = i + if x.1 = 1 then 0 else 1) (hj : j' = j + if x.1 = 2 then 0 else 1) (hli : i' ≤ xs.length) (hlj : j' ≤ ys.length)
    (hc : opCost c0 c1 c2 x + dpV c0 c1 (gR c0 c1 c2) xs ys i' j' = dpV c0 c1 (gR c0 c1 c2) xs ys i j) : AlR w1 xs ys c0 c1 c2 (os ++ [x]) (k + 1) i' j' v' w4 := by
  refine ⟨ho, h.bel.grown hg h.bel.size fun b hb => (h.own.lt b hb).1, h.ok.snoc (by rw [h.ei, h.ej]; exact hx), by rw [iOf_snoc, h.ei, hi], by rw [jOf_snoc, h.ej, hj], hli, hlj, ?_, ?_⟩
  · have := h.len
    subst hi hj
    split <;> split <;> omega
  · rw [opsCost_append]
    have := h.cost
    simp only [opsCost]; omega
end

set_option maxRecDepth 100000 in
set_option maxHeartbeats 8000000 in
theorem align_c (A B : Option Addr) (n c m d : Nat) (xs ys : List Int) (c0 c1 c2 : Int) (w : World) (hx : Ints w A n c xs) (hy : Ints w B m d ys) (hn : n ≤ 200) (hm : m ≤ 200)
    (p0 : 1 ≤ c0) (q0 : c0 ≤ 100) (p1 : 1 ≤ c1) (q1 : c1 ≤ 100) (p2 : 1 ≤ c2) (q2 : c2 ≤ 100) :
    Calls Try.prog 12 #[.slice A n c, .slice B m d, .agg #[.int .i64 c0, .int .i64 c1, .int .i64 c2]] w (AlignP w xs ys c0 c1 c2) := by
  have HX := Lib.hid hx.len
  have HY := Lib.hid hy.len
  have B0 := Blk.new w 30 #[.int .i64 c0, .int .i64 c1, .int .i64 c2]
  have hB := (Below.refl w.heap.size w).al (.cells #[.int .i64 c0, .int .i64 c1, .int .i64 c2] 30)
  replace hx := hx.al (.cells #[.int .i64 c0, .int .i64 c1, .int .i64 c2] 30)
  replace hy := hy.al (.cells #[.int .i64 c0, .int .i64 c1, .int .i64 c2] 30)
  have hc : Ints (w.alloc (.cells #[.int .i64 c0, .int .i64 c1, .int .i64 c2] 30)) (some ⟨w.heap.size, 0, none⟩) 3 3 [c0, c1, c2] := Ints.three w c0 c1 c2 _
  go_enter Try.func12, Try.ntmps12
  go_wp2_with fail
  generalize w.alloc (.cells #[.int .i64 c0, .int .i64 c1, .int .i64 c2] 30) = W at *
  refine (containsf_c _ 3 3 [c0, c1, c2] W hc (by omega) (by intro x hx; simp at hx; rcases hx with rfl | rfl | rfl <;> omega)).mono ?_
  rintro e w' ⟨rfl, rfl⟩
  clear hc
  have HIX := Lib.hid hx
  have HIY := Lib.hid hy
  have HB := Lib.hid hB
  clear hx hy hB
  have cB0 := B0.cell
  have fB0 := B0.frozen
  have lB0 := B0.lt
  go_wp2_with fail
  clear cB0 fB0 lB0
  refine (distances_c A B n c m d xs ys c0 c1 c2 W HIX.out HIY.out hn hm p0 q0 p1 q1 p2 q2).mono ?_
  rintro e w1 ⟨bd, rb, rfl, hT, hb⟩
  have HT := Lib.hid hT
  replace B0 := B0.via hb
  have HIX1 := Lib.hid (HIX.out.via hb)
  have HIY1 := Lib.hid (HIY.out.via hb)
  have HB1 := Lib.hid (HB.out.via hb)
  have HB0 := Lib.hid B0
  clear hT hb HIX HIY HB B0
  go_wp2_with fail
  go_loopw [10, 11, 12] (fun v i j wr => ∃ (os : List OpV) (k ii jj : Nat), i = .int .i64 ii ∧ j = .int .i64 jj ∧ AlR w1 xs ys c0 c1 c2 os k ii jj v wr) (fun _ i j _ => (n - (intOf i).toNat) + (m - (intOf j).toNat))
  case atStart => exact ⟨[], 0, 0, 0, rfl, rfl, ⟨Own.nil _ _, Below.refl _ _, OpsOk.nil _ _, rfl, rfl, Nat.zero_le _, Nat.zero_le _, Nat.le_refl _, by simp [opsCost]⟩⟩
  case round =>
    obtain ⟨os, k, ii, jj, rfl, rfl, hr⟩ := hrel
    obtain ⟨Av, cv, rfl, -⟩ := hr.own.form
    have hli := hr.li
    have hlj := hr.lj
    have hkl := hr.len
    rw [HX.out] at hli
    rw [HY.out] at hlj
    have hsz := hr.bel.size
    have hTr := HT.out.via hr.bel
    have hBr := HB0.out.via hr.bel
    have hIXr := HIX1.out.via hr.bel
    have hIYr := HIY1.out.via hr.bel
    have HR := Lib.hid hr
    have hBB := Lib.hid (HB1.out.via hr.bel)
    clear hr
    by_cases hi : ii < n
    · by_cases hj : jj < m
      · have hkk : k + 1 ≤ 1000000 := by omega
        have gL := gR_least (c0 := c0) (c1 := c1) (c2 := c2) (by omega) (by omega) (by omega)
        have hV := dpV_bound (xs := xs) (ys := ys) gL q0 q1
        rw [HX.out, HY.out] at hV
        obtain ⟨bx, ox, rfl, hbx, gx⟩ := hIXr.at_ hi
        obtain ⟨by_, oy, rfl, hby, gy⟩ := hIYr.at_ hj
        have hxl : ii < xs.length := by rw [HX.out]; exact hi
        have hyl : jj < ys.length := by rw [HY.out]; exact hj
        have gx2 : xs[ii]? = some (xs.getD ii 0) := by rw [List.getD_eq_getElem?_getD, List.getElem?_eq_getElem hxl]; rfl
        have gy2 : ys[jj]? = some (ys.getD jj 0) := by rw [List.getD_eq_getElem?_getD, List.getElem?_eq_getElem hyl]; rfl
        have a1 : (0 : Int) ≤ (ii : Int) := by omega
        have a2 : (ii : Int) < (n : Int) := by omega
        have a3 : (0 : Int) ≤ (jj : Int) := by omega
        have a4 : (jj : Int) < (m : Int) := by omega
        have d1 : decide (ii < n) = true := by simpa using hi
        have d2 : decide (jj < m) = true := by simpa using hj
        by_cases hxy : xs.getD ii 0 = ys.getD jj 0
        · have hq := dpV_eq (c0 := c0) (c1 := c1) (g := gR c0 c1 c2) hxl hyl hxy
          have HP := fun (wa w4 : World) (Av1 : Option Addr) (cv1 : Nat) (ho1 : Own OpE 94 (fun _ => True) w4 w1.heap.size (.slice Av1 (k + 1) cv1) (k + 1) (os ++ [(0, (ii : Int), xs.getD ii 0)])) (h : AlR w1 xs ys c0 c1 c2 os k ii jj (.slice Av k cv) wa) (hg1 : wa.grownBy w4 (Value.slice Av k cv).ownBlock) =>
            AlR.push h ho1 hg1 (x := (0, (ii : Int), xs.getD ii 0)) (i' := ii + 1) (j' := jj + 1) ⟨rfl, Or.inl ⟨rfl, gx2, by rw [hxy]; exact gy2⟩⟩ (by simp) (by simp) (by omega) (by omega) (by rw [hq]; simp [opCost])
          have HPH := Lib.hid HP
          rw [← hxy] at gy
          generalize xs.getD ii 0 = xv at *
          have e3 : (xv == xv) = true := by simp
          clear HP hq hxy gx2 gy2 hTr hBr hV hIXr hIYr
          go_wp2_with fail
          go_quiet (fail)
          go_wp2_with (at_builtin; refine wpList_append_op _ rfl (.tmp 72) (.tmp 79) rfl (fun _ => True) w1.heap.size (.slice Av k cv) k os rfl ((HR.out.drN _).al _).own wr.heap.size (0, (ii : Int), xv) rfl (Blk.newAt _ _ _ wr.heap.size (by simp)) hkk (by simp; omega) ?_; intro Av1 cv1 w4 ho1 hg1 hat1)
          exact ⟨⟨_, _, ii + 1, jj + 1, by go_num, by go_num, HPH.out _ _ _ _ ho1 ((HR.out.drN _).al _) hg1⟩, by simp [intOf]; omega⟩
        · have hq := dpV_ne (c0 := c0) (c1 := c1) (g := gR c0 c1 c2) hxl hyl hxy
          have v0 := hV ii jj
          have v1 := hV (ii + 1) (jj + 1)
          have v2 := hV (ii + 1) jj
          have ct1 := hTr.cellTop (k := ii + 1) (by omega) (by omega)
          have cr1 := hTr.cellRow (k := ii + 1) (j := jj + 1) (by omega) (by omega) (by omega)
          have cr2 := hTr.cellRow (k := ii + 1) (j := jj) (by omega) (by omega) (by omega)
          have ct2 := hTr.cellTop (k := ii) (by omega) (by omega)
          have cr3 := hTr.cellRow (k := ii) (j := jj) (by omega) (by omega) (by omega)
          have k1 := hBr.cell 1
          have k2 := hBr.cell 2
          have hqq : dpV c0 c1 (gR c0 c1 c2) xs ys (ii + 1) (jj + 1) + c2 ≠ dpV c0 c1 (gR c0 c1 c2) xs ys ii jj → dpV c0 c1 (gR c0 c1 c2) xs ys (ii + 1) jj + c1 ≠ dpV c0 c1 (gR c0 c1 c2) xs ys ii jj → dpV c0 c1 (gR c0 c1 c2) xs ys ii (jj + 1) + c0 = dpV c0 c1 (gR c0 c1 c2) xs ys ii jj := by
            rw [hq]; unfold gR; intro h1 h2; (repeat' split at *) <;> omega
          have hxye : (xs.getD ii 0 == ys.getD jj 0) = false := by rw [beq_eq_false_iff_ne]; exact hxy
          have b1 : (ii : Int) + 1 < (n : Int) + 1 := by omega
          have b2 : (jj : Int) + 1 < (m : Int) + 1 := by omega
          have b3 : (ii : Int) < (n : Int) + 1 := by omega
          have b4 : (jj : Int) < (m : Int) + 1 := by omega
          by_cases r1 : dpV c0 c1 (gR c0 c1 c2) xs ys (ii + 1) (jj + 1) + c2 = dpV c0 c1 (gR c0 c1 c2) xs ys ii jj
          · have HP := Lib.hid (fun (wa w4 : World) (Av1 : Option Addr) (cv1 : Nat) (ho1 : Own OpE 94 (fun _ => True) w4 w1.heap.size (.slice Av1 (k + 1) cv1) (k + 1) (os ++ [(3, (ii : Int), ys.getD jj 0)])) (h : AlR w1 xs ys c0 c1 c2 os k ii jj (.slice Av k cv) wa) (hg1 : wa.grownBy w4 (Value.slice Av k cv).ownBlock) =>
            AlR.push h ho1 hg1 (x := (3, (ii : Int), ys.getD jj 0)) (i' := ii + 1) (j' := jj + 1) ⟨rfl, Or.inr (Or.inr (Or.inr ⟨rfl, hxl, gy2⟩))⟩ (by simp) (by simp) (by omega) (by omega) (by simp only [opCost]; simp; omega))
            generalize dpV c0 c1 (gR c0 c1 c2) xs ys (ii + 1) (jj + 1) = z1 at *
            generalize dpV c0 c1 (gR c0 c1 c2) xs ys (ii + 1) jj = z2 at *
            generalize dpV c0 c1 (gR c0 c1 c2) xs ys ii jj = z0 at *
            generalize xs.getD ii 0 = xv at *
            generalize ys.getD jj 0 = yv at *
            have e4 : (z1 + c2 == z0) = true := by simpa using r1
            clear hqq hq hxy gx2 gy2 hTr hBr hV hIXr hIYr cr2 k1 r1 v2
            go_wp2_with fail
            go_quiet (fail)
            have w1' : IntKind.i64.wrap ((ii : Int) + 1) = (ii : Int) + 1 := IntWalk.i64_in _ (by omega)
            have w2' : IntKind.i64.wrap ((jj : Int) + 1) = (jj : Int) + 1 := IntWalk.i64_in _ (by omega)
            have w3' : (0 : Int) ≤ (ii : Int) + 1 := by omega
            have w4' : (0 : Int) ≤ (jj : Int) + 1 := by omega
            have w5' : ((ii : Int) + 1).toNat = ii + 1 := by omega
            have w6' : ((jj : Int) + 1).toNat = jj + 1 := by omega
            have w7' : IntKind.i64.wrap (z1 + c2) = z1 + c2 := IntWalk.i64_in _ (by omega)
            go_wp2_with fail
            go_quiet (fail)
            clear w1' w2' w3' w4' w5' w6' w7' e4
            go_wp2_with (at_builtin; refine wpList_append_op _ rfl (.tmp 109) (.tmp 116) rfl (fun _ => True) w1.heap.size (.slice Av k cv) k os rfl ((HR.out.drN _).al _).own wr.heap.size (3, (ii : Int), yv) rfl (Blk.newAt _ _ _ wr.heap.size (by simp)) hkk (by simp; omega) ?_; intro Av1 cv1 w4 ho1 hg1 hat1)
            exact ⟨⟨_, _, ii + 1, jj + 1, by go_num, by go_num, HP.out _ _ _ _ ho1 ((HR.out.drN _).al _) hg1⟩, by simp [intOf]; omega⟩
          · by_cases r2 : dpV c0 c1 (gR c0 c1 c2) xs ys (ii + 1) jj + c1 = dpV c0 c1 (gR c0 c1 c2) xs ys ii jj
            · have HP := Lib.hid (fun (wa w4 : World) (Av1 : Option Addr) (cv1 : Nat) (ho1 : Own OpE 94 (fun _ => True) w4 w1.heap.size (.slice Av1 (k + 1) cv1) (k + 1) (os ++ [(2, (ii : Int), xs.getD ii 0)])) (h : AlR w1 xs ys c0 c1 c2 os k ii jj (.slice Av k cv) wa) (hg1 : wa.grownBy w4 (Value.slice Av k cv).ownBlock) =>
            AlR.push h ho1 hg1 (x := (2, (ii : Int), xs.getD ii 0)) (i' := ii + 1) (j' := jj) ⟨rfl, Or.inr (Or.inr (Or.inl ⟨rfl, hxl⟩))⟩ (by simp) (by simp) (by omega) (by omega) (by simp only [opCost]; simp; omega))
              generalize dpV c0 c1 (gR c0 c1 c2) xs ys (ii + 1) (jj + 1) = z1 at *
              generalize dpV c0 c1 (gR c0 c1 c2) xs ys (ii + 1) jj = z2 at *
              generalize dpV c0 c1 (gR c0 c1 c2) xs ys ii jj = z0 at *
              generalize xs.getD ii 0 = xv at *
              generalize ys.getD jj 0 = yv at *
              have e4 : (z1 + c2 == z0) = false := by rw [beq_eq_false_iff_ne]; exact r1
              have e5 : (z2 + c1 == z0) = true := by simpa using r2
              clear hqq hq hxy gx2 gy2 hTr hBr hV hIXr hIYr r1 r2
              go_wp2_with fail
              go_quiet (fail)
              have w1' : IntKind.i64.wrap ((ii : Int) + 1) = (ii : Int) + 1 := IntWalk.i64_in _ (by omega)
              have w2' : IntKind.i64.wrap ((jj : Int) + 1) = (jj : Int) + 1 := IntWalk.i64_in _ (by omega)
              have w3' : (0 : Int) ≤ (ii : Int) + 1 := by omega
              have w4' : (0 : Int) ≤ (jj : Int) + 1 := by omega
              have w5' : ((ii : Int) + 1).toNat = ii + 1 := by omega
              have w6' : ((jj : Int) + 1).toNat = jj + 1 := by omega
              have w7' : IntKind.i64.wrap (z1 + c2) = z1 + c2 := IntWalk.i64_in _ (by omega)
              have w8' : IntKind.i64.wrap (z2 + c1) = z2 + c1 := IntWalk.i64_in _ (by omega)
              go_wp2_with fail
              go_quiet (fail)
              go_wp2_with fail
              go_quiet (fail)
              clear w1' w2' w3' w4' w5' w6' w7' w8' e4 e5
              go_wp2_with (at_builtin; refine wpList_append_op _ rfl (.tmp 148) (.tmp 155) rfl (fun _ => True) w1.heap.size (.slice Av k cv) k os rfl ((HR.out.drN _).al _).own wr.heap.size (2, (ii : Int), xv) rfl (Blk.newAt _ _ _ wr.heap.size (by simp)) hkk (by simp; omega) ?_; intro Av1 cv1 w4 ho1 hg1 hat1)
              exact ⟨⟨_, _, ii + 1, jj, by go_num, rfl, HP.out _ _ _ _ ho1 ((HR.out.drN _).al _) hg1⟩, by simp [intOf]; omega⟩
            · have r3 := hqq r1 r2
              have HP := Lib.hid (fun (wa w4 : World) (Av1 : Option Addr) (cv1 : Nat) (ho1 : Own OpE 94 (fun _ => True) w4 w1.heap.size (.slice Av1 (k + 1) cv1) (k + 1) (os ++ [(1, (ii : Int), ys.getD jj 0)])) (h : AlR w1 xs ys c0 c1 c2 os k ii jj (.slice Av k cv) wa) (hg1 : wa.grownBy w4 (Value.slice Av k cv).ownBlock) =>
            AlR.push h ho1 hg1 (x := (1, (ii : Int), ys.getD jj 0)) (i' := ii) (j' := jj + 1) ⟨rfl, Or.inr (Or.inl ⟨rfl, gy2⟩)⟩ (by simp) (by simp) (by omega) (by omega) (by simp only [opCost]; simp; omega))
              generalize dpV c0 c1 (gR c0 c1 c2) xs ys (ii + 1) (jj + 1) = z1 at *
              generalize dpV c0 c1 (gR c0 c1 c2) xs ys (ii + 1) jj = z2 at *
              generalize dpV c0 c1 (gR c0 c1 c2) xs ys ii jj = z0 at *
              generalize xs.getD ii 0 = xv at *
              generalize ys.getD jj 0 = yv at *
              have e4 : (z1 + c2 == z0) = false := by rw [beq_eq_false_iff_ne]; exact r1
              have e5 : (z2 + c1 == z0) = false := by rw [beq_eq_false_iff_ne]; exact r2
              clear hqq hq hxy gx2 gy2 hTr hBr hV hIXr hIYr r1 r2 r3
              go_wp2_with fail
              go_quiet (fail)
              have w1' : IntKind.i64.wrap ((ii : Int) + 1) = (ii : Int) + 1 := IntWalk.i64_in _ (by omega)
              have w2' : IntKind.i64.wrap ((jj : Int) + 1) = (jj : Int) + 1 := IntWalk.i64_in _ (by omega)
              have w3' : (0 : Int) ≤ (ii : Int) + 1 := by omega
              have w4' : (0 : Int) ≤ (jj : Int) + 1 := by omega
              have w5' : ((ii : Int) + 1).toNat = ii + 1 := by omega
              have w6' : ((jj : Int) + 1).toNat = jj + 1 := by omega
              have w7' : IntKind.i64.wrap (z1 + c2) = z1 + c2 := IntWalk.i64_in _ (by omega)
              have w8' : IntKind.i64.wrap (z2 + c1) = z2 + c1 := IntWalk.i64_in _ (by omega)
              go_wp2_with fail
              go_quiet (fail)
              go_wp2_with fail
              go_quiet (fail)
              clear w1' w2' w3' w4' w5' w6' w7' w8' e4 e5
              go_wp2_with (at_builtin; refine wpList_append_op _ rfl (.tmp 48) (.tmp 55) rfl (fun _ => True) w1.heap.size (.slice Av k cv) k os rfl ((HR.out.drN _).al _).own wr.heap.size (1, (ii : Int), yv) rfl (Blk.newAt _ _ _ wr.heap.size (by simp)) hkk (by simp; omega) ?_; intro Av1 cv1 w4 ho1 hg1 hat1)
              exact ⟨⟨_, _, ii, jj + 1, rfl, by go_num, HP.out _ _ _ _ ho1 ((HR.out.drN _).al _) hg1⟩, by simp [intOf]; omega⟩
      · have hkk : k + 1 ≤ 1000000 := by omega
        have gL := gR_least (c0 := c0) (c1 := c1) (c2 := c2) (by omega) (by omega) (by omega)
        have hV := dpV_bound (xs := xs) (ys := ys) gL q0 q1
        rw [HX.out, HY.out] at hV
        have hyl0 : jj ≤ ys.length := by rw [HY.out]; omega
        have e0 : jj = m := by omega
        subst e0
        obtain ⟨bx, ox, rfl, hbx, gx⟩ := hIXr.at_ hi
        have hxl : ii < xs.length := by rw [HX.out]; exact hi
        have gx2 : xs[ii]? = some (xs.getD ii 0) := by rw [List.getD_eq_getElem?_getD, List.getElem?_eq_getElem hxl]; rfl
        have a1 : (0 : Int) ≤ (ii : Int) := by omega
        have a2 : (ii : Int) < (n : Int) := by omega
        have d1 : decide (ii < n) = true := by simpa using hi
        have d2 : decide (jj < jj) = false := by simp
        have hq : dpV c0 c1 (gR c0 c1 c2) xs ys (ii + 1) jj + c1 = dpV c0 c1 (gR c0 c1 c2) xs ys ii jj := by
          rw [← HY.out, dpV_right _ (by rw [HX.out]; omega), dpV_right _ (by rw [HX.out]; omega), HX.out]
          have : (n : Int) - (ii : Int) = ((n : Int) - ((ii + 1 : Nat) : Int)) + 1 := by omega
          rw [this, Int.add_mul, Int.one_mul]
        have v0 := hV ii jj
        have v2 := hV (ii + 1) jj
        have ct1 := hTr.cellTop (k := ii + 1) (by omega) (by omega)
        have cr2 := hTr.cellRow (k := ii + 1) (j := jj) (by omega) (by omega) (by omega)
        have ct2 := hTr.cellTop (k := ii) (by omega) (by omega)
        have cr3 := hTr.cellRow (k := ii) (j := jj) (by omega) (by omega) (by omega)
        have k1 := hBr.cell 1
        have b1 : (ii : Int) + 1 < (n : Int) + 1 := by omega
        have b3 : (ii : Int) < (n : Int) + 1 := by omega
        have b4 : (jj : Int) < (jj : Int) + 1 := by omega
        have b5 : (0 : Int) ≤ (jj : Int) := by omega
        have HP := Lib.hid (fun (wa w4 : World) (Av1 : Option Addr) (cv1 : Nat) (ho1 : Own OpE 94 (fun _ => True) w4 w1.heap.size (.slice Av1 (k + 1) cv1) (k + 1) (os ++ [(2, (ii : Int), xs.getD ii 0)])) (h : AlR w1 xs ys c0 c1 c2 os k ii jj (.slice Av k cv) wa) (hg1 : wa.grownBy w4 (Value.slice Av k cv).ownBlock) =>
          AlR.push h ho1 hg1 (x := (2, (ii : Int), xs.getD ii 0)) (i' := ii + 1) (j' := jj) ⟨rfl, Or.inr (Or.inr (Or.inl ⟨rfl, hxl⟩))⟩ (by simp) (by simp) (by omega) (by omega) (by simp only [opCost]; simp; omega))
        generalize dpV c0 c1 (gR c0 c1 c2) xs ys (ii + 1) jj = z2 at *
        generalize dpV c0 c1 (gR c0 c1 c2) xs ys ii jj = z0 at *
        generalize xs.getD ii 0 = xv at *
        have e5 : (z2 + c1 == z0) = true := by simpa using hq
        clear hq gx2 hTr hBr hV hIXr hIYr
        go_wp2_with fail
        go_quiet (fail)
        go_wp2_with fail
        go_quiet (fail)
        have w1' : IntKind.i64.wrap ((ii : Int) + 1) = (ii : Int) + 1 := IntWalk.i64_in _ (by omega)
        have w3' : (0 : Int) ≤ (ii : Int) + 1 := by omega
        have w5' : ((ii : Int) + 1).toNat = ii + 1 := by omega
        have w8' : IntKind.i64.wrap (z2 + c1) = z2 + c1 := IntWalk.i64_in _ (by omega)
        go_wp2_with fail
        go_quiet (fail)
        clear w1' w3' w5' w8' e5
        go_wp2_with (at_builtin; refine wpList_append_op _ rfl (.tmp 148) (.tmp 155) rfl (fun _ => True) w1.heap.size (.slice Av k cv) k os rfl ((HR.out.drN _).al _).own wr.heap.size (2, (ii : Int), xv) rfl (Blk.newAt _ _ _ wr.heap.size (by simp)) hkk (by simp; omega) ?_; intro Av1 cv1 w4 ho1 hg1 hat1)
        exact ⟨⟨_, _, ii + 1, jj, by go_num, rfl, HP.out _ _ _ _ ho1 ((HR.out.drN _).al _) hg1⟩, by simp [intOf]; omega⟩
    · by_cases hj : jj < m
      · have hkk : k + 1 ≤ 1000000 := by omega
        have gL := gR_least (c0 := c0) (c1 := c1) (c2 := c2) (by omega) (by omega) (by omega)
        have hV := dpV_bound (xs := xs) (ys := ys) gL q0 q1
        rw [HX.out, HY.out] at hV
        have hxl0 : ii ≤ xs.length := by rw [HX.out]; omega
        have e0 : ii = n := by omega
        subst e0
        obtain ⟨by_, oy, rfl, hby, gy⟩ := hIYr.at_ hj
        have hyl : jj < ys.length := by rw [HY.out]; exact hj
        have gy2 : ys[jj]? = some (ys.getD jj 0) := by rw [List.getD_eq_getElem?_getD, List.getElem?_eq_getElem hyl]; rfl
        have a3 : (0 : Int) ≤ (jj : Int) := by omega
        have a4 : (jj : Int) < (m : Int) := by omega
        have d1 : decide (ii < ii) = false := by simp
        have d2 : decide (jj < m) = true := by simpa using hj
        have hq : dpV c0 c1 (gR c0 c1 c2) xs ys ii (jj + 1) + c0 = dpV c0 c1 (gR c0 c1 c2) xs ys ii jj := by
          rw [← HX.out, dpV_bottom _ (by rw [HY.out]; omega), dpV_bottom _ (by rw [HY.out]; omega), HY.out]
          have : (m : Int) - (jj : Int) = ((m : Int) - ((jj + 1 : Nat) : Int)) + 1 := by omega
          rw [this, Int.add_mul, Int.one_mul]
        have HP := Lib.hid (fun (wa w4 : World) (Av1 : Option Addr) (cv1 : Nat) (ho1 : Own OpE 94 (fun _ => True) w4 w1.heap.size (.slice Av1 (k + 1) cv1) (k + 1) (os ++ [(1, (ii : Int), ys.getD jj 0)])) (h : AlR w1 xs ys c0 c1 c2 os k ii jj (.slice Av k cv) wa) (hg1 : wa.grownBy w4 (Value.slice Av k cv).ownBlock) =>
          AlR.push h ho1 hg1 (x := (1, (ii : Int), ys.getD jj 0)) (i' := ii) (j' := jj + 1) ⟨rfl, Or.inr (Or.inl ⟨rfl, gy2⟩)⟩ (by simp) (by simp) (by omega) (by omega) (by simp only [opCost]; simp; omega))
        generalize ys.getD jj 0 = yv at *
        clear hq gy2 hTr hBr hV hIXr hIYr
        go_wp2_with fail
        go_quiet (fail)
        go_wp2_with fail
        go_quiet (fail)
        go_wp2_with fail
        go_quiet (fail)
        go_wp2_with (at_builtin; refine wpList_append_op _ rfl (.tmp 48) (.tmp 55) rfl (fun _ => True) w1.heap.size (.slice Av k cv) k os rfl ((HR.out.drN _).al _).own wr.heap.size (1, (ii : Int), yv) rfl (Blk.newAt _ _ _ wr.heap.size (by simp)) hkk (by simp; omega) ?_; intro Av1 cv1 w4 ho1 hg1 hat1)
        exact ⟨⟨_, _, ii, jj + 1, rfl, by go_num, HP.out _ _ _ _ ho1 ((HR.out.drN _).al _) hg1⟩, by simp [intOf]; omega⟩
      · have e1 : ii = n := by omega
        have e2 : jj = m := by omega
        subst e1 e2
        have d1 : decide (ii < ii) = false := by simp
        have d2 : decide (jj < jj) = false := by simp
        have c1' := hTr.cellTop (k := 0) (by omega) (by omega)
        have c2' := hTr.cellRow (k := 0) (j := 0) (by omega) (by omega) (by omega)
        have i1 : (0 : Int) < (ii : Int) + 1 := by omega
        have i2 : (0 : Int) < (jj : Int) + 1 := by omega
        have hf := HR.out.cost
        have hz : dpV c0 c1 (gR c0 c1 c2) xs ys ii jj = 0 := by rw [← HX.out, ← HY.out, dpV_bottom _ (Nat.le_refl _)]; simp
        rw [hz] at hf
        have HF : Hid (AlignP w xs ys c0 c1 c2 (.returned (.tuple #[.int .i64 (dpV c0 c1 (gR c0 c1 c2) xs ys 0 0), .slice Av k cv, .int .i64 0])) wr) :=
          Lib.hid ⟨Av, k, cv, os, rfl, HR.out.own.toSl (fun _ _ _ => trivial) (fun _ _ => trivial), HR.out.ok, by rw [HR.out.ei, HX.out], by rw [HR.out.ej, HY.out], by omega, by omega, hBB.out⟩
        generalize dpV c0 c1 (gR c0 c1 c2) xs ys 0 0 = N at *
        clear hTr hBr hIXr hIYr hf hz
        go_wp2_with fail
        go_ret3
        exact HF.out
end Go.Proofs.Ytghnkgbingcbcaa
