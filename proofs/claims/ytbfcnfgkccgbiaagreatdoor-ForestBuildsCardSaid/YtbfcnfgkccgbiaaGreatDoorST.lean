/- Texts ST, laid together. -/
import Derived.Test.YtbfcnfgkccgbiaaGreatDoorSK


namespace Go.Proofs.YtbfcnfgkccgbiaaGreatDoor
open Go.RowKit

theorem sym_eql (ab bb : Bool) (an bn : Int) (w : World) : (binOp .eql 66 (.agg #[.bool ab, .int .i64 an]) (.agg #[.bool bb, .int .i64 bn])).run Tryz.prog w = .ok (.bool (decide ((ab, an) = (bb, bn)))) w := by
  simp [go_sem]
  by_cases h1 : ab = bb <;> by_cases h2 : an = bn <;> simp [h1, h2]
set_option maxRecDepth 100000 in
theorem same2_c (okA okB : Nat → Prop) (r : Int × SlV) (x : PkI) (s : Int × SlV) (y : PkI) (w : World) (hx : FpE.rel okA w r x) (hy : FpE.rel okB w s y) (hn : y.2.length ≤ 17592186044416) :
    Calls Tryz.prog 177 #[.agg #[.int .i64 r.1, .slice r.2.1 r.2.2.1 r.2.2.2], .agg #[.int .i64 s.1, .slice s.2.1 s.2.2.1 s.2.2.2]] w (SmP w (x = y)) := by
  obtain ⟨rr, rA, rn, rc⟩ := r
  obtain ⟨sr, sA, sn, sc⟩ := s
  obtain ⟨x1, xs⟩ := x
  obtain ⟨y1, ys⟩ := y
  obtain ⟨h1, h2⟩ := hx
  obtain ⟨k1, k2⟩ := hy
  simp only at h1 h2 k1 k2 hn
  subst h1 k1
  have hal := ((Below.refl w.heap.size w).al (.cells #[.int .i64 rr, .slice rA rn rc] 91)).al (.cells #[.int .i64 sr, .slice sA sn sc] 91)
  have B0 := (Blk.new w 91 #[.int .i64 rr, .slice rA rn rc]).al (.cells #[.int .i64 sr, .slice sA sn sc] 91)
  have B1 := Blk.newAt (w.alloc (.cells #[.int .i64 rr, .slice rA rn rc] 91)) 91 #[.int .i64 sr, .slice sA sn sc] (w.heap.size + 1) (by simp)
  have hE := equal_m rA sA rn rc sn sc xs ys _ (h2.via hal).intsIn (k2.via hal).intsIn (by have := k2.len; omega)
  have HE := Lib.hid hE
  have HAL := Lib.hid hal
  clear h2 k2 hal hE hn
  go_enter Tryz.func177, Tryz.ntmps177
  by_cases hq : rr = sr
  · subst hq
    have e0 : (rr == rr) = true := by simp
    have cB0 := B0.cell
    have fB0 := B0.frozen
    have lB0 := B0.lt
    have cB1 := B1.cell
    have fB1 := B1.frozen
    have lB1 := B1.lt
    go_wp2_with fail
    clear cB0 fB0 lB0 cB1 fB1 lB1
    refine HE.out.mono ?_
    rintro e w1 hP
    obtain ⟨rfl, hb⟩ := hP.below
    have HB := Lib.hid (HAL.out.via hb)
    obtain ⟨b, hbq⟩ : ∃ b, b = decide (xs = ys) := ⟨_, rfl⟩
    rw [← hbq]
    have HBQ := Lib.hid hbq
    clear hP hb hbq
    go_wp2_with fail
    go_ret
    refine ⟨b, rfl, ?_, HB.out⟩
    rw [HBQ.out]; simp
  · have e0 : (rr == sr) = false := by simpa using hq
    have cB0 := B0.cell
    have fB0 := B0.frozen
    have lB0 := B0.lt
    have cB1 := B1.cell
    have fB1 := B1.frozen
    have lB1 := B1.lt
    go_wp2_with fail
    go_ret
    exact ⟨false, rfl, ⟨fun h => (by cases h), fun e => absurd (congrArg Prod.fst e) hq⟩, HAL.out⟩
set_option maxRecDepth 100000 in
set_option maxHeartbeats 4000000 in
theorem eqFp_c (okA okB : Nat → Prop) (A B : Option Addr) (n c m d : Nat) (xs ys : List PkI) (w : World) (ha : Sl FpE okA w A n c xs) (hb : Sl FpE okB w B m d ys) (hn : m ≤ 17592186044416) (hB : ∀ y ∈ ys, y.2.length ≤ 17592186044416) :
    Calls Tryz.prog 176 #[.slice A n c, .slice B m d, .func (.func 177) #[] #[]] w (SmP w (xs = ys)) := by
  have hla := ha.len
  have hlb := hb.len
  by_cases hnm : n = m
  · subst hnm
    have e0 : ((n : Int) != (n : Int)) = false := by simp
    have HA := Lib.hid ha
    have HB := Lib.hid hb
    have HBD := Lib.hid hB
    have HLN := Lib.hid (And.intro hla hlb)
    clear ha hb hB hla hlb
    go_enter Tryz.func176, Tryz.ntmps176
    go_wp2_with fail
    go_loopw [17] (fun q wr => ∃ i : Nat, q = .int .i64 (i : Int) ∧ i ≤ n ∧ Hid (PreE xs ys i ∧ Below w.heap.size w wr)) (fun q _ => n - (intOf q).toNat)
    case atStart => exact ⟨0, rfl, Nat.zero_le _, Lib.hid ⟨PreE.zero _ _, Below.refl _ _⟩⟩
    case round =>
      obtain ⟨i, rfl, hi, HQ⟩ := hrel
      by_cases hin : i < n
      · obtain ⟨b1, o1, ⟨xr, xA, xn, xc⟩, x, hAa, -, hb1, hx, hxr, hcx⟩ := HA.out.at_ hin
        obtain ⟨b2, o2, ⟨yr, yA, yn, yc⟩, y, hAb, -, hb2, hy, hyr, hcy⟩ := HB.out.at_ hin
        subst hAa hAb
        have c0 := (HQ.out.2.cell (p := ⟨b1, o1 + i * FpE.k + 0, none⟩) hb1).trans (hcx 0 _ rfl)
        have c1 := (HQ.out.2.cell (p := ⟨b1, o1 + i * FpE.k + 1, none⟩) hb1).trans (hcx 1 _ rfl)
        have d0 := (HQ.out.2.cell (p := ⟨b2, o2 + i * FpE.k + 0, none⟩) hb2).trans (hcy 0 _ rfl)
        have d1 := (HQ.out.2.cell (p := ⟨b2, o2 + i * FpE.k + 1, none⟩) hb2).trans (hcy 1 _ rfl)
        simp only [FpE, Nat.add_zero] at c0 d0 c1 d1
        have i0 : (0 : Int) ≤ (i : Int) := by omega
        have i1 : (i : Int) < (n : Int) := by omega
        have HX := Lib.hid hx
        have HY := Lib.hid hy
        have hb2w : b2 < wr.heap.size := Nat.lt_of_lt_of_le hb2 HQ.out.2.size
        have hal := ((Below.refl wr.heap.size wr).al (.cells #[.int .i64 xr, .slice xA xn xc] 91)).al (.cells #[.int .i64 yr, .slice yA yn yc] 91)
        have HB8 := Lib.hid (HQ.out.2.via hal)
        have HPR := Lib.hid HQ.out.1
        have BX := (Blk.new wr 91 #[.int .i64 xr, .slice xA xn xc]).al (.cells #[.int .i64 yr, .slice yA yn yc] 91)
        have BY := Blk.newAt (wr.alloc (.cells #[.int .i64 xr, .slice xA xn xc] 91)) 91 #[.int .i64 yr, .slice yA yn yc] (wr.heap.size + 1) (by simp)
        have JC := Lib.hid (same2_c okA okB (xr, xA, xn, xc) x (yr, yA, yn, yc) y ((wr.alloc (.cells #[.int .i64 xr, .slice xA xn xc] 91)).alloc (.cells #[.int .i64 yr, .slice yA yn yc] 91)) (FpE.agr hxr (Agr.below (HB8.out))) (FpE.agr hyr (Agr.below (HB8.out))) (HBD.out _ (List.mem_of_getElem? hy)))
        clear hcx hcy hx hy hxr hyr hb1 hb2 hal HQ
        go_upto_region 7 with fail
        clear c0 d0 c1 d1 hb2w
        generalize (wr.alloc (.cells #[.int .i64 xr, .slice xA xn xc] 91)).alloc (.cells #[.int .i64 yr, .slice yA yn yc] 91) = W8 at *
        generalize wr.heap.size + 1 = by1 at *
        generalize wr.heap.size = bx1 at *
        have cBX := BX.cell
        have fBX := BX.frozen
        have lBX := BX.lt
        have cBY := BY.cell
        have fBY := BY.frozen
        have lBY := BY.lt
        go_wp2_with fail
        refine JC.out.mono ?_
        rintro e w9 ⟨b9, rfl, hb9, hbe⟩
        clear cBX fBX lBX cBY fBY lBY
        clear BX BY JC
        have HB9 := Lib.hid (HB8.out.via hbe)
        have HV := Lib.hid hb9
        clear hb9 hbe
        cases b9 with
        | true =>
          have hxy := HV.out.1 rfl
          go_wp2_with fail
          exact ⟨⟨i + 1, by go_num, by omega, Lib.hid ⟨HPR.out.next HX.out (by rw [hxy]; exact HY.out), HB9.out⟩⟩, by simp [intOf]; omega⟩
        | false =>
          go_wp2_with fail
          go_ret
          refine ⟨false, rfl, ⟨fun h => (by cases h), fun e => ?_⟩, HB9.out⟩
          have e2 : xs = ys := by simpa using e
          subst e2
          exact HV.out.2 (Option.some.inj (HX.out.symm.trans HY.out))
      · obtain rfl : n = i := by omega
        go_wp2_with fail
        go_ret
        exact ⟨true, rfl, ⟨fun _ => by simpa using HQ.out.1.full HLN.out.1 HLN.out.2, fun _ => rfl⟩, HQ.out.2⟩
  · have e0 : ((n : Int) != (m : Int)) = true := by simp; omega
    have HLN := Lib.hid (And.intro hla hlb)
    have HNM := Lib.hid hnm
    clear ha hb hB hla hlb hnm
    go_enter Tryz.func176, Tryz.ntmps176
    go_wp2_with fail
    go_ret
    refine ⟨false, rfl, ⟨fun h => (by cases h), fun e => ?_⟩, Below.refl _ _⟩
    have e2 : xs = ys := by simpa using e
    have h1 := HLN.out.1
    have h2 := HLN.out.2
    rw [e2] at h1
    exact absurd (h1.symm.trans h2) HNM.out
set_option maxRecDepth 100000 in
set_option maxHeartbeats 4000000 in
theorem same1_c (okA okB : Nat → Prop) (r : KyI × SlV) (x : NdI) (s : KyI × SlV) (y : NdI) (w : World) (hx : NdE.rel okA w r x) (hy : NdE.rel okB w s y) (hn : y.2.length ≤ 17592186044416 ∧ ∀ p ∈ y.2, p.2.length ≤ 17592186044416) :
    Calls Tryz.prog 175 #[.agg #[.bool r.1.1, .int .i64 r.1.2.1, .int .i64 r.1.2.2.1, .int .i64 r.1.2.2.2, .slice r.2.1 r.2.2.1 r.2.2.2], .agg #[.bool s.1.1, .int .i64 s.1.2.1, .int .i64 s.1.2.2.1, .int .i64 s.1.2.2.2, .slice s.2.1 s.2.2.1 s.2.2.2]] w (SmP w (x = y)) := by
  obtain ⟨⟨xb, xm, xi, xj⟩, xA, xn, xc⟩ := r
  obtain ⟨⟨yb, ym, yi, yj⟩, yA, yn, yc⟩ := s
  obtain ⟨⟨xb', xm', xi', xj'⟩, xs⟩ := x
  obtain ⟨⟨yb', ym', yi', yj'⟩, ys⟩ := y
  obtain ⟨h1, h2⟩ := hx
  obtain ⟨k1, k2⟩ := hy
  simp only at h1 h2 k1 k2 hn
  obtain ⟨rfl, rfl, rfl, rfl⟩ : xb = xb' ∧ xm = xm' ∧ xi = xi' ∧ xj = xj' := by simpa using h1
  obtain ⟨rfl, rfl, rfl, rfl⟩ : yb = yb' ∧ ym = ym' ∧ yi = yi' ∧ yj = yj' := by simpa using k1
  clear h1 k1
  have hal := ((Below.refl w.heap.size w).al (.cells #[.bool xb, .int .i64 xm, .int .i64 xi, .int .i64 xj, .slice xA xn xc] 89)).al (.cells #[.bool yb, .int .i64 ym, .int .i64 yi, .int .i64 yj, .slice yA yn yc] 89)
  have B0 := (Blk.new w 89 #[.bool xb, .int .i64 xm, .int .i64 xi, .int .i64 xj, .slice xA xn xc]).al (.cells #[.bool yb, .int .i64 ym, .int .i64 yi, .int .i64 yj, .slice yA yn yc] 89)
  have B1 := Blk.newAt (w.alloc (.cells #[.bool xb, .int .i64 xm, .int .i64 xi, .int .i64 xj, .slice xA xn xc] 89)) 89 #[.bool yb, .int .i64 ym, .int .i64 yi, .int .i64 yj, .slice yA yn yc] (w.heap.size + 1) (by simp)
  have HE := Lib.hid (eqFp_c okA okB xA yA xn xc yn yc xs ys _ (h2.via hal) (k2.via hal) (by have := k2.len; have := hn.1; omega) hn.2)
  have HAL := Lib.hid hal
  clear h2 k2 hal hn
  go_enter Tryz.func175, Tryz.ntmps175
  go_upto_region 1 with fail
  generalize (w.alloc (.cells #[.bool xb, .int .i64 xm, .int .i64 xi, .int .i64 xj, .slice xA xn xc] 89)).alloc (.cells #[.bool yb, .int .i64 ym, .int .i64 yi, .int .i64 yj, .slice yA yn yc] 89) = W at *
  by_cases hs : (xb, xm) = (yb, ym)
  · obtain ⟨rfl, rfl⟩ : xb = yb ∧ xm = ym := by simpa using hs
    clear hs
    by_cases hf : xi = yi
    · subst hf
      have e1 : (xi == xi) = true := by simp
      by_cases ht : xj = yj
      · subst ht
        have e2 : (xj == xj) = true := by simp
        have cB0 := B0.cell
        have fB0 := B0.frozen
        have lB0 := B0.lt
        have cB1 := B1.cell
        have fB1 := B1.frozen
        have lB1 := B1.lt
        go_wp2_with fail
        clear cB0 fB0 lB0 cB1 fB1 lB1
        refine HE.out.mono ?_
        rintro e w1 ⟨b, rfl, hP, hb⟩
        have HB := Lib.hid (HAL.out.via hb)
        have HV := Lib.hid hP
        clear hP hb
        go_wp2_with fail
        go_ret
        refine ⟨b, rfl, ?_, HB.out⟩
        rw [HV.out]; simp
      · have e2 : (xj == yj) = false := by simpa using ht
        have HNO := Lib.hid (show (((xb, xm, xi, xj), xs) : NdI) ≠ ((xb, xm, xi, yj), ys) from fun e => ht (congrArg (fun z : NdI => z.1.2.2.2) e))
        have cB0 := B0.cell
        have fB0 := B0.frozen
        have lB0 := B0.lt
        have cB1 := B1.cell
        have fB1 := B1.frozen
        have lB1 := B1.lt
        go_wp2_with fail
        go_ret
        exact ⟨false, rfl, ⟨fun h => (by cases h), fun e => absurd (by simpa using e) HNO.out⟩, HAL.out⟩
    · have e1 : (xi == yi) = false := by simpa using hf
      have HNO := Lib.hid (show (((xb, xm, xi, xj), xs) : NdI) ≠ ((xb, xm, yi, yj), ys) from fun e => hf (congrArg (fun z : NdI => z.1.2.2.1) e))
      have cB0 := B0.cell
      have fB0 := B0.frozen
      have lB0 := B0.lt
      have cB1 := B1.cell
      have fB1 := B1.frozen
      have lB1 := B1.lt
      go_wp2_with fail
      go_ret
      exact ⟨false, rfl, ⟨fun h => (by cases h), fun e => absurd (by simpa using e) HNO.out⟩, HAL.out⟩
  · have e1 := fun wx => sym_eql xb yb xm ym wx
    simp only [hs, decide_false] at e1
    have HNO := Lib.hid (show (((xb, xm, xi, xj), xs) : NdI) ≠ ((yb, ym, yi, yj), ys) from fun e => hs (congrArg (fun z : NdI => (z.1.1, z.1.2.1)) e))
    have cB0 := B0.cell
    have fB0 := B0.frozen
    have lB0 := B0.lt
    have cB1 := B1.cell
    have fB1 := B1.frozen
    have lB1 := B1.lt
    go_wp2_with fail
    go_ret
    exact ⟨false, rfl, ⟨fun h => (by cases h), fun e => absurd (by simpa using e) HNO.out⟩, HAL.out⟩
set_option maxRecDepth 100000 in
set_option maxHeartbeats 4000000 in
theorem eqNd_c (okA okB : Nat → Prop) (A B : Option Addr) (n c m d : Nat) (xs ys : List NdI) (w : World) (ha : Sl NdE okA w A n c xs) (hb : Sl NdE okB w B m d ys) (hn : m ≤ 17592186044416) (hB : ∀ y ∈ ys, y.2.length ≤ 17592186044416 ∧ ∀ p ∈ y.2, p.2.length ≤ 17592186044416) :
    Calls Tryz.prog 174 #[.slice A n c, .slice B m d, .func (.func 175) #[] #[]] w (SmP w (xs = ys)) := by
  have hla := ha.len
  have hlb := hb.len
  by_cases hnm : n = m
  · subst hnm
    have e0 : ((n : Int) != (n : Int)) = false := by simp
    have HA := Lib.hid ha
    have HB := Lib.hid hb
    have HBD := Lib.hid hB
    have HLN := Lib.hid (And.intro hla hlb)
    clear ha hb hB hla hlb
    go_enter Tryz.func174, Tryz.ntmps174
    go_wp2_with fail
    go_loopw [17] (fun q wr => ∃ i : Nat, q = .int .i64 (i : Int) ∧ i ≤ n ∧ Hid (PreE xs ys i ∧ Below w.heap.size w wr)) (fun q _ => n - (intOf q).toNat)
    case atStart => exact ⟨0, rfl, Nat.zero_le _, Lib.hid ⟨PreE.zero _ _, Below.refl _ _⟩⟩
    case round =>
      obtain ⟨i, rfl, hi, HQ⟩ := hrel
      by_cases hin : i < n
      · obtain ⟨b1, o1, ⟨⟨xb, xm, xi, xj⟩, xA, xn, xc⟩, x, hAa, -, hb1, hx, hxr, hcx⟩ := HA.out.at_ hin
        obtain ⟨b2, o2, ⟨⟨yb, ym, yi, yj⟩, yA, yn, yc⟩, y, hAb, -, hb2, hy, hyr, hcy⟩ := HB.out.at_ hin
        subst hAa hAb
        have c0 := (HQ.out.2.cell (p := ⟨b1, o1 + i * NdE.k + 0, none⟩) hb1).trans (hcx 0 _ rfl)
        have c1 := (HQ.out.2.cell (p := ⟨b1, o1 + i * NdE.k + 1, none⟩) hb1).trans (hcx 1 _ rfl)
        have c2 := (HQ.out.2.cell (p := ⟨b1, o1 + i * NdE.k + 2, none⟩) hb1).trans (hcx 2 _ rfl)
        have c3 := (HQ.out.2.cell (p := ⟨b1, o1 + i * NdE.k + 3, none⟩) hb1).trans (hcx 3 _ rfl)
        have c4 := (HQ.out.2.cell (p := ⟨b1, o1 + i * NdE.k + 4, none⟩) hb1).trans (hcx 4 _ rfl)
        have d0 := (HQ.out.2.cell (p := ⟨b2, o2 + i * NdE.k + 0, none⟩) hb2).trans (hcy 0 _ rfl)
        have d1 := (HQ.out.2.cell (p := ⟨b2, o2 + i * NdE.k + 1, none⟩) hb2).trans (hcy 1 _ rfl)
        have d2 := (HQ.out.2.cell (p := ⟨b2, o2 + i * NdE.k + 2, none⟩) hb2).trans (hcy 2 _ rfl)
        have d3 := (HQ.out.2.cell (p := ⟨b2, o2 + i * NdE.k + 3, none⟩) hb2).trans (hcy 3 _ rfl)
        have d4 := (HQ.out.2.cell (p := ⟨b2, o2 + i * NdE.k + 4, none⟩) hb2).trans (hcy 4 _ rfl)
        simp only [NdE, Nat.add_zero] at c0 d0 c1 d1 c2 d2 c3 d3 c4 d4
        have i0 : (0 : Int) ≤ (i : Int) := by omega
        have i1 : (i : Int) < (n : Int) := by omega
        have HX := Lib.hid hx
        have HY := Lib.hid hy
        have hb2w : b2 < wr.heap.size := Nat.lt_of_lt_of_le hb2 HQ.out.2.size
        have hal := ((Below.refl wr.heap.size wr).al (.cells #[.bool xb, .int .i64 xm, .int .i64 xi, .int .i64 xj, .slice xA xn xc] 89)).al (.cells #[.bool yb, .int .i64 ym, .int .i64 yi, .int .i64 yj, .slice yA yn yc] 89)
        have HB8 := Lib.hid (HQ.out.2.via hal)
        have HPR := Lib.hid HQ.out.1
        have BX := (Blk.new wr 89 #[.bool xb, .int .i64 xm, .int .i64 xi, .int .i64 xj, .slice xA xn xc]).al (.cells #[.bool yb, .int .i64 ym, .int .i64 yi, .int .i64 yj, .slice yA yn yc] 89)
        have BY := Blk.newAt (wr.alloc (.cells #[.bool xb, .int .i64 xm, .int .i64 xi, .int .i64 xj, .slice xA xn xc] 89)) 89 #[.bool yb, .int .i64 ym, .int .i64 yi, .int .i64 yj, .slice yA yn yc] (wr.heap.size + 1) (by simp)
        have JC := Lib.hid (same1_c okA okB ((xb, xm, xi, xj), xA, xn, xc) x ((yb, ym, yi, yj), yA, yn, yc) y ((wr.alloc (.cells #[.bool xb, .int .i64 xm, .int .i64 xi, .int .i64 xj, .slice xA xn xc] 89)).alloc (.cells #[.bool yb, .int .i64 ym, .int .i64 yi, .int .i64 yj, .slice yA yn yc] 89)) (NdE.agr hxr (Agr.below (HB8.out))) (NdE.agr hyr (Agr.below (HB8.out))) (HBD.out _ (List.mem_of_getElem? hy)))
        clear hcx hcy hx hy hxr hyr hb1 hb2 hal HQ
        go_upto_region 7 with fail
        clear c0 d0 c1 d1 c2 d2 c3 d3 c4 d4 hb2w
        generalize (wr.alloc (.cells #[.bool xb, .int .i64 xm, .int .i64 xi, .int .i64 xj, .slice xA xn xc] 89)).alloc (.cells #[.bool yb, .int .i64 ym, .int .i64 yi, .int .i64 yj, .slice yA yn yc] 89) = W8 at *
        generalize wr.heap.size + 1 = by1 at *
        generalize wr.heap.size = bx1 at *
        have cBX := BX.cell
        have fBX := BX.frozen
        have lBX := BX.lt
        have cBY := BY.cell
        have fBY := BY.frozen
        have lBY := BY.lt
        go_wp2_with fail
        refine JC.out.mono ?_
        rintro e w9 ⟨b9, rfl, hb9, hbe⟩
        clear cBX fBX lBX cBY fBY lBY
        clear BX BY JC
        have HB9 := Lib.hid (HB8.out.via hbe)
        have HV := Lib.hid hb9
        clear hb9 hbe
        cases b9 with
        | true =>
          have hxy := HV.out.1 rfl
          go_wp2_with fail
          exact ⟨⟨i + 1, by go_num, by omega, Lib.hid ⟨HPR.out.next HX.out (by rw [hxy]; exact HY.out), HB9.out⟩⟩, by simp [intOf]; omega⟩
        | false =>
          go_wp2_with fail
          go_ret
          refine ⟨false, rfl, ⟨fun h => (by cases h), fun e => ?_⟩, HB9.out⟩
          have e2 : xs = ys := by simpa using e
          subst e2
          exact HV.out.2 (Option.some.inj (HX.out.symm.trans HY.out))
      · obtain rfl : n = i := by omega
        go_wp2_with fail
        go_ret
        exact ⟨true, rfl, ⟨fun _ => by simpa using HQ.out.1.full HLN.out.1 HLN.out.2, fun _ => rfl⟩, HQ.out.2⟩
  · have e0 : ((n : Int) != (m : Int)) = true := by simp; omega
    have HLN := Lib.hid (And.intro hla hlb)
    have HNM := Lib.hid hnm
    clear ha hb hB hla hlb hnm
    go_enter Tryz.func174, Tryz.ntmps174
    go_wp2_with fail
    go_ret
    refine ⟨false, rfl, ⟨fun h => (by cases h), fun e => ?_⟩, Below.refl _ _⟩
    have e2 : xs = ys := by simpa using e
    have h1 := HLN.out.1
    have h2 := HLN.out.2
    rw [e2] at h1
    exact absurd (h1.symm.trans h2) HNM.out
set_option maxRecDepth 100000 in
theorem fsame_c (okA okB : Nat → Prop) (Aa Ab : Option Addr) (na ca nb cb : Nat) (ra rb : Int) (fa fb : List NdI) (w : World) (ha : Sl NdE okA w Aa na ca fa) (hb : Sl NdE okB w Ab nb cb fb) (hB : FoB fb) :
    Calls Tryz.prog 156 #[.agg #[.slice Aa na ca, .int .i64 ra], .agg #[.slice Ab nb cb, .int .i64 rb]] w (SmP w (ra = rb ∧ fa = fb)) := by
  have hal := ((Below.refl w.heap.size w).al (.cells #[.slice Aa na ca, .int .i64 ra] 34)).al (.cells #[.slice Ab nb cb, .int .i64 rb] 34)
  have B0 := (Blk.new w 34 #[.slice Aa na ca, .int .i64 ra]).al (.cells #[.slice Ab nb cb, .int .i64 rb] 34)
  have B1 := Blk.newAt (w.alloc (.cells #[.slice Aa na ca, .int .i64 ra] 34)) 34 #[.slice Ab nb cb, .int .i64 rb] (w.heap.size + 1) (by simp)
  have HE := Lib.hid (eqNd_c okA okB Aa Ab na ca nb cb fa fb _ (ha.via hal) (hb.via hal) (by have := hb.len; have := hB.1; omega) hB.2)
  have HAL := Lib.hid hal
  clear ha hb hal hB
  go_enter Tryz.func156, Tryz.ntmps156
  go_upto_region 1 with fail
  generalize (w.alloc (.cells #[.slice Aa na ca, .int .i64 ra] 34)).alloc (.cells #[.slice Ab nb cb, .int .i64 rb] 34) = W at *
  by_cases hr : ra = rb
  · subst hr
    have e1 : (ra == ra) = true := by simp
    have cB0 := B0.cell
    have fB0 := B0.frozen
    have lB0 := B0.lt
    have cB1 := B1.cell
    have fB1 := B1.frozen
    have lB1 := B1.lt
    go_wp2_with fail
    clear cB0 fB0 lB0 cB1 fB1 lB1
    refine HE.out.mono ?_
    rintro e w1 ⟨b, rfl, hP, hb⟩
    have HB := Lib.hid (HAL.out.via hb)
    have HV := Lib.hid hP
    clear hP hb
    go_wp2_with fail
    go_ret
    refine ⟨b, rfl, ?_, HB.out⟩
    rw [HV.out]; simp
  · have e1 : (ra == rb) = false := by simpa using hr
    have cB0 := B0.cell
    have fB0 := B0.frozen
    have lB0 := B0.lt
    have cB1 := B1.cell
    have fB1 := B1.frozen
    have lB1 := B1.lt
    go_wp2_with fail
    go_ret
    exact ⟨false, rfl, ⟨fun h => (by cases h), fun e => absurd e.1 hr⟩, HAL.out⟩
end Go.Proofs.YtbfcnfgkccgbiaaGreatDoor

