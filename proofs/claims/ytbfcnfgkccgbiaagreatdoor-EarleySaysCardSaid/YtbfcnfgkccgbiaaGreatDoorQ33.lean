/- Texts EK, SK, IW, BX, SN, SO, laid together. -/
import Derived.Test.YtbfcnfgkccgbiaaGreatDoorQ4
import Derived.Test.YtbfcnfgkccgbiaaGreatDoorQ15
import Derived.Test.YtbfcnfgkccgbiaaGreatDoorQ21
import Derived.Test.YtbfcnfgkccgbiaaGreatDoorQ8
import Derived.Test.YtbfcnfgkccgbiaaGreatDoorQ5
import Derived.Test.YtbfcnfgkccgbiaaGreatDoorQ29
import Derived.Test.YtbfcnfgkccgbiaaGreatDoorQ32
import Derived.Laws.StructEq


namespace Go.Proofs.YtbfcnfgkccgbiaaGreatDoor
open Go.RowKit

/-- a function that only computes a Bool -/
def BoolP (w : World) (b : Bool) (e : Ending) (w' : World) : Prop := e = .returned (.bool b) ∧ ∃ q, w' = w.drewN q
theorem BoolP.below {w w' : World} {b : Bool} {e : Ending} (h : BoolP w b e w') : e = .returned (.bool b) ∧ Below w.heap.size w w' := by
  obtain ⟨he, q, rfl⟩ := h
  exact ⟨he, below_drewN (Below.refl _ _) q⟩

/-- the first k elements agree -/
def AgreeN (xs ys : List Int) (k : Nat) : Prop := ∀ j, j < k → xs.getD j 0 = ys.getD j 0
theorem AgreeN.full {xs ys : List Int} {n : Nat} (h : AgreeN xs ys n) (hx : xs.length = n) (hy : ys.length = n) : xs = ys := by
  apply List.ext_getElem (by omega)
  intro i h1 h2
  have := h i (by omega)
  simpa [List.getD_eq_getElem?_getD, h1, h2] using this

set_option maxHeartbeats 1000000 in
theorem equal_c (A B : Option Addr) (n c m d : Nat) (xs ys : List Int) (w : World) (h1 : Ints w A n c xs) (h2 : Ints w B m d ys) (hn : n ≤ 17592186044416) :
    Calls Tryz.prog 36 #[.slice A n c, .slice B m d] w (BoolP w (decide (xs = ys))) := by
  by_cases hnm : n = m
  · subst hnm
    have k0 : ((n : Int) != (n : Int)) = false := by simp
    go_enter Tryz.func36, Tryz.ntmps36
    go_wp2_with fail
    go_loopw [13] (fun i wr => ∃ k : Nat, i = .int .i64 k ∧ k ≤ n ∧ AgreeN xs ys k ∧ ∃ q, wr = w.drewN q) (fun i _ => n - (intOf i).toNat)
    case atStart => exact ⟨0, rfl, Nat.zero_le _, fun j hj => absurd hj (by omega), 0, rfl⟩
    case round =>
      obtain ⟨k, rfl, hk, hag, q, rfl⟩ := hrel
      by_cases hlt : k < n
      · obtain ⟨b1, o1, rfl, hb1, hx⟩ := h1.at_ hlt
        obtain ⟨b2, o2, rfl, hb2, hy⟩ := h2.at_ hlt
        have i0 : (0 : Int) ≤ (k : Int) := by omega
        have i1 : (k : Int) < (n : Int) := by omega
        have H1 := Lib.hid h1.len
        have H2 := Lib.hid h2.len
        have HA := Lib.hid hag
        by_cases he : xs.getD k 0 = ys.getD k 0
        · have hag' : AgreeN xs ys (k + 1) := fun j hj => by
            rcases Nat.lt_or_ge j k with hj' | hj'
            · exact HA.out j hj'
            · obtain rfl : j = k := by omega
              exact he
          have HA' := Lib.hid hag'
          rw [he] at hx
          generalize ys.getD k 0 = y at *
          have e0 : (y != y) = false := by simp
          clear hag hag' he h1 h2
          go_wp2_with fail
          go_quiet (fail)
          go_wp2_with fail
          go_roundw
          case rel => exact ⟨k + 1, by go_num, by omega, HA'.out, _, rfl⟩
          case measure => simp [intOf]; omega
        · have hne : xs ≠ ys := fun e => he (by rw [e])
          have HN := Lib.hid hne
          generalize ys.getD k 0 = y at *
          generalize xs.getD k 0 = x at *
          have e0 : (x != y) = true := by simpa using he
          clear hag he h1 h2 hne
          go_wp2_with fail
          go_quiet (fail)
          go_wp2_with fail
          go_ret
          exact ⟨by simp [HN.out], q + nq, (World.drewN_drewN _ _ _)⟩
      · have hkn : k = n := by omega
        have hfin : xs = ys := AgreeN.full (n := n) (hkn ▸ hag) h1.len h2.len
        have HF := Lib.hid hfin
        clear hfin h1 h2 hag hkn
        go_wp2_with fail
        go_ret
        exact ⟨by simp [HF.out], _, rfl⟩
  · have k0 : ((n : Int) != (m : Int)) = true := by simp; omega
    have hne : xs ≠ ys := fun e => hnm (by rw [← h1.len, ← h2.len, e])
    have HN := Lib.hid hne
    clear hnm hne
    go_enter Tryz.func36, Tryz.ntmps36
    go_wp2_with fail
    go_ret
    exact ⟨by simp [HN.out], 0, rfl⟩
end Go.Proofs.YtbfcnfgkccgbiaaGreatDoor






namespace Go.Proofs.YtbfcnfgkccgbiaaGreatDoor
open Go.RowKit

/-- the first k agree -/
def PreE {α : Type} (xs ys : List α) (k : Nat) : Prop := ∀ j, j < k → xs[j]? = ys[j]?
theorem PreE.zero {α : Type} (xs ys : List α) : PreE xs ys 0 := fun j hj => by omega
theorem PreE.full {α : Type} {xs ys : List α} {n : Nat} (h : PreE xs ys n) (hx : xs.length = n) (hy : ys.length = n) : xs = ys := by
  apply List.ext_getElem? 
  intro i
  rcases Nat.lt_or_ge i n with hi | hi
  · exact h i hi
  · rw [List.getElem?_eq_none (by omega), List.getElem?_eq_none (by omega)]
theorem PreE.next {α : Type} {xs ys : List α} {k : Nat} {x : α} (h : PreE xs ys k) (h1 : xs[k]? = some x) (h2 : ys[k]? = some x) : PreE xs ys (k + 1) := fun j hj => by
  rcases Nat.lt_or_ge j k with hj' | hj'
  · exact h j hj'
  · obtain rfl : j = k := by omega
    rw [h1, h2]
/-- no row is longer than memory allows -/
def FoB (f : List NdI) : Prop := f.length ≤ 17592186044416 ∧ ∀ x ∈ f, x.2.length ≤ 17592186044416 ∧ ∀ p ∈ x.2, p.2.length ≤ 17592186044416
def SmP (w : World) (P : Prop) (e : Ending) (w' : World) : Prop := ∃ b : Bool, e = .returned (.bool b) ∧ (b = true ↔ P) ∧ Below w.heap.size w w'
/-- slices.Equal where the second row's length is bounded -/
theorem equal_m (A B : Option Addr) (n c m d : Nat) (xs ys : List Int) (w : World) (h1 : Ints w A n c xs) (h2 : Ints w B m d ys) (hm : m ≤ 17592186044416) :
    Calls Tryz.prog 36 #[.slice A n c, .slice B m d] w (BoolP w (decide (xs = ys))) := by
  by_cases hnm : n = m
  · exact equal_c A B n c m d xs ys w h1 h2 (by omega)
  · have hne : xs ≠ ys := fun e => hnm (by rw [← h1.1, ← h2.1, e])
    have e0 : ((n : Int) != (m : Int)) = true := by simp; omega
    have HNE := Lib.hid hne
    clear h1 h2 hne hnm hm
    go_enter Tryz.func36, Tryz.ntmps36
    go_wp2_with fail
    go_ret
    exact ⟨by simp [HNE.out], 0, rfl⟩
theorem sym_neq (ab bb : Bool) (an bn : Int) (w : World) : (binOp .neq 66 (.agg #[.bool ab, .int .i64 an]) (.agg #[.bool bb, .int .i64 bn])).run Tryz.prog w = .ok (.bool (!decide ((ab, an) = (bb, bn)))) w := by
  simp [go_sem]
  by_cases h1 : ab = bb <;> by_cases h2 : an = bn <;> simp [h1, h2]
set_option maxRecDepth 100000 in
set_option maxHeartbeats 8000000 in
theorem same_c (okA okB : Nat → Prop) (Aa Ab : Option Addr) (na ca nb cb : Nat) (ra rb : Int) (fa fb : List NdI) (w : World) (ha : Sl NdE okA w Aa na ca fa) (hb : Sl NdE okB w Ab nb cb fb) (hB : FoB fb) :
    Calls Tryz.prog 10 #[.agg #[.slice Aa na ca, .int .i64 ra], .agg #[.slice Ab nb cb, .int .i64 rb]] w (SmP w (ra = rb ∧ fa = fb)) := by
  have hla := ha.len
  have hlb := hb.len
  have hn := hB.1
  rw [hlb] at hn
  have HA := Lib.hid ha
  have HB := Lib.hid hb
  have HFB := Lib.hid hB
  have HLN := Lib.hid (And.intro hla hlb)
  clear ha hb hB hla hlb
  have B0 := (Blk.new w 34 #[.slice Aa na ca, .int .i64 ra]).al (.cells #[.slice Ab nb cb, .int .i64 rb] 34)
  have B1 := Blk.newAt (w.alloc (.cells #[.slice Aa na ca, .int .i64 ra] 34)) 34 #[.slice Ab nb cb, .int .i64 rb] (w.heap.size + 1) (by simp)
  have HBW := Lib.hid (((Below.refl w.heap.size w).al (.cells #[.slice Aa na ca, .int .i64 ra] 34)).al (.cells #[.slice Ab nb cb, .int .i64 rb] 34))
  go_enter Tryz.func10, Tryz.ntmps10
  go_upto_region 1 with fail
  generalize (w.alloc (.cells #[.slice Aa na ca, .int .i64 ra] 34)).alloc (.cells #[.slice Ab nb cb, .int .i64 rb] 34) = W at *
  have HB0 := Lib.hid B0
  have HB1 := Lib.hid B1
  by_cases hr : ra = rb
  · subst hr
    have e0 : (ra != ra) = false := by simp
    by_cases hnm : na = nb
    · subst hnm
      have e1 : ((na : Int) != (na : Int)) = false := by simp
      have cB0 := B0.cell
      have fB0 := B0.frozen
      have lB0 := B0.lt
      have cB1 := B1.cell
      have fB1 := B1.frozen
      have lB1 := B1.lt
      go_wp2_with fail
      clear cB0 fB0 lB0 cB1 fB1 lB1
      clear B0 B1 e0 e1
      go_loopw [27] (fun q wr => ∃ i : Nat, q = .int .i64 (i : Int) ∧ i ≤ na ∧ Hid (PreE fa fb i ∧ Below W.heap.size W wr)) (fun q _ => na - (intOf q).toNat)
      case atStart => exact ⟨0, rfl, Nat.zero_le _, Lib.hid ⟨PreE.zero _ _, Below.refl _ _⟩⟩
      case round =>
        obtain ⟨i, rfl, hi, HQ⟩ := hrel
        by_cases hin : i < na
        · obtain ⟨b1, o1, ⟨⟨xb, xn, xi, xj⟩, xA, xm, xc⟩, ⟨⟨xb', xn', xi', xj'⟩, xp⟩, hAa, -, hb1, hx, ⟨hx1, hx2⟩, hcx⟩ := HA.out.at_ hin
          obtain ⟨b2, o2, ⟨⟨yb, yn, yi, yj⟩, yA, ym, yc⟩, ⟨⟨yb', yn', yi', yj'⟩, yp⟩, hAb, -, hb2, hy, ⟨hy1, hy2⟩, hcy⟩ := HB.out.at_ hin
          simp only at hx1 hx2 hy1 hy2
          obtain ⟨rfl, rfl, rfl, rfl⟩ : xb = xb' ∧ xn = xn' ∧ xi = xi' ∧ xj = xj' := by simpa using hx1
          obtain ⟨rfl, rfl, rfl, rfl⟩ : yb = yb' ∧ yn = yn' ∧ yi = yi' ∧ yj = yj' := by simpa using hy1
          subst hAa hAb
          have hbw := HBW.out.via HQ.out.2
          have BF0 := HB0.out.via HQ.out.2
          have BF1 := HB1.out.via HQ.out.2
          have c0 := (hbw.cell (p := ⟨b1, o1 + i * NdE.k + 0, none⟩) hb1).trans (hcx 0 _ rfl)
          have c1 := (hbw.cell (p := ⟨b1, o1 + i * NdE.k + 1, none⟩) hb1).trans (hcx 1 _ rfl)
          have c2 := (hbw.cell (p := ⟨b1, o1 + i * NdE.k + 2, none⟩) hb1).trans (hcx 2 _ rfl)
          have c3 := (hbw.cell (p := ⟨b1, o1 + i * NdE.k + 3, none⟩) hb1).trans (hcx 3 _ rfl)
          have c4 := (hbw.cell (p := ⟨b1, o1 + i * NdE.k + 4, none⟩) hb1).trans (hcx 4 _ rfl)
          have d0 := (hbw.cell (p := ⟨b2, o2 + i * NdE.k + 0, none⟩) hb2).trans (hcy 0 _ rfl)
          have d1 := (hbw.cell (p := ⟨b2, o2 + i * NdE.k + 1, none⟩) hb2).trans (hcy 1 _ rfl)
          have d2 := (hbw.cell (p := ⟨b2, o2 + i * NdE.k + 2, none⟩) hb2).trans (hcy 2 _ rfl)
          have d3 := (hbw.cell (p := ⟨b2, o2 + i * NdE.k + 3, none⟩) hb2).trans (hcy 3 _ rfl)
          have d4 := (hbw.cell (p := ⟨b2, o2 + i * NdE.k + 4, none⟩) hb2).trans (hcy 4 _ rfl)
          simp only [NdE, Nat.add_zero] at c0 c1 c2 c3 c4 d0 d1 d2 d3 d4
          have i0 : (0 : Int) ≤ (i : Int) := by omega
          have i1 : (i : Int) < (na : Int) := by omega
          have HX := Lib.hid hx
          have HY := Lib.hid hy
          have HX2 := Lib.hid (hx2.via hbw)
          have HY2 := Lib.hid (hy2.via hbw)
          have hxl := hx2.len
          have hyl := hy2.len
          have HFX := Lib.hid (HFB.out.2 _ (List.mem_of_getElem? hy))
          have hxm : ym ≤ 17592186044416 := by have := HFX.out.1; simp only at this; omega
          have HXL := Lib.hid (And.intro hxl hyl)
          have HNE := Lib.hid (show ((xb, xn, xi, xj), xp) ≠ ((yb, yn, yi, yj), yp) → fa ≠ fb from fun hne e2 => hne (by
            subst e2
            exact Option.some.inj (HX.out.symm.trans HY.out)))
          have HBWR := Lib.hid hbw
          have hb2w : b2 < wr.heap.size := Nat.lt_of_lt_of_le hb2 hbw.size
          clear hcx hcy hx hy hx2 hy2 hx1 hy1 hbw hb1 hb2 hxl hyl
          have cBF0 := BF0.cell
          have fBF0 := BF0.frozen
          have lBF0 := BF0.lt
          have cBF1 := BF1.cell
          have fBF1 := BF1.frozen
          have lBF1 := BF1.lt
          go_upto_region 7 with fail
          clear cBF0 fBF0 lBF0 cBF1 fBF1 lBF1
          clear BF0 BF1 c0 c1 c2 c3 c4 d0 d1 d2 d3 d4
          have HNX := Lib.hid (show PreE fa fb i from HQ.out.1)
          have BX := (Blk.new wr 89 #[.bool xb, .int .i64 xn, .int .i64 xi, .int .i64 xj, .slice xA xm xc]).al (.cells #[.bool yb, .int .i64 yn, .int .i64 yi, .int .i64 yj, .slice yA ym yc] 89)
          have BY := Blk.newAt (wr.alloc (.cells #[.bool xb, .int .i64 xn, .int .i64 xi, .int .i64 xj, .slice xA xm xc] 89)) 89 #[.bool yb, .int .i64 yn, .int .i64 yi, .int .i64 yj, .slice yA ym yc] (wr.heap.size + 1) (by simp)
          have hal := ((Below.refl wr.heap.size wr).al (.cells #[.bool xb, .int .i64 xn, .int .i64 xi, .int .i64 xj, .slice xA xm xc] 89)).al (.cells #[.bool yb, .int .i64 yn, .int .i64 yi, .int .i64 yj, .slice yA ym yc] 89)
          have HW8 := Lib.hid (HQ.out.2.via hal)
          have HX8 := Lib.hid (HX2.out.via hal)
          have HY8 := Lib.hid (HY2.out.via hal)
          clear hal HX2 HY2 HQ HBWR hb2w
          generalize (wr.alloc (.cells #[.bool xb, .int .i64 xn, .int .i64 xi, .int .i64 xj, .slice xA xm xc] 89)).alloc (.cells #[.bool yb, .int .i64 yn, .int .i64 yi, .int .i64 yj, .slice yA ym yc] 89) = W8 at *
          generalize wr.heap.size + 1 = by1 at *
          generalize wr.heap.size = bx1 at *
          have HBX := Lib.hid BX
          have HBY := Lib.hid BY
          by_cases hs : (xb, xn) = (yb, yn)
          · obtain ⟨rfl, rfl⟩ : xb = yb ∧ xn = yn := by simpa using hs
            clear hs
            by_cases hf : xi = yi
            · subst hf
              by_cases ht : xj = yj
              · subst ht
                by_cases hm : xm = ym
                · subst hm
                  have e0 : ((xm : Int) != (xm : Int)) = false := by simp
                  have e2 : (xi != xi) = false := by simp
                  have e3 : (xj != xj) = false := by simp
                  have cBX := BX.cell
                  have fBX := BX.frozen
                  have lBX := BX.lt
                  have cBY := BY.cell
                  have fBY := BY.frozen
                  have lBY := BY.lt
                  go_wp2_with fail
                  clear cBX fBX lBX cBY fBY lBY
                  clear BX BY e0 e2 e3
                  go_loopw [68] (fun q wr => ∃ k : Nat, q = .int .i64 (k : Int) ∧ k ≤ xm ∧ Hid (PreE xp yp k ∧ Below W8.heap.size W8 wr)) (fun q _ => xm - (intOf q).toNat)
                  case atStart => exact ⟨0, rfl, Nat.zero_le _, Lib.hid ⟨PreE.zero _ _, Below.refl _ _⟩⟩
                  case round =>
                    obtain ⟨k, rfl, hk, HQ⟩ := hrel
                    by_cases hkx : k < xm
                    · obtain ⟨b3, o3, ⟨pr, KA, kn, kc⟩, ⟨pr', ks⟩, hxA, -, hb3, hp, ⟨hp1, hp2⟩, hcp⟩ := HX8.out.at_ hkx
                      obtain ⟨b4, o4, ⟨qr, QA, qn, qc⟩, ⟨qr', qs⟩, hyA, -, hb4, hq, ⟨hq1, hq2⟩, hcq⟩ := HY8.out.at_ hkx
                      simp only at hp1 hp2 hq1 hq2
                      obtain rfl : pr = pr' := hp1
                      obtain rfl : qr = qr' := hq1
                      subst hxA hyA
                      have c0 := (HQ.out.2.cell (p := ⟨b3, o3 + k * FpE.k + 0, none⟩) hb3).trans (hcp 0 _ rfl)
                      have c1 := (HQ.out.2.cell (p := ⟨b3, o3 + k * FpE.k + 1, none⟩) hb3).trans (hcp 1 _ rfl)
                      have d0 := (HQ.out.2.cell (p := ⟨b4, o4 + k * FpE.k + 0, none⟩) hb4).trans (hcq 0 _ rfl)
                      have d1 := (HQ.out.2.cell (p := ⟨b4, o4 + k * FpE.k + 1, none⟩) hb4).trans (hcq 1 _ rfl)
                      simp only [FpE, Nat.add_zero] at c0 c1 d0 d1
                      have k0 : (0 : Int) ≤ (k : Int) := by omega
                      have k1 : (k : Int) < (xm : Int) := by omega
                      have HP := Lib.hid hp
                      have HQK := Lib.hid hq
                      have hal := (Below.refl wr.heap.size wr).al (.cells #[.int .i64 pr, .slice KA kn kc] 91)
                      have HKX := Lib.hid ((hp2.via HQ.out.2).via hal).intsIn
                      have HKY := Lib.hid ((hq2.via HQ.out.2).via hal).intsIn
                      have hkl : qn ≤ 17592186044416 := by
                        have h1 := HFX.out.2 _ (List.mem_of_getElem? hq)
                        have h2 := hq2.len
                        simp only at h1 h2; omega
                      have BP := Blk.new wr 91 #[.int .i64 pr, .slice KA kn kc]
                      have BY := (HBY.out.via HQ.out.2).via hal
                      have HB9 := Lib.hid (HQ.out.2.via hal)
                      have hb4w : b4 < wr.heap.size := Nat.lt_of_lt_of_le hb4 HQ.out.2.size
                      have d0 := (hal.cell (p := ⟨b4, o4 + k * 2, none⟩) hb4w).trans d0
                      have d1 := (hal.cell (p := ⟨b4, o4 + k * 2 + 1, none⟩) hb4w).trans d1
                      have HPRE := Lib.hid HQ.out.1
                      have HNP := Lib.hid (show (pr, ks) ≠ (qr, qs) → fa ≠ fb from fun hne => HNE.out fun e4 => hne (by
                        have h3 : xp = yp := congrArg Prod.snd e4
                        subst h3
                        exact Option.some.inj (HP.out.symm.trans HQK.out)))
                      clear hcp hcq hp hq hp2 hq2 hal HQ hb3 hb4
                      go_upto_region 12 with fail
                      generalize wr.alloc (.cells #[.int .i64 pr, .slice KA kn kc] 91) = W9 at *
                      generalize wr.heap.size = bp1 at *
                      clear c0 c1 hb4w
                      by_cases hpq : pr = qr
                      · subst hpq
                        have e0 : (pr != pr) = false := by simp
                        obtain ⟨bq, hbq⟩ : ∃ bq, bq = decide (ks = qs) := ⟨_, rfl⟩
                        have HBQ := Lib.hid hbq
                        have JE := Lib.hid (show ∀ w', Below W9.heap.size W9 w' → Calls Tryz.prog 36 #[.slice KA kn kc, .slice QA qn qc] w' (fun e w'' => e = .returned (.bool bq) ∧ Below w'.heap.size w' w'') from fun w' hb => (equal_m KA QA kn kc qn qc ks qs w' (HKX.out.via hb) (HKY.out.via hb) hkl).mono fun e w'' h => by rw [HBQ.out]; exact h.below)
                        clear hbq
                        have SOF := Lib.hid (show ∀ w', Below W9.heap.size W9 w' → ((∀ x, w'.cell? ⟨bp1, x, none⟩ = #[.int .i64 pr, .slice KA kn kc][x]?) ∧ (∀ x, w'.cell? ⟨by1, x, none⟩ = #[.bool xb, .int .i64 xn, .int .i64 xi, .int .i64 xj, .slice (some ⟨b4, o4, none⟩) xm yc][x]?) ∧ w'.cell? ⟨b4, o4 + k * 2, none⟩ = some (.int .i64 pr) ∧ w'.cell? ⟨b4, o4 + k * 2 + 1, none⟩ = some (.slice QA qn qc) ∧ Below W9.heap.size W9 w') from fun w' hb => ⟨(BP.via hb).cell, (BY.via hb).cell, (hb.cell (World.block_lt_of_cell? _ _ d0)).trans d0, (hb.cell (World.block_lt_of_cell? _ _ d1)).trans d1, hb⟩)
                        have hb0 := (Below.refl W9.heap.size W9).drew
                        clear BP BY d0 d1
                        go_region_held3 (fun w' => (∀ x, w'.cell? ⟨bp1, x, none⟩ = #[.int .i64 pr, .slice KA kn kc][x]?) ∧ (∀ x, w'.cell? ⟨by1, x, none⟩ = #[.bool xb, .int .i64 xn, .int .i64 xi, .int .i64 xj, .slice (some ⟨b4, o4, none⟩) xm yc][x]?) ∧ w'.cell? ⟨b4, o4 + k * 2, none⟩ = some (.int .i64 pr) ∧ w'.cell? ⟨b4, o4 + k * 2 + 1, none⟩ = some (.slice QA qn qc) ∧ Below W9.heap.size W9 w') (exact SOF.out _ (by assumption)) (first
                          | (go_at_call 36; (with_reducible refine (JE.out _ (by assumption)).mono ?_); rintro ee wk ⟨rfl, hbk⟩; have hbm : Below W9.heap.size W9 wk := Below.via (by assumption) hbk))
                        have HB10 := Lib.hid (HB9.out.via hbm)
                        clear hb0 hbm hbk SOF JE
                        cases bq with
                        | true =>
                          go_wp2_with fail
                          have e6 : ks = qs := by simpa using HBQ.out.symm
                          exact ⟨⟨k + 1, by go_num, by omega, Lib.hid ⟨HPRE.out.next HP.out (by rw [e6]; exact HQK.out), HB10.out⟩⟩, by simp [intOf]; omega⟩
                        | false =>
                          go_wp2_with fail
                          go_ret
                          exact ⟨false, rfl, ⟨fun h => (by cases h), fun e => absurd (show fa = fb by simpa using e) (HNP.out fun e4 => by
                            have h3 : ks = qs := congrArg Prod.snd e4
                            have h4 := HBQ.out
                            rw [h3] at h4
                            simp at h4)⟩, HBW.out.via (HW8.out.via HB10.out)⟩
                      · have e0 : (pr != qr) = true := by simpa using hpq
                        have cBP := BP.cell
                        have fBP := BP.frozen
                        have lBP := BP.lt
                        have cBY := BY.cell
                        have fBY := BY.frozen
                        have lBY := BY.lt
                        go_quiet (fail)
                        go_wp2_with fail
                        go_ret
                        exact ⟨false, rfl, ⟨fun h => (by cases h), fun e => absurd (show fa = fb by simpa using e) (HNP.out fun e4 => hpq (congrArg Prod.fst e4))⟩, HBW.out.via (HW8.out.via (HB9.out.via (below_drewN (Below.refl _ _) nq)))⟩
                    · obtain rfl : xm = k := by omega
                      go_wp2_with fail
                      have e5 := HQ.out.1.full HXL.out.1 HXL.out.2
                      exact ⟨⟨i + 1, by go_num, by omega, Lib.hid ⟨HNX.out.next HX.out (by rw [e5]; exact HY.out), HW8.out.via HQ.out.2⟩⟩, by simp [intOf]; omega⟩
                · have e0 : ((xm : Int) != (ym : Int)) = true := by simp; omega
                  have e2 : (xi != xi) = false := by simp
                  have e3 : (xj != xj) = false := by simp
                  have cBX := BX.cell
                  have fBX := BX.frozen
                  have lBX := BX.lt
                  have cBY := BY.cell
                  have fBY := BY.frozen
                  have lBY := BY.lt
                  go_wp2_with fail
                  go_ret
                  refine ⟨false, rfl, ⟨fun h => (by cases h), fun e => absurd (show fa = fb by simpa using e) (HNE.out fun e4 => ?_)⟩, HBW.out.via HW8.out⟩
                  have h1 := HXL.out.1
                  have h2 := HXL.out.2
                  have h3 : xp = yp := congrArg Prod.snd e4
                  rw [h3] at h1
                  omega
              · have e3 : (xj != yj) = true := by simpa using ht
                have e2 : (xi != xi) = false := by simp
                have cBX := BX.cell
                have fBX := BX.frozen
                have lBX := BX.lt
                have cBY := BY.cell
                have fBY := BY.frozen
                have lBY := BY.lt
                go_wp2_with fail
                go_ret
                exact ⟨false, rfl, ⟨fun h => (by cases h), fun e => absurd (show fa = fb by simpa using e) (HNE.out fun e4 => ht (congrArg (fun x : NdI => x.1.2.2.2) e4))⟩, HBW.out.via HW8.out⟩
            · have e2 : (xi != yi) = true := by simpa using hf
              have cBX := BX.cell
              have fBX := BX.frozen
              have lBX := BX.lt
              have cBY := BY.cell
              have fBY := BY.frozen
              have lBY := BY.lt
              go_wp2_with fail
              go_ret
              exact ⟨false, rfl, ⟨fun h => (by cases h), fun e => absurd (show fa = fb by simpa using e) (HNE.out fun e4 => hf (congrArg (fun x : NdI => x.1.2.2.1) e4))⟩, HBW.out.via HW8.out⟩
          · have e1 := fun wx => sym_neq xb yb xn yn wx
            simp only [hs, decide_false, Bool.not_false] at e1
            have cBX := BX.cell
            have fBX := BX.frozen
            have lBX := BX.lt
            have cBY := BY.cell
            have fBY := BY.frozen
            have lBY := BY.lt
            go_wp2_with fail
            go_ret
            exact ⟨false, rfl, ⟨fun h => (by cases h), fun e => absurd (show fa = fb by simpa using e) (HNE.out fun e4 => hs (congrArg (fun x : NdI => (x.1.1, x.1.2.1)) e4))⟩, HBW.out.via HW8.out⟩
        · obtain rfl : na = i := by omega
          go_wp2_with fail
          go_ret
          exact ⟨true, rfl, ⟨fun _ => by simpa using HQ.out.1.full HLN.out.1 HLN.out.2, fun _ => rfl⟩, HBW.out.via HQ.out.2⟩
    · have e1 : ((na : Int) != (nb : Int)) = true := by simp; omega
      have cB0 := B0.cell
      have fB0 := B0.frozen
      have lB0 := B0.lt
      have cB1 := B1.cell
      have fB1 := B1.frozen
      have lB1 := B1.lt
      go_wp2_with fail
      go_ret
      refine ⟨false, rfl, ⟨fun h => (by cases h), fun e => ?_⟩, HBW.out⟩
      have h1 := HLN.out.1
      have h2 := HLN.out.2
      have e2 : fa = fb := by simpa using e
      rw [e2] at h1
      omega
  · have e0 : (ra != rb) = true := by simpa using hr
    have cB0 := B0.cell
    have fB0 := B0.frozen
    have lB0 := B0.lt
    have cB1 := B1.cell
    have fB1 := B1.frozen
    have lB1 := B1.lt
    go_wp2_with fail
    go_ret
    exact ⟨false, rfl, ⟨fun h => (by cases h), fun e => absurd e.1 hr⟩, HBW.out⟩
end Go.Proofs.YtbfcnfgkccgbiaaGreatDoor





namespace Go.Proofs.YtbfcnfgkccgbiaaGreatDoor
open Go.RowKit

theorem Sl.upS {ok : Nat → Prop} {w : World} {A : Option Addr} {n c : Nat} {l : List Sy} (h : Sl SyE ok w A n c l) : Sl SiE ok w A n c (l.map embS) := by
  obtain ⟨h1, h2, raw, h3, h4, h5⟩ := h
  have e : raw = l := List.ext_getElem (by omega) fun i a b => h5 i _ _ (List.getElem?_eq_getElem a) (List.getElem?_eq_getElem b)
  have ef : ∀ l : List Sy, flat SiE (l.map embS) = flat SyE l := fun l => by
    induction l with
    | nil => rfl
    | cons x l ih => simp only [flat, List.map_cons, List.flatMap_cons] at ih ⊢; rw [ih]; rfl
  refine ⟨by rw [List.length_map]; exact h1, h2, l.map embS, by rw [List.length_map]; exact h1, ?_, fun i r x hr hx => by rw [hr] at hx; exact Option.some.inj hx⟩
  rw [e, ← ef] at h4; exact h4
theorem Sl.upR {ok : Nat → Prop} {w : World} {A : Option Addr} {n c : Nat} {l : List Ru} (h : Sl RuE ok w A n c l) : Sl RiE ok w A n c (l.map embR) := by
  obtain ⟨h1, h2, raw, h3, h4, h5⟩ := h
  have ef : ∀ raw : List (Nat × SlV), flat RiE (raw.map fun r => ((r.1 : Int), r.2)) = flat RuE raw := fun raw => by
    induction raw with
    | nil => rfl
    | cons x l ih => simp only [flat, List.map_cons, List.flatMap_cons] at ih ⊢; rw [ih]; rfl
  refine ⟨by rw [List.length_map]; exact h1, h2, raw.map fun r => ((r.1 : Int), r.2), by rw [List.length_map]; exact h3, by rw [ef]; exact h4, fun i r x hr hx => ?_⟩
  rw [List.getElem?_map] at hr hx
  obtain ⟨r0, hr0, rfl⟩ := Option.map_eq_some_iff.1 hr
  obtain ⟨x0, hx0, rfl⟩ := Option.map_eq_some_iff.1 hx
  obtain ⟨k1, k2⟩ := h5 i r0 x0 hr0 hx0
  exact ⟨by simp only [embR]; rw [k1], Sl.upS k2⟩
theorem Ints.slLt {w : World} {A : Option Addr} {n c : Nat} {xs : List Int} (h : Ints w A n c xs) : Sl InE (fun b => b < w.heap.size) w A n c xs := by
  rcases Nat.eq_zero_or_pos n with h0 | h0
  · have hx : xs = [] := List.eq_nil_of_length_eq_zero (by rw [h.1, h0])
    subst hx
    exact ⟨h.1, h.2.1, [], h.1, fun hne => absurd rfl hne, fun i r x hr => by simp at hr⟩
  · obtain ⟨b, off, e, hc⟩ := h.2.2 h0
    refine h.slE.mono fun b' _ hb => ?_
    obtain ⟨o, ho⟩ := hb
    rw [e] at ho
    have e1 : b = b' := by injection ho with ho; injection ho
    rw [← e1]
    exact World.block_lt_of_cell? _ _ (hc 0 h0)
def PickP (ok : Nat → Prop) (w : World) (e : Ending) (w' : World) : Prop :=
  ∃ (T N S : Int) (A : Option Addr) (n c : Nat) (rs : List Ri) (wA : Option Addr) (wn wc : Nat) (xs : List Int), e = .returned (.tuple #[.agg #[.int .i64 T, .int .i64 N, .int .i64 S, .slice A n c], .slice wA wn wc]) ∧
    Sl RiE (fun b => ok b ∨ w.heap.size ≤ b) w' A n c rs ∧ Sl InE (fun b => ok b ∨ w.heap.size ≤ b) w' wA wn wc xs ∧ Below w.heap.size w w'
/-- .. and where there are numbers, the grammar is a valid one and the word is of its terminals -/
def PickP2 (ok : Nat → Prop) (ln most : Nat) (w : World) (e : Ending) (w' : World) : Prop :=
  ∃ (T N S : Int) (A : Option Addr) (n c : Nat) (rs : List Ri) (wA : Option Addr) (wn wc : Nat) (xs : List Int), e = .returned (.tuple #[.agg #[.int .i64 T, .int .i64 N, .int .i64 S, .slice A n c], .slice wA wn wc]) ∧
    Sl RiE (fun b => ok b ∨ w.heap.size ≤ b) w' A n c rs ∧ Sl InE (fun b => ok b ∨ w.heap.size ≤ b) w' wA wn wc xs ∧ Below w.heap.size w w' ∧
    (ln ≠ 0 → ∃ g : Gr, GrOk g ∧ T = (g.terms : Int) ∧ N = (g.nons : Int) ∧ S = (g.start : Int) ∧ rs = g.rules.map embR ∧ (∀ x ∈ xs, 0 ≤ x ∧ x < T) ∧ xs.length ≤ most)
theorem MadeG.grOk9 {g : Gr} (h : MadeG g) : GrOk g :=
  ⟨⟨⟨h.terms.1, by have := h.terms.2; omega⟩, ⟨h.nons.1, by have := h.nons.2; omega⟩, h.start, by have := h.count; omega, fun r hr => (h.ok r hr).1, fun r hr => ⟨by have := (h.ok r hr).2.1; omega, fun s hs => (h.ok r hr).2.2 s hs⟩⟩, h.nodup⟩
set_option maxRecDepth 100000 in
set_option maxHeartbeats 4000000 in
theorem pick2_c (ok : Nat → Prop) (T N S : Int) (A : Option Addr) (n c : Nat) (rs : List Ri) (wA : Option Addr) (wn wcp : Nat) (xs : List Int) (lA : Option Addr) (ln lc : Nat) (ls : List Int) (most : Nat) (w : World) (hl : Sl RiE ok w A n c rs) (hx : Sl InE ok w wA wn wcp xs) (hls : Ints w lA ln lc ls) (hm : most ≤ 1000000) :
    Calls Tryz.prog 5 #[.agg #[.int .i64 T, .int .i64 N, .int .i64 S, .slice A n c], .slice wA wn wcp, .slice lA ln lc, .int .i64 (most : Int)] w (PickP2 ok ln most w) := by
  have hal := ((Below.refl w.heap.size w).al (.cells #[.int .i64 T, .int .i64 N, .int .i64 S, .slice A n c] 24)).al (.cells #[.int .i64 0, .int .i64 0, .int .i64 0, .slice none 0 0] 24)
  have BG := (Blk.new w 24 #[.int .i64 T, .int .i64 N, .int .i64 S, .slice A n c]).al (.cells #[.int .i64 0, .int .i64 0, .int .i64 0, .slice none 0 0] 24)
  have BR := Blk.newAt (w.alloc (.cells #[.int .i64 T, .int .i64 N, .int .i64 S, .slice A n c] 24)) 24 #[.int .i64 0, .int .i64 0, .int .i64 0, .slice none 0 0] (w.heap.size + 1) (by simp)
  have HL := Lib.hid ((hl.mono (ok' := fun b => (ok b ∨ w.heap.size ≤ b) ∧ b ≠ w.heap.size + 1 ∧ b ≠ w.heap.size) (fun b hb h => ⟨Or.inl h, by omega, by omega⟩)).via hal)
  have HX := Lib.hid ((hx.mono (ok' := fun b => (ok b ∨ w.heap.size ≤ b) ∧ b ≠ w.heap.size + 1 ∧ b ≠ w.heap.size) (fun b hb h => ⟨Or.inl h, by omega, by omega⟩)).via hal)
  have HLS := Lib.hid (hls.via hal)
  have HAL := Lib.hid hal
  have HSZ := Lib.hid (show ((w.alloc (.cells #[.int .i64 T, .int .i64 N, .int .i64 S, .slice A n c] 24)).alloc (.cells #[.int .i64 0, .int .i64 0, .int .i64 0, .slice none 0 0] 24)).heap.size = w.heap.size + 2 by simp)
  clear hl hx hal
  clear hls
  go_enter Tryz.func5, Tryz.ntmps5
  go_upto_region 1 with fail
  generalize (w.alloc (.cells #[.int .i64 T, .int .i64 N, .int .i64 S, .slice A n c] 24)).alloc (.cells #[.int .i64 0, .int .i64 0, .int .i64 0, .slice none 0 0] 24) = W2 at *
  have HBG := Lib.hid BG
  have HBR := Lib.hid BR
  by_cases hn : ln = 0
  · have e1 : ((ln : Int) == 0) = true := by simp [hn]
    have cBG := BG.cell
    have fBG := BG.frozen
    have lBG := BG.lt
    have cBR := BR.cell
    have fBR := BR.frozen
    have lBR := BR.lt
    go_wp2_with fail
    refine bodyPost_ret (v := .tuple #[.agg #[.int .i64 T, .int .i64 N, .int .i64 S, .slice A n c], .slice wA wn wcp]) (by simp [results, Tryz.results5, go_sem, cBR]) rfl ⟨T, N, S, A, n, c, rs, wA, wn, wcp, xs, rfl, ?_, ?_, ?_, fun h => absurd hn h⟩
    · exact (HL.out.agr ((((Agr.setCell (p := ⟨w.heap.size + 1, 0, none⟩) _ fun b hb => hb.2.1).trans (Agr.setCell (p := ⟨w.heap.size + 1, 1, none⟩) _ fun b hb => hb.2.1)).trans (Agr.setCell (p := ⟨w.heap.size + 1, 2, none⟩) _ fun b hb => hb.2.1)).trans (Agr.setCell (p := ⟨w.heap.size + 1, 3, none⟩) _ fun b hb => hb.2.1))).mono fun _ _ h => h.1
    · exact (HX.out.agr ((((Agr.setCell (p := ⟨w.heap.size + 1, 0, none⟩) _ fun b hb => hb.2.1).trans (Agr.setCell (p := ⟨w.heap.size + 1, 1, none⟩) _ fun b hb => hb.2.1)).trans (Agr.setCell (p := ⟨w.heap.size + 1, 2, none⟩) _ fun b hb => hb.2.1)).trans (Agr.setCell (p := ⟨w.heap.size + 1, 3, none⟩) _ fun b hb => hb.2.1))).mono fun _ _ h => h.1
    · exact (((HAL.out.setCell (by simp) _).setCell (by simp) _).setCell (by simp) _).setCell (by simp) _
  · have e1 : ((ln : Int) == 0) = false := by simp [hn]
    have cBG := BG.cell
    have fBG := BG.frozen
    have lBG := BG.lt
    go_wp2_with fail
    clear cBG fBG lBG
    refine (grammar_c lA ln lc ls W2 HLS.out).mono ?_
    rintro e w3 ⟨g, gA, gn, gc, rfl, hmg, hgl, hb3⟩
    have HG3 := Lib.hid (HBG.out.via hb3)
    have HR3 := Lib.hid (HBR.out.via hb3)
    have HA3 := Lib.hid (HAL.out.trans (hb3.mono HAL.out.size))
    have HX3 := Lib.hid (HX.out.via hb3)
    have HGL := Lib.hid (hgl.mono (ok' := fun b => (ok b ∨ w.heap.size ≤ b) ∧ b ≠ w.heap.size + 1 ∧ b ≠ w.heap.size) fun b _ hb => by have h : W2.heap.size ≤ b := hb; have := HSZ.out; exact ⟨Or.inr (by omega), by omega, by omega⟩)
    have HMG := Lib.hid hmg
    have BG3 := HG3.out
    clear hgl hb3 HL HX HLS HAL HBG HBR BG BR hmg
    simp only [grVal]
    have cBG3 := BG3.cell
    have fBG3 := BG3.frozen
    have lBG3 := BG3.lt
    go_upto_region 4 with fail
    clear cBG3 fBG3 lBG3
    have HG4 := Lib.hid (show Blk ((((w3.setCell ⟨w.heap.size, 0, none⟩ (.int .i64 (g.terms : Int))).setCell ⟨w.heap.size, 1, none⟩ (.int .i64 (g.nons : Int))).setCell ⟨w.heap.size, 2, none⟩ (.int .i64 (g.start : Int))).setCell ⟨w.heap.size, 3, none⟩ (.slice gA gn gc)) w.heap.size 24 #[.int .i64 (g.terms : Int), .int .i64 (g.nons : Int), .int .i64 (g.start : Int), .slice gA gn gc] from by
      have := (((BG3.set_ 0 (.int .i64 (g.terms : Int))).set_ 1 (.int .i64 (g.nons : Int))).set_ 2 (.int .i64 (g.start : Int))).set_ 3 (.slice gA gn gc); simpa using this)
    have hag : Agr (fun b => (ok b ∨ w.heap.size ≤ b) ∧ b ≠ w.heap.size + 1 ∧ b ≠ w.heap.size) w3 ((((w3.setCell ⟨w.heap.size, 0, none⟩ (.int .i64 (g.terms : Int))).setCell ⟨w.heap.size, 1, none⟩ (.int .i64 (g.nons : Int))).setCell ⟨w.heap.size, 2, none⟩ (.int .i64 (g.start : Int))).setCell ⟨w.heap.size, 3, none⟩ (.slice gA gn gc)) := ((((Agr.setCell (p := ⟨w.heap.size, 0, none⟩) _ fun b hb => hb.2.2).trans (Agr.setCell (p := ⟨w.heap.size, 1, none⟩) _ fun b hb => hb.2.2)).trans (Agr.setCell (p := ⟨w.heap.size, 2, none⟩) _ fun b hb => hb.2.2)).trans (Agr.setCell (p := ⟨w.heap.size, 3, none⟩) _ fun b hb => hb.2.2))
    have HR4 := Lib.hid ((((HR3.out.far (p := ⟨w.heap.size, 0, none⟩) (by simp) (.int .i64 (g.terms : Int))).far (p := ⟨w.heap.size, 1, none⟩) (by simp) (.int .i64 (g.nons : Int))).far (p := ⟨w.heap.size, 2, none⟩) (by simp) (.int .i64 (g.start : Int))).far (p := ⟨w.heap.size, 3, none⟩) (by simp) (.slice gA gn gc))
    have HA4 := Lib.hid ((((HA3.out.setCell (p := ⟨w.heap.size, 0, none⟩) (by simp) (.int .i64 (g.terms : Int))).setCell (p := ⟨w.heap.size, 1, none⟩) (by simp) (.int .i64 (g.nons : Int))).setCell (p := ⟨w.heap.size, 2, none⟩) (by simp) (.int .i64 (g.start : Int))).setCell (p := ⟨w.heap.size, 3, none⟩) (by simp) (.slice gA gn gc))
    have HX4 := Lib.hid (HX3.out.agr hag)
    have HL4 := Lib.hid ((Sl.upR HGL.out).agr hag)
    clear hag BG3 HG3 HR3 HA3 HX3 HGL
    generalize (((w3.setCell ⟨w.heap.size, 0, none⟩ (.int .i64 (g.terms : Int))).setCell ⟨w.heap.size, 1, none⟩ (.int .i64 (g.nons : Int))).setCell ⟨w.heap.size, 2, none⟩ (.int .i64 (g.start : Int))).setCell ⟨w.heap.size, 3, none⟩ (.slice gA gn gc) = w4 at *
    have BG4 := HG4.out
    have BR4 := HR4.out
    have SO := Lib.hid (show ∀ w', Agr (fun b => b ≠ w.heap.size + 1) w4 w' → ((∀ i, w'.cell? ⟨w.heap.size, i, none⟩ = #[.int .i64 (g.terms : Int), .int .i64 (g.nons : Int), .int .i64 (g.start : Int), .slice gA gn gc][i]?) ∧ Agr (fun b => b ≠ w.heap.size + 1) w4 w') from fun w' hb => ⟨(show Blk w' w.heap.size 24 _ from (hb _ (by omega) HG4.out.lt).trans HG4.out).cell, hb⟩)
    have HN := Lib.hid (show ∀ w', Agr (fun b => b ≠ w.heap.size + 1) w4 w' → Calls Tryz.prog 23 #[.int .i64 (g.terms : Int), .int .i64 (most : Int), .slice wA wn wcp] w' (WordPost w' (g.terms : Int) most xs) from fun w' hb => word_c _ most wA wn wcp xs w' (HX4.out.agr (hb.mono fun b hb => hb.2.1)).intsIn (by have := HMG.out.terms.1; omega) (by have := HMG.out.terms.2; omega) hm)
    have hb0 : Agr (fun b => b ≠ w.heap.size + 1) w4 w4.drew := Agr.below ((Below.refl w4.heap.size w4).drew)
    have BD4 := BR4.dr
    have hst : ∀ w', Agr (fun b => b ≠ w.heap.size + 1) w4 w' → Agr (fun b => b ≠ w.heap.size + 1) w4 ((((w'.setCell ⟨w.heap.size + 1, 0, none⟩ (.int .i64 (g.terms : Int))).setCell ⟨w.heap.size + 1, 1, none⟩ (.int .i64 (g.nons : Int))).setCell ⟨w.heap.size + 1, 2, none⟩ (.int .i64 (g.start : Int))).setCell ⟨w.heap.size + 1, 3, none⟩ (.slice gA gn gc)) := fun w' h => (((h.trans (Agr.setCell (p := ⟨w.heap.size + 1, 0, none⟩) _ fun b hb => hb)).trans (Agr.setCell (p := ⟨w.heap.size + 1, 1, none⟩) _ fun b hb => hb)).trans (Agr.setCell (p := ⟨w.heap.size + 1, 2, none⟩) _ fun b hb => hb)).trans (Agr.setCell (p := ⟨w.heap.size + 1, 3, none⟩) _ fun b hb => hb)
    have HST := Lib.hid hst
    have HBD := Lib.hid BD4
    clear hst BR4 BG4
    have cBD4 := BD4.cell
    have fBD4 := BD4.frozen
    have lBD4 := BD4.lt
    go_region_held3 (fun w' => (∀ i, w'.cell? ⟨w.heap.size, i, none⟩ = #[.int .i64 (g.terms : Int), .int .i64 (g.nons : Int), .int .i64 (g.start : Int), .slice gA gn gc][i]?) ∧ Agr (fun b => b ≠ w.heap.size + 1) w4 w') (exact SO.out _ (by first | assumption | exact HST.out _ hb0 | exact HST.out _ hbm)) (first
      | (go_at_call 23; (with_reducible refine (HN.out w4.drew hb0).mono ?_); rintro ee wn ⟨vW, kW, rfl, how, hbn⟩; have hbm : Agr (fun b => b ≠ w.heap.size + 1) w4 wn := Agr.trans hb0 (Agr.below hbn); have BDn := HBD.out.via hbn; have cBDn := BDn.cell; have fBDn := BDn.frozen; have lBDn := BDn.lt)
      | (go_at_call 23; (with_reducible refine (HN.out _ (HST.out _ hb0)).mono ?_); rintro ee wn ⟨vW, kW, rfl, how, hbn⟩; have hbm : Agr (fun b => b ≠ w.heap.size + 1) w4 wn := Agr.trans (HST.out _ hb0) (Agr.below hbn)))
    obtain ⟨vA, vc, rfl, -⟩ := how.form
    have HA9 := Lib.hid (HA4.out.trans (((Below.refl w4.heap.size w4).drew.via hbn).mono HA4.out.size))
    have how2 := (((how.setCell (p := ⟨w.heap.size + 1, 0, none⟩) lBD4 (.int .i64 (g.terms : Int))).setCell (p := ⟨w.heap.size + 1, 1, none⟩) lBD4 (.int .i64 (g.nons : Int))).setCell (p := ⟨w.heap.size + 1, 2, none⟩) lBD4 (.int .i64 (g.start : Int))).setCell (p := ⟨w.heap.size + 1, 3, none⟩) lBD4 (.slice gA gn gc)
    have HW9 := Lib.hid (how2.toInts.slE.mono (ok' := fun b => ok b ∨ w.heap.size ≤ b) fun b _ hb => by
      obtain ⟨o, ho⟩ := hb
      have h1 := (how2.block _ ho).1
      have h2 := HA4.out.size
      simp at h1
      exact Or.inr (by omega))
    have hagN := HST.out wn hbm
    have HL9 := Lib.hid (HL4.out.agr (hagN.mono fun b hb => hb.2.1))
    clear how how2 hbn hbm hagN fBD4 lBD4 cBD4 BD4 HBD HST SO HN
    go_wp2_with fail
    refine bodyPost_ret (v := .tuple #[.agg #[.int .i64 (g.terms : Int), .int .i64 (g.nons : Int), .int .i64 (g.start : Int), .slice gA gn gc], .slice vA kW vc]) (by simp [results, Tryz.results5, go_sem, cBDn]) rfl ⟨_, _, _, gA, gn, gc, g.rules.map embR, vA, kW, vc, wordI (g.terms : Int) most xs, rfl, HL9.out.mono fun _ _ h => h.1, HW9.out, ?_, fun _ => ⟨g, HMG.out.grOk9, rfl, rfl, rfl, rfl, wordI_mem _ _ _ (by have := HMG.out.terms.1; omega), wordI_len _ _ _⟩⟩
    exact (((HA9.out.setCell (by simp) _).setCell (by simp) _).setCell (by simp) _).setCell (by simp) _
theorem pick_c (ok : Nat → Prop) (T N S : Int) (A : Option Addr) (n c : Nat) (rs : List Ri) (wA : Option Addr) (wn wcp : Nat) (xs : List Int) (lA : Option Addr) (ln lc : Nat) (ls : List Int) (most : Nat) (w : World) (hl : Sl RiE ok w A n c rs) (hx : Sl InE ok w wA wn wcp xs) (hls : Ints w lA ln lc ls) (hm : most ≤ 1000000) :
    Calls Tryz.prog 5 #[.agg #[.int .i64 T, .int .i64 N, .int .i64 S, .slice A n c], .slice wA wn wcp, .slice lA ln lc, .int .i64 (most : Int)] w (PickP ok w) :=
  (pick2_c ok T N S A n c rs wA wn wcp xs lA ln lc ls most w hl hx hls hm).mono fun _ _ ⟨T, N, S, A, n, c, rs, wA, wn, wc, xs, h1, h2, h3, h4, _⟩ => ⟨T, N, S, A, n, c, rs, wA, wn, wc, xs, h1, h2, h3, h4⟩
end Go.Proofs.YtbfcnfgkccgbiaaGreatDoor






namespace Go.Proofs.YtbfcnfgkccgbiaaGreatDoor
open Go.RowKit

theorem chkB_ok {T N S : Int} {rs : List Ri} {xs : List Int} (h : chkB T N S rs xs = 0) : chkG T N S rs = 0 ∧ xs.length ≤ 12 ∧ ∀ x ∈ xs, 0 ≤ x ∧ x < T := by
  unfold chkB at h
  by_cases hG : chkG T N S rs = 0
  · rw [if_pos hG] at h
    unfold chkW at h
    split at h
    · cases h
    · rename_i hl
      split at h
      · cases h
      · rename_i ha
        refine ⟨hG, by omega, fun x hx => ?_⟩
        have h1 : (xs.any fun t => !okT T t) = false := by simpa using ha
        rw [List.any_eq_false] at h1
        have h2 := h1 x hx
        simp [okT] at h2
        exact h2
  · rw [if_neg hG] at h
    exact absurd h hG
theorem dv_le {R : List Ru} {xs : List Int} {k : Ky} (h : dvD R xs k = true) : k.2.1 ≤ k.2.2 ∧ k.2.2 ≤ xs.length := ⟨(dvD_iff.1 h).1, (dvD_iff.1 h).2.1⟩
theorem fo_bound {g : Gr} {D : Ky → Bool} {n most : Nat} {f : FoI} {b : Bool} (hg : g.Ok) (hn : n ≤ 12) (hD : ∀ k, D k = true → k.2.1 ≤ k.2.2 ∧ k.2.2 ≤ n) (h : IsFo D g.rules ((false, g.start), 0, n) most f b) : FoB f.2 := by
  cases h with
  | none => exact ⟨by simp, by simp⟩
  | large => exact ⟨by simp, by simp⟩
  | @fits L h1 h2 h3 =>
    have hk : ∀ k ∈ L, KyOk g n k := fun k hk => RchK.ok hg hD ⟨by simpa [Gr.okSy] using hg.start, Nat.zero_le _, Nat.le_refl _⟩ ((h2.mem k).1 hk)
    have hl := nodup_len h2.nodup hk hg hn
    refine ⟨by simp [foI]; omega, fun x hx => ?_⟩
    obtain ⟨k, hkL, rfl⟩ := List.mem_map.1 hx
    have hp := packs_len (D := D) (k := k) (fun u hu => (hg.right u hu).1) hg.count (Nat.le_trans (hk k hkL).2.2 hn)
    rw [ndI_eq]
    refine ⟨by simp only [List.length_map]; omega, fun p hp => ?_⟩
    obtain ⟨q, hq, rfl⟩ := List.mem_map.1 hp
    obtain ⟨-, u, hu, -, hw⟩ := packs_mem hq
    have e1 := hw.len
    have e2 := (hg.right u (List.mem_of_getElem? hu)).1
    simp [rowI, intsN]; omega
end Go.Proofs.YtbfcnfgkccgbiaaGreatDoor

