/- Texts SK, laid together. -/
import Derived.Test.YtbfcnfgkccgbiaaGreatDoorBM
import Derived.Test.YtbfcnfgkccgbiaaGreatDoorEK
import Derived.Laws.StructEq




namespace Go.Proofs.YtbfcnfgkccgbiaaGreatDoor
open Go.RowKit

/-- the first k agree -/
def PreE {α : Type} (xs ys : List α) (k : Nat) : Prop := ∀ j, j < k → xs[j]? = ys[j]?
theorem PreE.zero {α : Type} (xs ys : List α) : PreE xs ys 0 := fun j hj => by omega
theorem PreE.full {α : Type} {xs ys : List α} {n : Nat} (h : PreE xs ys n) (hx : xs.length = n) (hy : ys.length = n) : xs = ys := by
  apply List.ext_getElem? 
  intro i
  rcases Nat.lt_or_ge i n with hi | hi
  · exact h i hi
  · rw [List.getElem?_eq_none (by omega), List.getElem?_eq_none (by omega)]
theorem PreE.next {α : Type} {xs ys : List α} {k : Nat} {x : α} (h : PreE xs ys k) (h1 : xs[k]? = some x) (h2 : ys[k]? = some x) : PreE xs ys (k + 1) := fun j hj => by
  rcases Nat.lt_or_ge j k with hj' | hj'
  · exact h j hj'
  · obtain rfl : j = k := by omega
    rw [h1, h2]
/-- no row is longer than memory allows -/
def FoB (f : List NdI) : Prop := f.length ≤ 17592186044416 ∧ ∀ x ∈ f, x.2.length ≤ 17592186044416 ∧ ∀ p ∈ x.2, p.2.length ≤ 17592186044416
def SmP (w : World) (P : Prop) (e : Ending) (w' : World) : Prop := ∃ b : Bool, e = .returned (.bool b) ∧ (b = true ↔ P) ∧ Below w.heap.size w w'
/-- slices.Equal where the second row's length is bounded -/
theorem equal_m (A B : Option Addr) (n c m d : Nat) (xs ys : List Int) (w : World) (h1 : Ints w A n c xs) (h2 : Ints w B m d ys) (hm : m ≤ 17592186044416) :
    Calls Tryz.prog 36 #[.slice A n c, .slice B m d] w (BoolP w (decide (xs = ys))) := by
  by_cases hnm : n = m
  · exact equal_c A B n c m d xs ys w h1 h2 (by omega)
  · have hne : xs ≠ ys := fun e => hnm (by rw [← h1.1, ← h2.1, e])
    have e0 : ((n : Int) != (m : Int)) = true := by simp; omega
    have HNE := Lib.hid hne
    clear h1 h2 hne hnm hm
    go_enter Tryz.func36, Tryz.ntmps36
    go_wp2_with fail
    go_ret
    exact ⟨by simp [HNE.out], 0, rfl⟩
theorem sym_neq (ab bb : Bool) (an bn : Int) (w : World) : (binOp .neq 66 (.agg #[.bool ab, .int .i64 an]) (.agg #[.bool bb, .int .i64 bn])).run Tryz.prog w = .ok (.bool (!decide ((ab, an) = (bb, bn)))) w := by
  simp [go_sem]
  by_cases h1 : ab = bb <;> by_cases h2 : an = bn <;> simp [h1, h2]
set_option maxRecDepth 100000 in
set_option maxHeartbeats 8000000 in
theorem same_c (okA okB : Nat → Prop) (Aa Ab : Option Addr) (na ca nb cb : Nat) (ra rb : Int) (fa fb : List NdI) (w : World) (ha : Sl NdE okA w Aa na ca fa) (hb : Sl NdE okB w Ab nb cb fb) (hB : FoB fb) :
    Calls Tryz.prog 10 #[.agg #[.slice Aa na ca, .int .i64 ra], .agg #[.slice Ab nb cb, .int .i64 rb]] w (SmP w (ra = rb ∧ fa = fb)) := by
  have hla := ha.len
  have hlb := hb.len
  have hn := hB.1
  rw [hlb] at hn
  have HA := Lib.hid ha
  have HB := Lib.hid hb
  have HFB := Lib.hid hB
  have HLN := Lib.hid (And.intro hla hlb)
  clear ha hb hB hla hlb
  have B0 := (Blk.new w 34 #[.slice Aa na ca, .int .i64 ra]).al (.cells #[.slice Ab nb cb, .int .i64 rb] 34)
  have B1 := Blk.newAt (w.alloc (.cells #[.slice Aa na ca, .int .i64 ra] 34)) 34 #[.slice Ab nb cb, .int .i64 rb] (w.heap.size + 1) (by simp)
  have HBW := Lib.hid (((Below.refl w.heap.size w).al (.cells #[.slice Aa na ca, .int .i64 ra] 34)).al (.cells #[.slice Ab nb cb, .int .i64 rb] 34))
  go_enter Tryz.func10, Tryz.ntmps10
  go_upto_region 1 with fail
  generalize (w.alloc (.cells #[.slice Aa na ca, .int .i64 ra] 34)).alloc (.cells #[.slice Ab nb cb, .int .i64 rb] 34) = W at *
  have HB0 := Lib.hid B0
  have HB1 := Lib.hid B1
  by_cases hr : ra = rb
  · subst hr
    have e0 : (ra != ra) = false := by simp
    by_cases hnm : na = nb
    · subst hnm
      have e1 : ((na : Int) != (na : Int)) = false := by simp
      have cB0 := B0.cell
      have fB0 := B0.frozen
      have lB0 := B0.lt
      have cB1 := B1.cell
      have fB1 := B1.frozen
      have lB1 := B1.lt
      go_wp2_with fail
      clear cB0 fB0 lB0 cB1 fB1 lB1
      clear B0 B1 e0 e1
      go_loopw [27] (fun q wr => ∃ i : Nat, q = .int .i64 (i : Int) ∧ i ≤ na ∧ Hid (PreE fa fb i ∧ Below W.heap.size W wr)) (fun q _ => na - (intOf q).toNat)
      case atStart => exact ⟨0, rfl, Nat.zero_le _, Lib.hid ⟨PreE.zero _ _, Below.refl _ _⟩⟩
      case round =>
        obtain ⟨i, rfl, hi, HQ⟩ := hrel
        by_cases hin : i < na
        · obtain ⟨b1, o1, ⟨⟨xb, xn, xi, xj⟩, xA, xm, xc⟩, ⟨⟨xb', xn', xi', xj'⟩, xp⟩, hAa, -, hb1, hx, ⟨hx1, hx2⟩, hcx⟩ := HA.out.at_ hin
          obtain ⟨b2, o2, ⟨⟨yb, yn, yi, yj⟩, yA, ym, yc⟩, ⟨⟨yb', yn', yi', yj'⟩, yp⟩, hAb, -, hb2, hy, ⟨hy1, hy2⟩, hcy⟩ := HB.out.at_ hin
          simp only at hx1 hx2 hy1 hy2
          obtain ⟨rfl, rfl, rfl, rfl⟩ : xb = xb' ∧ xn = xn' ∧ xi = xi' ∧ xj = xj' := by simpa using hx1
          obtain ⟨rfl, rfl, rfl, rfl⟩ : yb = yb' ∧ yn = yn' ∧ yi = yi' ∧ yj = yj' := by simpa using hy1
          subst hAa hAb
          have hbw := HBW.out.via HQ.out.2
          have BF0 := HB0.out.via HQ.out.2
          have BF1 := HB1.out.via HQ.out.2
          have c0 := (hbw.cell (p := ⟨b1, o1 + i * NdE.k + 0, none⟩) hb1).trans (hcx 0 _ rfl)
          have c1 := (hbw.cell (p := ⟨b1, o1 + i * NdE.k + 1, none⟩) hb1).trans (hcx 1 _ rfl)
          have c2 := (hbw.cell (p := ⟨b1, o1 + i * NdE.k + 2, none⟩) hb1).trans (hcx 2 _ rfl)
          have c3 := (hbw.cell (p := ⟨b1, o1 + i * NdE.k + 3, none⟩) hb1).trans (hcx 3 _ rfl)
          have c4 := (hbw.cell (p := ⟨b1, o1 + i * NdE.k + 4, none⟩) hb1).trans (hcx 4 _ rfl)
          have d0 := (hbw.cell (p := ⟨b2, o2 + i * NdE.k + 0, none⟩) hb2).trans (hcy 0 _ rfl)
          have d1 := (hbw.cell (p := ⟨b2, o2 + i * NdE.k + 1, none⟩) hb2).trans (hcy 1 _ rfl)
          have d2 := (hbw.cell (p := ⟨b2, o2 + i * NdE.k + 2, none⟩) hb2).trans (hcy 2 _ rfl)
          have d3 := (hbw.cell (p := ⟨b2, o2 + i * NdE.k + 3, none⟩) hb2).trans (hcy 3 _ rfl)
          have d4 := (hbw.cell (p := ⟨b2, o2 + i * NdE.k + 4, none⟩) hb2).trans (hcy 4 _ rfl)
          simp only [NdE, Nat.add_zero] at c0 c1 c2 c3 c4 d0 d1 d2 d3 d4
          have i0 : (0 : Int) ≤ (i : Int) := by omega
          have i1 : (i : Int) < (na : Int) := by omega
          have HX := Lib.hid hx
          have HY := Lib.hid hy
          have HX2 := Lib.hid (hx2.via hbw)
          have HY2 := Lib.hid (hy2.via hbw)
          have hxl := hx2.len
          have hyl := hy2.len
          have HFX := Lib.hid (HFB.out.2 _ (List.mem_of_getElem? hy))
          have hxm : ym ≤ 17592186044416 := by have := HFX.out.1; simp only at this; omega
          have HXL := Lib.hid (And.intro hxl hyl)
          have HNE := Lib.hid (show ((xb, xn, xi, xj), xp) ≠ ((yb, yn, yi, yj), yp) → fa ≠ fb from fun hne e2 => hne (by
            subst e2
            exact Option.some.inj (HX.out.symm.trans HY.out)))
          have HBWR := Lib.hid hbw
          have hb2w : b2 < wr.heap.size := Nat.lt_of_lt_of_le hb2 hbw.size
          clear hcx hcy hx hy hx2 hy2 hx1 hy1 hbw hb1 hb2 hxl hyl
          have cBF0 := BF0.cell
          have fBF0 := BF0.frozen
          have lBF0 := BF0.lt
          have cBF1 := BF1.cell
          have fBF1 := BF1.frozen
          have lBF1 := BF1.lt
          go_upto_region 7 with fail
          clear cBF0 fBF0 lBF0 cBF1 fBF1 lBF1
          clear BF0 BF1 c0 c1 c2 c3 c4 d0 d1 d2 d3 d4
          have HNX := Lib.hid (show PreE fa fb i from HQ.out.1)
          have BX := (Blk.new wr 89 #[.bool xb, .int .i64 xn, .int .i64 xi, .int .i64 xj, .slice xA xm xc]).al (.cells #[.bool yb, .int .i64 yn, .int .i64 yi, .int .i64 yj, .slice yA ym yc] 89)
          have BY := Blk.newAt (wr.alloc (.cells #[.bool xb, .int .i64 xn, .int .i64 xi, .int .i64 xj, .slice xA xm xc] 89)) 89 #[.bool yb, .int .i64 yn, .int .i64 yi, .int .i64 yj, .slice yA ym yc] (wr.heap.size + 1) (by simp)
          have hal := ((Below.refl wr.heap.size wr).al (.cells #[.bool xb, .int .i64 xn, .int .i64 xi, .int .i64 xj, .slice xA xm xc] 89)).al (.cells #[.bool yb, .int .i64 yn, .int .i64 yi, .int .i64 yj, .slice yA ym yc] 89)
          have HW8 := Lib.hid (HQ.out.2.via hal)
          have HX8 := Lib.hid (HX2.out.via hal)
          have HY8 := Lib.hid (HY2.out.via hal)
          clear hal HX2 HY2 HQ HBWR hb2w
          generalize (wr.alloc (.cells #[.bool xb, .int .i64 xn, .int .i64 xi, .int .i64 xj, .slice xA xm xc] 89)).alloc (.cells #[.bool yb, .int .i64 yn, .int .i64 yi, .int .i64 yj, .slice yA ym yc] 89) = W8 at *
          generalize wr.heap.size + 1 = by1 at *
          generalize wr.heap.size = bx1 at *
          have HBX := Lib.hid BX
          have HBY := Lib.hid BY
          by_cases hs : (xb, xn) = (yb, yn)
          · obtain ⟨rfl, rfl⟩ : xb = yb ∧ xn = yn := by simpa using hs
            clear hs
            by_cases hf : xi = yi
            · subst hf
              by_cases ht : xj = yj
              · subst ht
                by_cases hm : xm = ym
                · subst hm
                  have e0 : ((xm : Int) != (xm : Int)) = false := by simp
                  have e2 : (xi != xi) = false := by simp
                  have e3 : (xj != xj) = false := by simp
                  have cBX := BX.cell
                  have fBX := BX.frozen
                  have lBX := BX.lt
                  have cBY := BY.cell
                  have fBY := BY.frozen
                  have lBY := BY.lt
                  go_wp2_with fail
                  clear cBX fBX lBX cBY fBY lBY
                  clear BX BY e0 e2 e3
                  go_loopw [68] (fun q wr => ∃ k : Nat, q = .int .i64 (k : Int) ∧ k ≤ xm ∧ Hid (PreE xp yp k ∧ Below W8.heap.size W8 wr)) (fun q _ => xm - (intOf q).toNat)
                  case atStart => exact ⟨0, rfl, Nat.zero_le _, Lib.hid ⟨PreE.zero _ _, Below.refl _ _⟩⟩
                  case round =>
                    obtain ⟨k, rfl, hk, HQ⟩ := hrel
                    by_cases hkx : k < xm
                    · obtain ⟨b3, o3, ⟨pr, KA, kn, kc⟩, ⟨pr', ks⟩, hxA, -, hb3, hp, ⟨hp1, hp2⟩, hcp⟩ := HX8.out.at_ hkx
                      obtain ⟨b4, o4, ⟨qr, QA, qn, qc⟩, ⟨qr', qs⟩, hyA, -, hb4, hq, ⟨hq1, hq2⟩, hcq⟩ := HY8.out.at_ hkx
                      simp only at hp1 hp2 hq1 hq2
                      obtain rfl : pr = pr' := hp1
                      obtain rfl : qr = qr' := hq1
                      subst hxA hyA
                      have c0 := (HQ.out.2.cell (p := ⟨b3, o3 + k * FpE.k + 0, none⟩) hb3).trans (hcp 0 _ rfl)
                      have c1 := (HQ.out.2.cell (p := ⟨b3, o3 + k * FpE.k + 1, none⟩) hb3).trans (hcp 1 _ rfl)
                      have d0 := (HQ.out.2.cell (p := ⟨b4, o4 + k * FpE.k + 0, none⟩) hb4).trans (hcq 0 _ rfl)
                      have d1 := (HQ.out.2.cell (p := ⟨b4, o4 + k * FpE.k + 1, none⟩) hb4).trans (hcq 1 _ rfl)
                      simp only [FpE, Nat.add_zero] at c0 c1 d0 d1
                      have k0 : (0 : Int) ≤ (k : Int) := by omega
                      have k1 : (k : Int) < (xm : Int) := by omega
                      have HP := Lib.hid hp
                      have HQK := Lib.hid hq
                      have hal := (Below.refl wr.heap.size wr).al (.cells #[.int .i64 pr, .slice KA kn kc] 91)
                      have HKX := Lib.hid ((hp2.via HQ.out.2).via hal).intsIn
                      have HKY := Lib.hid ((hq2.via HQ.out.2).via hal).intsIn
                      have hkl : qn ≤ 17592186044416 := by
                        have h1 := HFX.out.2 _ (List.mem_of_getElem? hq)
                        have h2 := hq2.len
                        simp only at h1 h2; omega
                      have BP := Blk.new wr 91 #[.int .i64 pr, .slice KA kn kc]
                      have BY := (HBY.out.via HQ.out.2).via hal
                      have HB9 := Lib.hid (HQ.out.2.via hal)
                      have hb4w : b4 < wr.heap.size := Nat.lt_of_lt_of_le hb4 HQ.out.2.size
                      have d0 := (hal.cell (p := ⟨b4, o4 + k * 2, none⟩) hb4w).trans d0
                      have d1 := (hal.cell (p := ⟨b4, o4 + k * 2 + 1, none⟩) hb4w).trans d1
                      have HPRE := Lib.hid HQ.out.1
                      have HNP := Lib.hid (show (pr, ks) ≠ (qr, qs) → fa ≠ fb from fun hne => HNE.out fun e4 => hne (by
                        have h3 : xp = yp := congrArg Prod.snd e4
                        subst h3
                        exact Option.some.inj (HP.out.symm.trans HQK.out)))
                      clear hcp hcq hp hq hp2 hq2 hal HQ hb3 hb4
                      go_upto_region 12 with fail
                      generalize wr.alloc (.cells #[.int .i64 pr, .slice KA kn kc] 91) = W9 at *
                      generalize wr.heap.size = bp1 at *
                      clear c0 c1 hb4w
                      by_cases hpq : pr = qr
                      · subst hpq
                        have e0 : (pr != pr) = false := by simp
                        obtain ⟨bq, hbq⟩ : ∃ bq, bq = decide (ks = qs) := ⟨_, rfl⟩
                        have HBQ := Lib.hid hbq
                        have JE := Lib.hid (show ∀ w', Below W9.heap.size W9 w' → Calls Tryz.prog 36 #[.slice KA kn kc, .slice QA qn qc] w' (fun e w'' => e = .returned (.bool bq) ∧ Below w'.heap.size w' w'') from fun w' hb => (equal_m KA QA kn kc qn qc ks qs w' (HKX.out.via hb) (HKY.out.via hb) hkl).mono fun e w'' h => by rw [HBQ.out]; exact h.below)
                        clear hbq
                        have SOF := Lib.hid (show ∀ w', Below W9.heap.size W9 w' → ((∀ x, w'.cell? ⟨bp1, x, none⟩ = #[.int .i64 pr, .slice KA kn kc][x]?) ∧ (∀ x, w'.cell? ⟨by1, x, none⟩ = #[.bool xb, .int .i64 xn, .int .i64 xi, .int .i64 xj, .slice (some ⟨b4, o4, none⟩) xm yc][x]?) ∧ w'.cell? ⟨b4, o4 + k * 2, none⟩ = some (.int .i64 pr) ∧ w'.cell? ⟨b4, o4 + k * 2 + 1, none⟩ = some (.slice QA qn qc) ∧ Below W9.heap.size W9 w') from fun w' hb => ⟨(BP.via hb).cell, (BY.via hb).cell, (hb.cell (World.block_lt_of_cell? _ _ d0)).trans d0, (hb.cell (World.block_lt_of_cell? _ _ d1)).trans d1, hb⟩)
                        have hb0 := (Below.refl W9.heap.size W9).drew
                        clear BP BY d0 d1
                        go_region_held3 (fun w' => (∀ x, w'.cell? ⟨bp1, x, none⟩ = #[.int .i64 pr, .slice KA kn kc][x]?) ∧ (∀ x, w'.cell? ⟨by1, x, none⟩ = #[.bool xb, .int .i64 xn, .int .i64 xi, .int .i64 xj, .slice (some ⟨b4, o4, none⟩) xm yc][x]?) ∧ w'.cell? ⟨b4, o4 + k * 2, none⟩ = some (.int .i64 pr) ∧ w'.cell? ⟨b4, o4 + k * 2 + 1, none⟩ = some (.slice QA qn qc) ∧ Below W9.heap.size W9 w') (exact SOF.out _ (by assumption)) (first
                          | (go_at_call 36; (with_reducible refine (JE.out _ (by assumption)).mono ?_); rintro ee wk ⟨rfl, hbk⟩; have hbm : Below W9.heap.size W9 wk := Below.via (by assumption) hbk))
                        have HB10 := Lib.hid (HB9.out.via hbm)
                        clear hb0 hbm hbk SOF JE
                        cases bq with
                        | true =>
                          go_wp2_with fail
                          have e6 : ks = qs := by simpa using HBQ.out.symm
                          exact ⟨⟨k + 1, by go_num, by omega, Lib.hid ⟨HPRE.out.next HP.out (by rw [e6]; exact HQK.out), HB10.out⟩⟩, by simp [intOf]; omega⟩
                        | false =>
                          go_wp2_with fail
                          go_ret
                          exact ⟨false, rfl, ⟨fun h => (by cases h), fun e => absurd (show fa = fb by simpa using e) (HNP.out fun e4 => by
                            have h3 : ks = qs := congrArg Prod.snd e4
                            have h4 := HBQ.out
                            rw [h3] at h4
                            simp at h4)⟩, HBW.out.via (HW8.out.via HB10.out)⟩
                      · have e0 : (pr != qr) = true := by simpa using hpq
                        have cBP := BP.cell
                        have fBP := BP.frozen
                        have lBP := BP.lt
                        have cBY := BY.cell
                        have fBY := BY.frozen
                        have lBY := BY.lt
                        go_quiet (fail)
                        go_wp2_with fail
                        go_ret
                        exact ⟨false, rfl, ⟨fun h => (by cases h), fun e => absurd (show fa = fb by simpa using e) (HNP.out fun e4 => hpq (congrArg Prod.fst e4))⟩, HBW.out.via (HW8.out.via (HB9.out.via (below_drewN (Below.refl _ _) nq)))⟩
                    · obtain rfl : xm = k := by omega
                      go_wp2_with fail
                      have e5 := HQ.out.1.full HXL.out.1 HXL.out.2
                      exact ⟨⟨i + 1, by go_num, by omega, Lib.hid ⟨HNX.out.next HX.out (by rw [e5]; exact HY.out), HW8.out.via HQ.out.2⟩⟩, by simp [intOf]; omega⟩
                · have e0 : ((xm : Int) != (ym : Int)) = true := by simp; omega
                  have e2 : (xi != xi) = false := by simp
                  have e3 : (xj != xj) = false := by simp
                  have cBX := BX.cell
                  have fBX := BX.frozen
                  have lBX := BX.lt
                  have cBY := BY.cell
                  have fBY := BY.frozen
                  have lBY := BY.lt
                  go_wp2_with fail
                  go_ret
                  refine ⟨false, rfl, ⟨fun h => (by cases h), fun e => absurd (show fa = fb by simpa using e) (HNE.out fun e4 => ?_)⟩, HBW.out.via HW8.out⟩
                  have h1 := HXL.out.1
                  have h2 := HXL.out.2
                  have h3 : xp = yp := congrArg Prod.snd e4
                  rw [h3] at h1
                  omega
              · have e3 : (xj != yj) = true := by simpa using ht
                have e2 : (xi != xi) = false := by simp
                have cBX := BX.cell
                have fBX := BX.frozen
                have lBX := BX.lt
                have cBY := BY.cell
                have fBY := BY.frozen
                have lBY := BY.lt
                go_wp2_with fail
                go_ret
                exact ⟨false, rfl, ⟨fun h => (by cases h), fun e => absurd (show fa = fb by simpa using e) (HNE.out fun e4 => ht (congrArg (fun x : NdI => x.1.2.2.2) e4))⟩, HBW.out.via HW8.out⟩
            · have e2 : (xi != yi) = true := by simpa using hf
              have cBX := BX.cell
              have fBX := BX.frozen
              have lBX := BX.lt
              have cBY := BY.cell
              have fBY := BY.frozen
              have lBY := BY.lt
              go_wp2_with fail
              go_ret
              exact ⟨false, rfl, ⟨fun h => (by cases h), fun e => absurd (show fa = fb by simpa using e) (HNE.out fun e4 => hf (congrArg (fun x : NdI => x.1.2.2.1) e4))⟩, HBW.out.via HW8.out⟩
          · have e1 := fun wx => sym_neq xb yb xn yn wx
            simp only [hs, decide_false, Bool.not_false] at e1
            have cBX := BX.cell
            have fBX := BX.frozen
            have lBX := BX.lt
            have cBY := BY.cell
            have fBY := BY.frozen
            have lBY := BY.lt
            go_wp2_with fail
            go_ret
            exact ⟨false, rfl, ⟨fun h => (by cases h), fun e => absurd (show fa = fb by simpa using e) (HNE.out fun e4 => hs (congrArg (fun x : NdI => (x.1.1, x.1.2.1)) e4))⟩, HBW.out.via HW8.out⟩
        · obtain rfl : na = i := by omega
          go_wp2_with fail
          go_ret
          exact ⟨true, rfl, ⟨fun _ => by simpa using HQ.out.1.full HLN.out.1 HLN.out.2, fun _ => rfl⟩, HBW.out.via HQ.out.2⟩
    · have e1 : ((na : Int) != (nb : Int)) = true := by simp; omega
      have cB0 := B0.cell
      have fB0 := B0.frozen
      have lB0 := B0.lt
      have cB1 := B1.cell
      have fB1 := B1.frozen
      have lB1 := B1.lt
      go_wp2_with fail
      go_ret
      refine ⟨false, rfl, ⟨fun h => (by cases h), fun e => ?_⟩, HBW.out⟩
      have h1 := HLN.out.1
      have h2 := HLN.out.2
      have e2 : fa = fb := by simpa using e
      rw [e2] at h1
      omega
  · have e0 : (ra != rb) = true := by simpa using hr
    have cB0 := B0.cell
    have fB0 := B0.frozen
    have lB0 := B0.lt
    have cB1 := B1.cell
    have fB1 := B1.frozen
    have lB1 := B1.lt
    go_wp2_with fail
    go_ret
    exact ⟨false, rfl, ⟨fun h => (by cases h), fun e => absurd e.1 hr⟩, HBW.out⟩
end Go.Proofs.YtbfcnfgkccgbiaaGreatDoor

