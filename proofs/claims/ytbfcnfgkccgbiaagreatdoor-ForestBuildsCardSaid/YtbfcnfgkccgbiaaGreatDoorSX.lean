/- Texts SX, laid together. -/
import Derived.Test.YtbfcnfgkccgbiaaGreatDoorSW
import Derived.Test.YtbfcnfgkccgbiaaGreatDoorST
import Derived.Test.YtbfcnfgkccgbiaaGreatDoorSM




namespace Go.Proofs.YtbfcnfgkccgbiaaGreatDoor
open Go.RowKit

/-- what Check answers where the grammar and the word pass -/
def ChkA (g : Gr) (n : Nat) (xs : List Int) (f : FoI) (q : Int) : Prop := ∃ fo b, IsFo (dvD g.rules xs) g.rules ((false, g.start), 0, n) 20000 fo b ∧ ((b = false ∧ q = 2) ∨ (b = true ∧ f = fo ∧ q = 0) ∨ (b = true ∧ f ≠ fo ∧ q = 3))
set_option maxRecDepth 100000 in
theorem fcheck_e (ok : Nat → Prop) (T N S : Int) (A : Option Addr) (n c : Nat) (rs : List Ri) (wA : Option Addr) (wn wc : Nat) (xs : List Int) (fv : Value) (fA : Option Addr) (fn fc : Nat) (fr : Int) (w : World) (hl : Sl RiE ok w A n c rs) (hx : Ints w wA wn wc xs) (q : Int) (hq : chkB T N S rs xs = q) (hbad : q ≠ 0) (hfv : fv = .agg #[.slice fA fn fc, .int .i64 fr]) :
    Calls Tryz.prog 127 #[.agg #[.int .i64 T, .int .i64 N, .int .i64 S, .slice A n c], .slice wA wn wc, fv] w fun e w' => e = .returned (.int .i64 q) ∧ Below w.heap.size w w' := by
  subst hfv
  have hal := ((Below.refl w.heap.size w).al (.cells #[.int .i64 T, .int .i64 N, .int .i64 S, .slice A n c] 24)).al (.cells #[.slice fA fn fc, .int .i64 fr] 34)
  have B0 := (Blk.new w 24 #[.int .i64 T, .int .i64 N, .int .i64 S, .slice A n c]).al (.cells #[.slice fA fn fc, .int .i64 fr] 34)
  have HC := Lib.hid (of_e ok T N S A n c rs wA wn wc xs _ (hl.via hal) (hx.keep hal (Nat.le_refl _)) q hq hbad)
  have HAL := Lib.hid hal
  have hq1 : (q != 0) = true := by simpa using hbad
  clear hl hx hq hal hbad
  go_enter Tryz.func127, Tryz.ntmps127
  have cB0 := B0.cell
  have fB0 := B0.frozen
  have lB0 := B0.lt
  go_wp2_with fail
  clear cB0 fB0 lB0
  clear B0
  generalize (w.alloc (.cells #[.int .i64 T, .int .i64 N, .int .i64 S, .slice A n c] 24)).alloc (.cells #[.slice fA fn fc, .int .i64 fr] 34) = W at *
  refine HC.out.mono ?_
  clear HC
  rintro e w1 ⟨rfl, hb⟩
  have HB := Lib.hid (HAL.out.via hb)
  have HB2 := Lib.hid ((HAL.out.via hb).via ((Below.refl w1.heap.size w1).al (.cells #[.slice none 0 0, .int .i64 0] 34)))
  clear hb HAL
  go_wp2_with fail
  go_ret
  exact ⟨rfl, HB2.out⟩
set_option maxRecDepth 100000 in
set_option maxHeartbeats 4000000 in
theorem fcheck_c (ok okf : Nat → Prop) (g : Gr) (Ag : Option Addr) (ng cg : Nat) (A : Option Addr) (n c : Nat) (xs : List Int) (fA : Option Addr) (fn fc : Nat) (f : FoI) (w : World) (hg : GrOk g) (hl : Sl RuE ok w Ag ng cg g.rules) (hx : Ints w A n c xs) (hn : n ≤ 12) (hxt : ∀ x ∈ xs, 0 ≤ x ∧ x < (g.terms : Int)) (hT : TabW w) (hf : Sl NdE okf w fA fn fc f.2) :
    Calls Tryz.prog 127 #[grVal g Ag ng cg, .slice A n c, .agg #[.slice fA fn fc, .int .i64 f.1]] w fun e w' => (∃ q, e = .returned (.int .i64 q) ∧ ChkA g n xs f q) ∧ Below w.heap.size w w' := by
  have hal := ((Below.refl w.heap.size w).al (.cells #[.int .i64 (g.terms : Int), .int .i64 (g.nons : Int), .int .i64 (g.start : Int), .slice Ag ng cg] 24)).al (.cells #[.slice fA fn fc, .int .i64 f.1] 34)
  have B0 := (Blk.new w 24 #[.int .i64 (g.terms : Int), .int .i64 (g.nons : Int), .int .i64 (g.start : Int), .slice Ag ng cg]).al (.cells #[.slice fA fn fc, .int .i64 f.1] 34)
  have B1 := Blk.newAt (w.alloc (.cells #[.int .i64 (g.terms : Int), .int .i64 (g.nons : Int), .int .i64 (g.start : Int), .slice Ag ng cg] 24)) 34 #[.slice fA fn fc, .int .i64 f.1] (w.heap.size + 1) (by simp)
  have HC := Lib.hid (of_c ok g Ag ng cg A n c xs _ hg (hl.via hal) (hx.keep hal (Nat.le_refl _)) hn hxt (hT.via hal))
  have HAL := Lib.hid hal
  have HB1 := Lib.hid B1
  have HF := Lib.hid (hf.via hal)
  have HG := Lib.hid hg
  have HD := Lib.hid (show ∀ k, dvD g.rules xs k = true → k.2.1 ≤ k.2.2 ∧ k.2.2 ≤ n from fun k h => by rw [← hx.len]; exact dv_le h)
  clear hl hx hT hg hal hxt hf
  simp only [grVal] at HC ⊢
  go_enter Tryz.func127, Tryz.ntmps127
  have cB0 := B0.cell
  have fB0 := B0.frozen
  have lB0 := B0.lt
  go_wp2_with fail
  clear cB0 fB0 lB0
  clear B0 B1
  generalize (w.alloc (.cells #[.int .i64 (g.terms : Int), .int .i64 (g.nons : Int), .int .i64 (g.start : Int), .slice Ag ng cg] 24)).alloc (.cells #[.slice fA fn fc, .int .i64 f.1] 34) = W at *
  refine HC.out.mono ?_
  clear HC
  rintro e w1 ⟨fo, v, bb, rfl, hfo, ⟨oA, on, oc, rfl, hS⟩, hb⟩
  have hal2 := (Below.refl w1.heap.size w1).al (.cells #[.slice oA on oc, .int .i64 fo.1] 34)
  have hb2 := hb.via hal2
  have HFO := Lib.hid hfo
  have HS := Lib.hid (hS.via hal2)
  have HF2 := Lib.hid (HF.out.via hb2)
  have HBB := Lib.hid (HAL.out.via hb2)
  have BF := HB1.out.via hb2
  have BO := Blk.new w1 34 #[.slice oA on oc, .int .i64 fo.1]
  clear hfo hS hb hal2 hb2 HF HAL HB1
  cases bb with
  | false =>
    simp only [Bool.false_eq_true, if_false]
    go_wp2_with fail
    go_ret
    exact ⟨⟨2, rfl, fo, false, HFO.out, Or.inl ⟨rfl, rfl⟩⟩, HBB.out⟩
  | true =>
    simp only [if_true]
    go_upto_region 2 with fail
    generalize w1.alloc (.cells #[.slice oA on oc, .int .i64 fo.1] 34) = W2 at *
    have cBF := BF.cell
    have fBF := BF.frozen
    have lBF := BF.lt
    have cBO := BO.cell
    have fBO := BO.frozen
    have lBO := BO.lt
    go_wp2_with fail
    clear cBF fBF lBF cBO fBO lBO
    clear BF BO
    refine (fsame_c okf (fun b => W.heap.size ≤ b) fA oA fn fc on oc f.1 fo.1 f.2 fo.2 W2 HF2.out HS.out (fo_bound HG.out.ok hn HD.out HFO.out)).mono ?_
    rintro e w3 ⟨b3, rfl, hb3, hbe⟩
    have HB3 := Lib.hid (HBB.out.via hbe)
    cases b3 with
    | true =>
      have h := hb3.1 rfl
      have HQ := Lib.hid (show ∃ q, (0 : Int) = q ∧ ChkA g n xs f q from ⟨0, rfl, fo, true, HFO.out, Or.inr (Or.inl ⟨rfl, Prod.ext h.1 h.2, rfl⟩)⟩)
      clear hb3 hbe h
      go_wp2_with fail
      go_ret
      obtain ⟨q, e, hq⟩ := HQ.out
      exact ⟨⟨q, by rw [← e]; rfl, hq⟩, HB3.out⟩
    | false =>
      have HQ := Lib.hid (show ∃ q, (3 : Int) = q ∧ ChkA g n xs f q from ⟨3, rfl, fo, true, HFO.out, Or.inr (Or.inr ⟨rfl, (fun e => by have := hb3.2 ⟨by rw [e], by rw [e]⟩; cases this), rfl⟩)⟩)
      clear hb3 hbe
      go_wp2_with fail
      go_ret
      obtain ⟨q, e, hq⟩ := HQ.out
      exact ⟨⟨q, by rw [← e]; rfl, hq⟩, HB3.out⟩
/-- the word that a forest's leaves tell -/
def fillW (n : Nat) : List NdI → List Int → Option (List Int)
  | [], ws => some ws
  | x :: xs, ws => if x.1.1 = true then (if x.1.2.2.1 < 0 ∨ (n : Int) ≤ x.1.2.2.1 then none else fillW n xs (ws.set x.1.2.2.1.toNat x.1.2.1)) else fillW n xs ws
set_option maxRecDepth 100000 in
set_option maxHeartbeats 8000000 in
theorem valid_w (ok okf : Nat → Prop) (g : Gr) (Ag : Option Addr) (ng cg : Nat) (fA : Option Addr) (fn fc : Nat) (v : Nat) (nd : List NdI) (t : Nat) (ws : List Int) (w : World) (hg : GrOk g) (hl : Sl RuE ok w Ag ng cg g.rules) (hT : TabW w) (hf : Sl NdE okf w fA fn fc nd) (hfn : fn ≤ 1000000) (hv : v < fn) (ht : (ndAt nd v).1.2.2.2 = (t : Int)) (h1 : 1 ≤ t) (h12 : t ≤ 12)
    (hfill : fillW t nd (List.replicate t (-1)) = some ws) (hwt : ∀ x ∈ ws, 0 ≤ x ∧ x < (g.terms : Int)) :
    Calls Tryz.prog 79 #[grVal g Ag ng cg, .agg #[.slice fA fn fc, .int .i64 (v : Int)]] w fun e w' => (∃ q, e = .returned (.int .i64 (if q = 0 then 0 else 3)) ∧ ChkA g t ws ((v : Int), nd) q) ∧ Below w.heap.size w w' := by
  have hal := ((Below.refl w.heap.size w).al (.cells #[.int .i64 (g.terms : Int), .int .i64 (g.nons : Int), .int .i64 (g.start : Int), .slice Ag ng cg] 24)).al (.cells #[.slice fA fn fc, .int .i64 (v : Int)] 34)
  have B0 := (Blk.new w 24 #[.int .i64 (g.terms : Int), .int .i64 (g.nons : Int), .int .i64 (g.start : Int), .slice Ag ng cg]).al (.cells #[.slice fA fn fc, .int .i64 (v : Int)] 34)
  have B1 := Blk.newAt (w.alloc (.cells #[.int .i64 (g.terms : Int), .int .i64 (g.nons : Int), .int .i64 (g.start : Int), .slice Ag ng cg] 24)) 34 #[.slice fA fn fc, .int .i64 (v : Int)] (w.heap.size + 1) (by simp)
  have HCK := Lib.hid (check_c ok g Ag ng cg _ hg (hl.via hal))
  have HAL := Lib.hid hal
  have HB1 := Lib.hid B1
  have HF := Lib.hid (hf.via hal)
  have HL := Lib.hid (hl.via hal)
  have HT := Lib.hid (hT.via hal)
  have HG := Lib.hid hg
  have HWT := Lib.hid hwt
  have HFW := Lib.hid hfill
  have HTO := Lib.hid ht
  have HNL := Lib.hid hf.len
  have HB0 := Lib.hid B0
  clear hl hT hg hal hwt hf hfill ht
  simp only [grVal] at HCK ⊢
  go_enter Tryz.func79, Tryz.ntmps79
  have cB0 := B0.cell
  have fB0 := B0.frozen
  have lB0 := B0.lt
  go_wp2_with fail
  clear cB0 fB0 lB0
  clear B0 B1
  generalize (w.alloc (.cells #[.int .i64 (g.terms : Int), .int .i64 (g.nons : Int), .int .i64 (g.start : Int), .slice Ag ng cg] 24)).alloc (.cells #[.slice fA fn fc, .int .i64 (v : Int)] 34) = W at *
  refine HCK.out.mono ?_
  clear HCK
  rintro e w1 ⟨rfl, hb1⟩
  have HB1' := Lib.hid (HAL.out.via hb1)
  have BF := HB1.out.via hb1
  have HBF := Lib.hid BF
  have HBG := Lib.hid (HB0.out.via hb1)
  have HF1 := Lib.hid (HF.out.via hb1)
  have HL1 := Lib.hid (HL.out.via hb1)
  have HT1 := Lib.hid (HT.out.via hb1)
  obtain ⟨b1, o1, ⟨⟨xb, xm, xi, xj⟩, PA, pl, pc⟩, ⟨⟨xb', xm', xi', xj'⟩, ps⟩, hAa, -, hb1l, hx, ⟨hx1, hx2⟩, hcx⟩ := HF1.out.at_ hv
  simp only at hx1 hx2
  obtain ⟨rfl, rfl, rfl, rfl⟩ : xb = xb' ∧ xm = xm' ∧ xi = xi' ∧ xj = xj' := by simpa using hx1
  subst hAa
  have c3 := hcx 3 _ rfl
  simp only [NdE] at c3
  have hxj : xj = (t : Int) := by
    have h := HTO.out
    unfold ndAt at h
    rw [hx] at h
    exact h
  rw [hxj] at c3
  have v0 : (0 : Int) ≤ (v : Int) := by omega
  have v1 : (v : Int) < (fn : Int) := by omega
  have e0 : ((v : Int) == -1) = false := by simp
  have e1 : ¬ (fn : Int) ≤ (v : Int) := by omega
  have e2 : ¬ (12 : Int) < (t : Int) := by omega
  have e3 : ¬ (t : Int) < 0 := by omega
  clear hcx hx hx1 hx2 hb1l hxj hb1 HF HL HT HB0 HB1 HAL
  dsimp only
  have cBF := BF.cell
  have fBF := BF.frozen
  have lBF := BF.lt
  go_upto_region 11 with fail
  clear cBF fBF lBF
  clear BF c3 e0 e1 e2 e3
  have hal := (Below.refl w1.heap.size w1).al (.cells #[.int .i64 (-1)] 3)
  have HR := Lib.hid (repeat_c w1.heap.size t (w1.alloc (.cells #[.int .i64 (-1)] 3)) (by rw [(Blk.new w1 3 #[.int .i64 (-1)]).cell]; rfl) h1 (by omega))
  have HRL := Lib.hid hal
  clear hal
  go_wp2_with fail
  refine HR.out.mono ?_
  clear HR
  rintro e w2 ⟨rfl, hwb, hb2⟩
  have hb12 := HRL.out.via hb2
  have HB12 := Lib.hid hb12
  have HBB := Lib.hid (HB1'.out.via hb12)
  have BF := HBF.out.via hb12
  have HBG2 := Lib.hid (HBG.out.via hb12)
  have HF2 := Lib.hid (HF1.out.via hb12)
  have HL2 := Lib.hid (HL1.out.via hb12)
  have HT2 := Lib.hid (HT1.out.via hb12)
  have hsz : w1.heap.size + 1 = (w1.alloc (.cells #[.int .i64 (-1)] 3)).heap.size := by simp
  obtain ⟨bw, hbw⟩ : ∃ bw, bw = (w1.alloc (.cells #[.int .i64 (-1)] 3)).heap.size := ⟨_, rfl⟩
  rw [← hbw] at hwb ⊢
  have HWB := Lib.hid (show Blk w2 bw 3 (((List.replicate t (-1 : Int)).map (Value.int .i64)).toArray) by simpa using hwb)
  have HBL := Lib.hid (show w1.heap.size < bw by omega)
  have HFL := Lib.hid HBF.out.lt
  have HBF2 := Lib.hid BF
  clear hwb hb2 hb12 hsz hbw HRL HBG2 HF2 HL2 HT2 HBF2
  dsimp only
  have cBF := BF.cell
  have fBF := BF.frozen
  have lBF := BF.lt
  go_wp2_with fail
  clear cBF fBF lBF
  clear BF
  go_loopw [54] (fun q wr => ∃ (i : Nat) (cur : List Int), q = .int .i64 (i : Int) ∧ i ≤ fn ∧ Hid (Blk wr bw 3 ((cur.map (Value.int .i64)).toArray) ∧ cur.length = t ∧ fillW t (nd.drop i) cur = some ws ∧ Agr (fun b => b ≠ bw) w2 wr ∧ Below w1.heap.size w2 wr)) (fun q _ => fn - (intOf q).toNat)
  case atStart => exact ⟨0, _, rfl, Nat.zero_le _, Lib.hid ⟨HWB.out, by simp, by rw [List.drop_zero]; exact HFW.out, Agr.refl, Below.refl _ _⟩⟩
  case round =>
    obtain ⟨i, cur, rfl, hi, HQ⟩ := hrel
    clear HWB
    by_cases hin : i < fn
    · obtain ⟨b3, o3, ⟨⟨yb, ym, yi, yj⟩, QA, ql, qc⟩, ⟨⟨yb', ym', yi', yj'⟩, qs⟩, hAa, -, hb3, hy, ⟨hy1, hy2⟩, hcy⟩ := HF1.out.at_ hin
      simp only at hy1 hy2
      obtain ⟨rfl, rfl, rfl, rfl⟩ : yb = yb' ∧ ym = ym' ∧ yi = yi' ∧ yj = yj' := by simpa using hy1
      cases hAa
      have hbr := HB12.out.trans HQ.out.2.2.2.2
      have c0 := (hbr.cell (p := ⟨b1, o1 + i * NdE.k + 0, none⟩) hb3).trans (hcy 0 _ rfl)
      have c1 := (hbr.cell (p := ⟨b1, o1 + i * NdE.k + 1, none⟩) hb3).trans (hcy 1 _ rfl)
      have c2 := (hbr.cell (p := ⟨b1, o1 + i * NdE.k + 2, none⟩) hb3).trans (hcy 2 _ rfl)
      have c3 := (hbr.cell (p := ⟨b1, o1 + i * NdE.k + 3, none⟩) hb3).trans (hcy 3 _ rfl)
      have c4 := (hbr.cell (p := ⟨b1, o1 + i * NdE.k + 4, none⟩) hb3).trans (hcy 4 _ rfl)
      simp only [NdE, Nat.add_zero] at c0 c1 c2 c3 c4
      have i0 : (0 : Int) ≤ (i : Int) := by omega
      have i1 : (i : Int) < (fn : Int) := by omega
      have HDR := Lib.hid (show nd.drop i = ((yb, ym, yi, yj), qs) :: nd.drop (i + 1) by
        have h1 := List.getElem?_eq_some_iff.1 hy
        rw [List.drop_eq_getElem_cons h1.1, h1.2])
      have hfq := HQ.out.2.2.1
      rw [HDR.out, fillW] at hfq
      simp only at hfq
      have hal := (Below.refl wr.heap.size wr).al (.cells #[.bool yb, .int .i64 ym, .int .i64 yi, .int .i64 yj, .slice QA ql qc] 89)
      have BN := Blk.new wr 89 #[.bool yb, .int .i64 ym, .int .i64 yi, .int .i64 yj, .slice QA ql qc]
      have BWB := HQ.out.1.via hal
      have HAG := Lib.hid (HQ.out.2.2.2.1.trans (Agr.below hal))
      have HBE := Lib.hid (HQ.out.2.2.2.2.trans (hal.mono (by have := HQ.out.1.lt; have := HBL.out; omega)))
      have HCL := Lib.hid HQ.out.2.1
      clear hcy hy hy1 hy2 hb3 hbr hal HQ
      cases yb with
      | false =>
        simp only [Bool.false_eq_true, if_false] at hfq
        have HFQ := Lib.hid hfq
        have HWB := Lib.hid BWB
        clear hfq BWB
        go_upto_region 15 with fail
        clear c0 c1 c2 c3 c4
        generalize wr.alloc (.cells #[.bool false, .int .i64 ym, .int .i64 yi, .int .i64 yj, .slice QA ql qc] 89) = W9 at *
        generalize wr.heap.size = bn at *
        have cBN := BN.cell
        have fBN := BN.frozen
        have lBN := BN.lt
        go_wp2_with fail
        exact ⟨⟨i + 1, cur, by go_num, by omega, Lib.hid ⟨HWB.out, HCL.out, HFQ.out, HAG.out, HBE.out⟩⟩, by simp [intOf]; omega⟩
      | true =>
        simp only [if_true] at hfq
        by_cases hyi : yi < 0 ∨ (t : Int) ≤ yi
        · rw [if_pos hyi] at hfq; cases hfq
        · rw [if_neg hyi] at hfq
          obtain ⟨p, rfl⟩ : ∃ p : Nat, yi = (p : Int) := ⟨yi.toNat, by omega⟩
          have hpt : p < t := by omega
          have p0 : (0 : Int) ≤ (p : Int) := by omega
          have p1 : (p : Int) < (t : Int) := by omega
          rw [Int.toNat_natCast] at hfq
          have HFQ := Lib.hid hfq
          have HWB := Lib.hid BWB
          clear hfq hyi
          go_upto_region 15 with fail
          clear c0 c1 c2 c3 c4
          generalize wr.alloc (.cells #[.bool true, .int .i64 ym, .int .i64 (p : Int), .int .i64 yj, .slice QA ql qc] 89) = W9 at *
          generalize wr.heap.size = bn at *
          have e4 : ¬ (t : Int) ≤ (p : Int) := by omega
          have hcell : W9.cell? ⟨bw, p, none⟩ = some (.int .i64 (cur.getD p 0)) := by
            rw [BWB.cell]
            have h := HCL.out
            simp [List.getD_eq_getElem?_getD, h, hpt]
          have fW := BWB.frozen
          clear BWB
          have cBN := BN.cell
          have fBN := BN.frozen
          have lBN := BN.lt
          go_wp2_with fail
          have h2 := HWB.out.set_ p (.int .i64 ym)
          rw [ints_set] at h2
          exact ⟨⟨i + 1, cur.set p ym, by go_num, by omega, Lib.hid ⟨h2, by rw [List.length_set]; exact HCL.out, HFQ.out, HAG.out.trans (Agr.setCell (p := ⟨bw, p, none⟩) _ fun b hb => hb), HBE.out.setCell (p := ⟨bw, p, none⟩) (by show w1.heap.size ≤ bw; have := HBL.out; omega) _⟩⟩, by simp [intOf]; omega⟩
    · obtain rfl : fn = i := by omega
      have hcur : cur = ws := by
        have h := HQ.out.2.2.1
        rw [List.drop_eq_nil_of_le (by rw [HNL.out]; exact Nat.le_refl _)] at h
        exact Option.some.inj h
      subst hcur
      have hbr := HB12.out.trans HQ.out.2.2.2.2
      have hcl := HQ.out.2.1
      have hX : Ints wr (some ⟨bw, 0, none⟩) t t cur := Ints.litB HQ.out.1 (by simp) hcl
      have hck := fcheck_c ok okf g Ag ng cg (some ⟨bw, 0, none⟩) t t cur (some ⟨b1, o1, none⟩) fn fc ((v : Int), nd) wr HG.out (HL1.out.via hbr) hX h12 HWT.out (HT1.out.via hbr) (HF1.out.via hbr)
      simp only [grVal] at hck
      have HCK := Lib.hid hck
      have BG := HBG.out.via hbr
      have BF := HBF.out.via hbr
      have HB9 := Lib.hid (HB1'.out.via hbr)
      clear hck hX hbr hcl HQ
      have cBG := BG.cell
      have fBG := BG.frozen
      have lBG := BG.lt
      have cBF := BF.cell
      have fBF := BF.frozen
      have lBF := BF.lt
      go_wp2_with fail
      clear cBG fBG lBG cBF fBF lBF
      clear BG BF
      refine HCK.out.mono ?_
      rintro e w9 ⟨⟨q, rfl, hq⟩, hb9⟩
      have HQA := Lib.hid hq
      have HBF9 := Lib.hid (HB9.out.via hb9)
      clear hq hb9 HCK
      by_cases hq0 : q = 0
      · subst hq0
        go_wp2_with fail
        go_ret
        exact ⟨⟨0, rfl, HQA.out⟩, HBF9.out⟩
      · have hq1 : (q != 0) = true := by simpa using hq0
        have HQ0 := Lib.hid hq0
        clear hq0
        go_wp2_with fail
        go_ret
        exact ⟨⟨q, by rw [if_neg HQ0.out]; rfl, HQA.out⟩, HBF9.out⟩
theorem dbl_chk {q : Int} (h : ChkA dblG 2 [0, 0] (foI dblS dblG.rules dblL ((false, 0), 0, 2)) q) : q = 0 := by
  obtain ⟨fo, b, hf, h⟩ := h
  obtain ⟨rfl, rfl⟩ := dbl_fo hf
  rcases h with ⟨h1, -⟩ | ⟨-, -, h2⟩ | ⟨-, h2, -⟩
  · cases h1
  · exact h2
  · exact absurd rfl h2
theorem dbl_fill : fillW 2 (foI dblS dblG.rules dblL ((false, 0), 0, 2)).2 (List.replicate 2 (-1)) = some [0, 0] := by decide
theorem dbl_cnt : cntV (foI dblS dblG.rules dblL ((false, 0), 0, 2)) = 1 := by decide
theorem dbl_to : (ndAt (foI dblS dblG.rules dblL ((false, 0), 0, 2)).2 2).1.2.2.2 = ((2 : Nat) : Int) := by decide
theorem dbl_kids : KidsIn (foI dblS dblG.rules dblL ((false, 0), 0, 2)).2 := by
  have h : ((foI dblS dblG.rules dblL ((false, 0), 0, 2)).2.all fun x => x.2.all fun p => p.2.all fun k => decide (0 ≤ k) && decide (k < ((foI dblS dblG.rules dblL ((false, 0), 0, 2)).2.length : Int))) = true := by decide
  intro x hx p hp k hk
  have h1 := List.all_eq_true.1 (List.all_eq_true.1 (List.all_eq_true.1 h x hx) p hp) k hk
  simpa using h1
theorem dbl_foB : FoB (foI dblS dblG.rules dblL ((false, 0), 0, 2)).2 :=
  fo_bound (g := dblG) (D := dblS) (n := 2) (most := 20000) (b := true) dblG_ok.ok (by omega) (fun k h => by rw [← dvD_dbl] at h; exact dv_le h) (.fits (by decide) dbl_nds (by decide))
set_option maxRecDepth 100000 in
set_option maxHeartbeats 4000000 in
/-- forest.Count of the forest of 0 0 -/
theorem fcount_d (ok okf : Nat → Prop) (Ag : Option Addr) (fA : Option Addr) (fc : Nat) (w : World) (hl : Sl RuE ok w Ag 2 2 dblG.rules) (hT : TabW w) (hf : Sl NdE okf w fA 5 fc (foI dblS dblG.rules dblL ((false, 0), 0, 2)).2) :
    Calls Tryz.prog 51 #[.agg #[.int .i64 1, .int .i64 1, .int .i64 0, .slice Ag 2 2], .agg #[.slice fA 5 fc, .int .i64 2]] w fun e w' => e = .returned (.tuple #[.int .i64 1, .int .i64 0]) ∧ Below w.heap.size w w' := by
  have hal := ((Below.refl w.heap.size w).al (.cells #[.int .i64 1, .int .i64 1, .int .i64 0, .slice Ag 2 2] 24)).al (.cells #[.slice fA 5 fc, .int .i64 2] 34)
  have B0 := (Blk.new w 24 #[.int .i64 1, .int .i64 1, .int .i64 0, .slice Ag 2 2]).al (.cells #[.slice fA 5 fc, .int .i64 2] 34)
  have B1 := Blk.newAt (w.alloc (.cells #[.int .i64 1, .int .i64 1, .int .i64 0, .slice Ag 2 2] 24)) 34 #[.slice fA 5 fc, .int .i64 2] (w.heap.size + 1) (by simp)
  have hva := valid_w ok okf dblG Ag 2 2 fA 5 fc 2 _ 2 [0, 0] _ dblG_ok (hl.via hal) (hT.via hal) (hf.via hal) (by omega) (by omega) dbl_to (by omega) (by omega) dbl_fill (by simp [dblG])
  have HF := Lib.hid (hf.via hal)
  have HAL := Lib.hid hal
  have HB1 := Lib.hid B1
  clear hl hT hf hal
  have HVA : Hid (Calls Tryz.prog 79 #[.agg #[.int .i64 1, .int .i64 1, .int .i64 0, .slice Ag 2 2], .agg #[.slice fA 5 fc, .int .i64 2]] _ _) := Lib.hid hva
  clear hva
  go_enter Tryz.func51, Tryz.ntmps51
  have cB0 := B0.cell
  have fB0 := B0.frozen
  have lB0 := B0.lt
  have cB1 := B1.cell
  have fB1 := B1.frozen
  have lB1 := B1.lt
  go_wp2_with fail
  clear cB0 fB0 lB0 cB1 fB1 lB1
  clear B0 B1
  generalize (w.alloc (.cells #[.int .i64 1, .int .i64 1, .int .i64 0, .slice Ag 2 2] 24)).alloc (.cells #[.slice fA 5 fc, .int .i64 2] 34) = W at *
  refine HVA.out.mono ?_
  clear HVA
  rintro e w1 ⟨⟨q, rfl, hq⟩, hb⟩
  have hq0 : q = 0 := by
    have h1 := dbl_root
    refine dbl_chk ?_
    have e : (foI dblS dblG.rules dblL ((false, 0), 0, 2)) = (((2 : Nat) : Int), (foI dblS dblG.rules dblL ((false, 0), 0, 2)).2) := Prod.ext h1 rfl
    rw [e]; exact hq
  subst hq0
  have HB := Lib.hid (HAL.out.via hb)
  have B2 := HB1.out.via hb
  have HCN := Lib.hid (count_c okf fA 5 fc 2 _ w1 (HF.out.via hb) dbl_kids dbl_foB (by omega) (by omega))
  clear hq hb HAL HB1 HF
  simp only [if_true]
  have cB2 := B2.cell
  have fB2 := B2.frozen
  have lB2 := B2.lt
  go_wp2_with fail
  clear cB2 fB2 lB2
  clear B2
  refine HCN.out.mono ?_
  clear HCN
  rintro e w2 ⟨rfl, hb⟩
  have HB2 := Lib.hid (HB.out.via hb)
  have hc : cntV (2, (foI dblS dblG.rules dblL ((false, 0), 0, 2)).2) = 1 := by
    have e : (foI dblS dblG.rules dblL ((false, 0), 0, 2)) = (2, (foI dblS dblG.rules dblL ((false, 0), 0, 2)).2) := Prod.ext dbl_root rfl
    rw [← e]; exact dbl_cnt
  rw [hc]
  clear hb hc
  go_wp2_with fail
  go_ret2
  exact ⟨rfl, HB2.out⟩
end Go.Proofs.YtbfcnfgkccgbiaaGreatDoor

