/- Texts AF, JB, laid together. -/
import Derived.Test.YtbfcnfgkccgbiaaGreatDoorQ12
import Derived.Test.YtbfcnfgkccgbiaaGreatDoorQ14
import Derived.Deep.RegionWith



namespace Go.Proofs.YtbfcnfgkccgbiaaGreatDoor
open Go.RowKit

set_option maxRecDepth 100000 in
set_option maxHeartbeats 2000000 in
theorem mcheck_c (ok : Nat → Prop) (g : Gr) (Ag : Option Addr) (ng cg : Nat) (A : Option Addr) (n c : Nat) (xs : List Int) (w : World) (hg : GrOk g) (hl : Sl RuE ok w Ag ng cg g.rules) (hx : Ints w A n c xs) (hn : n ≤ 12) (hxt : ∀ x ∈ xs, 0 ≤ x ∧ x < (g.terms : Int)) :
    Calls Tryz.prog 54 #[grVal g Ag ng cg, .slice A n c] w (IntO w 0) := by
  have hB := ((Below.refl w.heap.size w).al (.cells #[.int .i64 (g.terms : Int), .int .i64 (g.nons : Int), .int .i64 (g.start : Int), .slice Ag ng cg] 24))
  have HB := Lib.hid hB
  have HGO := Lib.hid hg
  have HL := Lib.hid (hl.via hB)
  have HX := Lib.hid (hx.keep hB (Nat.le_refl _))
  have HXT := Lib.hid hxt
  have B0 := Blk.new w 24 #[.int .i64 (g.terms : Int), .int .i64 (g.nons : Int), .int .i64 (g.start : Int), .slice Ag ng cg]
  have HB0 := Lib.hid B0
  simp only [grVal]
  clear hg hl hx hxt hB
  go_enter Tryz.func54, Tryz.ntmps54
  have cB0 := B0.cell
  have fB0 := B0.frozen
  have lB0 := B0.lt
  go_wp2_with fail
  clear cB0 fB0 lB0
  generalize w.alloc (.cells #[.int .i64 (g.terms : Int), .int .i64 (g.nons : Int), .int .i64 (g.start : Int), .slice Ag ng cg] 24) = W at *
  refine (check_c ok g Ag ng cg W HGO.out HL.out).mono ?_
  rintro e w1 ⟨rfl, hb⟩
  have HX1 := Lib.hid (HX.out.keep hb (Nat.le_refl _))
  have HB1 := Lib.hid (HB.out.via hb)
  have Bg := HB0.out.via hb
  clear hb HX HB HB0 B0
  have cBg := Bg.cell
  have fBg := Bg.frozen
  have lBg := Bg.lt
  go_wp2_with fail
  clear cBg fBg lBg
  refine (word_ok g Ag ng cg A n c 12 xs w1 HX1.out hn (by omega) HXT.out).mono ?_
  rintro e w2 ⟨rfl, hb⟩
  have HB2 := Lib.hid (HB1.out.via hb)
  clear hb
  go_wp2_with fail
  go_ret
  exact ⟨rfl, HB2.out⟩
def AccP (w : World) (g : Gr) (xs : List Int) (e : Ending) (w' : World) : Prop :=
  ∃ b : Bool, e = .returned (.tuple #[.bool b, .int .i64 0]) ∧ (b = true ↔ Dv g.rules [(false, g.start)] xs) ∧ Below w.heap.size w w'
theorem bit_of (x n : Nat) (h : x < 8192) : ∃ (Q R : Nat), (x : Int) / 2 ^ n = (Q : Int) ∧ bits .and .u32 (Q : Int) 1 = (R : Int) ∧ ((R : Int) == 1) = x.testBit n := by
  refine ⟨x / 2 ^ n, (x / 2 ^ n) &&& 1, by simp, ?_, ?_⟩
  · have h1 : x / 2 ^ n ≤ x := Nat.div_le_self _ _
    exact u32_and_nat _ 1 (by omega) (by omega)
  · rw [Nat.and_one_is_mod, Nat.testBit_eq_decide_div_mod_eq]
    generalize x / 2 ^ n = y
    by_cases h : y % 2 = 1
    · rw [h]; rfl
    · have h0 : y % 2 = 0 := by omega
      rw [h0]; rfl
set_option maxRecDepth 100000 in
set_option maxHeartbeats 4000000 in
theorem accepts_c (ok : Nat → Prop) (g : Gr) (Ag : Option Addr) (ng cg : Nat) (A : Option Addr) (n c : Nat) (xs : List Int) (w : World) (hg : GrOk g) (hl : Sl RuE ok w Ag ng cg g.rules) (hx : Ints w A n c xs) (hn : n ≤ 12) (hxt : ∀ x ∈ xs, 0 ≤ x ∧ x < (g.terms : Int)) (hT : TabW w) :
    Calls Tryz.prog 24 #[grVal g Ag ng cg, .slice A n c] w (AccP w g xs) := by
  have hxl := hx.len
  have HXL := Lib.hid hxl
  have hB := ((Below.refl w.heap.size w).al (.cells #[.int .i64 (g.terms : Int), .int .i64 (g.nons : Int), .int .i64 (g.start : Int), .slice Ag ng cg] 24))
  have HB := Lib.hid hB
  have HGO := Lib.hid hg
  have HL := Lib.hid (hl.via hB)
  have HX := Lib.hid (hx.keep hB (Nat.le_refl _))
  have HT := Lib.hid (hT.via hB)
  have HXT := Lib.hid hxt
  have B0 := Blk.new w 24 #[.int .i64 (g.terms : Int), .int .i64 (g.nons : Int), .int .i64 (g.start : Int), .slice Ag ng cg]
  have HB0 := Lib.hid B0
  have hst := hg.ok.start
  simp only [grVal]
  clear hg hl hx hxt hB hT hxl
  go_enter Tryz.func24, Tryz.ntmps24
  have cB0 := B0.cell
  have fB0 := B0.frozen
  have lB0 := B0.lt
  go_wp2_with fail
  clear cB0 fB0 lB0
  generalize w.alloc (.cells #[.int .i64 (g.terms : Int), .int .i64 (g.nons : Int), .int .i64 (g.start : Int), .slice Ag ng cg] 24) = W at *
  refine (mcheck_c ok g Ag ng cg A n c xs W HGO.out HL.out HX.out hn HXT.out).mono ?_
  rintro e w1 ⟨rfl, hb⟩
  have HL1 := Lib.hid (HL.out.via hb)
  have HX1 := Lib.hid (HX.out.keep hb (Nat.le_refl _))
  have HT1 := Lib.hid (HT.out.via hb)
  have HB1 := Lib.hid (HB.out.via hb)
  have Bg := HB0.out.via hb
  have HBG := Lib.hid Bg
  clear hb HX HB HB0 B0 HL HT
  go_upto_region 4 with fail
  have FE := Lib.hid (show ∀ w', Below w1.heap.size w1 w' → Calls Tryz.prog 55 #[.agg #[.int .i64 (g.terms : Int), .int .i64 (g.nons : Int), .int .i64 (g.start : Int), .slice Ag ng cg], .slice A n c] w' (EndsP w' g xs) from fun w' hb => by
    have := ends_c ok g Ag ng cg A n c xs w' HGO.out (HL1.out.via hb) (HX1.out.keep hb (Nat.le_refl _)) hn (HT1.out.via hb)
    simpa only [grVal] using this)
  have g0 : (0 : Int) ≤ (g.start : Int) := by omega
  have g1 : (g.start : Int) < (g.nons : Int) := by omega
  have g2 : (0 : Int) < (n : Int) + 1 := by omega
  have hb0 := (Below.refl w1.heap.size w1).drew
  have cBd : ∀ i, w1.drew.cell? ⟨w.heap.size, i, none⟩ = #[.int .i64 (g.terms : Int), .int .i64 (g.nons : Int), .int .i64 (g.start : Int), .slice Ag ng cg][i]? := (Bg.via hb0).cell
  clear Bg
  go_region_with (go_at_call 55; refine (FE.out _ (by assumption)).mono ?_; rintro ee wn ⟨ob, rb, E, rfl, her, hse, hfx, hbn⟩; have hbm : Below w1.heap.size w1 wn := Below.via (by assumption) hbn; have t1 := her.cell1 hst; have t2 := her.cell2 hst (Nat.zero_le _); have cBn := (HBG.out.via hbm).cell; have HSE := Lib.hid hse; have HFX := Lib.hid hfx; rw [HXL.out] at t1; clear hse hfx her hbn; obtain ⟨Q, R, q1, q2, q3⟩ := bit_of (E g.start 0) n (by have := HSE.out.lt g.start 0; rw [HXL.out] at this; have := pow13 hn; omega); have HIF := Lib.hid (show (E g.start 0).testBit n = true ↔ Dv g.rules [(false, g.start)] xs from (by have := ends_iff HSE.out HFX.out (by rw [HXL.out]; omega) g.start; rwa [HXL.out] at this)); have HBF := Lib.hid (HB1.out.via hbm); generalize (E g.start 0).testBit n = bb at *)
  all_goals
    go_wp2_with fail
    go_ret2
    exact ⟨bb, rfl, HIF.out, HBF.out⟩
end Go.Proofs.YtbfcnfgkccgbiaaGreatDoor



namespace Go.Proofs.YtbfcnfgkccgbiaaGreatDoor
open Go.RowKit

def giCells (T N S : Int) (A : Option Addr) (n c : Nat) : Array Value := #[.int .i64 T, .int .i64 N, .int .i64 S, .slice A n c]
set_option maxRecDepth 100000 in
set_option maxHeartbeats 2000000 in
theorem check1I_c (bg : Nat) (T N S : Int) (A : Option Addr) (n c : Nat) (s : Ci) (w : World) (hg : Blk w bg 24 (giCells T N S A n c)) :
    Calls Tryz.prog 130 (#[siVal s] ++ #[.pointer (some ⟨bg, 0, none⟩)]) w (TellB w (!okSi T N s)) := by
  obtain ⟨sb, sk⟩ := s
  unfold giCells at hg
  have HB := Lib.hid ((Below.refl w.heap.size w).al (.cells #[.bool sb, .int .i64 sk] 66))
  have Bg := hg.al (.cells #[.bool sb, .int .i64 sk] 66)
  clear hg
  have cBg := Bg.cell
  have fBg := Bg.frozen
  have lBg := Bg.lt
  dsimp only [siVal]
  go_enter Tryz.func130, Tryz.ntmps130
  go_wp2_with fail
  refine (hasI_c T N S A n c sb sk _).mono ?_
  rintro e w' ⟨rfl, hb⟩
  have HF := Lib.hid (HB.out.via hb)
  clear hb
  go_wp2_with fail
  go_ret
  exact ⟨rfl, HF.out⟩
set_option maxRecDepth 100000 in
set_option maxHeartbeats 2000000 in
theorem check2I_c (ok ok' : Nat → Prop) (br : Nat) (y : Int) (B : Option Addr) (m d : Nat) (r : Int × SlV) (x : Ri) (ys : List Ci) (w : World) (h1 : RiE.rel ok w r x) (hr : Blk w br 97 #[.int .i64 y, .slice B m d]) (h2 : Sl SiE ok' w B m d ys) (hn : x.2.length ≤ 1000000) :
    Calls Tryz.prog 132 (#[riVal r] ++ #[.pointer (some ⟨br, 0, none⟩)]) w (TellB w (decide (x = (y, ys)))) := by
  obtain ⟨xl, xA, xn, xc⟩ := r
  obtain ⟨x1, xs⟩ := x
  obtain ⟨e1, e2⟩ := h1
  simp only at e1 e2 hn
  subst e1
  have hxn : xn ≤ 1000000 := by have := e2.len; omega
  obtain ⟨q, hqq⟩ : ∃ q, q = cmpRi (xl, xs) (y, ys) := ⟨_, rfl⟩
  have HQ := Lib.hid hqq
  obtain ⟨bv, hbv⟩ : ∃ bv, (q == 0) = bv := ⟨_, rfl⟩
  have HV := Lib.hid (show decide ((xl, xs) = (y, ys)) = bv by
    rw [← hbv, hqq]
    by_cases h : (xl, xs) = (y, ys)
    · rw [decide_eq_true h, cmpRi_zero.2 h]; rfl
    · rw [decide_eq_false h]
      exact (beq_eq_false_iff_ne.2 fun e => h (cmpRi_zero.1 e)).symm)
  have HB := Lib.hid ((Below.refl w.heap.size w).al (.cells #[.int .i64 xl, .slice xA xn xc] 97))
  have H1 := Lib.hid (e2.al (.cells #[.int .i64 xl, .slice xA xn xc] 97))
  have H2 := Lib.hid (h2.al (.cells #[.int .i64 xl, .slice xA xn xc] 97))
  have Br := hr.al (.cells #[.int .i64 xl, .slice xA xn xc] 97)
  clear e2 h2 hr hqq hn
  have cBr := Br.cell
  have fBr := Br.frozen
  have lBr := Br.lt
  dsimp only [riVal]
  go_enter Tryz.func132, Tryz.ntmps132
  go_wp2_with fail
  refine (compareI_c ok ok' xl y xA B xn xc m d xs ys _ H1.out H2.out hxn).mono ?_
  rintro e w' ⟨rfl, hb⟩
  rw [← HQ.out]
  have HF := Lib.hid (HB.out.via hb)
  clear hb
  go_wp2_with fail
  go_ret
  exact ⟨by rw [HV.out]; rfl, HF.out⟩
theorem dlt {a b : Int} (h : a < b) : decide (a < b) = true := decide_eq_true h
theorem dge {a b : Int} (h : ¬ a < b) : decide (a < b) = false := decide_eq_false h
theorem dle {a b : Int} (h : a ≤ b) : decide (a ≤ b) = true := decide_eq_true h
theorem dgt {a b : Int} (h : ¬ a ≤ b) : decide (a ≤ b) = false := decide_eq_false h
theorem chkL_step (T N : Int) (rs : List Ri) (k : Nat) {r : Ri} (hr : rs[k]? = some r) (h1 : 0 ≤ r.1 ∧ r.1 < N) (h2 : ¬ 4 < r.2.length) (h3 : ¬ (r.2.any fun s => !okSi T N s) = true) (h4 : ¬ r ∈ rs.take k) :
    chkL T N (rs.take k) (rs.drop k) = chkL T N (rs.take (k + 1)) (rs.drop (k + 1)) := by
  have hl := List.getElem?_eq_some_iff.1 hr
  rw [List.drop_eq_getElem_cons hl.1, hl.2, take_at hr]
  conv => lhs; unfold chkL
  rw [if_neg (by simpa using h1), if_neg h2, if_neg h3, if_neg h4]
set_option maxRecDepth 100000 in
set_option maxHeartbeats 8000000 in
theorem checkI_c (ok : Nat → Prop) (T N S : Int) (A : Option Addr) (n c : Nat) (rs : List Ri) (w : World) (hl : Sl RiE ok w A n c rs) :
    Calls Tryz.prog 81 #[.agg #[.int .i64 T, .int .i64 N, .int .i64 S, .slice A n c]] w (IntO w (chkG T N S rs)) := by
  have hlen := hl.len
  have B0 := Blk.new w 24 #[.int .i64 T, .int .i64 N, .int .i64 S, .slice A n c]
  have HB0 := Lib.hid B0
  have HL := Lib.hid (hl.al (.cells #[.int .i64 T, .int .i64 N, .int .i64 S, .slice A n c] 24))
  have HB := Lib.hid ((Below.refl w.heap.size w).al (.cells #[.int .i64 T, .int .i64 N, .int .i64 S, .slice A n c] 24))
  have HLEN := Lib.hid hlen
  clear hl hlen B0
  by_cases hall : 1 ≤ T ∧ T ≤ 8 ∧ 1 ≤ N ∧ N ≤ 10 ∧ 0 ≤ S ∧ S < N
  · obtain ⟨a1, a2, a3, a4, a5, a6⟩ := hall
    have e1 : decide (T < 1) = false := dge (by omega)
    have e2 : decide ((8 : Int) < T) = false := dge (by omega)
    have e3 : decide (N < 1) = false := dge (by omega)
    have e4 : decide ((10 : Int) < N) = false := dge (by omega)
    have e5 : decide (S < 0) = false := dge (by omega)
    have e6 : decide (N ≤ S) = false := dgt (by omega)
    by_cases hn : 32 < n
    · have HV := Lib.hid (show chkG T N S rs = 2 by
        unfold chkG; rw [if_neg (by simp; omega), if_pos (by rw [HLEN.out]; exact hn)])
      have e7 : decide ((32 : Int) < (n : Int)) = true := dlt (by omega)
      go_enter Tryz.func81, Tryz.ntmps81
      go_wp2_with fail
      go_ret
      exact ⟨by rw [HV.out]; rfl, HB.out⟩
    · have HV := Lib.hid (show chkG T N S rs = chkL T N [] rs by
        unfold chkG; rw [if_neg (by simp; omega), if_neg (by rw [HLEN.out]; exact hn)])
      go_enter Tryz.func81, Tryz.ntmps81
      go_wp2_with fail
      clear e1 e2 e3 e4 e5 e6
      generalize hW : w.alloc (.cells #[.int .i64 T, .int .i64 N, .int .i64 S, .slice A n c] 24) = W at *
      clear hW
      go_loopw [42] (fun i wr => ∃ k : Nat, i = .int .i64 k ∧ k ≤ n ∧ Hid (chkL T N [] rs = chkL T N (rs.take k) (rs.drop k)) ∧ Hid (∀ r ∈ rs.take k, r.2.length ≤ 4) ∧ Hid (Below W.heap.size W wr)) (fun i _ => n - (intOf i).toNat)
      case atStart => exact ⟨0, rfl, Nat.zero_le _, Lib.hid (by simp), Lib.hid (fun r hr => by simp at hr), Lib.hid (Below.refl _ _)⟩
      case round =>
        obtain ⟨k, rfl, hk, HC, H4, HR⟩ := hrel
        by_cases hlt : k < n
        · as_aux_lemma =>
          obtain ⟨b1, o1, ⟨sl, sA, sn, sc⟩, ⟨x, xs⟩, rfl, -, hbb, hy, ⟨hx1, hx2⟩, hc⟩ := (HL.out.via HR.out).at_ hlt
          simp only at hx1 hx2
          obtain rfl : sl = x := hx1
          have c0 := hc 0 _ rfl
          have c1 := hc 1 _ rfl
          simp only [RiE, Nat.add_zero] at c0 c1
          have i0 : (0 : Int) ≤ (k : Int) := by omega
          have i1 : (k : Int) < (n : Int) := by omega
          have hxl := hx2.len
          have HY := Lib.hid hy
          have HX := Lib.hid (hx2.al (.cells #[.int .i64 sl, .slice sA sn sc] 97))
          have HR2 := Lib.hid (HR.out.al (.cells #[.int .i64 sl, .slice sA sn sc] 97))
          have Bk := Blk.new wr 97 #[.int .i64 sl, .slice sA sn sc]
          have Bg := (HB0.out.via HR.out).al (.cells #[.int .i64 sl, .slice sA sn sc] 97)
          have HXL := Lib.hid hxl
          have HD := Lib.hid (show chkL T N [] rs = chkL T N (rs.take k) ((sl, xs) :: rs.drop (k + 1)) by
            have h := List.getElem?_eq_some_iff.1 hy
            rw [HC.out, List.drop_eq_getElem_cons h.1, h.2])
          clear hc hy hx2 hbb hxl
          go_upto_region 8 with fail
          clear c0 c1
          generalize wr.alloc (.cells #[.int .i64 sl, .slice sA sn sc] 97) = W2 at *
          generalize wr.heap.size = bk at *
          have HBk := Lib.hid Bk
          have HBg := Lib.hid Bg
          by_cases k1 : sl < 0
          · have e1 : decide (sl < 0) = true := dlt k1
            have HV2 := Lib.hid (show chkG T N S rs = 3 by rw [HV.out, HD.out]; unfold chkL; rw [if_pos (by simp; omega)])
            have cBk := Bk.cell
            have fBk := Bk.frozen
            have lBk := Bk.lt
            have cBg := Bg.cell
            have fBg := Bg.frozen
            have lBg := Bg.lt
            go_wp2_with fail
            go_ret
            exact ⟨by rw [HV2.out]; rfl, HB.out.via HR2.out⟩
          · have e1 : decide (sl < 0) = false := dge k1
            by_cases k2 : N ≤ sl
            · have e2 : decide (N ≤ sl) = true := dle k2
              have HV2 := Lib.hid (show chkG T N S rs = 3 by rw [HV.out, HD.out]; unfold chkL; rw [if_pos (by simp; omega)])
              have cBk := Bk.cell
              have fBk := Bk.frozen
              have lBk := Bk.lt
              have cBg := Bg.cell
              have fBg := Bg.frozen
              have lBg := Bg.lt
              go_wp2_with fail
              go_ret
              exact ⟨by rw [HV2.out]; rfl, HB.out.via HR2.out⟩
            · have e2 : decide (N ≤ sl) = false := dgt k2
              by_cases k3 : 4 < sn
              · have e3 : decide ((4 : Int) < (sn : Int)) = true := dlt (by omega)
                have HV2 := Lib.hid (show chkG T N S rs = 2 by rw [HV.out, HD.out]; unfold chkL; rw [if_neg (by simp; omega), if_pos (by rw [HXL.out]; exact k3)])
                have cBk := Bk.cell
                have fBk := Bk.frozen
                have lBk := Bk.lt
                have cBg := Bg.cell
                have fBg := Bg.frozen
                have lBg := Bg.lt
                go_wp2_with fail
                go_ret
                exact ⟨by rw [HV2.out]; rfl, HB.out.via HR2.out⟩
              · have e3 : decide ((4 : Int) < (sn : Int)) = false := dge (by omega)
                have cBk := Bk.cell
                have fBk := Bk.frozen
                have lBk := Bk.lt
                have cBg := Bg.cell
                have fBg := Bg.frozen
                have lBg := Bg.lt
                go_wp2_with fail
                clear cBk fBk lBk cBg fBg lBg
                clear e1 e2 e3
                refine (conSi_c 130 (enters_c rfl rfl rfl) #[.pointer (some ⟨w.heap.size, 0, none⟩)] ok sA sn sc xs (fun s => !okSi T N s) W2 HX.out (by omega) ?_).mono ?_
                · intro w' s y hb' hy hrel
                  obtain rfl : s = y := hrel
                  exact check1I_c w.heap.size T N S (some ⟨b1, o1, none⟩) n c s w' (HBg.out.via hb')
                rintro e w3 ⟨rfl, hb⟩
                have HR3 := Lib.hid (HR2.out.via hb)
                have HX3 := Lib.hid (HX.out.via hb)
                have Bk := HBk.out.via hb
                have Bg := HBg.out.via hb
                have HBk := Lib.hid Bk
                clear hb HR2 HX HBg
                have j2 : (k : Int) ≤ (c : Int) := by have := HL.out.le; omega
                cases hany : xs.any fun s => !okSi T N s with
                | true =>
                  have HV2 := Lib.hid (show chkG T N S rs = 3 by rw [HV.out, HD.out]; unfold chkL; rw [if_neg (by simp; omega), if_neg (by rw [HXL.out]; exact k3), if_pos hany])
                  clear hany
                  have cBk := Bk.cell
                  have fBk := Bk.frozen
                  have lBk := Bk.lt
                  have cBg := Bg.cell
                  have fBg := Bg.frozen
                  have lBg := Bg.lt
                  go_wp2_with fail
                  go_ret
                  exact ⟨by rw [HV2.out]; rfl, HB.out.via HR3.out⟩
                | false =>
                  have HAN := Lib.hid hany
                  clear hany
                  have cBk := Bk.cell
                  have fBk := Bk.frozen
                  have lBk := Bk.lt
                  have cBg := Bg.cell
                  have fBg := Bg.frozen
                  have lBg := Bg.lt
                  go_wp2_with fail
                  clear cBk fBk lBk cBg fBg lBg
                  refine (conRi_c 132 (enters_c rfl rfl rfl) #[.pointer (some ⟨bk, 0, none⟩)] ok (some ⟨b1, o1, none⟩) k c (rs.take k) (fun r => decide (r = (sl, xs))) w3 ((HL.out.via HR3.out).take (by omega)) (by omega) ?_).mono ?_
                  · intro w' r y hb' hy hrel
                    exact check2I_c ok ok bk sl sA sn sc r y xs w' hrel (HBk.out.via hb') (HX3.out.via hb') (Nat.le_trans (H4.out y hy) (by omega))
                  rintro e w4 ⟨rfl, hb⟩
                  have HR4 := Lib.hid (HR3.out.via hb)
                  clear hb
                  by_cases hmem : (sl, xs) ∈ rs.take k
                  · have hq : ((rs.take k).any fun r => decide (r = (sl, xs))) = true := List.any_eq_true.2 ⟨_, hmem, by simp⟩
                    rw [hq]
                    have HV2 := Lib.hid (show chkG T N S rs = 6 by rw [HV.out, HD.out]; unfold chkL; rw [if_neg (by simp; omega), if_neg (by rw [HXL.out]; exact k3), if_neg (by rw [HAN.out]; simp), if_pos hmem])
                    clear hq hmem
                    go_wp2_with fail
                    go_ret
                    exact ⟨by rw [HV2.out]; rfl, HB.out.via HR4.out⟩
                  · have hq : ((rs.take k).any fun r => decide (r = (sl, xs))) = false := List.any_eq_false.2 fun r hr => by
                      simp only [decide_eq_true_eq]; exact fun e => hmem (e ▸ hr)
                    rw [hq]
                    have HC2 := Lib.hid (HC.out.trans (chkL_step T N rs k HY.out ⟨by simp only; omega, by simp only; omega⟩ (by simp only; rw [HXL.out]; exact k3) (by rw [HAN.out]; simp) hmem))
                    have H42 := Lib.hid (show ∀ r ∈ rs.take (k + 1), r.2.length ≤ 4 from fun r hr => by
                      rw [take_at HY.out, List.mem_append, List.mem_singleton] at hr
                      rcases hr with hr | rfl
                      · exact H4.out r hr
                      · simp only; rw [HXL.out]; omega)
                    clear hq hmem
                    go_wp2_with fail
                    exact ⟨⟨k + 1, by go_num, by omega, HC2, H42, HR4⟩, by simp [intOf]; omega⟩
        · obtain rfl : k = n := by omega
          have HV2 := Lib.hid (show chkG T N S rs = 0 by
            rw [HV.out, HC.out, List.drop_of_length_le (by rw [HLEN.out]; exact Nat.le_refl _)]; rfl)
          go_wp2_with fail
          go_ret
          exact ⟨by rw [HV2.out]; rfl, HB.out.via HR.out⟩
  · have HV := Lib.hid (show chkG T N S rs = 1 by unfold chkG; rw [if_pos hall])
    by_cases a1 : T < 1
    · have e1 : decide (T < 1) = true := dlt a1
      go_enter Tryz.func81, Tryz.ntmps81
      go_wp2_with fail
      go_ret
      exact ⟨by rw [HV.out]; rfl, HB.out⟩
    · have e1 : decide (T < 1) = false := dge a1
      by_cases a2 : 8 < T
      · have e2 : decide ((8 : Int) < T) = true := dlt a2
        go_enter Tryz.func81, Tryz.ntmps81
        go_wp2_with fail
        go_ret
        exact ⟨by rw [HV.out]; rfl, HB.out⟩
      · have e2 : decide ((8 : Int) < T) = false := dge a2
        by_cases a3 : N < 1
        · have e3 : decide (N < 1) = true := dlt a3
          go_enter Tryz.func81, Tryz.ntmps81
          go_wp2_with fail
          go_ret
          exact ⟨by rw [HV.out]; rfl, HB.out⟩
        · have e3 : decide (N < 1) = false := dge a3
          by_cases a4 : 10 < N
          · have e4 : decide ((10 : Int) < N) = true := dlt a4
            go_enter Tryz.func81, Tryz.ntmps81
            go_wp2_with fail
            go_ret
            exact ⟨by rw [HV.out]; rfl, HB.out⟩
          · have e4 : decide ((10 : Int) < N) = false := dge a4
            by_cases a5 : S < 0
            · have e5 : decide (S < 0) = true := dlt a5
              go_enter Tryz.func81, Tryz.ntmps81
              go_wp2_with fail
              go_ret
              exact ⟨by rw [HV.out]; rfl, HB.out⟩
            · have e5 : decide (S < 0) = false := dge a5
              have e6 : decide (N ≤ S) = true := dle (by omega)
              go_enter Tryz.func81, Tryz.ntmps81
              go_wp2_with fail
              go_ret
              exact ⟨by rw [HV.out]; rfl, HB.out⟩
end Go.Proofs.YtbfcnfgkccgbiaaGreatDoor

