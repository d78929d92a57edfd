/- Texts AF, OH, OI, laid together. -/
import Derived.Test.YtfmnmgnhanogmaaDoorQ6
import Derived.Test.YtfmnmgnhanogmaaDoorQ22
import Derived.Test.YtfmnmgnhanogmaaDoorQ9
import Derived.Test.YtfmnmgnhanogmaaDoorQ10
import Derived.Test.YtfmnmgnhanogmaaDoorQ17
import Derived.Test.YtfmnmgnhanogmaaDoorQ26
import Derived.Deep.RegionWith



namespace Go.Proofs.YtfmnmgnhanogmaaDoor
open Go.RowKit

set_option maxRecDepth 100000 in
set_option maxHeartbeats 2000000 in
theorem mcheck_c (ok : Nat → Prop) (g : Gr) (Ag : Option Addr) (ng cg : Nat) (A : Option Addr) (n c : Nat) (xs : List Int) (w : World) (hg : GrOk g) (hl : Sl RuE ok w Ag ng cg g.rules) (hx : Ints w A n c xs) (hn : n ≤ 12) (hxt : ∀ x ∈ xs, 0 ≤ x ∧ x < (g.terms : Int)) :
    Calls Tryd.prog 56 #[grVal g Ag ng cg, .slice A n c] w (IntO w 0) := by
  have hB := ((Below.refl w.heap.size w).al (.cells #[.int .i64 (g.terms : Int), .int .i64 (g.nons : Int), .int .i64 (g.start : Int), .slice Ag ng cg] 24))
  have HB := Lib.hid hB
  have HGO := Lib.hid hg
  have HL := Lib.hid (hl.via hB)
  have HX := Lib.hid (hx.keep hB (Nat.le_refl _))
  have HXT := Lib.hid hxt
  have B0 := Blk.new w 24 #[.int .i64 (g.terms : Int), .int .i64 (g.nons : Int), .int .i64 (g.start : Int), .slice Ag ng cg]
  have HB0 := Lib.hid B0
  simp only [grVal]
  clear hg hl hx hxt hB
  go_enter Tryd.func56, Tryd.ntmps56
  have cB0 := B0.cell
  have fB0 := B0.frozen
  have lB0 := B0.lt
  go_wp2_with fail
  clear cB0 fB0 lB0
  generalize w.alloc (.cells #[.int .i64 (g.terms : Int), .int .i64 (g.nons : Int), .int .i64 (g.start : Int), .slice Ag ng cg] 24) = W at *
  refine (check_c ok g Ag ng cg W HGO.out HL.out).mono ?_
  rintro e w1 ⟨rfl, hb⟩
  have HX1 := Lib.hid (HX.out.keep hb (Nat.le_refl _))
  have HB1 := Lib.hid (HB.out.via hb)
  have Bg := HB0.out.via hb
  clear hb HX HB HB0 B0
  have cBg := Bg.cell
  have fBg := Bg.frozen
  have lBg := Bg.lt
  go_wp2_with fail
  clear cBg fBg lBg
  refine (word_ok g Ag ng cg A n c 12 xs w1 HX1.out hn (by omega) HXT.out).mono ?_
  rintro e w2 ⟨rfl, hb⟩
  have HB2 := Lib.hid (HB1.out.via hb)
  clear hb
  go_wp2_with fail
  go_ret
  exact ⟨rfl, HB2.out⟩
def AccP (w : World) (g : Gr) (xs : List Int) (e : Ending) (w' : World) : Prop :=
  ∃ b : Bool, e = .returned (.tuple #[.bool b, .int .i64 0]) ∧ (b = true ↔ Dv g.rules [(false, g.start)] xs) ∧ Below w.heap.size w w'
theorem bit_of (x n : Nat) (h : x < 8192) : ∃ (Q R : Nat), (x : Int) / 2 ^ n = (Q : Int) ∧ bits .and .u32 (Q : Int) 1 = (R : Int) ∧ ((R : Int) == 1) = x.testBit n := by
  refine ⟨x / 2 ^ n, (x / 2 ^ n) &&& 1, by simp, ?_, ?_⟩
  · have h1 : x / 2 ^ n ≤ x := Nat.div_le_self _ _
    exact u32_and_nat _ 1 (by omega) (by omega)
  · rw [Nat.and_one_is_mod, Nat.testBit_eq_decide_div_mod_eq]
    generalize x / 2 ^ n = y
    by_cases h : y % 2 = 1
    · rw [h]; rfl
    · have h0 : y % 2 = 0 := by omega
      rw [h0]; rfl
set_option maxRecDepth 100000 in
set_option maxHeartbeats 4000000 in
theorem accepts_c (ok : Nat → Prop) (g : Gr) (Ag : Option Addr) (ng cg : Nat) (A : Option Addr) (n c : Nat) (xs : List Int) (w : World) (hg : GrOk g) (hl : Sl RuE ok w Ag ng cg g.rules) (hx : Ints w A n c xs) (hn : n ≤ 12) (hxt : ∀ x ∈ xs, 0 ≤ x ∧ x < (g.terms : Int)) (hT : TabW w) :
    Calls Tryd.prog 24 #[grVal g Ag ng cg, .slice A n c] w (AccP w g xs) := by
  have hxl := hx.len
  have HXL := Lib.hid hxl
  have hB := ((Below.refl w.heap.size w).al (.cells #[.int .i64 (g.terms : Int), .int .i64 (g.nons : Int), .int .i64 (g.start : Int), .slice Ag ng cg] 24))
  have HB := Lib.hid hB
  have HGO := Lib.hid hg
  have HL := Lib.hid (hl.via hB)
  have HX := Lib.hid (hx.keep hB (Nat.le_refl _))
  have HT := Lib.hid (hT.via hB)
  have HXT := Lib.hid hxt
  have B0 := Blk.new w 24 #[.int .i64 (g.terms : Int), .int .i64 (g.nons : Int), .int .i64 (g.start : Int), .slice Ag ng cg]
  have HB0 := Lib.hid B0
  have hst := hg.ok.start
  simp only [grVal]
  clear hg hl hx hxt hB hT hxl
  go_enter Tryd.func24, Tryd.ntmps24
  have cB0 := B0.cell
  have fB0 := B0.frozen
  have lB0 := B0.lt
  go_wp2_with fail
  clear cB0 fB0 lB0
  generalize w.alloc (.cells #[.int .i64 (g.terms : Int), .int .i64 (g.nons : Int), .int .i64 (g.start : Int), .slice Ag ng cg] 24) = W at *
  refine (mcheck_c ok g Ag ng cg A n c xs W HGO.out HL.out HX.out hn HXT.out).mono ?_
  rintro e w1 ⟨rfl, hb⟩
  have HL1 := Lib.hid (HL.out.via hb)
  have HX1 := Lib.hid (HX.out.keep hb (Nat.le_refl _))
  have HT1 := Lib.hid (HT.out.via hb)
  have HB1 := Lib.hid (HB.out.via hb)
  have Bg := HB0.out.via hb
  have HBG := Lib.hid Bg
  clear hb HX HB HB0 B0 HL HT
  go_upto_region 4 with fail
  have FE := Lib.hid (show ∀ w', Below w1.heap.size w1 w' → Calls Tryd.prog 26 #[.agg #[.int .i64 (g.terms : Int), .int .i64 (g.nons : Int), .int .i64 (g.start : Int), .slice Ag ng cg], .slice A n c] w' (EndsP w' g xs) from fun w' hb => by
    have := ends_c ok g Ag ng cg A n c xs w' HGO.out (HL1.out.via hb) (HX1.out.keep hb (Nat.le_refl _)) hn (HT1.out.via hb)
    simpa only [grVal] using this)
  have g0 : (0 : Int) ≤ (g.start : Int) := by omega
  have g1 : (g.start : Int) < (g.nons : Int) := by omega
  have g2 : (0 : Int) < (n : Int) + 1 := by omega
  have hb0 := (Below.refl w1.heap.size w1).drew
  have cBd : ∀ i, w1.drew.cell? ⟨w.heap.size, i, none⟩ = #[.int .i64 (g.terms : Int), .int .i64 (g.nons : Int), .int .i64 (g.start : Int), .slice Ag ng cg][i]? := (Bg.via hb0).cell
  clear Bg
  go_region_with (go_at_call 26; refine (FE.out _ (by assumption)).mono ?_; rintro ee wn ⟨ob, rb, E, rfl, her, hse, hfx, hbn⟩; have hbm : Below w1.heap.size w1 wn := Below.via (by assumption) hbn; have t1 := her.cell1 hst; have t2 := her.cell2 hst (Nat.zero_le _); have cBn := (HBG.out.via hbm).cell; have HSE := Lib.hid hse; have HFX := Lib.hid hfx; rw [HXL.out] at t1; clear hse hfx her hbn; obtain ⟨Q, R, q1, q2, q3⟩ := bit_of (E g.start 0) n (by have := HSE.out.lt g.start 0; rw [HXL.out] at this; have := pow13 hn; omega); have HIF := Lib.hid (show (E g.start 0).testBit n = true ↔ Dv g.rules [(false, g.start)] xs from (by have := ends_iff HSE.out HFX.out (by rw [HXL.out]; omega) g.start; rwa [HXL.out] at this)); have HBF := Lib.hid (HB1.out.via hbm); generalize (E g.start 0).testBit n = bb at *)
  all_goals
    go_wp2_with fail
    go_ret2
    exact ⟨bb, rfl, HIF.out, HBF.out⟩
end Go.Proofs.YtfmnmgnhanogmaaDoor







namespace Go.Proofs.YtfmnmgnhanogmaaDoor
open Go.RowKit

/-- the error of a grammar, then that of a word -/
def chkB (T N S : Int) (rs : List Ri) (xs : List Int) : Int := if chkG T N S rs = 0 then chkW T 12 xs else chkG T N S rs
set_option maxRecDepth 100000 in
theorem mcheckB_c (ok : Nat → Prop) (T N S : Int) (A : Option Addr) (n c : Nat) (rs : List Ri) (wA : Option Addr) (wn wc : Nat) (xs : List Int) (w : World) (hl : Sl RiE ok w A n c rs) (hx : Ints w wA wn wc xs) :
    Calls Tryd.prog 56 #[.agg #[.int .i64 T, .int .i64 N, .int .i64 S, .slice A n c], .slice wA wn wc] w (IntO w (chkB T N S rs xs)) := by
  obtain ⟨q, hq⟩ : ∃ q, chkG T N S rs = q := ⟨_, rfl⟩
  have B0 := Blk.new w 24 #[.int .i64 T, .int .i64 N, .int .i64 S, .slice A n c]
  have HB := Lib.hid ((Below.refl w.heap.size w).al (.cells #[.int .i64 T, .int .i64 N, .int .i64 S, .slice A n c] 24))
  have HL := Lib.hid (hl.al (.cells #[.int .i64 T, .int .i64 N, .int .i64 S, .slice A n c] 24))
  have HX := Lib.hid (hx.alloc (.cells #[.int .i64 T, .int .i64 N, .int .i64 S, .slice A n c] 24))
  have HB0 := Lib.hid B0
  have HQ := Lib.hid hq
  clear hl hx hq
  go_enter Tryd.func56, Tryd.ntmps56
  have cB0 := B0.cell
  have fB0 := B0.frozen
  have lB0 := B0.lt
  go_wp2_with fail
  clear cB0 fB0 lB0
  generalize w.alloc (.cells #[.int .i64 T, .int .i64 N, .int .i64 S, .slice A n c] 24) = W at *
  have hc := checkI_c ok T N S A n c rs W HL.out
  rw [HQ.out] at hc
  refine hc.mono ?_
  clear hc
  rintro e w1 ⟨rfl, hb⟩
  have HB1 := Lib.hid (HB.out.via hb)
  have HX1 := Lib.hid (HX.out.keep hb (Nat.le_refl _))
  have B1 := HB0.out.via hb
  clear hb B0 HB HX HB0
  by_cases h0 : q = 0
  · subst h0
    have HT := Lib.hid (show 1 ≤ T ∧ T ≤ 8 from by
      obtain ⟨g, hg, rfl, -⟩ := chkG_ok HQ.out
      have := hg.ok.terms; omega)
    have HV := Lib.hid (show chkB T N S rs xs = chkW T 12 xs by unfold chkB; rw [if_pos HQ.out])
    have cB1 := B1.cell
    have fB1 := B1.frozen
    have lB1 := B1.lt
    go_wp2_with fail
    clear cB1 fB1 lB1
    refine (wordI_c T N S HT.out A n c wA wn wc 12 xs w1 HX1.out (by omega)).mono ?_
    rintro e w2 ⟨rfl, hb⟩
    have HF := Lib.hid (HB1.out.via hb)
    clear hb
    go_wp2_with fail
    go_ret
    exact ⟨by rw [HV.out]; rfl, HF.out⟩
  · have HV := Lib.hid (show chkB T N S rs xs = q by unfold chkB; rw [if_neg (by rw [HQ.out]; exact h0)]; exact HQ.out)
    go_wp2_with fail
    go_ret
    exact ⟨by rw [HV.out]; rfl, HB1.out⟩
set_option maxRecDepth 100000 in
theorem accepts_e (ok : Nat → Prop) (T N S : Int) (A : Option Addr) (n c : Nat) (rs : List Ri) (wA : Option Addr) (wn wc : Nat) (xs : List Int) (w : World) (hl : Sl RiE ok w A n c rs) (hx : Ints w wA wn wc xs) (q : Int) (hq : chkB T N S rs xs = q) (hbad : q ≠ 0) :
    Calls Tryd.prog 24 #[.agg #[.int .i64 T, .int .i64 N, .int .i64 S, .slice A n c], .slice wA wn wc] w fun e w' => e = .returned (.tuple #[.bool false, .int .i64 q]) ∧ Below w.heap.size w w' := by
  have B0 := Blk.new w 24 #[.int .i64 T, .int .i64 N, .int .i64 S, .slice A n c]
  have HB := Lib.hid ((Below.refl w.heap.size w).al (.cells #[.int .i64 T, .int .i64 N, .int .i64 S, .slice A n c] 24))
  have HL := Lib.hid (hl.al (.cells #[.int .i64 T, .int .i64 N, .int .i64 S, .slice A n c] 24))
  have HX := Lib.hid (hx.alloc (.cells #[.int .i64 T, .int .i64 N, .int .i64 S, .slice A n c] 24))
  have HQ := Lib.hid hq
  clear hl hx hq
  go_enter Tryd.func24, Tryd.ntmps24
  have cB0 := B0.cell
  have fB0 := B0.frozen
  have lB0 := B0.lt
  go_wp2_with fail
  clear cB0 fB0 lB0
  generalize w.alloc (.cells #[.int .i64 T, .int .i64 N, .int .i64 S, .slice A n c] 24) = W at *
  have hc := mcheckB_c ok T N S A n c rs wA wn wc xs W HL.out HX.out
  rw [HQ.out] at hc
  refine hc.mono ?_
  clear hc
  rintro e w1 ⟨rfl, hb⟩
  have HB1 := Lib.hid (HB.out.via hb)
  clear hb B0 HB
  go_wp2_with fail
  go_ret2
  exact ⟨rfl, HB1.out⟩
set_option maxRecDepth 100000 in
set_option maxHeartbeats 4000000 in
theorem copyN_n (N : Nat) : ∀ (ok : Nat → Prop) (v : TrV) (t : Tr) (w : World), TreeR ok w v t → t.size ≤ N → t.Nrw →
    Calls Tryd.prog 27 #[trVal v] w (CopyP w t) := by
  induction N with
  | zero => intro ok v t w _ h; have := t.size_pos; omega
  | succ N ih =>
    intro ok v t w h hN hM
    obtain ⟨a, b, A, n, c⟩ := v
    obtain ⟨h1, h2, h3⟩ := h.parts
    simp only at h1 h2 h3
    subst h1 h2
    simp only [trVal]
    have H3 := Lib.hid h3
    have hlen := hM.kids.1
    rw [h3.len] at hlen
    have HNW := Lib.hid hM
    clear hM
    clear h h3
    go_enter Tryd.func27, Tryd.ntmps27
    go_wp2_with fail
    go_loopw [14] (fun i wr => ∃ (k : Nat) (v : Value), i = .int .i64 k ∧ k ≤ n ∧ CpRel w t k v wr) (fun i _ => n - (intOf i).toNat)
    case atStart =>
      refine ⟨0, _, rfl, Nat.zero_le _, ?_, ?_, Own.nil _ _, ?_, ?_⟩
      · have := (Blk.new (w.alloc (.cells #[.int .i64 t.rl, .int .i64 t.tm, .slice A n c] 34)) 34 #[.int .i64 0, .int .i64 0, .slice none 0 0]).al (.cells #[.int .i64 t.rl, .int .i64 t.tm, .slice none 0 0] 34)
        simpa using this
      · have := (Blk.new ((w.alloc (.cells #[.int .i64 t.rl, .int .i64 t.tm, .slice A n c] 34)).alloc (.cells #[.int .i64 0, .int .i64 0, .slice none 0 0] 34)) 34 #[.int .i64 t.rl, .int .i64 t.tm, .slice none 0 0])
        simpa using this
      · exact (((Below.refl _ _).al _).al _).al _
      · simp
    case round =>
      obtain ⟨k, v, rfl, hk, hr⟩ := hrel
      obtain ⟨Av, cv, rfl, -⟩ := hr.own.form
      by_cases hlt : k < n
      · obtain ⟨b, off, x, y, rfl, -, hb, hy, hxy, hc⟩ := H3.out.at_ hlt
        have hxy' : TreeR ok w x y := hxy
        have c0 := (hr.bel.cell (p := ⟨b, off + k * 3, none⟩) hb).trans (hc 0 _ rfl)
        have c1 := (hr.bel.cell (p := ⟨b, off + k * 3 + 1, none⟩) hb).trans (hc 1 _ rfl)
        have c2 := (hr.bel.cell (p := ⟨b, off + k * 3 + 2, none⟩) hb).trans (hc 2 _ rfl)
        have i0 : (0 : Int) ≤ (k : Int) := by omega
        have i1 : (k : Int) < (n : Int) := by omega
        have hsy : y.size ≤ N := by have := Tr.size_kid (List.mem_of_getElem? hy); omega
        have hsy2 : y.Nrw := HNW.out.kids.2 y (List.mem_of_getElem? hy)
        have HY := Lib.hid hy
        obtain ⟨xa, xb, xA, xn, xc⟩ := x
        simp only at c0 c1 c2
        have hT := (hxy'.agr (Agr.below hr.bel)).al (.cells #[.int .i64 xa, .int .i64 xb, .slice xA xn xc] 34)
        have HT := Lib.hid hT
        have HR := Lib.hid hr
        have Bk := Blk.new wr 34 #[.int .i64 xa, .int .i64 xb, .slice xA xn xc]
        have Bo := hr.b2.al (.cells #[.int .i64 xa, .int .i64 xb, .slice xA xn xc] 34)
        have hsz := hr.size
        have HR := Lib.hid (hr.via ((Below.refl wr.heap.size wr).alloc (Nat.le_refl _) (.cells #[.int .i64 xa, .int .i64 xb, .slice xA xn xc] 34)))
        clear hc hy hxy hxy' hr hT hb
        go_wp2_with fail
        clear c0 c1 c2
        generalize wr.alloc (.cells #[.int .i64 xa, .int .i64 xb, .slice xA xn xc] 34) = W at *
        generalize wr.heap.size = bk at *
        have cBk := Bk.cell
        have fBk := Bk.frozen
        have lBk := Bk.lt
        have cBo := Bo.cell
        have fBo := Bo.frozen
        have lBo := Bo.lt
        go_region_law (first
          | (go_simp; go_at_call 27; refine (ih ok (xa, xb, xA, xn, xc) y W.drew HT.out.dr hsy hsy2).mono ?_; rintro e w' ⟨v2, rfl, hT2, hb2⟩; have cP := (Bo.dr.via hb2).cell; have lP := (Bo.dr.via hb2).lt; dsimp only [trVal])
          | (have HA := (HR.out.via ((Below.refl W.heap.size W).drew)).via hb2
             have HB := HA.via ((Below.refl w'.heap.size w').alloc (Nat.le_refl _) (.cells #[.int .i64 v2.1, .int .i64 v2.2.1, .slice v2.2.2.1 v2.2.2.2.1 v2.2.2.2.2] 34))
             refine step_append_tr _ rfl (.tmp 19) (.tmp 22) rfl (fun b => w.heap.size + 3 ≤ b) (w.heap.size + 3) (.slice Av k cv) k (t.kids.take k) rfl HB.own w'.heap.size v2 y rfl (Blk.new w' 34 #[.int .i64 v2.1, .int .i64 v2.2.1, .slice v2.2.2.1 v2.2.2.2.1 v2.2.2.2.2]) ((hT2.al _).mono fun b _ hb => ⟨Nat.le_trans HR.out.size hb, fun e => Nat.lt_irrefl b (Nat.lt_of_lt_of_le (HR.out.own.lt b e.symm).2 hb)⟩) (by omega) HB.size ?_
             intro Av1 cv1 w1 ho1 hg1 hat1
             have B2g := HB.b2.grown hg1 (fun e => by have := (HB.own.lt _ e.symm).1; omega)
             have c2g := B2g.cell
             have f2g := B2g.frozen))
        all_goals
          have HP := Lib.hid (CpRel.push HB HY.out ho1 hg1)
          clear HA HB
          go_wp2_with fail
          exact ⟨⟨k + 1, _, by go_num, by omega, HP.out⟩, by simp [intOf]; omega⟩
      · have hk' : k = n := by omega
        subst hk'
        have B1 := hr.b1
        have B2 := hr.b2
        have HR := Lib.hid hr
        clear hr
        have cB1 := B1.cell
        have fB1 := B1.frozen
        have lB1 := B1.lt
        have cB2 := B2.cell
        have fB2 := B2.frozen
        have lB2 := B2.lt
        go_wp2_with fail
        refine bodyPost_ret (v := trVal (t.rl, t.tm, Av, k, cv)) (by simp [results, Tryd.results27, go_sem, trVal, cB1]) rfl ⟨_, rfl, ?_, ?_⟩
        · have ho := ((HR.out.own.setCell (p := ⟨w.heap.size + 1, 0, none⟩) (.int .i64 t.rl) (fun b hb => by show b ≠ w.heap.size + 1; omega) (by show w.heap.size + 1 < _; omega)).setCell (p := ⟨w.heap.size + 1, 1, none⟩) (.int .i64 t.tm) (fun b hb => by show b ≠ w.heap.size + 1; omega) (by show w.heap.size + 1 < _; omega)).setCell (p := ⟨w.heap.size + 1, 2, none⟩) (.slice Av k cv) (fun b hb => by show b ≠ w.heap.size + 1; omega) (by show w.heap.size + 1 < _; omega)
          have hs := ho.toSl (ok' := fun b => w.heap.size ≤ b) (fun b _ hb => by omega) (fun b hb => by omega)
          rw [List.take_of_length_le (by rw [H3.out.len]; omega)] at hs
          exact TreeR.of hs
        · exact ((HR.out.bel.setCell (by simp) _).setCell (by simp) _).setCell (by simp) _

theorem DrL.nrw {R : List Ru} {W : List Nat} (hR : ∀ v ∈ R, v.2.length ≤ 4) {l : List Sy} {i j : Nat} {ts : List Tr} (h : DrL R W l i j ts) : ∀ t ∈ ts, t.Nrw := by
  induction h with
  | nil k => intro t ht; exact absurd ht List.not_mem_nil
  | leaf a k j l ts hw h2 ih =>
    intro t ht
    rcases List.mem_cons.1 ht with rfl | ht
    · exact .leaf a
    · exact ih t ht
  | node n r k m j rhs l ks ts hr h1 h2 ih1 ih2 =>
    intro t ht
    rcases List.mem_cons.1 ht with rfl | ht
    · refine .node r ks ?_ ih1
      have h4 : rhs.length ≤ 4 := hR _ (List.mem_of_getElem? hr)
      rw [h1.len]; omega
    · exact ih2 t ht
end Go.Proofs.YtfmnmgnhanogmaaDoor






namespace Go.Proofs.YtfmnmgnhanogmaaDoor
open Go.RowKit

theorem gNd_c (n : Int) (w : World) : Calls Tryd.prog 29 #[.int .i64 n] w fun e w' => e = .returned (.agg #[.bool false, .int .i64 n]) ∧ Below w.heap.size w w' := by
  go_enter Tryd.func29, Tryd.ntmps29
  go_wp2_with fail
  exact bodyPost_ret (v := .agg #[.bool false, .int .i64 n]) (by simp [results, Tryd.results29, go_sem]) rfl ⟨rfl, (Below.refl _ _).al _⟩
set_option maxRecDepth 100000 in
set_option maxHeartbeats 4000000 in
theorem dparse_e (ok : Nat → Prop) (T N S : Int) (A : Option Addr) (n c : Nat) (rs : List Ri) (wA : Option Addr) (wn wc : Nat) (xs : List Int) (w : World) (hl : Sl RiE ok w A n c rs) (hx : Ints w wA wn wc xs) (q : Int) (hq : chkB T N S rs xs = q) (hbad : q ≠ 0) :
    Calls Tryd.prog 7 #[.agg #[.int .i64 T, .int .i64 N, .int .i64 S, .slice A n c], .slice wA wn wc] w fun e w' => e = .returned (.tuple #[trVal (0, 0, none, 0, 0), .int .i64 q]) ∧ Below w.heap.size w w' := by
  have BG := (Blk.new w 24 #[.int .i64 T, .int .i64 N, .int .i64 S, .slice A n c]).al (.cells #[.int .i64 0, .int .i64 0, .slice none 0 0] 34)
  have B4 := Blk.newAt (w.alloc (.cells #[.int .i64 T, .int .i64 N, .int .i64 S, .slice A n c] 24)) 34 #[.int .i64 0, .int .i64 0, .slice none 0 0] (w.heap.size + 1) (by simp)
  have HB := Lib.hid (((Below.refl w.heap.size w).al (.cells #[.int .i64 T, .int .i64 N, .int .i64 S, .slice A n c] 24)).al (.cells #[.int .i64 0, .int .i64 0, .slice none 0 0] 34))
  have HL := Lib.hid (hl.via HB.out)
  have HX := Lib.hid (hx.keep HB.out (Nat.le_refl _))
  have HQ := Lib.hid hq
  have HBAD := Lib.hid hbad
  have HB4 := Lib.hid B4
  clear hl hx hq B4
  go_enter Tryd.func7, Tryd.ntmps7
  have cBG := BG.cell
  have fBG := BG.frozen
  have lBG := BG.lt
  go_wp2_with fail
  clear cBG fBG lBG
  clear BG
  generalize (w.alloc (.cells #[.int .i64 T, .int .i64 N, .int .i64 S, .slice A n c] 24)).alloc (.cells #[.int .i64 0, .int .i64 0, .slice none 0 0] 34) = W at *
  refine (accepts_e ok T N S A n c rs wA wn wc xs W HL.out HX.out q HQ.out HBAD.out).mono ?_
  rintro e w1 ⟨rfl, hb⟩
  have HB1 := Lib.hid (HB.out.via hb)
  have B4 := HB4.out.via hb
  have hq1 : (q != 0) = true := bne_iff_ne.2 hbad
  clear hb HB HB4
  have cB4 := B4.cell
  have fB4 := B4.frozen
  have lB4 := B4.lt
  go_wp2_with fail
  refine bodyPost_ret (v := .tuple #[trVal (0, 0, none, 0, 0), .int .i64 q]) (by simp [results, Tryd.results7, go_sem, trVal, cB4]) rfl ⟨rfl, ?_⟩
  exact ((HB1.out.setCell (by simp) _).setCell (by simp) _).setCell (by simp) _
/-- what Parse returns: the first tree, or why there is none -/
def ParP (w : World) (g : Gr) (W : List Nat) (e : Ending) (w' : World) : Prop :=
  ∃ v t c, e = .returned (.tuple #[trVal v, .int .i64 c]) ∧ TreeR (fun b => w.heap.size ≤ b) w' v t ∧ Below w.heap.size w w' ∧
    ((loopB g = true ∧ c = 9 ∧ t = .node 0 []) ∨ (loopB g = false ∧ ¬ (∃ t, DrL g.rules W [(false, g.start)] 0 W.length [t]) ∧ c = 10 ∧ t = .node 0 []) ∨ (loopB g = false ∧ IsBest g.rules W ((false, g.start), 0, W.length) t ∧ c = 0))
set_option maxRecDepth 100000 in
set_option maxHeartbeats 8000000 in
theorem dparse_c (ok : Nat → Prop) (g : Gr) (Ag : Option Addr) (ng cg : Nat) (wA : Option Addr) (wc : Nat) (W : List Nat) (w : World) (hg : GrOk g) (hl : Sl RuE ok w Ag ng cg g.rules) (hx : Ints w wA W.length wc (intsN W)) (hW : ∀ a ∈ W, a < g.terms) (hn : W.length ≤ 12) (hT : TabW w) :
    Calls Tryd.prog 7 #[grVal g Ag ng cg, .slice wA W.length wc] w (ParP w g W) := by
  have BG := (Blk.new w 24 #[.int .i64 (g.terms : Int), .int .i64 (g.nons : Int), .int .i64 (g.start : Int), .slice Ag ng cg]).al (.cells #[.int .i64 0, .int .i64 0, .slice none 0 0] 34)
  have B4 := Blk.newAt (w.alloc (.cells #[.int .i64 (g.terms : Int), .int .i64 (g.nons : Int), .int .i64 (g.start : Int), .slice Ag ng cg] 24)) 34 #[.int .i64 0, .int .i64 0, .slice none 0 0] (w.heap.size + 1) (by simp)
  have HB := Lib.hid (((Below.refl w.heap.size w).al (.cells #[.int .i64 (g.terms : Int), .int .i64 (g.nons : Int), .int .i64 (g.start : Int), .slice Ag ng cg] 24)).al (.cells #[.int .i64 0, .int .i64 0, .slice none 0 0] 34))
  have HL := Lib.hid ((hl.mono (ok' := fun b => b < w.heap.size) fun b hb _ => hb).via HB.out)
  have HX := Lib.hid (hx.keep HB.out (Nat.le_refl _))
  have HT := Lib.hid (hT.via HB.out)
  have HGO := Lib.hid hg
  have HWT := Lib.hid hW
  have HB4 := Lib.hid B4
  have HBG := Lib.hid BG
  have hxl : (intsN W).length = W.length := wd_size W
  have HXT := Lib.hid (show ∀ x ∈ intsN W, 0 ≤ x ∧ x < (g.terms : Int) from fun x hx => by
    unfold intsN at hx
    obtain ⟨a, ha, rfl⟩ := List.mem_map.1 hx
    have := hW a ha
    show 0 ≤ ((a : Nat) : Int) ∧ ((a : Nat) : Int) < _
    omega)
  simp only [grVal]
  clear hl hx hT hg hW B4 hxl
  go_enter Tryd.func7, Tryd.ntmps7
  have cBG := BG.cell
  have fBG := BG.frozen
  have lBG := BG.lt
  go_wp2_with fail
  clear cBG fBG lBG
  clear BG
  have hsz : ((w.alloc (.cells #[.int .i64 (g.terms : Int), .int .i64 (g.nons : Int), .int .i64 (g.start : Int), .slice Ag ng cg] 24)).alloc (.cells #[.int .i64 0, .int .i64 0, .slice none 0 0] 34)).heap.size = w.heap.size + 2 := by simp
  generalize (w.alloc (.cells #[.int .i64 (g.terms : Int), .int .i64 (g.nons : Int), .int .i64 (g.start : Int), .slice Ag ng cg] 24)).alloc (.cells #[.int .i64 0, .int .i64 0, .slice none 0 0] 34) = W0 at *
  have HA := accepts_c (fun b => b < w.heap.size) g Ag ng cg wA W.length wc (intsN W) W0 HGO.out HL.out HX.out hn HXT.out HT.out
  simp only [grVal] at HA
  refine HA.mono ?_
  clear HA
  rintro e w1 ⟨acc, rfl, hacc, hb1⟩
  have HAC := Lib.hid hacc
  have HL1 := Lib.hid (HL.out.via hb1)
  have HX1 := Lib.hid (HX.out.keep hb1 (Nat.le_refl _))
  have HT1 := Lib.hid (HT.out.via hb1)
  have HB1 := Lib.hid (HB.out.via hb1)
  have HB41 := Lib.hid (HB4.out.via hb1)
  have HBG1 := Lib.hid (HBG.out.via hb1)
  have hs1 : w.heap.size + 2 ≤ w1.heap.size := by have := hb1.size; omega
  clear hacc hb1 HL HX HT HB HB4 HBG hsz
  have BG := HBG1.out
  have cBG := BG.cell
  have fBG := BG.frozen
  have lBG := BG.lt
  go_wp2_with fail
  clear cBG fBG lBG
  clear BG
  have HF := loops_c (fun b => b < w.heap.size) g Ag ng cg w1 HGO.out HL1.out
  simp only [grVal] at HF
  refine HF.mono ?_
  clear HF
  rintro e w2 ⟨rfl, hb2⟩
  have HL2 := Lib.hid (HL1.out.via hb2)
  have HX2 := Lib.hid (HX1.out.keep hb2 (Nat.le_refl _))
  have HT2 := Lib.hid (HT1.out.via hb2)
  have HB2 := Lib.hid (HB1.out.via hb2)
  have HB42 := Lib.hid (HB41.out.via hb2)
  have HBG2 := Lib.hid (HBG1.out.via hb2)
  have hs2 : w.heap.size + 2 ≤ w2.heap.size := by have := hb2.size; omega
  clear hb2 HL1 HX1 HT1 HB1 HB41 HBG1 hs1
  have HNO := Lib.hid (show ∀ c, TreeR (fun b => w.heap.size ≤ b) c (0, 0, none, 0, 0) (.node 0 []) from fun c => TreeR.mk 0 (Sl.nil 0))
  cases hlb : loopB g with
  | true =>
    have HLB := Lib.hid hlb
    have B4 := HB42.out
    clear hlb
    have cB4 := B4.cell
    have fB4 := B4.frozen
    have lB4 := B4.lt
    go_wp2_with fail
    refine bodyPost_ret (v := .tuple #[trVal (0, 0, none, 0, 0), .int .i64 9]) (by simp [results, Tryd.results7, go_sem, trVal, cB4]) rfl ⟨_, _, _, rfl, HNO.out _, ((HB2.out.setCell (by simp) _).setCell (by simp) _).setCell (by simp) _, Or.inl ⟨HLB.out, rfl, rfl⟩⟩
  | false =>
    have HLB := Lib.hid hlb
    clear hlb
    have HDV := Lib.hid (show acc = true ↔ ∃ t, DrL g.rules W [(false, g.start)] 0 W.length [t] from by
      rw [HAC.out, ← dvS_tree (k := ((false, g.start), 0, W.length)) (Nat.zero_le _)]
      unfold DvS
      simp only
      have hpa := part_all (intsN W)
      rw [wd_size] at hpa ⊢
      rw [hpa]
      exact ⟨fun h => ⟨Nat.zero_le _, Nat.le_refl _, h⟩, fun h => h.2.2⟩)
    cases acc with
    | false =>
      have B4 := HB42.out
      have cB4 := B4.cell
      have fB4 := B4.frozen
      have lB4 := B4.lt
      go_wp2_with fail
      refine bodyPost_ret (v := .tuple #[trVal (0, 0, none, 0, 0), .int .i64 10]) (by simp [results, Tryd.results7, go_sem, trVal, cB4]) rfl ⟨_, _, _, rfl, HNO.out _, ((HB2.out.setCell (by simp) _).setCell (by simp) _).setCell (by simp) _, Or.inr (Or.inl ⟨HLB.out, (fun h => by have := HDV.out.2 h; cases this), rfl, rfl⟩)⟩
    | true =>
      have HFD := Lib.hid (show ∀ E, SndE g.rules (intsN W) E → FixE g.rules (intsN W) E → FinD g W (dOf (intsN W) E) from fun E hs hf =>
        ⟨HGO.out, fun k => dOf_iff hs hf (by rw [wd_size]; omega) k, lefB_no (begD_lt HGO.out.ok) HLB.out, HWT.out, hn⟩)
      have hmm := @run_makeMap Tryd.prog
      have BG := HBG2.out
      have B4 := HB42.out
      have cBG := BG.cell
      have fBG := BG.frozen
      have lBG := BG.lt
      go_upto_region 8 with fail
      clear cBG fBG lBG
      have SO := Lib.hid (show ∀ w', Below w2.heap.size w2 w' → ((∀ i, w'.cell? ⟨w.heap.size, i, none⟩ = #[.int .i64 (g.terms : Int), .int .i64 (g.nons : Int), .int .i64 (g.start : Int), .slice Ag ng cg][i]?) ∧ Below w2.heap.size w2 w') from fun w' hb => ⟨(BG.via hb).cell, hb⟩)
      have HN := Lib.hid (show ∀ w', Below w2.heap.size w2 w' → Calls Tryd.prog 26 #[.agg #[.int .i64 (g.terms : Int), .int .i64 (g.nons : Int), .int .i64 (g.start : Int), .slice Ag ng cg], .slice wA W.length wc] w' (EndsP w' g (intsN W)) from fun w' hb => ends_c (fun b => b < w.heap.size) g Ag ng cg wA W.length wc (intsN W) w' HGO.out (HL2.out.via hb) (HX2.out.keep hb (Nat.le_refl _)) hn (HT2.out.via hb))
      clear B4 BG
      go_cut [8] (fun s8 wc' => ∃ wx bf bm ob rb E, wx = wc' ∧ s8 = .pointer (some ⟨bf, 0, none⟩) ∧ Below w2.heap.size w2 wx ∧ Blk wx bf 67 #[.int .i64 (g.terms : Int), .int .i64 (g.nons : Int), .int .i64 (g.start : Int), .slice Ag ng cg, .slice wA W.length wc, .slice (some ⟨ob, 0, none⟩) g.nons g.nons, .map (some bm)] ∧
        EnR wx ob g.nons (intsN W).length rb E ∧ SndE g.rules (intsN W) E ∧ FixE g.rules (intsN W) E ∧ MapK Tryd.prog 73 kyVal wx bm (fun _ => none) ∧ w2.heap.size ≤ bm)
      case first =>
        have hb0 := (Below.refl w2.heap.size w2).drew
        go_region_held3 (fun w' => (∀ i, w'.cell? ⟨w.heap.size, i, none⟩ = #[.int .i64 (g.terms : Int), .int .i64 (g.nons : Int), .int .i64 (g.start : Int), .slice Ag ng cg][i]?) ∧ Below w2.heap.size w2 w') (exact SO.out _ (by first | assumption | exact ((Below.refl w2.heap.size w2).al _).drew | exact Below.al (by assumption) _ | exact Below.al (Below.al (by assumption) _) _)) (first
          | (go_at_call 26; (with_reducible refine (HN.out ((w2.alloc (.map #[] 0)).drew) ((Below.refl w2.heap.size w2).al _).drew).mono ?_); rintro ee wn ⟨ob, rb, E, rfl, hE, hs, hf, hbn⟩; have hbm : Below w2.heap.size w2 wn := Below.via (((Below.refl w2.heap.size w2).al _).drew) hbn; have hmp := (MapK.made w2 Tryd.prog 73 kyVal).dr.via hbn)
          | (go_at_call 26; (with_reducible refine (HN.out _ (by assumption)).mono ?_); rintro ee wn ⟨ob, rb, E, rfl, hE, hs, hf, hbn⟩; have hbm : Below w2.heap.size w2 wn := Below.via (by assumption) hbn))
        all_goals go_wp2_with fail
        all_goals go_meet
        all_goals first
          | exact ⟨_, _, _, _, _, _, rfl, rfl, hbm.al _, Blk.new _ _ _, hE.via ((Below.refl wn.heap.size wn).al _), hs, hf, hmp.al _, Nat.le_refl _⟩
          | exact ⟨_, _, _, _, _, _, rfl, rfl, (hbm.al _).al _, Blk.newAt _ _ _ _ (by simp), (hE.via ((Below.refl wn.heap.size wn).al _)).via ((Below.refl _ _).al _), hs, hf, (MapK.made wn Tryd.prog 73 kyVal).al _, hbm.size⟩
      case rest =>
        obtain ⟨wx, bf, bm, ob, rb, E, rfl, rfl, hbx, hbf, hE, hsE, hfE, hmp, hbm⟩ := hcut
        clear hmm SO HN
        have hFD := HFD.out E hsE hfE
        have hev := hE.view
        have hsup := hsE.sup
        rw [wd_size] at hev hsup
        obtain ⟨D, hD⟩ : ∃ D, D = dOf (intsN W) E := ⟨_, rfl⟩
        rw [← hD] at hFD
        have HF := Lib.hid (show FdT wx bf bm g W D Ag ng cg wA wc ob 0 g.nons rb (fun _ => 0) (fun _ => W.length + 1) E from
          ⟨hFD, hbf, (HL2.out.via hbx).mono fun b _ hb => by have := HB2.out.size; omega, HX2.out.keep hbx (Nat.le_refl _), hev, HT2.out.via hbx, hsup, hD.symm, hmp.lt, by obtain ⟨es, ck, hm, -⟩ := hmp; exact ⟨es, ck, hm⟩⟩)
        have HS0 := Lib.hid (show FdS wx bm g W (fun _ => False) (fun _ => none) wx from ⟨fun _ _ _ => rfl, Nat.le_refl _, hmp.ext fun y => rfl, fun b h => h.elim, fun k b h => by cases h⟩)
        have HDR := Lib.hid (show D ((false, g.start), 0, W.length) = true from by
          obtain ⟨t, ht⟩ := HDV.out.1 trivial
          exact hFD.has (Nat.zero_le _) ht)
        have HOK := Lib.hid (show KyOk g W.length ((false, g.start), 0, W.length) from ⟨by have := HGO.out.ok.start; simpa [Gr.okSy] using this, Nat.zero_le _, Nat.le_refl _⟩)
        have HBX := Lib.hid (HB2.out.trans (hbx.mono HB2.out.size))
        have HB4x := Lib.hid (HB42.out.via hbx)
        have HBGx := Lib.hid (HBG2.out.via hbx)
        have hsx : w.heap.size + 2 ≤ wx.heap.size := by have := hbx.size; omega
        have hbmx : bm < wx.heap.size := hmp.lt
        have hbw : w.heap.size + 2 ≤ bm := by omega
        clear hFD hev hsup hD hbx hbf hE hsE hfE hmp hbm HL2 HX2 HT2 HB2 HB42 HBG2 HFD hs2
        have BG := HBGx.out
        have cBG := BG.cell
        have fBG := BG.frozen
        have lBG := BG.lt
        go_wp2_with fail
        clear cBG fBG lBG
        clear BG
        refine (gNd_c (g.start : Int) wx).mono ?_
        rintro e w3 ⟨rfl, hb3⟩
        have HS3 := Lib.hid (HS0.out.via hb3 hbmx)
        have HB3 := Lib.hid (HBX.out.trans (hb3.mono HBX.out.size))
        have HB43 := Lib.hid (HB4x.out.via hb3)
        have hs3 : wx.heap.size ≤ w3.heap.size := hb3.size
        clear hb3 HS0 HBX HB4x HBGx
        go_wp2_with fail
        refine (find_n wx bf bm g W D Ag ng cg wA wc ob 0 g.nons rb (fun _ => 0) (fun _ => W.length + 1) E HF.out (mea g ((false, g.start), 0, W.length) + 1) ((false, g.start), 0, W.length) (fun _ => False) (fun _ => none) w3 (Nat.lt_succ_self _) HDR.out HOK.out HS3.out).mono ?_
        rintro e w4 ⟨bq, G', M', rfl, -, -, -, hat, hgr⟩
        obtain ⟨⟨va, vb, vA, vn, vcc⟩, htr, -, hcv⟩ := hat
        have HTR := Lib.hid htr
        have HB4 := Lib.hid (HB3.out.grown hgr HB3.out.size (fun q e => by have := Option.some.inj e; omega))
        have HB44 := Lib.hid (HB43.out.grown hgr (fun e => by have := Option.some.inj e; omega))
        have c0 := hcv 0 _ rfl
        have c1 := hcv 1 _ rfl
        have c2 := hcv 2 _ rfl
        simp only [Nat.zero_add] at c0 c1 c2
        have hbest := HF.out.fd.best HDR.out
        have HBE := Lib.hid hbest
        obtain ⟨t, ht⟩ : ∃ t, t = bst g.rules W ((false, g.start), 0, W.length) := ⟨_, rfl⟩
        rw [← ht] at HTR HBE
        clear hgr htr hcv hbest ht HS3 HB3 HB43
        go_wp2_with fail
        clear c0 c1 c2
        have HCP := copyN_n t.size G' (va, vb, vA, vn, vcc) t w4 HTR.out (Nat.le_refl _) ((HBE.out.1.nrw fun v hv => (HGO.out.ok.right v hv).1) t (List.mem_singleton.2 rfl))
        simp only [trVal] at HCP
        refine HCP.mono ?_
        clear HCP
        rintro e w5 ⟨⟨ua, ub, uA, un, uc⟩, rfl, ht5, hb5⟩
        simp only [trVal]
        have HB5 := Lib.hid (HB4.out.trans (hb5.mono HB4.out.size))
        have B4 := HB44.out.via hb5
        have HT5 := Lib.hid (ht5.mono (ok' := fun b => w.heap.size ≤ b ∧ b ≠ w.heap.size + 1) fun b _ hb => by
          have h1 := HB44.out.lt
          exact ⟨by omega, by omega⟩)
        clear ht5 hb5 HB4 HB44 HTR
        have cB4 := B4.cell
        have fB4 := B4.frozen
        have lB4 := B4.lt
        go_wp2_with fail
        refine bodyPost_ret (v := .tuple #[trVal (ua, ub, uA, un, uc), .int .i64 0]) (by simp [results, Tryd.results7, go_sem, trVal, cB4]) rfl ⟨_, t, _, rfl, ?_, ((HB5.out.setCell (by simp) _).setCell (by simp) _).setCell (by simp) _, Or.inr (Or.inr ⟨HLB.out, HBE.out, rfl⟩)⟩
        exact (HT5.out.agr (((Agr.setCell (p := ⟨w.heap.size + 1, 0, none⟩) _ fun b hb => hb.2).trans (Agr.setCell (p := ⟨w.heap.size + 1, 1, none⟩) _ fun b hb => hb.2)).trans (Agr.setCell (p := ⟨w.heap.size + 1, 2, none⟩) _ fun b hb => hb.2))).mono fun b _ hb => hb.1
end Go.Proofs.YtfmnmgnhanogmaaDoor

