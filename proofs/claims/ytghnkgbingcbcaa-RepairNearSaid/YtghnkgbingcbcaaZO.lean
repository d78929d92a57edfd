/- The walk of RepairNear: it returns true. No condition. -/
import Derived.Test.YtghnkgbingcbcaaZN
namespace Go.Proofs.Ytghnkgbingcbcaa
open Go.RowKit

theorem near_plain {w w' : World} {e : Ending} {p : Pm} {s : Nat} {v : List Int} (h : BestP w p s e w') (hd : Dv p.rules [(false, s)] v) :
    Below w.heap.size w w' ∧ (∃ A n c, e = .returned (.tuple #[.int .i64 0, .slice A n c, .int .i64 2]) ∨ ∃ x : Int, e = .returned (.tuple #[.int .i64 x, .slice A n c, .int .i64 0]) ∧ x ≤ dpV p.c0 p.c1 (gR p.c0 p.c1 p.c2) p.w v 0 0) := by
  obtain ⟨st, hg, hf, hb, h⟩ := h
  obtain ⟨h1, h2⟩ := hf.least hd (Al.dp p.w v)
  refine ⟨hb, ?_⟩
  rcases h with ⟨_, h⟩ | ⟨h, _, _⟩ | ⟨A, n, c, h, _, _, _⟩
  · rw [h1] at h; cases h
  · exact ⟨none, 0, 0, Or.inl h⟩
  · exact ⟨A, n, c, Or.inr ⟨_, h, h2⟩⟩
theorem word_a (ok : Nat → Prop) (a b : Int) (A : Option Addr) (n c : Nat) (t : Tr) (w : World) (h1 : TreeR ok w (a, b, A, n, c) t) (hz : t.size ≤ 60) :
    Calls Try.prog 13 #[.agg #[.int .i64 a, .int .i64 b, .slice A n c]] w (ListP w (t.word.map fun i : Nat => (i : Int))) := by
  have := word_t ok (a, b, A, n, c) t w h1 (by omega)
  simp only [trVal, Tr.pre_word] at this
  exact this
theorem word_short (t : Tr) (hz : t.size ≤ 60) : (t.word.map fun i : Nat => (i : Int)).length ≤ 200 := by
  have := Tr.terms_len t.pre
  rw [Tr.pre_word, Tr.pre_len] at this
  omega
set_option maxRecDepth 100000 in
set_option maxHeartbeats 4000000 in
theorem near_walk (A B C D : Option Addr) (n c m d p e' q' f : Nat) (l1 l2 l3 l4 : List Int) (w : World) (h1 : Ints w A n c l1) (h2 : Ints w B m d l2) (h3 : Ints w C p e' l3) (h4 : Ints w D q' f l4) :
    Calls Try.prog 3 #[.slice A n c, .slice B m d, .slice C p e', .slice D q' f] w fun e w' => e = .returned (.bool true) ∧ Below w.heap.size w w' := by
  go_enter Try.func3, Try.ntmps3
  have H1 := Lib.hid h1
  have H2 := Lib.hid h2
  have H3 := Lib.hid h3
  have H4 := Lib.hid h4
  clear h1 h2 h3 h4
  go_wp2_with fail
  refine (list_c w).mono ?_
  rintro e w1 ⟨Al, rfl, hL, hb⟩
  have HL := Lib.hid hL
  have HB := Lib.hid hb
  clear hL hb
  dsimp only [grVal]
  go_wp2_with fail
  refine (best_c _ listG Al 2 2 none 0 0 [] 2 2 2 w1 listG_ok HL.out (Ints.nil w1) (by omega) (fun x hx => by cases hx) (by omega) (by omega) (by omega)).mono ?_
  rintro e w2 hbest
  obtain ⟨A0, n0, c0', rfl, hb⟩ := best_list hbest
  have HB2 := Lib.hid (HB.out.via hb)
  clear hbest hb HL
  go_wp2_with fail
  refine (grammar_c A n c l1 w2 (H1.out.keep HB2.out (Nat.le_refl _))).mono ?_
  rintro e w3 ⟨g, Ag, ng, cg, rfl, hM, hG, hb⟩
  have HB3 := Lib.hid (HB2.out.via hb)
  have HM := Lib.hid hM
  have HG := Lib.hid hG
  have hgt1 := hM.terms.1
  have hgt2 := hM.terms.2
  clear hb hM hG HB2 HB
  dsimp only [grVal]
  have Bg := Blk.new w3 28 #[.int .i64 (g.terms : Int), .int .i64 (g.nons : Int), .int .i64 (g.start : Int), .slice Ag ng cg]
  have HB4 := Lib.hid (HB3.out.al (.cells #[.int .i64 (g.terms : Int), .int .i64 (g.nons : Int), .int .i64 (g.start : Int), .slice Ag ng cg] 28))
  have HG4 := Lib.hid (HG.out.al (.cells #[.int .i64 (g.terms : Int), .int .i64 (g.nons : Int), .int .i64 (g.start : Int), .slice Ag ng cg] 28))
  clear HB3 HG
  have cBg := Bg.cell
  have fBg := Bg.frozen
  have lBg := Bg.lt
  go_wp2_with fail
  clear cBg fBg lBg
  generalize w3.alloc (.cells #[.int .i64 (g.terms : Int), .int .i64 (g.nons : Int), .int .i64 (g.start : Int), .slice Ag ng cg] 28) = W3 at *
  generalize w3.heap.size = bg at *
  refine (word_c (g.terms : Int) 7 B m d l2 W3 (H2.out.keep HB4.out (Nat.le_refl _)) (by omega) (by omega) (by omega)).mono ?_
  rintro e w4 ⟨v4, k4, rfl, ho, hb⟩
  obtain ⟨Aw, cw, rfl, -⟩ := ho.form
  have HI := Lib.hid ho.toInts
  have HB5 := Lib.hid (HB4.out.via hb)
  have HG5 := Lib.hid (HG4.out.via hb)
  have Bg := Bg.via hb
  have HBG := Lib.hid Bg
  have HWL := Lib.hid (show k4 ≤ 7 by rw [← ho.toInts.len]; exact wordI_len _ _ _)
  have HWM := Lib.hid (wordI_mem (g.terms : Int) 7 l2 (by omega))
  clear ho hb HB4 HG4 Bg
  go_wp2_with fail
  refine (price_c D q' f l4 w4 (H4.out.keep HB5.out (Nat.le_refl _))).mono ?_
  rintro e w5 ⟨c0, c1, c2, rfl, p0, q0, p1, q1, p2, q2, hb⟩
  have HB6 := Lib.hid ((HB5.out.via hb).al (.cells #[.int .i64 c0, .int .i64 c1, .int .i64 c2] 30))
  have HG6 := Lib.hid ((HG5.out.via hb).al (.cells #[.int .i64 c0, .int .i64 c1, .int .i64 c2] 30))
  have HI6 := Lib.hid ((HI.out.keep hb (Nat.le_refl _)).alloc (.cells #[.int .i64 c0, .int .i64 c1, .int .i64 c2] 30))
  have Bg := (HBG.out.via hb).al (.cells #[.int .i64 c0, .int .i64 c1, .int .i64 c2] 30)
  have Bc := Blk.new w5 30 #[.int .i64 c0, .int .i64 c1, .int .i64 c2]
  clear hb HB5 HG5 HI HBG
  dsimp only
  go_upto_region 7 with fail
  generalize w5.alloc (.cells #[.int .i64 c0, .int .i64 c1, .int .i64 c2] 30) = W5 at *
  generalize w5.heap.size = bc at *
  have HBG := Lib.hid Bg
  have HBC := Lib.hid Bc
  have cBg := Bg.cell
  have fBg := Bg.frozen
  have lBg := Bg.lt
  go_wp2_with fail
  clear cBg fBg lBg
  refine (make_z (fun b => True) g Ag ng cg (by have := HM.out.count; omega) (fun r hr => by have := (HM.out.ok r hr).2.1; omega) C p e' l3 W5 (HG6.out.mono fun _ _ _ => trivial) (H3.out.keep HB6.out (Nat.le_refl _))).mono ?_
  rintro e w6 ⟨⟨ta, tb, tA, tn, tcc⟩, bo, rfl, hb, hT, -⟩
  have HB7 := Lib.hid (HB6.out.via hb)
  have HG7 := Lib.hid (HG6.out.via hb)
  have HI7 := Lib.hid (HI6.out.keep hb (Nat.le_refl _))
  have Bg := HBG.out.via hb
  have Bc := HBC.out.via hb
  have HT := Lib.hid hT
  clear hb hT HB6 HG6 HI6 HBG HBC
  dsimp only [trVal]
  cases bo with
  | false =>
    have HBF := Lib.hid (HB7.out.al (.cells #[.int .i64 ta, .int .i64 tb, .slice tA tn tcc] 36))
    clear Bg Bc HB7
    go_wp2_with fail
    go_ret
    exact ⟨rfl, HBF.out⟩
  | true =>
    obtain ⟨t, hT, hD, hsz⟩ := HT.out rfl
    have HTR := Lib.hid (hT.al (.cells #[.int .i64 ta, .int .i64 tb, .slice tA tn tcc] 36))
    have HD := Lib.hid hD.dv
    have HB8 := Lib.hid (HB7.out.al (.cells #[.int .i64 ta, .int .i64 tb, .slice tA tn tcc] 36))
    have HG8 := Lib.hid (HG7.out.al (.cells #[.int .i64 ta, .int .i64 tb, .slice tA tn tcc] 36))
    have HI8 := Lib.hid (HI7.out.alloc (.cells #[.int .i64 ta, .int .i64 tb, .slice tA tn tcc] 36))
    have Bg := Bg.al (.cells #[.int .i64 ta, .int .i64 tb, .slice tA tn tcc] 36)
    have Bc := Bc.al (.cells #[.int .i64 ta, .int .i64 tb, .slice tA tn tcc] 36)
    have Bt := Blk.new w6 36 #[.int .i64 ta, .int .i64 tb, .slice tA tn tcc]
    clear hT hD HT HB7 HG7 HI7
    go_upto_region 10 with fail
    generalize w6.alloc (.cells #[.int .i64 ta, .int .i64 tb, .slice tA tn tcc] 36) = W8 at *
    generalize w6.heap.size = bt at *
    have HBC := Lib.hid Bc
    have HBT := Lib.hid Bt
    have cBg := Bg.cell
    have fBg := Bg.frozen
    have lBg := Bg.lt
    have cBc := Bc.cell
    have fBc := Bc.frozen
    have lBc := Bc.lt
    go_wp2_with fail
    clear cBg fBg lBg cBc fBc lBc
    refine (best_c _ g Ag ng cg Aw k4 cw (wordI (g.terms : Int) 7 l2) c0 c1 c2 W8 HM.out.grOk HG8.out HI8.out (by have := HWL.out; omega) HWM.out (by omega) (by omega) (by omega)).mono ?_
    rintro e w7 hbest
    obtain ⟨hb, A9, n9, c9, hor⟩ := near_plain hbest HD.out
    have HOR := Lib.hid hor
    have HB9 := Lib.hid (HB8.out.via hb)
    have HI9 := Lib.hid (HI8.out.keep hb (Nat.le_refl _))
    have HT9 := Lib.hid (HTR.out.via hb)
    have Bt := HBT.out.via hb
    have Bc := HBC.out.via hb
    have hkk : k4 ≤ 200 := by have := HWL.out; omega
    have HSZ := Lib.hid hsz
    clear hbest hb hor HB8 HI8 HTR HG8 HBC HBT Bg hsz
    have FT := Lib.hid (show ∀ w', Below w7.heap.size w7 w' → TreeR _ w' (ta, tb, tA, tn, tcc) t from fun w' hb => HT9.out.via hb)
    have FI := Lib.hid (show ∀ w', Below w7.heap.size w7 w' → Ints w' Aw k4 cw (wordI (g.terms : Int) 7 l2) from fun w' hb => HI9.out.keep hb (Nat.le_refl _))
    have SOF := Lib.hid (show ∀ w', Below w7.heap.size w7 w' → ((∀ i, w'.cell? ⟨bt, i, none⟩ = #[.int .i64 ta, .int .i64 tb, .slice tA tn tcc][i]?) ∧ (∀ i, w'.cell? ⟨bc, i, none⟩ = #[.int .i64 c0, .int .i64 c1, .int .i64 c2][i]?) ∧ Below w7.heap.size w7 w') from fun w' hb => ⟨(Bt.via hb).cell, (Bc.via hb).cell, hb⟩)
    clear HT9 HI9 Bt Bc
    rcases HOR.out with rfl | ⟨x, rfl, hx⟩
    · clear HOR
      go_upto_region 11 with fail
      have hb0 := (Below.refl w7.heap.size w7).drew
      go_region_held3 (fun w' => (∀ i, w'.cell? ⟨bt, i, none⟩ = #[.int .i64 ta, .int .i64 tb, .slice tA tn tcc][i]?) ∧ (∀ i, w'.cell? ⟨bc, i, none⟩ = #[.int .i64 c0, .int .i64 c1, .int .i64 c2][i]?) ∧ Below w7.heap.size w7 w') (exact SOF.out _ (by assumption)) (first
        | (go_at_call 13; (with_reducible refine (word_a _ ta tb tA tn tcc t _ (FT.out _ (by assumption)) HSZ.out).mono ?_); rintro ee wn ⟨Av, nv, cv, rfl, hov, hbn⟩; have hbm : Below w7.heap.size w7 wn := Below.via (by assumption) hbn; have hiv := hov.toInts; have hnv : nv ≤ 200 := (by rw [← hiv.len]; exact word_short t HSZ.out))
        | (go_at_call 12; (with_reducible refine (align_c Aw Av k4 cw nv cv (wordI (g.terms : Int) 7 l2) (t.word.map fun i : Nat => (i : Int)) c0 c1 c2 _ (FI.out _ (by assumption)) hiv hkk hnv p0 (by omega) p1 (by omega) p2 (by omega)).mono ?_); rintro ee wz ⟨Az, kz, cz, os, rfl, -, -, -, -, -, -, hbk⟩; have hbz : Below w7.heap.size w7 wz := Below.via (by assumption) hbk))
      have HBZ := Lib.hid (HB9.out.via hbz)
      clear hb0 hbm hbn hbk hbz hov hiv hnv
      go_wp2_with fail
      go_ret
      exact ⟨rfl, HBZ.out⟩
    · clear HOR
      have HX := Lib.hid hx
      clear hx
      go_upto_region 11 with fail
      have hb0 := (Below.refl w7.heap.size w7).drew
      go_region_held3 (fun w' => (∀ i, w'.cell? ⟨bt, i, none⟩ = #[.int .i64 ta, .int .i64 tb, .slice tA tn tcc][i]?) ∧ (∀ i, w'.cell? ⟨bc, i, none⟩ = #[.int .i64 c0, .int .i64 c1, .int .i64 c2][i]?) ∧ Below w7.heap.size w7 w') (exact SOF.out _ (by assumption)) (first
        | (go_at_call 13; (with_reducible refine (word_a _ ta tb tA tn tcc t _ (FT.out _ (by assumption)) HSZ.out).mono ?_); rintro ee wn ⟨Av, nv, cv, rfl, hov, hbn⟩; have hbm : Below w7.heap.size w7 wn := Below.via (by assumption) hbn; have hiv := hov.toInts; have hnv : nv ≤ 200 := (by rw [← hiv.len]; exact word_short t HSZ.out))
        | (go_at_call 12; (with_reducible refine (align_c Aw Av k4 cw nv cv (wordI (g.terms : Int) 7 l2) (t.word.map fun i : Nat => (i : Int)) c0 c1 c2 _ (FI.out _ (by assumption)) hiv hkk hnv p0 (by omega) p1 (by omega) p2 (by omega)).mono ?_); rintro ee wz ⟨Az, kz, cz, os, rfl, -, -, -, -, -, -, hbk⟩; have hbz : Below w7.heap.size w7 wz := Below.via (by assumption) hbk))
      have HBZ := Lib.hid (HB9.out.via hbz)
      clear hb0 hbm hbn hbk hbz hov hiv hnv
      have hx := HX.out
      generalize dpV c0 c1 (gR c0 c1 c2) (wordI (g.terms : Int) 7 l2) (t.word.map fun i : Nat => (i : Int)) 0 0 = y at *
      have hd : decide (x ≤ y) = true := by simpa using hx
      go_wp2_with fail
      go_ret
      exact ⟨rfl, HBZ.out⟩
end Go.Proofs.Ytghnkgbingcbcaa
