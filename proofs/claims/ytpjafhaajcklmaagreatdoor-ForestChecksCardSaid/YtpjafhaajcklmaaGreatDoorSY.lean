/- Texts SY, laid together. -/
import Derived.Test.YtpjafhaajcklmaaGreatDoorSX


namespace Go.Proofs.YtpjafhaajcklmaaGreatDoor
open Go.RowKit

theorem doubling_d (w : World) : Calls Tryz.prog 39 #[] w fun e w' => ∃ A, e = .returned (.agg #[.int .i64 1, .int .i64 1, .int .i64 0, .slice A 2 2]) ∧ Sl RuE (fun _ => True) w' A 2 2 dblG.rules ∧ Below w.heap.size w w' := doubling_c w
set_option maxRecDepth 100000 in
set_option maxHeartbeats 4000000 in
theorem woods_c (w : World) (hT : TabW w) : Calls Tryz.prog 26 #[] w fun e w' => e = .returned (.bool true) ∧ Below w.heap.size w w' := by
  have HT := Lib.hid hT
  clear hT
  go_enter Tryz.func26, Tryz.ntmps26
  go_wp2_with fail
  refine (doubling_d w).mono ?_
  rintro e w1 ⟨A1, rfl, hr1, hb1⟩
  have hal := (Below.refl w1.heap.size w1).al (.cells #[.int .i64 0, .int .i64 0] 3)
  have hw1 : Ints (w1.alloc (.cells #[.int .i64 0, .int .i64 0] 3)) (some ⟨w1.heap.size, 0, none⟩) 2 2 [0, 0] := Ints.litB (Blk.new w1 3 #[.int .i64 0, .int .i64 0]) rfl rfl
  have HC : Calls Tryz.prog 25 #[.agg #[.int .i64 1, .int .i64 1, .int .i64 0, .slice A1 2 2], .slice (some ⟨w1.heap.size, 0, none⟩) 2 2] (w1.alloc (.cells #[.int .i64 0, .int .i64 0] 3)) _ := of_c (fun _ => True) dblG A1 2 2 (some ⟨w1.heap.size, 0, none⟩) 2 2 [0, 0] (w1.alloc (.cells #[.int .i64 0, .int .i64 0] 3)) dblG_ok (hr1.via hal) hw1 (by omega) (by simp [dblG]) ((HT.out.via hb1).via hal)
  have HB1 := Lib.hid (hb1.via hal)
  clear hr1 hb1 hal hw1
  go_wp2_with fail
  generalize w1.alloc (.cells #[.int .i64 0, .int .i64 0] 3) = W1 at *
  generalize w1.heap.size = b1 at *
  refine HC.mono ?_
  clear HC
  rintro e w2 ⟨f, v, b, rfl, hf, ⟨fA, fn, fc, rfl, hS⟩, hb2⟩
  obtain ⟨rfl, rfl⟩ := dbl_fo hf
  have hl := hS.len
  rw [dbl_len] at hl
  subst hl
  have hr := dbl_root
  rw [hr]
  have hal := (Below.refl w2.heap.size w2).al (.cells #[.slice fA 5 fc, .int .i64 2] 30)
  have HB2 := Lib.hid ((HB1.out.via hb2).via hal)
  have HS2 := Lib.hid (hS.via hal)
  have BF := Blk.new w2 30 #[.slice fA 5 fc, .int .i64 2]
  clear hf hS hr hb2 hal HB1
  simp only [if_true]
  go_upto_region 2 with fail
  generalize w2.alloc (.cells #[.slice fA 5 fc, .int .i64 2] 30) = W2 at *
  generalize w2.heap.size = bf at *
  have SOF := Lib.hid (show ∀ w', Below W2.heap.size W2 w' → ((∀ i, w'.cell? ⟨bf, i, none⟩ = #[.slice fA 5 fc, .int .i64 2][i]?) ∧ Below W2.heap.size W2 w') from fun w' hb => ⟨(BF.via hb).cell, hb⟩)
  have JC := Lib.hid (show ∀ A w', Sl RuE (fun _ => True) w' A 2 2 dblG.rules → Below W2.heap.size W2 w' → Calls Tryz.prog 61 #[.agg #[.int .i64 1, .int .i64 1, .int .i64 0, .slice A 2 2], .agg #[.slice fA 5 fc, .int .i64 2]] w' fun e w'' => e = .returned (.tuple #[.int .i64 1, .int .i64 0]) ∧ Below w'.heap.size w' w'' from fun A w' h hb => fcount_d (fun _ => True) _ A fA fc w' h (HT.out.via (HB2.out.via hb)) (HS2.out.via hb))
  have hb0 := (Below.refl W2.heap.size W2).drew
  have HBF := Lib.hid BF
  clear BF
  go_region_held3 (fun w' => (∀ i, w'.cell? ⟨bf, i, none⟩ = #[.slice fA 5 fc, .int .i64 2][i]?) ∧ Below W2.heap.size W2 w') (exact SOF.out _ (by assumption)) (first
    | (go_at_call 39; (with_reducible refine (doubling_d _).mono ?_); rintro ee wk ⟨A4, rfl, hr4, hb4⟩; have hbk : Below W2.heap.size W2 wk := Below.via (by assumption) hb4)
    | (go_at_call 61; (with_reducible refine (JC.out A4 _ (by assumption) (by assumption)).mono ?_); rintro ee wk2 ⟨rfl, hb5⟩; have hbm : Below W2.heap.size W2 wk2 := Below.via (by assumption) hb5))
  all_goals (have BF9 := HBF.out.via hbm; have cB := BF9.cell; have fB := BF9.frozen; have lB := BF9.lt; go_wp2_with fail; go_ret; exact ⟨rfl, HB2.out.via hbm⟩)
theorem large_nil {D : Ky → Bool} {R : List Ru} {root : Ky} {most : Nat} {f : FoI} (h : IsFo D R root most f false) : f = (0, []) := by cases h; rfl
set_option maxRecDepth 100000 in
set_option maxHeartbeats 8000000 in
theorem forestOf_walk (ok : Nat → Prop) (T0 N0 S0 : Int) (A0 : Option Addr) (n0 c0 : Nat) (rs0 : List Ri) (wA0 : Option Addr) (wn0 wc0 : Nat) (xs0 : List Int) (lA : Option Addr) (ln lc : Nat) (ls : List Int) (w : World) (hl : Sl RiE ok w A0 n0 c0 rs0) (hx : Ints w wA0 wn0 wc0 xs0) (hok : ∀ b, ok b → b < w.heap.size) (hls : Ints w lA ln lc ls) (hT : TabW w) :
    Calls Tryz.prog 5 #[.agg #[.int .i64 T0, .int .i64 N0, .int .i64 S0, .slice A0 n0 c0], .slice wA0 wn0 wc0, .slice lA ln lc] w fun e w' => e = .returned (.bool true) ∧ Below w.heap.size w w' := by
  have hal := (Below.refl w.heap.size w).al (.cells #[.int .i64 T0, .int .i64 N0, .int .i64 S0, .slice A0 n0 c0] 24)
  have HPI := Lib.hid (pick_c (fun b => b < w.heap.size) T0 N0 S0 A0 n0 c0 rs0 wA0 wn0 wc0 xs0 lA ln lc ls 8 (w.alloc (.cells #[.int .i64 T0, .int .i64 N0, .int .i64 S0, .slice A0 n0 c0] 24)) ((hl.mono fun b _ h => hok b h).via hal) (hx.slLt.via hal) (hls.via hal) (by omega))
  have BG := Blk.new w 24 #[.int .i64 T0, .int .i64 N0, .int .i64 S0, .slice A0 n0 c0]
  have HAL := Lib.hid hal
  have HT := Lib.hid hT
  have HSZ := Lib.hid (show (w.alloc (.cells #[.int .i64 T0, .int .i64 N0, .int .i64 S0, .slice A0 n0 c0] 24)).heap.size = w.heap.size + 1 by simp)
  clear hl hx hls hal hok hT
  have cBG := BG.cell
  have fBG := BG.frozen
  have lBG := BG.lt
  go_enter Tryz.func5, Tryz.ntmps5
  go_wp2_with fail
  clear cBG fBG lBG
  generalize w.alloc (.cells #[.int .i64 T0, .int .i64 N0, .int .i64 S0, .slice A0 n0 c0] 24) = W0 at *
  refine HPI.out.mono ?_
  rintro e w1 ⟨T, N, S, A, n, c, rs, wA, wn, wcp, xs, rfl, hl1, hx1, hb1⟩
  have BG1 := BG.via hb1
  have hne : ∀ b, (b < w.heap.size ∨ W0.heap.size ≤ b) → b ≠ w.heap.size := fun b h => by have := HSZ.out; omega
  have HL1 := Lib.hid (hl1.mono (ok' := fun b => b ≠ w.heap.size) fun b _ h => hne b h)
  have HX1 := Lib.hid (hx1.mono (ok' := fun b => b ≠ w.heap.size) fun b _ h => hne b h)
  have HA1 := Lib.hid (HAL.out.trans (hb1.mono (by have := HSZ.out; omega)))
  clear HPI BG hl1 hx1 hb1 hne HAL HSZ
  have cBG1 := BG1.cell
  have fBG1 := BG1.frozen
  have lBG1 := BG1.lt
  go_upto_region 2 with fail
  clear cBG1 fBG1 lBG1
  have BG2 : Blk ((((w1.setCell ⟨w.heap.size, 0, none⟩ (.int .i64 T)).setCell ⟨w.heap.size, 1, none⟩ (.int .i64 N)).setCell ⟨w.heap.size, 2, none⟩ (.int .i64 S)).setCell ⟨w.heap.size, 3, none⟩ (.slice A n c)) w.heap.size 24 #[.int .i64 T, .int .i64 N, .int .i64 S, .slice A n c] := by
    have := (((BG1.set_ 0 (.int .i64 T)).set_ 1 (.int .i64 N)).set_ 2 (.int .i64 S)).set_ 3 (.slice A n c); simpa using this
  have hag : Agr (fun b => b ≠ w.heap.size) w1 ((((w1.setCell ⟨w.heap.size, 0, none⟩ (.int .i64 T)).setCell ⟨w.heap.size, 1, none⟩ (.int .i64 N)).setCell ⟨w.heap.size, 2, none⟩ (.int .i64 S)).setCell ⟨w.heap.size, 3, none⟩ (.slice A n c)) := ((((Agr.setCell (p := ⟨w.heap.size, 0, none⟩) _ fun b hb => hb).trans (Agr.setCell (p := ⟨w.heap.size, 1, none⟩) _ fun b hb => hb)).trans (Agr.setCell (p := ⟨w.heap.size, 2, none⟩) _ fun b hb => hb)).trans (Agr.setCell (p := ⟨w.heap.size, 3, none⟩) _ fun b hb => hb))
  have HA2 := Lib.hid ((((HA1.out.setCell (p := ⟨w.heap.size, 0, none⟩) (by simp) (.int .i64 T)).setCell (p := ⟨w.heap.size, 1, none⟩) (by simp) (.int .i64 N)).setCell (p := ⟨w.heap.size, 2, none⟩) (by simp) (.int .i64 S)).setCell (p := ⟨w.heap.size, 3, none⟩) (by simp) (.slice A n c))
  have HL2 := Lib.hid (HL1.out.agr hag)
  have HX2 := Lib.hid (HX1.out.agr hag)
  have HBG2 := Lib.hid BG2
  clear hag BG1 HA1 HL1 HX1
  generalize (((w1.setCell ⟨w.heap.size, 0, none⟩ (.int .i64 T)).setCell ⟨w.heap.size, 1, none⟩ (.int .i64 N)).setCell ⟨w.heap.size, 2, none⟩ (.int .i64 S)).setCell ⟨w.heap.size, 3, none⟩ (.slice A n c) = w2 at *
  by_cases hbad : chkB T N S rs xs = 0
  · obtain ⟨hG0, hxl, hxt⟩ := chkB_ok hbad
    obtain ⟨g, hg, rfl, rfl, rfl, rfl⟩ := chkG_ok hG0
    have HG := Lib.hid hg
    have HBAD := Lib.hid hbad
    have HXT := Lib.hid hxt
    have hwn : wn ≤ 12 := by have := HX2.out.len; omega
    have HXL := Lib.hid (show xs.length = wn from HX2.out.len)
    clear hg hbad hG0 hxl hxt
    have hcy := of_c (fun b => b ≠ w.heap.size) g A n c wA wn wcp xs w2 HG.out HL2.out.lowR HX2.out.intsIn hwn HXT.out (HT.out.via HA2.out)
    simp only [grVal] at hcy
    have cBG2 := BG2.cell
    have fBG2 := BG2.frozen
    have lBG2 := BG2.lt
    go_wp2_with fail
    clear cBG2 fBG2 lBG2
    refine hcy.mono ?_
    clear hcy
    rintro e w3 ⟨f, v, bb, rfl, hf, ⟨fA, fn, fc, rfl, hS⟩, hb3⟩
    obtain ⟨eq, heq⟩ : ∃ eq : Int, eq = if bb then 0 else 2 := ⟨_, rfl⟩
    rw [← heq]
    have HEQ := Lib.hid heq
    have HF := Lib.hid hf
    have hal3 := (Below.refl w3.heap.size w3).al (.cells #[.slice fA fn fc, .int .i64 f.1] 30)
    have HS3 := Lib.hid (hS.via hal3)
    have HB3 := Lib.hid (hb3.via hal3)
    have HBF := Lib.hid (Blk.new w3 30 #[.slice fA fn fc, .int .i64 f.1])
    have BG3 := (HBG2.out.via hb3).via hal3
    clear heq hf hS hb3 hal3 BG2
    go_upto_region 3 with fail
    generalize w3.alloc (.cells #[.slice fA fn fc, .int .i64 f.1] 30) = W3 at *
    generalize w3.heap.size = bf at *
    have HBG3 := Lib.hid BG3
    have hcb := refboth_c (fun b => b ≠ w.heap.size) g.terms g.nons g.start A n c (g.rules.map embR) wA wn wcp xs W3 (HL2.out.via HB3.out) (HX2.out.intsIn.via HB3.out)
    rw [HBAD.out] at hcb
    have cBG3 := BG3.cell
    have fBG3 := BG3.frozen
    have lBG3 := BG3.lt
    go_wp2_with fail
    clear cBG3 fBG3 lBG3
    refine hcb.mono ?_
    clear hcb
    rintro e w5 ⟨rfl, hb5⟩
    have HB5 := Lib.hid (HB3.out.via hb5)
    have HBF5 := Lib.hid (HBF.out.via hb5)
    have HS5 := Lib.hid (HS3.out.via hb5)
    have HBG5 := Lib.hid (BG3.via hb5)
    clear hb5 BG3 HB3 HBF HS3 HBG3
    dsimp only
    go_wp2_with fail
    refine (woods_c w5 (HT.out.via (HA2.out.via HB5.out))).mono ?_
    rintro e w6 ⟨rfl, hb6⟩
    have HB6 := Lib.hid (HB5.out.via hb6)
    have HBF6 := Lib.hid (HBF5.out.via hb6)
    have HS6 := Lib.hid (HS5.out.via hb6)
    have BG6 := HBG5.out.via hb6
    have has := allspans_c (fun b => b ≠ w.heap.size) g A n c wA wn wcp xs w6 HG.out (HL2.out.lowR.via HB6.out) (HX2.out.intsIn.via HB6.out) hwn HXT.out
    simp only [grVal] at has
    clear hb6 HB5 HBF5 HS5 HBG5
    dsimp only
    have cBG6 := BG6.cell
    have fBG6 := BG6.frozen
    have lBG6 := BG6.lt
    go_wp2_with fail
    clear cBG6 fBG6 lBG6
    refine has.mono ?_
    clear has BG6
    rintro e w7 ⟨bs, bm, rfl, hR, -, -, hb7⟩
    have HB7 := Lib.hid (HB6.out.via hb7)
    have HBF7 := Lib.hid (HBF6.out.via hb7)
    have HS7 := Lib.hid (HS6.out.via hb7)
    have HD := Lib.hid (show ∀ k, dvD g.rules xs k = true → k.2.1 ≤ k.2.2 ∧ k.2.2 ≤ wn from fun k h => by rw [← HXL.out]; exact dv_le h)
    have hsf := spforest_c (fun b => b ≠ w.heap.size) g A n c wA wn wcp bs bm (dvD g.rules xs) w7 HG.out.ok (HL2.out.lowR.via HB7.out) hR hwn
    clear hR hb7 HB6 HBF6 HS6
    dsimp only
    go_wp2_with fail
    refine hsf.mono ?_
    clear hsf
    rintro e w8 ⟨f2, v2, b2, rfl, hf2, ⟨f2A, f2n, f2c, rfl, hS2⟩, hb8⟩
    obtain ⟨rfl, rfl⟩ := HF.out.uniq hf2
    have hal8 := (Below.refl w8.heap.size w8).al (.cells #[.slice f2A f2n f2c, .int .i64 f.1] 30)
    have hb88 := hb8.via hal8
    have HB8 := Lib.hid (HB7.out.via hb88)
    have BF8 := HBF7.out.via hb88
    have HS8 := Lib.hid (HS7.out.via hb88)
    have HS28 := Lib.hid (hS2.via hal8)
    have BF2 := Blk.new w8 30 #[.slice f2A f2n f2c, .int .i64 f.1]
    clear hb8 hal8 hf2 hS2 hb88 HB7 HBF7 HS7
    dsimp only
    go_upto_region 7 with fail
    generalize w8.alloc (.cells #[.slice f2A f2n f2c, .int .i64 f.1] 30) = W8 at *
    generalize w8.heap.size = bf2 at *
    have he := HEQ.out
    cases bb with
    | true =>
      simp only [if_true] at he
      subst he
      have HSM := Lib.hid (same_c (fun b => w2.heap.size ≤ b) (fun _ => True) fA f2A fn fc f2n f2c f.1 f.1 f.2 f.2 W8 HS8.out (HS28.out.mono fun _ _ _ => trivial) (fo_bound HG.out.ok hwn HD.out HF.out))
      have cBF8 := BF8.cell
      have fBF8 := BF8.frozen
      have lBF8 := BF8.lt
      have cBF2 := BF2.cell
      have fBF2 := BF2.frozen
      have lBF2 := BF2.lt
      go_wp2_with fail
      refine HSM.out.mono ?_
      rintro e w9 ⟨b9, rfl, hb9, hbe⟩
      obtain rfl : b9 = true := hb9.2 (by simp)
      have HBE := Lib.hid (HB8.out.via hbe)
      clear hb9 hbe HSM
      go_wp2_with fail
      go_ret
      exact ⟨rfl, HA2.out.via HBE.out⟩
    | false =>
      simp only [Bool.false_eq_true, if_false] at he
      subst he
      obtain rfl := large_nil HF.out
      have hfn : fn = 0 := HS8.out.len.symm
      subst hfn
      have HSM := Lib.hid (same_c (fun b => w2.heap.size ≤ b) (fun _ => True) fA none 0 fc 0 0 0 0 [] [] W8 HS8.out (Sl.nil 0) ⟨by simp, by simp⟩)
      have cBF8 := BF8.cell
      have fBF8 := BF8.frozen
      have lBF8 := BF8.lt
      go_wp2_with fail
      refine HSM.out.mono ?_
      rintro e w9 ⟨b9, rfl, hb9, hbe⟩
      obtain rfl : b9 = true := hb9.2 (by simp)
      have HBE := Lib.hid (HB8.out.via hbe)
      clear hb9 hbe HSM
      go_wp2_with fail
      go_ret
      exact ⟨rfl, HA2.out.via HBE.out⟩
  · obtain ⟨q, hq⟩ : ∃ q, chkB T N S rs xs = q := ⟨_, rfl⟩
    have hq0 : q ≠ 0 := by rw [← hq]; exact hbad
    have HQ := Lib.hid hq
    have hq1 : (q != 0) = true := by simpa using hq0
    have hq2 : (q == q) = true := by simp
    clear hbad hq
    have hcy := of_e (fun b => b ≠ w.heap.size) T N S A n c rs wA wn wcp xs w2 HL2.out HX2.out.intsIn q HQ.out hq0
    have cBG2 := BG2.cell
    have fBG2 := BG2.frozen
    have lBG2 := BG2.lt
    go_wp2_with fail
    clear cBG2 fBG2 lBG2
    refine hcy.mono ?_
    clear hcy
    rintro e w3 ⟨rfl, hb3⟩
    have hal3 := (Below.refl w3.heap.size w3).al (.cells #[.slice none 0 0, .int .i64 0] 30)
    have HB3 := Lib.hid (hb3.via hal3)
    have HBF := Lib.hid (Blk.new w3 30 #[.slice none 0 0, .int .i64 0])
    have BG3 := (HBG2.out.via hb3).via hal3
    clear hb3 hal3 BG2
    dsimp only
    go_upto_region 3 with fail
    generalize w3.alloc (.cells #[.slice none 0 0, .int .i64 0] 30) = W3 at *
    generalize w3.heap.size = bf at *
    have hcb := refboth_c (fun b => b ≠ w.heap.size) T N S A n c rs wA wn wcp xs W3 (HL2.out.via HB3.out) (HX2.out.intsIn.via HB3.out)
    rw [HQ.out] at hcb
    have cBG3 := BG3.cell
    have fBG3 := BG3.frozen
    have lBG3 := BG3.lt
    go_wp2_with fail
    clear cBG3 fBG3 lBG3
    refine hcb.mono ?_
    clear hcb
    rintro e w5 ⟨rfl, hb5⟩
    have HB5 := Lib.hid (HB3.out.via hb5)
    have HBF5 := Lib.hid (HBF.out.via hb5)
    clear hb5 BG3 HB3 HBF
    dsimp only
    go_wp2_with fail
    refine (woods_c w5 (HT.out.via (HA2.out.via HB5.out))).mono ?_
    rintro e w6 ⟨rfl, hb6⟩
    have HB6 := Lib.hid (HB5.out.via hb6)
    have BF6 := HBF5.out.via hb6
    clear hb6 HB5 HBF5
    dsimp only
    have cBF6 := BF6.cell
    have fBF6 := BF6.frozen
    have lBF6 := BF6.lt
    go_wp2_with fail
    clear cBF6 fBF6 lBF6
    refine (same_c (fun _ => True) (fun _ => True) none none 0 0 0 0 0 0 [] [] w6 (Sl.nil 0) (Sl.nil 0) ⟨by simp, by simp⟩).mono ?_
    rintro e w7 ⟨b7, rfl, hb7, hbe7⟩
    obtain rfl : b7 = true := hb7.2 (by simp)
    have HB7 := Lib.hid (HA2.out.via (HB6.out.via hbe7))
    clear hb7 hbe7 BF6
    go_wp2_with fail
    go_ret
    exact ⟨rfl, HB7.out⟩
end Go.Proofs.YtpjafhaajcklmaaGreatDoor

