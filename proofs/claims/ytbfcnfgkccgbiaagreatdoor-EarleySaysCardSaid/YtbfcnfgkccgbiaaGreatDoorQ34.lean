/- Texts VJ, JE, laid together. -/
import Derived.Test.YtbfcnfgkccgbiaaGreatDoorQ29
import Derived.Test.YtbfcnfgkccgbiaaGreatDoorQ30
import Derived.Test.YtbfcnfgkccgbiaaGreatDoorQ32
import Derived.Test.YtbfcnfgkccgbiaaGreatDoorQ33
import Derived.Test.YtbfcnfgkccgbiaaGreatDoorQ20
import Derived.ProofKit
import Derived.OpenShut
import Derived.Deep.Slices
import Derived.Lib.SmallJoins







namespace Go.Proofs.YtbfcnfgkccgbiaaGreatDoor
open Go.RowKit

theorem large_nilE {D : Ky → Bool} {R : List Ru} {root : Ky} {most : Nat} {f : FoI} (h : IsFo D R root most f false) : f = (0, []) := by cases h; rfl
theorem toNat_iff {xs : List Int} (h : ∀ x ∈ xs, 0 ≤ x) (i t : Nat) : xs[i]? = some (t : Int) ↔ (xs.map Int.toNat)[i]? = some t := by
  rw [List.getElem?_map]
  constructor
  · intro e; rw [e]; rfl
  · intro e
    obtain ⟨x, hx, rfl⟩ := Option.map_eq_some_iff.1 e
    have := h x (List.mem_of_getElem? hx)
    rw [hx]
    congr 1; omega
set_option maxRecDepth 100000 in
set_option maxHeartbeats 8000000 in
theorem earleySays_walk (ok : Nat → Prop) (T0 N0 S0 : Int) (A0 : Option Addr) (n0 c0 : Nat) (rs0 : List Ri) (wA0 : Option Addr) (wn0 wc0 : Nat) (xs0 : List Int) (lA : Option Addr) (ln lc : Nat) (ls : List Int) (w : World) (hl : Sl RiE ok w A0 n0 c0 rs0) (hx : Ints w wA0 wn0 wc0 xs0) (hok : ∀ b, ok b → b < w.heap.size) (hls : Ints w lA ln lc ls) (hT : TabW w) :
    Calls Tryz.prog 3 #[.agg #[.int .i64 T0, .int .i64 N0, .int .i64 S0, .slice A0 n0 c0], .slice wA0 wn0 wc0, .slice lA ln lc] w fun e w' => e = .returned (.bool true) ∧ Below w.heap.size w w' := by
  have hal := (Below.refl w.heap.size w).al (.cells #[.int .i64 T0, .int .i64 N0, .int .i64 S0, .slice A0 n0 c0] 24)
  have HPI := Lib.hid (pick_c (fun b => b < w.heap.size) T0 N0 S0 A0 n0 c0 rs0 wA0 wn0 wc0 xs0 lA ln lc ls 7 (w.alloc (.cells #[.int .i64 T0, .int .i64 N0, .int .i64 S0, .slice A0 n0 c0] 24)) ((hl.mono fun b _ h => hok b h).via hal) (hx.slLt.via hal) (hls.via hal) (by omega))
  have BG := Blk.new w 24 #[.int .i64 T0, .int .i64 N0, .int .i64 S0, .slice A0 n0 c0]
  have HAL := Lib.hid hal
  have HT := Lib.hid hT
  have HSZ := Lib.hid (show (w.alloc (.cells #[.int .i64 T0, .int .i64 N0, .int .i64 S0, .slice A0 n0 c0] 24)).heap.size = w.heap.size + 1 by simp)
  clear hl hx hls hal hok hT
  have cBG := BG.cell
  have fBG := BG.frozen
  have lBG := BG.lt
  go_enter Tryz.func3, Tryz.ntmps3
  go_wp2_with fail
  clear cBG fBG lBG
  generalize w.alloc (.cells #[.int .i64 T0, .int .i64 N0, .int .i64 S0, .slice A0 n0 c0] 24) = W0 at *
  refine HPI.out.mono ?_
  rintro e w1 ⟨T, N, S, A, n, c, rs, wA, wn, wcp, xs, rfl, hl1, hx1, hb1⟩
  have BG1 := BG.via hb1
  have hne : ∀ b, (b < w.heap.size ∨ W0.heap.size ≤ b) → b ≠ w.heap.size := fun b h => by have := HSZ.out; omega
  have HL1 := Lib.hid (hl1.mono (ok' := fun b => b ≠ w.heap.size) fun b _ h => hne b h)
  have HX1 := Lib.hid (hx1.mono (ok' := fun b => b ≠ w.heap.size) fun b _ h => hne b h)
  have HA1 := Lib.hid (HAL.out.trans (hb1.mono (by have := HSZ.out; omega)))
  clear HPI BG hl1 hx1 hb1 hne HAL HSZ
  have cBG1 := BG1.cell
  have fBG1 := BG1.frozen
  have lBG1 := BG1.lt
  go_upto_region 2 with fail
  clear cBG1 fBG1 lBG1
  have BG2 : Blk ((((w1.setCell ⟨w.heap.size, 0, none⟩ (.int .i64 T)).setCell ⟨w.heap.size, 1, none⟩ (.int .i64 N)).setCell ⟨w.heap.size, 2, none⟩ (.int .i64 S)).setCell ⟨w.heap.size, 3, none⟩ (.slice A n c)) w.heap.size 24 #[.int .i64 T, .int .i64 N, .int .i64 S, .slice A n c] := by
    have := (((BG1.set_ 0 (.int .i64 T)).set_ 1 (.int .i64 N)).set_ 2 (.int .i64 S)).set_ 3 (.slice A n c); simpa using this
  have hag : Agr (fun b => b ≠ w.heap.size) w1 ((((w1.setCell ⟨w.heap.size, 0, none⟩ (.int .i64 T)).setCell ⟨w.heap.size, 1, none⟩ (.int .i64 N)).setCell ⟨w.heap.size, 2, none⟩ (.int .i64 S)).setCell ⟨w.heap.size, 3, none⟩ (.slice A n c)) := ((((Agr.setCell (p := ⟨w.heap.size, 0, none⟩) _ fun b hb => hb).trans (Agr.setCell (p := ⟨w.heap.size, 1, none⟩) _ fun b hb => hb)).trans (Agr.setCell (p := ⟨w.heap.size, 2, none⟩) _ fun b hb => hb)).trans (Agr.setCell (p := ⟨w.heap.size, 3, none⟩) _ fun b hb => hb))
  have HA2 := Lib.hid ((((HA1.out.setCell (p := ⟨w.heap.size, 0, none⟩) (by simp) (.int .i64 T)).setCell (p := ⟨w.heap.size, 1, none⟩) (by simp) (.int .i64 N)).setCell (p := ⟨w.heap.size, 2, none⟩) (by simp) (.int .i64 S)).setCell (p := ⟨w.heap.size, 3, none⟩) (by simp) (.slice A n c))
  have HL2 := Lib.hid (HL1.out.agr hag)
  have HX2 := Lib.hid (HX1.out.agr hag)
  have HBG2 := Lib.hid BG2
  clear hag BG1 HA1 HL1 HX1
  generalize (((w1.setCell ⟨w.heap.size, 0, none⟩ (.int .i64 T)).setCell ⟨w.heap.size, 1, none⟩ (.int .i64 N)).setCell ⟨w.heap.size, 2, none⟩ (.int .i64 S)).setCell ⟨w.heap.size, 3, none⟩ (.slice A n c) = w2 at *
  by_cases hbad : chkB T N S rs xs = 0
  · as_aux_lemma =>
    obtain ⟨hG0, hxl, hxt⟩ := chkB_ok hbad
    obtain ⟨g, hg, rfl, rfl, rfl, rfl⟩ := chkG_ok hG0
    have HG := Lib.hid hg
    have HBAD := Lib.hid hbad
    have HXT := Lib.hid hxt
    have hwn : wn ≤ 12 := by have := HX2.out.len; omega
    have HXL := Lib.hid (show xs.length = wn from HX2.out.len)
    have HXW := Lib.hid (fun i t => toNat_iff (fun x hx => (hxt x hx).1) i t)
    have hR : g.rules.length ≤ 32 := hg.ok.count
    have H4 := Lib.hid (show ∀ u ∈ g.rules, u.2.length ≤ 4 from fun u hu => (hg.ok.right u hu).1)
    clear hg hbad hG0 hxl hxt
    have hst := sets_c (fun b => b ≠ w.heap.size) g A n c wA wn wcp xs (xs.map Int.toNat) w2 HG.out HL2.out.lowR HX2.out.intsIn hwn HXT.out (HT.out.via HA2.out) HXW.out
    simp only [grVal] at hst
    have cBG2 := BG2.cell
    have fBG2 := BG2.frozen
    have lBG2 := BG2.lt
    go_wp2_with fail
    clear cBG2 fBG2 lBG2
    refine hst.mono ?_
    clear hst
    rintro e w3 ⟨eA, ec, LL, rfl, hLL, hS, hb3⟩
    have HLL := Lib.hid hLL
    have HSI := Lib.hid hS
    have HB3 := Lib.hid hb3
    have BG3 := HBG2.out.via hb3
    have HBG3 := Lib.hid BG3
    clear hLL hS hb3 BG2 HBG2
    have hcy := eforest_c (fun b => b ≠ w.heap.size) g A n c wA wn wcp xs w3 HG.out (HL2.out.lowR.via HB3.out) (HX2.out.intsIn.via HB3.out) hwn HXT.out (HT.out.via (HA2.out.via HB3.out))
    simp only [grVal] at hcy
    dsimp only
    have cBG3 := BG3.cell
    have fBG3 := BG3.frozen
    have lBG3 := BG3.lt
    go_wp2_with fail
    clear cBG3 fBG3 lBG3
    refine hcy.mono ?_
    clear hcy
    rintro e w4 ⟨f, v, bb, rfl, hf, ⟨fA, fn, fc, rfl, hS⟩, hb4⟩
    obtain ⟨eq, heq⟩ : ∃ eq : Int, eq = if bb then 0 else 2 := ⟨_, rfl⟩
    rw [← heq]
    have HEQ := Lib.hid heq
    have HF := Lib.hid hf
    have hal4 := (Below.refl w4.heap.size w4).al (.cells #[.slice fA fn fc, .int .i64 f.1] 34)
    have hb44 := hb4.via hal4
    have HS4 := Lib.hid (hS.via hal4)
    have HB4 := Lib.hid (HB3.out.via hb44)
    have HLL4 := Lib.hid (HLL.out.via hb44)
    have HBF := Lib.hid (Blk.new w4 34 #[.slice fA fn fc, .int .i64 f.1])
    have BG4 := HBG3.out.via hb44
    clear heq hf hS hb4 hal4 hb44 BG3 HBG3 HLL HB3
    dsimp only
    go_upto_region 4 with fail
    generalize w4.alloc (.cells #[.slice fA fn fc, .int .i64 f.1] 34) = W4 at *
    generalize w4.heap.size = bf at *
    have HBG4 := Lib.hid BG4
    have hcb := refboth_c (fun b => b ≠ w.heap.size) g.terms g.nons g.start A n c (g.rules.map embR) wA wn wcp xs W4 (HL2.out.via HB4.out) (HX2.out.intsIn.via HB4.out)
    rw [HBAD.out] at hcb
    have cBG4 := BG4.cell
    have fBG4 := BG4.frozen
    have lBG4 := BG4.lt
    go_wp2_with fail
    clear cBG4 fBG4 lBG4
    refine hcb.mono ?_
    clear hcb BG4
    rintro e w5 ⟨rfl, hb5⟩
    have HB5 := Lib.hid (HB4.out.via hb5)
    have HBF5 := Lib.hid (HBF.out.via hb5)
    have HS5 := Lib.hid (HS4.out.via hb5)
    have HLL5 := Lib.hid (HLL4.out.via hb5)
    have HBG5 := Lib.hid (HBG4.out.via hb5)
    clear hb5 HB4 HBF HS4 HBG4 HLL4
    dsimp only
    go_wp2_with fail
    refine (setsfact_c w5 (HT.out.via (HA2.out.via HB5.out))).mono ?_
    rintro e w6 ⟨rfl, hb6⟩
    have HB6 := Lib.hid (HB5.out.via hb6)
    have HBF6 := Lib.hid (HBF5.out.via hb6)
    have HS6 := Lib.hid (HS5.out.via hb6)
    have HLL6 := Lib.hid (HLL5.out.via hb6)
    have BG6 := HBG5.out.via hb6
    have HBG6 := Lib.hid BG6
    have hso := setsOf_c (fun b => b ≠ w.heap.size) (fun b => b ≠ w.heap.size) g A n c wA wn wcp xs (xs.map Int.toNat) w6 (HL2.out.lowR.via HB6.out) (HX2.out.via HB6.out) hR H4.out hwn HXW.out (by rw [List.length_map]; exact HXL.out)
    simp only [grVal] at hso
    clear hb6 HB5 HBF5 HS5 HBG5 HLL5
    dsimp only
    have cBG6 := BG6.cell
    have fBG6 := BG6.frozen
    have lBG6 := BG6.lt
    go_wp2_with fail
    clear cBG6 fBG6 lBG6
    refine hso.mono ?_
    clear hso BG6
    rintro e w7 ⟨rA, rc, LL2, rfl, hLL2, hS2, hb7⟩
    obtain rfl := HSI.out.uniq hS2
    have HLL2 := Lib.hid hLL2
    have HB7 := Lib.hid (HB6.out.via hb7)
    have HBF7 := Lib.hid (HBF6.out.via hb7)
    have HS7 := Lib.hid (HS6.out.via hb7)
    have HLL7 := Lib.hid (HLL6.out.via hb7)
    have HBG7 := Lib.hid (HBG6.out.via hb7)
    clear hLL2 hS2 hb7 HB6 HBF6 HS6 HLL6 HBG6
    dsimp only
    go_wp2_with fail
    refine (eqSets_c _ _ eA rA (wn + 1) ec rc LL w7 HLL7.out HLL2.out (by omega) (fun x hx => by
      obtain ⟨j, hj⟩ := List.mem_iff_getElem?.1 hx
      have := lenI hR H4.out (show j ≤ 100 by have := (List.getElem?_eq_some_iff.1 hj).1; have := HSI.out.len; omega) (HSI.out.nd j x hj) (fun z hz => ((HSI.out.iff j x hj z).1 hz).ok)
      omega)).mono ?_
    rintro e w8 ⟨rfl, hb8⟩
    have HB8 := Lib.hid (HB7.out.via hb8)
    have HBF8 := Lib.hid (HBF7.out.via hb8)
    have HS8 := Lib.hid (HS7.out.via hb8)
    have BG8 := HBG7.out.via hb8
    have has := allspans_c (fun b => b ≠ w.heap.size) g A n c wA wn wcp xs w8 HG.out (HL2.out.lowR.via HB8.out) (HX2.out.intsIn.via HB8.out) hwn HXT.out
    simp only [grVal] at has
    clear hb8 HB7 HBF7 HS7 HBG7 HLL7 HLL2
    dsimp only
    have cBG8 := BG8.cell
    have fBG8 := BG8.frozen
    have lBG8 := BG8.lt
    go_wp2_with fail
    clear cBG8 fBG8 lBG8
    refine has.mono ?_
    clear has BG8
    rintro e w9 ⟨bs, bm, rfl, hR9, -, -, hb9⟩
    have HB9 := Lib.hid (HB8.out.via hb9)
    have HBF9 := Lib.hid (HBF8.out.via hb9)
    have HS9 := Lib.hid (HS8.out.via hb9)
    have HD := Lib.hid (show ∀ k, dvD g.rules xs k = true → k.2.1 ≤ k.2.2 ∧ k.2.2 ≤ wn from fun k h => by rw [← HXL.out]; exact dv_le h)
    have hsf := spforest_c (fun b => b ≠ w.heap.size) g A n c wA wn wcp bs bm (dvD g.rules xs) w9 HG.out.ok (HL2.out.lowR.via HB9.out) hR9 hwn
    clear hR9 hb9 HB8 HBF8 HS8
    dsimp only
    go_wp2_with fail
    refine hsf.mono ?_
    clear hsf
    rintro e w10 ⟨f2, v2, b2, rfl, hf2, ⟨f2A, f2n, f2c, rfl, hS2⟩, hb10⟩
    obtain ⟨rfl, rfl⟩ := HF.out.uniq hf2
    have hal10 := (Below.refl w10.heap.size w10).al (.cells #[.slice f2A f2n f2c, .int .i64 f.1] 34)
    have hb1010 := hb10.via hal10
    have HB10 := Lib.hid (HB9.out.via hb1010)
    have BF8 := HBF9.out.via hb1010
    have HS8 := Lib.hid (HS9.out.via hb1010)
    have HS28 := Lib.hid (hS2.via hal10)
    have BF2 := Blk.new w10 34 #[.slice f2A f2n f2c, .int .i64 f.1]
    clear hb10 hal10 hf2 hS2 hb1010 HB9 HBF9 HS9
    dsimp only
    go_upto_region 11 with fail
    generalize w10.alloc (.cells #[.slice f2A f2n f2c, .int .i64 f.1] 34) = W8 at *
    generalize w10.heap.size = bf2 at *
    have he := HEQ.out
    cases bb with
    | true =>
      simp only [if_true] at he
      subst he
      have HSM := Lib.hid (same_c (fun _ => True) (fun _ => True) fA f2A fn fc f2n f2c f.1 f.1 f.2 f.2 W8 (HS8.out.mono fun _ _ _ => trivial) (HS28.out.mono fun _ _ _ => trivial) (fo_bound HG.out.ok hwn HD.out HF.out))
      have cBF8 := BF8.cell
      have fBF8 := BF8.frozen
      have lBF8 := BF8.lt
      have cBF2 := BF2.cell
      have fBF2 := BF2.frozen
      have lBF2 := BF2.lt
      go_wp2_with fail
      refine HSM.out.mono ?_
      rintro e w12 ⟨b9, rfl, hb9, hbe⟩
      obtain rfl : b9 = true := hb9.2 (by simp)
      have HBE := Lib.hid (HB10.out.via hbe)
      clear hb9 hbe HSM
      go_wp2_with fail
      go_ret
      exact ⟨rfl, HA2.out.via HBE.out⟩
    | false =>
      simp only [Bool.false_eq_true, if_false] at he
      subst he
      go_wp2_with fail
      go_ret
      exact ⟨rfl, HA2.out.via HB10.out⟩
  · as_aux_lemma =>
    obtain ⟨q, hq⟩ : ∃ q, chkB T N S rs xs = q := ⟨_, rfl⟩
    have hq0 : q ≠ 0 := by rw [← hq]; exact hbad
    have HQ := Lib.hid hq
    have hq1 : (q != 0) = true := by simpa using hq0
    have hq2 : (q == q) = true := by simp
    clear hbad hq
    have hst := sets_e (fun b => b ≠ w.heap.size) T N S A n c rs wA wn wcp xs w2 HL2.out HX2.out.intsIn q HQ.out hq0
    have cBG2 := BG2.cell
    have fBG2 := BG2.frozen
    have lBG2 := BG2.lt
    go_wp2_with fail
    clear cBG2 fBG2 lBG2
    refine hst.mono ?_
    clear hst
    rintro e w3 ⟨rfl, hb3⟩
    have HB3 := Lib.hid hb3
    have BG3 := HBG2.out.via hb3
    have HBG3 := Lib.hid BG3
    have hcy := eforest_e (fun b => b ≠ w.heap.size) T N S A n c rs wA wn wcp xs w3 (HL2.out.via hb3) (HX2.out.intsIn.via hb3) q HQ.out hq0
    clear hb3 BG2 HBG2
    dsimp only
    have cBG3 := BG3.cell
    have fBG3 := BG3.frozen
    have lBG3 := BG3.lt
    go_wp2_with fail
    clear cBG3 fBG3 lBG3
    refine hcy.mono ?_
    clear hcy BG3
    rintro e w4 ⟨rfl, hb4⟩
    have hal4 := (Below.refl w4.heap.size w4).al (.cells #[.slice none 0 0, .int .i64 0] 34)
    have hb44 := hb4.via hal4
    have HB4 := Lib.hid (HB3.out.via hb44)
    have HBF := Lib.hid (Blk.new w4 34 #[.slice none 0 0, .int .i64 0])
    have BG4 := HBG3.out.via hb44
    clear hb4 hal4 hb44 HB3 HBG3
    dsimp only
    go_upto_region 4 with fail
    generalize w4.alloc (.cells #[.slice none 0 0, .int .i64 0] 34) = W4 at *
    generalize w4.heap.size = bf at *
    have hcb := refboth_c (fun b => b ≠ w.heap.size) T N S A n c rs wA wn wcp xs W4 (HL2.out.via HB4.out) (HX2.out.intsIn.via HB4.out)
    rw [HQ.out] at hcb
    have cBG4 := BG4.cell
    have fBG4 := BG4.frozen
    have lBG4 := BG4.lt
    go_wp2_with fail
    clear cBG4 fBG4 lBG4
    refine hcb.mono ?_
    clear hcb
    rintro e w5 ⟨rfl, hb5⟩
    have HB5 := Lib.hid (HB4.out.via hb5)
    have HBF5 := Lib.hid (HBF.out.via hb5)
    clear hb5 BG4 HB4 HBF
    dsimp only
    go_wp2_with fail
    refine (setsfact_c w5 (HT.out.via (HA2.out.via HB5.out))).mono ?_
    rintro e w6 ⟨rfl, hb6⟩
    have HB6 := Lib.hid (HB5.out.via hb6)
    have BF6 := HBF5.out.via hb6
    clear hb6 HB5 HBF5
    dsimp only
    have cBF6 := BF6.cell
    have fBF6 := BF6.frozen
    have lBF6 := BF6.lt
    go_wp2_with fail
    clear cBF6 fBF6 lBF6
    refine (same_c (fun _ => True) (fun _ => True) none none 0 0 0 0 0 0 [] [] w6 (Sl.nil 0) (Sl.nil 0) ⟨by simp, by simp⟩).mono ?_
    rintro e w7 ⟨b7, rfl, hb7, hbe7⟩
    obtain rfl : b7 = true := hb7.2 (by simp)
    have HB7 := Lib.hid (HA2.out.via (HB6.out.via hbe7))
    clear hb7 hbe7 BF6
    go_wp2_with fail
    go_ret
    exact ⟨rfl, HB7.out⟩
end Go.Proofs.YtbfcnfgkccgbiaaGreatDoor







namespace Go.Proofs.YtbfcnfgkccgbiaaGreatDoor
open Go.RowKit

theorem flat_inv {α ρ : Type} {E : Elem α ρ} {raw : List ρ} {q : Nat} {u : Value} (h : (flat E raw)[q]? = some u) : ∃ i j r, raw[i]? = some r ∧ (E.cells r)[j]? = some u ∧ q = i * E.k + j := by
  have hq := (List.getElem?_eq_some_iff.1 h).1
  rw [flat_len] at hq
  have hk := E.pos
  have hi : q / E.k < raw.length := (Nat.div_lt_iff_lt_mul hk).2 hq
  have hj : q % E.k < E.k := Nat.mod_lt _ hk
  have hr := List.getElem?_eq_getElem hi
  have hc : (E.cells (raw[q / E.k]))[q % E.k]? = some ((E.cells (raw[q / E.k]))[q % E.k]'(by rw [E.len]; exact hj)) := List.getElem?_eq_getElem _
  have h2 := flat_at raw _ _ _ _ hr hc
  have e : q / E.k * E.k + q % E.k = q := Nat.div_add_mod' q E.k
  rw [e, h] at h2
  exact ⟨_, _, _, hr, by rw [hc]; exact h2.symm, e.symm⟩
theorem list_two {α : Type} {l : List α} (h : l.length = 2) : ∃ a b, l = [a, b] := by
  match l, h with
  | [a, b], _ => exact ⟨a, b, rfl⟩
section
variable {H : Type} {enc : TypeId × Value → H} {w : World} {base : Nat} {spare : Nat → Bool} {held : Bool}
/-- a slice of elements each of which can be read -/
theorem open_sl {P : Program} {α ρ : Type} (E : Elem α ρ) {t e : TypeId} {fuel : Nat} {v : Value} {x : DataW H × List MemPlace} (ht : P.underlying t = some (.slice e)) (hk : P.cellsOf e = E.k)
    (ho : ∀ n cs y, DataW.trod enc P w base spare held n e cs = some y → ∃ r z, cs = E.cells r ∧ E.rel (fun b => b < w.heap.size) w r z)
    (h : DataW.trod enc P w base spare held fuel t [v] = some x) : ∃ A n c l, v = .slice A n c ∧ Sl E (fun b => b < w.heap.size) w A n c l := by
  rcases Deep.open_slice ht h with ⟨hcs, -⟩ | ⟨a, len, cap, m, n, D, Pl, hcs, hb, hl, hm, hmm, -, hel⟩
  · exact ⟨none, 0, 0, [], by simpa using hcs, Sl.nil 0⟩
  · have hlm : len ≤ m := by rw [hmm]; split <;> omega
    have key : ∀ i : Fin len, ∃ rz : ρ × α, (∀ j u, (E.cells rz.1)[j]? = some u → w.cell? ((a.add (i * E.k)).add j) = some u) ∧ E.rel (fun b => b < w.heap.size) w rz.1 rz.2 := by
      intro i
      obtain ⟨cs', h1, h2⟩ := hel i (by have := i.isLt; omega)
      obtain ⟨r, z, rfl, hr⟩ := ho _ _ _ h2
      refine ⟨(r, z), fun j u hu => ?_, hr⟩
      unfold World.cells? at h1
      split at h1
      · have hj : j < E.k := by rw [← E.len r]; exact (List.getElem?_eq_some_iff.1 hu).1
        have := mapM_some_get h1 j j (by rw [hk, List.getElem?_range hj])
        rw [hk] at this
        rw [this]; exact hu
      · cases h1
    obtain ⟨f, hf⟩ := Classical.axiomOfChoice key
    refine ⟨some a, len, cap, List.ofFn (fun i => (f i).2), by simpa using hcs, by simp, hl, List.ofFn (fun i => (f i).1), by simp, fun hne => ?_, fun i r z hr hz => ?_⟩
    · obtain ⟨b, off, spot⟩ := a
      have hspot : spot = none := by
        have h0 : 0 < len := by
          rcases Nat.eq_zero_or_pos len with h0 | h0
          · subst h0; exact absurd rfl hne
          · exact h0
        have hc := (hf ⟨0, h0⟩).1 0 ((E.cells (f ⟨0, h0⟩).1)[0]'(by rw [E.len]; exact E.pos)) (List.getElem?_eq_getElem _)
        cases spot with
        | none => rfl
        | some sp =>
          unfold World.cell? at hc
          split at hc <;> simp [Addr.add] at hc
      subst hspot
      have hcell : ∀ j u, (flat E (List.ofFn fun i => (f i).1))[j]? = some u → w.cell? ⟨b, off + j, none⟩ = some u := fun j u hu => by
        obtain ⟨i, j', r, hr, hc, rfl⟩ := flat_inv hu
        have hi : i < len := by have := (List.getElem?_eq_some_iff.1 hr).1; simpa using this
        have hr' : r = (f ⟨i, hi⟩).1 := by
          rw [List.getElem?_eq_getElem (by simpa using hi)] at hr
          simpa using (Option.some.inj hr).symm
        subst hr'
        have := (hf ⟨i, hi⟩).1 j' u hc
        rw [Addr.add_lit, Addr.add_lit] at this
        rw [← Nat.add_assoc]; exact this
      refine ⟨b, off, rfl, ?_, hcell⟩
      obtain ⟨u, hu⟩ : ∃ u, (flat E (List.ofFn fun i => (f i).1))[0]? = some u := by
        cases hfl : flat E (List.ofFn fun i => (f i).1) with
        | nil => exact absurd hfl hne
        | cons u l => exact ⟨u, by simp⟩
      exact World.block_lt_of_cell? w _ (hcell 0 u hu)
    · have hi : i < len := by have := (List.getElem?_eq_some_iff.1 hr).1; simpa using this
      rw [List.getElem?_eq_getElem (by simpa using hi)] at hr hz
      have e1 : r = (f ⟨i, hi⟩).1 := by simpa using (Option.some.inj hr).symm
      have e2 : z = (f ⟨i, hi⟩).2 := by simpa using (Option.some.inj hz).symm
      rw [e1, e2]; exact (hf ⟨i, hi⟩).2
theorem read_int {P : Program} {t : TypeId} (ht : P.underlying t = some (.int .i64)) {fuel : Nat} {cs : List Value} {x : DataW H × List MemPlace} (h : DataW.trod enc P w base spare held fuel t cs = some x) : ∃ n : Int, cs = [.int .i64 n] ∧ (Lit.int .i64 n).wf = true := by
  cases fuel with
  | zero => simp [DataW.trod] at h
  | succ m =>
    unfold DataW.trod at h
    rw [ht] at h
    split at h <;> simp_all
theorem read_bool {P : Program} {t : TypeId} (ht : P.underlying t = some .bool) {fuel : Nat} {cs : List Value} {x : DataW H × List MemPlace} (h : DataW.trod enc P w base spare held fuel t cs = some x) : ∃ b : Bool, cs = [.bool b] := by
  cases fuel with
  | zero => simp [DataW.trod] at h
  | succ m =>
    unfold DataW.trod at h
    rw [ht] at h
    split at h <;> simp_all
set_option maxRecDepth 100000 in
theorem open_sym (n : Nat) (cs : List Value) (y : DataW H × List MemPlace) (h : DataW.trod enc Tryz.prog w base spare held n 66 cs = some y) : ∃ r z, cs = SiE.cells r ∧ SiE.rel (fun b => b < w.heap.size) w r z := by
  obtain ⟨xs, m, -, -, hl, hn, hf⟩ := DataW.trod_struct Tryz.underlying66 h
  have hc : Tryz.prog.cellsOf 66 = 2 := by kernel_rfl
  have hb : Tryz.prog.cellsOf 4 = 1 := by kernel_rfl
  have hi : Tryz.prog.cellsOf 3 = 1 := by kernel_rfl
  rw [hc] at hl
  obtain ⟨c0, c1, rfl⟩ := list_two hl
  have h0 : DataW.trod enc Tryz.prog w base spare held m 4 ([c0, c1].take (Tryz.prog.cellsOf 4)) = xs[0]? := hf 0 _ rfl
  have h1 : DataW.trod enc Tryz.prog w base spare held m 3 ([c1].take (Tryz.prog.cellsOf 3)) = xs[1]? := hf 1 _ rfl
  rw [hb] at h0
  rw [hi] at h1
  simp only [List.take_succ_cons, List.take_zero] at h0 h1
  have hn2 : xs.length = 2 := hn
  obtain ⟨b, hb'⟩ := read_bool Tryz.underlying4 (h0.trans (List.getElem?_eq_getElem (by omega)))
  obtain ⟨k, hk', -⟩ := read_int Tryz.underlying3 (h1.trans (List.getElem?_eq_getElem (by omega)))
  refine ⟨(b, k), (b, k), ?_, rfl⟩
  simp at hb' hk'
  rw [hb', hk']; rfl
set_option maxRecDepth 100000 in
theorem open_rule (n : Nat) (cs : List Value) (y : DataW H × List MemPlace) (h : DataW.trod enc Tryz.prog w base spare held n 97 cs = some y) : ∃ r z, cs = RiE.cells r ∧ RiE.rel (fun b => b < w.heap.size) w r z := by
  obtain ⟨xs, m, -, -, hl, hn, hf⟩ := DataW.trod_struct Tryz.underlying97 h
  have hc : Tryz.prog.cellsOf 97 = 2 := by kernel_rfl
  have hs : Tryz.prog.cellsOf 95 = 1 := by kernel_rfl
  have hi : Tryz.prog.cellsOf 3 = 1 := by kernel_rfl
  rw [hc] at hl
  obtain ⟨c0, c1, rfl⟩ := list_two hl
  have h0 : DataW.trod enc Tryz.prog w base spare held m 3 ([c0, c1].take (Tryz.prog.cellsOf 3)) = xs[0]? := hf 0 _ rfl
  have h1 : DataW.trod enc Tryz.prog w base spare held m 95 ([c1].take (Tryz.prog.cellsOf 95)) = xs[1]? := hf 1 _ rfl
  rw [hi] at h0
  rw [hs] at h1
  simp only [List.take_succ_cons, List.take_zero] at h0 h1
  have hn2 : xs.length = 2 := hn
  obtain ⟨k, hk', -⟩ := read_int Tryz.underlying3 (h0.trans (List.getElem?_eq_getElem (by omega)))
  obtain ⟨A, n', c, l, hv, hsl⟩ := open_sl SiE Tryz.underlying95 (by kernel_rfl) open_sym (h1.trans (List.getElem?_eq_getElem (by omega)))
  refine ⟨(k, A, n', c), (k, l), ?_, rfl, hsl⟩
  simp at hk'
  rw [hk', hv]; rfl
set_option maxRecDepth 100000 in
/-- a grammar that came in -/
theorem open_gram {r : Reach} {b0 : Nat} {v : Value} {d : DataW H} {p : List MemPlace} (hv : Value.okWide Tryz.prog w r b0 24 v) (h : DataW.Trod enc Tryz.prog w base spare held 24 v d p) :
    ∃ (T N S : Int) (A : Option Addr) (n c : Nat) (rs : List Ri), v = .agg #[.int .i64 T, .int .i64 N, .int .i64 S, .slice A n c] ∧ Sl RiE (fun b => b < w.heap.size) w A n c rs := by
  obtain ⟨v0, v1, v2, v3, y0, y1, y2, y3, n, rfl, -, -, h0, h1, h2, h3⟩ := Joins.open_agg4 Tryz.underlying24 (by kernel_rfl) (by kernel_rfl) hv h
  obtain ⟨T, hT, -⟩ := read_int Tryz.underlying3 h0
  obtain ⟨N, hN, -⟩ := read_int Tryz.underlying3 h1
  obtain ⟨S, hS, -⟩ := read_int Tryz.underlying3 h2
  obtain ⟨A, k, c, l, hv3, hsl⟩ := open_sl RiE Tryz.underlying22 (by kernel_rfl) open_rule h3
  simp at hT hN hS
  exact ⟨T, N, S, A, k, c, l, by rw [hT, hN, hS, hv3], hsl⟩
end
end Go.Proofs.YtbfcnfgkccgbiaaGreatDoor

