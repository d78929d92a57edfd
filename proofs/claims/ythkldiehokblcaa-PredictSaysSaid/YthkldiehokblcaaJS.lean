/- Texts JS, laid together. -/
import Derived.Test.YthkldiehokblcaaJR


namespace Go.Proofs.Ythkldiehokblcaa
open Go.RowKit

set_option maxRecDepth 100000 in
set_option maxHeartbeats 4000000 in
theorem predict_c (ok : Nat → Prop) (g : Gr) (Ag : Option Addr) (ng cg : Nat) (w : World) (hg : GrOk g) (hl : Sl RuE ok w Ag ng cg g.rules) :
    Calls Try.prog 16 #[grVal g Ag ng cg] w (PredP w g) := by
  have hn1 := hg.ok.nons.1
  have hn10 := hg.ok.nons.2
  have ht8 := hg.ok.terms.2
  have hlen := hl.len
  have hng32 : ng ≤ 32 := by have := hg.ok.count; omega
  have B0 := Blk.new w 24 #[.int .i64 (g.terms : Int), .int .i64 (g.nons : Int), .int .i64 (g.start : Int), .slice Ag ng cg]
  have HB := Lib.hid ((Below.refl w.heap.size w).al (.cells #[.int .i64 (g.terms : Int), .int .i64 (g.nons : Int), .int .i64 (g.start : Int), .slice Ag ng cg] 24))
  have HGO := Lib.hid hg
  have HL := Lib.hid hl
  simp only [grVal]
  clear hg hl
  go_enter Try.func16, Try.ntmps16
  have cB0 := B0.cell
  have fB0 := B0.frozen
  have lB0 := B0.lt
  go_wp2_with fail
  clear cB0 fB0 lB0
  generalize w.alloc (.cells #[.int .i64 (g.terms : Int), .int .i64 (g.nons : Int), .int .i64 (g.start : Int), .slice Ag ng cg] 24) = W at *
  refine (check_c ok g Ag ng cg W HGO.out (HL.out.via HB.out)).mono ?_
  rintro e w1 ⟨rfl, hb⟩
  have HB1 := Lib.hid (HB.out.via hb)
  have B1 := B0.via hb
  clear hb B0 HB
  have cB1 := B1.cell
  have fB1 := B1.frozen
  have lB1 := B1.lt
  go_wp2_with fail
  clear cB1 fB1 lB1
  refine (fmake_c ok g Ag ng cg w1 HGO.out (HL.out.via HB1.out)).mono ?_
  rintro e w2 ⟨L, es, fs, rfl, hfs, htab, hA, hN, hC, hb2⟩
  have HFS2 := Lib.hid hfs
  have HTAB := Lib.hid htab
  have HLA := Lib.hid (And.intro hA (And.intro hN hC))
  have HB2 := Lib.hid (HB1.out.via hb2)
  have B2 := B1.via hb2
  clear hfs htab hA hN hC hb2 HB1 B1
  obtain ⟨bS, hbS⟩ : ∃ b, b = L.bS := ⟨_, rfl⟩
  have HBS := Lib.hid hbS
  rw [← hbS]
  clear hbS
  go_wp2_with fail
  have HFC := follow_c ok g L es fs w2 HGO.out HFS2.out HTAB.out (by rw [HLA.out.1, HLA.out.2.1, HLA.out.2.2]; exact HL.out.via HB2.out)
  rw [← HBS.out] at HFC
  refine HFC.mono ?_
  clear HFC
  rintro e w3 ⟨hb, hc, fb, fo, rfl, hhd, hrow, hfo, hb3⟩
  have HFS := Lib.hid (HFS2.out.via hb3)
  have HHD := Lib.hid hhd
  have HRW := Lib.hid hrow
  have HFO := Lib.hid hfo
  have HB3 := Lib.hid (HB2.out.via hb3)
  have HX3 := Lib.hid (B2.via hb3)
  clear hhd hrow hfo hb3 B2 HB2 HFS2 HLA
  have BX := HX3.out
  have hw3 : w.heap.size ≤ w3.heap.size := HB3.out.size
  have cBX := BX.cell
  have fBX := BX.frozen
  have lBX := BX.lt
  go_wp2_with fail
  clear cBX fBX lBX
  clear BX
  go_loopw [7, 24] (fun v a wr => ∃ (k : Nat) (bs cs : Nat → Nat), a = .int .i64 k ∧ k ≤ ng ∧ Hid (BC wr w3.heap.size v (g.terms + 1) k bs cs (fun i => posB es fs fo (g.rules.getD i (0, [])))) ∧ Hid (Below w3.heap.size w3 wr)) (fun _ a _ => ng - (intOf a).toNat)
  case atStart => exact ⟨0, fun _ => 0, fun _ => 0, rfl, Nat.zero_le _, Lib.hid (BC.nil _ _ _ _ _ _), Lib.hid (Below.refl _ _)⟩
  case round =>
    obtain ⟨k, bs, cs, rfl, hk, HBC, HB4⟩ := hrel
    obtain ⟨Av, cv, rfl, -⟩ := HBC.out.own.form
    by_cases hlt : k < ng
    · obtain ⟨b1, o1, ⟨sl, sA, sn, sc⟩, ⟨sl', rhs⟩, hAg, -, hbb, hy, ⟨hx1, hx2⟩, hcc⟩ := (HL.out.via (HB3.out.trans (HB4.out.mono hw3))).at_ hlt
      simp only at hx1 hx2
      obtain rfl : sl = sl' := hx1
      subst hAg
      have d0 := hcc 0 _ rfl
      have d1 := hcc 1 _ rfl
      simp only [RuE, Nat.add_zero] at d0 d1
      have i0 : (0 : Int) ≤ (k : Int) := by omega
      have i1 : (k : Int) < (ng : Int) := by omega
      have hmem := List.mem_of_getElem? hy
      have hsl : sl < g.nons := HGO.out.ok.left _ hmem
      have j0 : (0 : Int) ≤ (sl : Int) := by omega
      have j1 : (sl : Int) < (g.nons : Int) := by omega
      have HRT := Lib.hid (HGO.out.ok.right _ hmem)
      have hsn : sn ≤ 4 := by rw [← hx2.len]; exact HRT.out.1
      have HGD := Lib.hid (show g.rules.getD k (0, []) = (sl, rhs) by rw [List.getD_eq_getElem?_getD, hy]; rfl)
      have hal := (Below.refl wr.heap.size wr).al (.cells #[.int .i64 (sl : Int), .slice sA sn sc] 58)
      have HSR := Lib.hid (hx2.via hal)
      have BX := Blk.new wr 58 #[.int .i64 (sl : Int), .slice sA sn sc]
      have HWA := Lib.hid hal
      have hwr : w3.heap.size ≤ wr.heap.size := HB4.out.size
      clear hcc hy hx2 hmem hbb hal
      go_upto_region 10 with fail
      clear d0 d1
      generalize wr.alloc (.cells #[.int .i64 (sl : Int), .slice sA sn sc] 58) = W4 at *
      have hW4 : wr.heap.size ≤ W4.heap.size := HWA.out.size
      have hbx : wr.heap.size < W4.heap.size := BX.lt
      obtain ⟨bx, hbx2⟩ : ∃ b, b = wr.heap.size := ⟨_, rfl⟩
      rw [← hbx2] at BX hbx ⊢
      have hbx3 : wr.heap.size ≤ bx := by omega
      clear hbx2
      have BX4 := Lib.hid BX
      have cBX := BX.cell
      have fBX := BX.frozen
      have lBX := BX.lt
      go_wp2_with fail
      clear cBX fBX lBX
      clear BX
      have HOF := of_c W4 g HGO.out L es fs ok sA sn sc rhs (HFS.out.via ((HB4.out.trans (HWA.out.mono hwr)))) HSR.out hsn HRT.out.2
      rw [← HBS.out] at HOF
      refine HOF.mono ?_
      clear HOF
      rintro e w5 ⟨o, rfl, hro, hol, hb5⟩
      have HRO := Lib.hid hro
      have HWB := Lib.hid (HWA.out.trans (hb5.mono hW4))
      have BX5 := Lib.hid (BX4.out.via hb5)
      have HOL := Lib.hid (show bx < o by omega)
      have hol2 : wr.heap.size ≤ o := by omega
      have hw5 : wr.heap.size ≤ w5.heap.size := HWB.out.size
      clear hro hol hb5 HWA BX4
      have HBF := Lib.hid ((Blk.new w5 4 #[.bool false]).cell 0)
      have HA6 := Lib.hid ((Below.refl w5.heap.size w5).al (.cells #[.bool false] 4))
      have HOW := Lib.hid ((HRO.out.own (base := wr.heap.size) hol2 (by omega)).via HA6.out)
      have BX := BX5.out
      have cBX := BX.cell
      have fBX := BX.frozen
      have lBX := BX.lt
      go_wp2_with (at_builtin; refine wpList_append_b _ rfl (.tmp 35) (.tmp 36) rfl wr.heap.size (.slice (some ⟨o, 0, none⟩) g.terms g.terms) g.terms ((List.range g.terms).map (ofB es fs rhs)) rfl HOW.out w5.heap.size false rfl HBF.out (by omega) (by simp; omega) ?_)
      clear cBX fBX lBX
      intro A6 c6 w6 ho6 hg6 hat6
      have HW6 := Lib.hid (bel_grow (HWB.out.trans (HA6.out.mono hw5)) hg6 hol2 (by simp; omega))
      have HX6 := Lib.hid ((BX5.out.via HA6.out).grown hg6 (fun e => by have := HOL.out; have h2 : bx = o := Option.some.inj e; omega))
      obtain ⟨r, rfl, hrlo, hrow6⟩ := ho6.brow (by omega)
      have HR6 := Lib.hid (show BRowS w6 r c6 (g.terms + 1) (ofB es fs rhs) from hrow6.ext fun j hj => by
        by_cases e : j < g.terms
        · simp [List.getD_eq_getElem?_getD, List.getElem?_append, e]
        · have ej : j = g.terms := by omega
          subst ej
          have : ofB es fs rhs g.terms = false := by
            cases hB : ofB es fs rhs g.terms with
            | false => rfl
            | true =>
              have hF := ofB_fst (fun N hN => (HTAB.out.nul N).1 hN) (fun N t hN => (HTAB.out.fst N t).1 hN) hB
              have := hF.lt (B := g.terms) (fun u hu s hs h1 => by have := (HGO.out.ok.right u hu).2 s hs; simpa [Gr.okSy, h1] using this) (fun s hs h1 => by have := HRT.out.2 s hs; simpa [Gr.okSy, h1] using this)
              omega
          rw [this]; simp [List.getD_eq_getElem?_getD])
      have hw6 : wr.heap.size ≤ w6.heap.size := HW6.out.size
      clear ho6 hg6 hat6 hrow6 HBF HA6 HOW BX HRO BX5 HWB HOL
      have BX := HX6.out
      have cBX := BX.cell
      have fBX := BX.frozen
      have lBX := BX.lt
      cases he : ofE es rhs with
      | false =>
        have HRF := Lib.hid (show BRowS w6 r c6 (g.terms + 1) (posB es fs fo (g.rules.getD k (0, []))) from HR6.out.ext fun j _ => by rw [HGD.out]; simp [posB, he])
        go_upto_region 14 with fail
        clear cBX fBX lBX
        clear BX HR6
        have hww : wr.heap.size ≤ w6.heap.size := HW6.out.size
        have HA8 := Lib.hid (HW6.out.trans (((Below.refl w6.heap.size w6).al (.cells #[.slice (some ⟨r, 0, none⟩) (g.terms + 1) c6] 59)).mono hww))
        have HRF8 := Lib.hid (HRF.out.al (.cells #[.slice (some ⟨r, 0, none⟩) (g.terms + 1) c6] 59))
        have HBH8 := Lib.hid (Blk.new w6 59 #[.slice (some ⟨r, 0, none⟩) (g.terms + 1) c6])
        have HO8 := Lib.hid (HBC.out.own.via HA8.out)
        have hs8 : w3.heap.size ≤ (w6.alloc (.cells #[.slice (some ⟨r, 0, none⟩) (g.terms + 1) c6] 59)).heap.size := by simp; omega
        go_wp2_with (at_builtin; refine wpList_append_brow _ rfl (.tmp 46) (.tmp 48) rfl w3.heap.size (.slice Av k cv) k (rowsC (g.terms + 1) k bs cs) rfl HO8.out w6.heap.size (some ⟨r, 0, none⟩, g.terms + 1, c6) rfl HBH8.out (by omega) hs8 ?_)
        intro Av1 cv1 w9 ho9 hg9 hat9
        have HB9 := Lib.hid (show Below w3.heap.size w3 w9 from (HB4.out.trans (HA8.out.mono hwr)).grown hg9 hs8 (fun j e => (HO8.out.lt j e).1))
        have HBC9 := Lib.hid (HBC.out.push HA8.out HRF8.out hrlo ho9 hg9 (by simpa using hat9))
        clear ho9 hg9 hat9
        go_wp2_with fail
        exact ⟨⟨k + 1, _, _, by go_num, by omega, HBC9, HB9⟩, by simp [intOf]; omega⟩
      | true =>
        have ch := (HHD.out.via (HB4.out.trans (HW6.out.mono hwr))).cell hsl
        have fh := (HHD.out.via (HB4.out.trans (HW6.out.mono hwr))).frozen
        have hfl : fb sl < w3.heap.size := (HRW.out sl hsl).lt
        go_upto_region 13 with fail
        go_wp2_with fail
        clear cBX fBX lBX
        clear BX ch fh
        refine (union_c w6 r (g.terms + 1) c6 (ofB es fs rhs) (fo sl) (fb sl) (g.terms + 1) (g.terms + 1) HR6.out ((HRW.out sl hsl).via (HB4.out.trans (HW6.out.mono hwr))) (Nat.le_refl _) (by omega) (fun e => by omega)).mono ?_
        rintro e w7 ⟨rfl, hb7, hgr⟩
        have HW7 := Lib.hid (bel_grow HW6.out hgr hrlo hw6)
        have HRF := Lib.hid (show BRowS w7 r c6 (g.terms + 1) (posB es fs fo (g.rules.getD k (0, []))) from hb7.ext fun j hj => by rw [HGD.out]; simp [posB, he, uni, hj])
        clear hb7 hgr HR6 HX6
        go_upto_region 14 with fail
        have hww : wr.heap.size ≤ w7.heap.size := HW7.out.size
        have HA8 := Lib.hid (HW7.out.trans (((Below.refl w7.heap.size w7).al (.cells #[.slice (some ⟨r, 0, none⟩) (g.terms + 1) c6] 59)).mono hww))
        have HRF8 := Lib.hid (HRF.out.al (.cells #[.slice (some ⟨r, 0, none⟩) (g.terms + 1) c6] 59))
        have HBH8 := Lib.hid (Blk.new w7 59 #[.slice (some ⟨r, 0, none⟩) (g.terms + 1) c6])
        have HO8 := Lib.hid (HBC.out.own.via HA8.out)
        have hs8 : w3.heap.size ≤ (w7.alloc (.cells #[.slice (some ⟨r, 0, none⟩) (g.terms + 1) c6] 59)).heap.size := by simp; omega
        go_wp2_with (at_builtin; refine wpList_append_brow _ rfl (.tmp 46) (.tmp 48) rfl w3.heap.size (.slice Av k cv) k (rowsC (g.terms + 1) k bs cs) rfl HO8.out w7.heap.size (some ⟨r, 0, none⟩, g.terms + 1, c6) rfl HBH8.out (by omega) hs8 ?_)
        intro Av1 cv1 w9 ho9 hg9 hat9
        have HB9 := Lib.hid (show Below w3.heap.size w3 w9 from (HB4.out.trans (HA8.out.mono hwr)).grown hg9 hs8 (fun j e => (HO8.out.lt j e).1))
        have HBC9 := Lib.hid (HBC.out.push HA8.out HRF8.out hrlo ho9 hg9 (by simpa using hat9))
        clear ho9 hg9 hat9
        go_wp2_with fail
        exact ⟨⟨k + 1, _, _, by go_num, by omega, HBC9, HB9⟩, by simp [intOf]; omega⟩
    · obtain rfl : k = ng := by omega
      have HLN := Lib.hid hlen
      clear hlen
      go_wp2_with fail
      go_ret2
      refine ⟨_, _, bs, cs, _, rfl, by rw [HLN.out]; exact HBC.out, fun i u hi t => ?_, HB3.out.trans (HB4.out.mono hw3)⟩
      have e : g.rules.getD i (0, []) = u := by rw [List.getD_eq_getElem?_getD, hi]; rfl
      simp only [e]
      exact posB_iff HTAB.out HFO.out u t
end Go.Proofs.Ythkldiehokblcaa

