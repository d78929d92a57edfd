/- Texts IP, laid together. -/
import Derived.Test.YthkldiehokblcaaIN
import Derived.Test.YthkldiehokblcaaJY



namespace Go.Proofs.Ythkldiehokblcaa
open Go.RowKit

/-- the reference's tables -/
noncomputable def rNul (g : Gr) : Nat → Bool := nulK g.rules g.nons
noncomputable def rFst (g : Gr) : Nat → Nat → Bool := fstK (rNul g) g.rules g.nons
noncomputable def rFol (g : Gr) : Nat → Nat → Bool := (folF g).2
/-- may rule i be used for n at c, by the reference? -/
noncomputable def refIs (g : Gr) (n c i : Nat) : Bool := match g.rules[i]? with
  | some u => decide (u.1 = n) && (ofB (rNul g) (rFst g) u.2 c || (ofE (rNul g) u.2 && rFol g n c))
  | none => false
noncomputable def refK (g : Gr) (n c k : Nat) : List Nat := (List.range k).filter (refIs g n c)
theorem refK_next (g : Gr) (n c k : Nat) : refK g n c (k + 1) = refK g n c k ++ (if refIs g n c k then [k] else []) := by
  unfold refK
  rw [List.range_succ, List.filter_append]
  congr 1
  simp [List.filter_cons]
theorem refK_len (g : Gr) (n c k : Nat) : (refK g n c k).length ≤ k := by
  unfold refK
  exact Nat.le_trans (List.length_filter_le _ _) (by simp)
def PssP (w : World) (g : Gr) (n c : Nat) (e : Ending) (w' : World) : Prop :=
  ∃ base A c', e = .returned (.slice A (refK g n c g.rules.length).length c') ∧ OwnI w' base (.slice A (refK g n c g.rules.length).length c') (refK g n c g.rules.length).length (ints (refK g n c g.rules.length)) ∧ w.heap.size ≤ base ∧ base ≤ w'.heap.size ∧ Below w.heap.size w w'
set_option maxRecDepth 100000 in
set_option maxHeartbeats 8000000 in
theorem possible_c (ok : Nat → Prop) (g : Gr) (Ag : Option Addr) (ng cg : Nat) (n c : Nat) (w : World) (hg : GrOk g) (hl : Sl RuE ok w Ag ng cg g.rules) (hn : n < g.nons) (hc : c ≤ g.terms) :
    Calls Try.prog 9 #[grVal g Ag ng cg, .int .i64 (n : Int), .int .i64 (c : Int)] w (PssP w g n c) := by
  have ht8 := hg.ok.terms.2
  have hn10 := hg.ok.nons.2
  have hlen := hl.len
  have hng32 : ng ≤ 32 := by have := hg.ok.count; omega
  have B0 := Blk.new w 24 (gCells g Ag ng cg)
  have hB0 := (Below.refl w.heap.size w).al (.cells (gCells g Ag ng cg) 24)
  have HGO := Lib.hid hg
  have HL := Lib.hid hl
  simp only [grVal]
  clear hg hl
  go_enter Try.func9, Try.ntmps9
  have e0 : (Obj.cells #[.int .i64 (g.terms : Int), .int .i64 (g.nons : Int), .int .i64 (g.start : Int), .slice Ag ng cg] 24) = .cells (gCells g Ag ng cg) 24 := rfl
  go_upto_region 1 with fail
  clear e0
  generalize w.alloc (.cells (gCells g Ag ng cg) 24) = W0 at *
  have HB0 := Lib.hid hB0
  have BG := B0
  simp only [gCells] at BG
  have cBG := BG.cell
  have fBG := BG.frozen
  have lBG := BG.lt
  go_wp2_with fail
  clear cBG fBG lBG
  clear BG hB0
  have hnull := rnull_c ok g Ag ng cg W0 HGO.out (HL.out.via HB0.out)
  simp only [grVal] at hnull
  refine hnull.mono ?_
  clear hnull
  rintro e w1 ⟨bn, rfl, hrow, hbn, hb1⟩
  have B1 := B0.via hb1
  have HB1 := Lib.hid (HB0.out.via hb1)
  have HR1 := Lib.hid hrow
  clear hrow hb1 B0 HB0
  have BG := B1
  simp only [gCells] at BG
  have cBG := BG.cell
  have fBG := BG.frozen
  have lBG := BG.lt
  go_wp2_with fail
  clear cBG fBG lBG
  clear BG
  have hsets := rsets_c ok g Ag ng cg w1 HGO.out (HL.out.via HB1.out)
  simp only [grVal] at hsets
  refine hsets.mono ?_
  clear hsets
  rintro e w2 ⟨A1, A2, c1, c2, b1, b2, rfl, hone, hfol, hb2⟩
  have BG := B1.via hb2
  have HBG := Lib.hid BG
  have HB2 := Lib.hid (HB1.out.via hb2)
  have HR2 := Lib.hid (HR1.out.via hb2)
  have HON := Lib.hid (show MpR w2 A1 g.nons b1 (rFst g) from hone)
  obtain ⟨mb, mo, rfl, hmb, hmc⟩ := hfol.row
  have HCM := Lib.hid (hmc n hn)
  have HSF := Lib.hid (show SetM w2 (b2 n) (rFol g n) from hfol.set n hn)
  have HMB := Lib.hid hmb
  clear hone hfol hmc hmb hb2 B1 HB1 HR1 hbn
  simp only [gCells] at BG
  have cBG := BG.cell
  have fBG := BG.frozen
  have lBG := BG.lt
  go_wp2_with fail
  clear cBG fBG lBG
  clear BG
  have n0 : (0 : Int) ≤ (n : Int) := by omega
  have n1 : (n : Int) < (g.nons : Int) := by omega
  go_loopw [10, 25] (fun v a wr => ∃ i : Nat, a = .int .i64 i ∧ i ≤ ng ∧ Hid (OwnI wr w2.heap.size v (refK g n c i).length (ints (refK g n c i)) ∧ Below w2.heap.size w2 wr)) (fun _ a _ => ng - (intOf a).toNat)
  case atStart => exact ⟨0, rfl, Nat.zero_le _, Lib.hid ⟨OwnI.nil _ _, Below.refl _ _⟩⟩
  case round =>
    obtain ⟨i, rfl, hi, HO⟩ := hrel
    obtain ⟨lA, lc, rfl, -⟩ := HO.out.1.form
    by_cases hin : i < ng
    · obtain ⟨bb1, o1, ⟨sl, sA, sn, sc⟩, ⟨sl', rhs⟩, rfl, -, hbb, hy, ⟨hx1, hx2⟩, hcc⟩ := (HL.out.via (HB2.out.trans (HO.out.2.mono HB2.out.size))).at_ hin
      simp only at hx1 hx2
      obtain rfl : sl = sl' := hx1
      have d0 := hcc 0 _ rfl
      have d1 := hcc 1 _ rfl
      simp only [RuE, Nat.add_zero] at d0 d1
      have p0 : (0 : Int) ≤ (i : Int) := by omega
      have p1 : (i : Int) < (ng : Int) := by omega
      have HRT := Lib.hid (HGO.out.ok.right _ (List.mem_of_getElem? hy))
      have HY := Lib.hid hy
      have hal := (Below.refl wr.heap.size wr).al (.cells #[.int .i64 (sl : Int), .slice sA sn sc] 58)
      have BX := Blk.new wr 58 #[.int .i64 (sl : Int), .slice sA sn sc]
      have HX2 := Lib.hid (hx2.via hal)
      have HO4 := Lib.hid (And.intro (HO.out.1.keep hal (Nat.le_refl _)) (HO.out.2.trans (hal.mono HO.out.2.size)))
      clear hcc hy hx2 hbb hal HO
      go_upto_region 7 with fail
      clear d0 d1
      generalize wr.alloc (.cells #[.int .i64 (sl : Int), .slice sA sn sc] 58) = W4 at *
      generalize wr.heap.size = bR at *
      by_cases hsl : sl = n
      · have e1 : ((sl : Int) != (n : Int)) = false := by simp [hsl]
        have HSL := Lib.hid hsl
        clear hsl
        have hsr : sn ≤ 4 := by have := HX2.out.len; have := HRT.out.1; simp only at this; omega
        have cBX := BX.cell
        have fBX := BX.frozen
        have lBX := BX.lt
        go_wp2_with fail
        clear cBX fBX lBX
        refine (begins_c ok sA sn sc rhs bn g.nons g.nons (rNul g) A1 c1 b1 (rFst g) W4 HX2.out (by omega) (fun y hy => by have := HRT.out.2 y hy; unfold Gr.okSy at this; split at this <;> simp_all <;> omega) (HR2.out.via HO4.out.2) (HON.out.via HO4.out.2)).mono ?_
        rintro e w5 ⟨bm, rfl, hbm, hlo5, hb5⟩
        have HO5 := Lib.hid (And.intro (HO4.out.1.keep hb5 (Nat.le_refl _)) (HO4.out.2.trans (hb5.mono HO4.out.2.size)))
        obtain ⟨x1, hx1⟩ : ∃ x, x = ofB (rNul g) (rFst g) rhs c := ⟨_, rfl⟩
        obtain ⟨x2, hx2⟩ : ∃ x, x = ofE (rNul g) rhs := ⟨_, rfl⟩
        obtain ⟨x3, hx3⟩ : ∃ x, x = rFol g n c := ⟨_, rfl⟩
        have l1 := hbm.look c (by omega)
        have l3 := (HSF.out.via HO5.out.2).look c (by omega)
        have cm := (HO5.out.2.cell (p := ⟨mb, mo + n, none⟩) HMB.out).trans HCM.out
        rw [← hx1] at l1
        rw [← hx3] at l3
        rw [← hx2]
        have HIS := Lib.hid (show refIs g n c i = (x1 || (x2 && x3)) by
          unfold refIs; rw [HY.out]; simp only [HSL.out, decide_true, Bool.true_and, hx1, hx2, hx3])
        clear hx1 hx2 hx3 hbm hb5 HO4
        cases x1 with
        | true =>
          simp only [Bool.true_or] at HIS
          have hal := (Below.refl w5.heap.size w5).al (.cells #[.int .i64 (i : Int)] 3)
          have HLV := Lib.hid (HO5.out.1.keep hal (Nat.le_refl _))
          have HBE := Lib.hid (HO5.out.2.trans (hal.mono HO5.out.2.size))
          have HSZ := Lib.hid (show w2.heap.size ≤ (w5.alloc (.cells #[.int .i64 (i : Int)] 3)).heap.size from HBE.out.size)
          have hpl : (refK g n c i).length ≤ 32 := Nat.le_trans (refK_len g n c i) (by omega)
          clear hal HO5
          go_wp2_with (at_builtin; refine wpList_append_ints _ rfl (.tmp 56) (.tmp 58) rfl w2.heap.size (.slice lA (refK g n c i).length lc) (refK g n c i).length (ints (refK g n c i)) rfl HLV.out (some ⟨w5.heap.size, 0, none⟩) 1 1 [(i : Int)] rfl (Ints.oneI w5 (i : Int)) (by omega) HSZ.out ?_)
          intro A6 c6 w6 ho6 hg6 hat6
          have HB6 := Lib.hid (HLV.out.grown HBE.out hg6 (Nat.le_refl _) HSZ.out)
          have HO6 := Lib.hid (show OwnI w6 w2.heap.size (.slice A6 ((refK g n c i).length + 1) c6) (refK g n c (i + 1)).length (ints (refK g n c (i + 1))) from by
            rw [refK_next, HIS.out]
            simpa [ints] using ho6)
          clear ho6 hg6 hat6 HLV HBE HSZ
          go_wp2_with fail
          exact ⟨⟨i + 1, by go_num, by omega, Lib.hid ⟨HO6.out, HB6.out⟩⟩, by simp [intOf]; omega⟩
        | false =>
          cases x2 with
          | false =>
            simp only [Bool.false_and, Bool.or_false] at HIS
            go_wp2_with fail
            refine ⟨⟨i + 1, by go_num, by omega, ?_⟩, by simp [intOf]; omega⟩
            rw [refK_next, HIS.out]
            simpa using HO5
          | true =>
            cases x3 with
            | false =>
              simp only [Bool.and_false, Bool.or_false] at HIS
              go_wp2_with fail
              refine ⟨⟨i + 1, by go_num, by omega, ?_⟩, by simp [intOf]; omega⟩
              rw [refK_next, HIS.out]
              simpa using HO5
            | true =>
              simp only [Bool.and_true, Bool.or_true] at HIS
              have hal := (Below.refl w5.heap.size w5).al (.cells #[.int .i64 (i : Int)] 3)
              have HLV := Lib.hid (HO5.out.1.keep hal (Nat.le_refl _))
              have HBE := Lib.hid (HO5.out.2.trans (hal.mono HO5.out.2.size))
              have HSZ := Lib.hid (show w2.heap.size ≤ (w5.alloc (.cells #[.int .i64 (i : Int)] 3)).heap.size from HBE.out.size)
              have hpl : (refK g n c i).length ≤ 32 := Nat.le_trans (refK_len g n c i) (by omega)
              clear hal HO5
              go_wp2_with (at_builtin; refine wpList_append_ints _ rfl (.tmp 56) (.tmp 58) rfl w2.heap.size (.slice lA (refK g n c i).length lc) (refK g n c i).length (ints (refK g n c i)) rfl HLV.out (some ⟨w5.heap.size, 0, none⟩) 1 1 [(i : Int)] rfl (Ints.oneI w5 (i : Int)) (by omega) HSZ.out ?_)
              intro A6 c6 w6 ho6 hg6 hat6
              have HB6 := Lib.hid (HLV.out.grown HBE.out hg6 (Nat.le_refl _) HSZ.out)
              have HO6 := Lib.hid (show OwnI w6 w2.heap.size (.slice A6 ((refK g n c i).length + 1) c6) (refK g n c (i + 1)).length (ints (refK g n c (i + 1))) from by
                rw [refK_next, HIS.out]
                simpa [ints] using ho6)
              clear ho6 hg6 hat6 HLV HBE HSZ
              go_wp2_with fail
              exact ⟨⟨i + 1, by go_num, by omega, Lib.hid ⟨HO6.out, HB6.out⟩⟩, by simp [intOf]; omega⟩
      · have e1 : ((sl : Int) != (n : Int)) = true := by simp; omega
        have HIS := Lib.hid (show refIs g n c i = false by unfold refIs; rw [HY.out]; simp [hsl])
        have HO5 := HO4
        clear hsl HO4
        have cBX := BX.cell
        have fBX := BX.frozen
        have lBX := BX.lt
        go_wp2_with fail
        refine ⟨⟨i + 1, by go_num, by omega, ?_⟩, by simp [intOf]; omega⟩
        rw [refK_next, HIS.out]
        simpa using HO5
    · obtain rfl : i = ng := by omega
      go_wp2_with fail
      go_ret
      have h1 := HO.out.1
      refine ⟨w2.heap.size, lA, lc, ?_, ?_, HB2.out.size, HO.out.2.size, HB2.out.trans (HO.out.2.mono HB2.out.size)⟩
      · rw [hlen]; rfl
      · rw [hlen]; exact h1
end Go.Proofs.Ythkldiehokblcaa

