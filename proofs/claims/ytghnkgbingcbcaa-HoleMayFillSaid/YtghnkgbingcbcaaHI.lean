/- useful.lengths: the walk. -/
import Derived.Test.YtghnkgbingcbcaaHG
import Derived.Test.YtghnkgbingcbcaaGE
namespace Go.Proofs.Ytghnkgbingcbcaa
open Go.RowKit

def iVals (xs : List Int) : Array Value := (xs.map (Value.int .i64)).toArray
structure LR (w : World) (g : Nat) (gc : Array Value) (xs : List Int) (wr : World) : Prop where
  blk : Blk wr g 3 (iVals xs)
  hg : Blk wr w.heap.size 28 gc
  bel : Below w.heap.size w wr
  l1 : w.heap.size < g
theorem LR.via {w wr wa : World} {g : Nat} {gc : Array Value} {xs : List Int} (h : LR w g gc xs wr) (k : Below wr.heap.size wr wa) : LR w g gc xs wa := ⟨h.blk.via k, h.hg.via k, h.bel.via k, h.l1⟩
theorem LR.put {w wr : World} {g i : Nat} {gc : Array Value} {xs : List Int} (h : LR w g gc xs wr) (v : Int) : LR w g gc (xs.set i v) (wr.setCell ⟨g, i, none⟩ (.int .i64 v)) := by
  have e := h.blk.set_ i (.int .i64 v)
  refine ⟨?_, (Below.heap_setCell _ _ _ _ (by have := h.l1; show w.heap.size ≠ g; omega)).trans h.hg, h.bel.setCell (by have := h.l1; show w.heap.size ≤ g; omega) _, h.l1⟩
  have q : iVals (xs.set i v) = (iVals xs).setIfInBounds i (.int .i64 v) := by simp [iVals, List.map_set]
  rw [q]; exact e
theorem LR.cell {w wr : World} {g i : Nat} {gc : Array Value} {xs : List Int} {x : Int} (h : LR w g gc xs wr) (hx : xs[i]? = some x) : wr.cell? ⟨g, i, none⟩ = some (.int .i64 x) :=
  (h.blk.cell i).trans (by simp [iVals, hx])
def Prog (n : Nat) (xs0 xs : List Int) (ag : Bool) : Prop := (ag = false ∧ xs = xs0) ∨ (ag = true ∧ muS (4 ^ n + 1) xs < muS (4 ^ n + 1) xs0)
theorem Prog.step {n : Nat} {xs0 xs ys : List Int} {ag : Bool} (h : Prog n xs0 xs ag) (k : muS (4 ^ n + 1) ys < muS (4 ^ n + 1) xs) : Prog n xs0 ys true := by
  rcases h with ⟨_, rfl⟩ | ⟨_, h⟩
  · exact Or.inr ⟨rfl, k⟩
  · exact Or.inr ⟨rfl, by omega⟩
def LenP (w : World) (n : Nat) (e : Ending) (w' : World) : Prop := ∃ (g : Nat) (xs : List Int), e = .returned (.slice (some ⟨g, 0, none⟩) n n) ∧ xs.length = n ∧ Blk w' g 3 (iVals xs) ∧ Below w.heap.size w w' ∧ w.heap.size < g
set_option maxRecDepth 100000 in
set_option maxHeartbeats 8000000 in
theorem lengths_c (ok : Nat → Prop) (g : Gr) (Ag : Option Addr) (ng cg : Nat) (w : World) (hg : GrOk g) (hl : Sl RuE ok w Ag ng cg g.rules) :
    Calls Try.prog 77 #[grVal g Ag ng cg] w (LenP w g.nons) := by
  have B0 := Blk.new w 28 #[.int .i64 (g.terms : Int), .int .i64 (g.nons : Int), .int .i64 (g.start : Int), .slice Ag ng cg]
  have hB := (Below.refl w.heap.size w).al (.cells #[.int .i64 (g.terms : Int), .int .i64 (g.nons : Int), .int .i64 (g.start : Int), .slice Ag ng cg] 28)
  have hn1 := hg.ok.nons.1
  have hn10 := hg.ok.nons.2
  have hlen := hl.len
  have HGO := Lib.hid hg
  have HL0 := Lib.hid hl
  have HB := Lib.hid hB
  have HB0 := Lib.hid B0
  have hng32 : ng ≤ 32 := by have := hg.ok.count; omega
  simp only [grVal]
  clear hg hl hB hlen
  go_enter Try.func77, Try.ntmps77
  have cB0 := B0.cell
  have fB0 := B0.frozen
  have lB0 := B0.lt
  go_wp2_with fail
  clear cB0 fB0 lB0
  have BS := Blk.new (w.alloc (.cells #[.int .i64 (g.terms : Int), .int .i64 (g.nons : Int), .int .i64 (g.start : Int), .slice Ag ng cg] 28)) 3 #[.int .i64 (-1)]
  rw [World.size_alloc] at BS
  have HB2 := Lib.hid (HB.out.al (.cells #[.int .i64 (-1)] 3))
  have HBG := Lib.hid (HB0.out.al (.cells #[.int .i64 (-1)] 3))
  clear B0 HB HB0
  generalize hW : (w.alloc (.cells #[.int .i64 (g.terms : Int), .int .i64 (g.nons : Int), .int .i64 (g.start : Int), .slice Ag ng cg] 28)).alloc (.cells #[.int .i64 (-1)] 3) = W at *
  have hWs : w.heap.size < W.heap.size := HBG.out.lt
  clear hW
  refine (repeat_c (w.heap.size + 1) g.nons W (BS.cell 0) hn1 (by omega)).mono ?_
  rintro e w2 ⟨rfl, hb2, hbel⟩
  have HLR := Lib.hid (show LR w W.heap.size #[.int .i64 (g.terms : Int), .int .i64 (g.nons : Int), .int .i64 (g.start : Int), .slice Ag ng cg] (List.replicate g.nons (-1)) w2 from
    ⟨by have q : iVals (List.replicate g.nons (-1)) = (List.replicate g.nons (Value.int .i64 (-1))).toArray := by simp [iVals]
        rw [q]; exact hb2, HBG.out.via hbel, HB2.out.via hbel, hWs⟩)
  have HLG := Lib.hid (LenG.start g.nons)
  clear BS HB2 HBG hb2 hbel hWs
  generalize W.heap.size = bo at *
  generalize List.replicate g.nons (-1) = xs0 at *
  go_wp2_with fail
  go_loopg [4] (2 * muS (4 ^ g.nons + 1) xs0 + 1) (fun gk a wx => ∃ xs ag, a = .bool ag ∧ LenG g.nons xs ∧ LR w bo #[.int .i64 (g.terms : Int), .int .i64 (g.nons : Int), .int .i64 (g.start : Int), .slice Ag ng cg] xs wx ∧ gk = 2 * muS (4 ^ g.nons + 1) xs + (if ag then 1 else 0))
  case atStart => exact ⟨xs0, true, rfl, HLG.out, HLR.out, rfl⟩
  case round =>
    obtain ⟨xs, ag, rfl, hlg, hlr, hgk⟩ := hrel
    clear HLR HLG
    cases ag with
    | false =>
      have HLG := Lib.hid hlg
      have HLR := Lib.hid hlr
      clear hlg hlr hgk
      go_wp2_with fail
      go_ret
      exact ⟨bo, xs, rfl, HLG.out.len, HLR.out.blk, HLR.out.bel, HLR.out.l1⟩
    | true =>
      have HLG := Lib.hid hlg
      have HLR := Lib.hid hlr
      have HGK := Lib.hid hgk
      have Bg := hlr.hg
      clear hlg hlr hgk
      have cBg := Bg.cell
      have fBg := Bg.frozen
      have lBg := Bg.lt
      go_wp2_with fail
      clear cBg fBg lBg
      clear Bg
      obtain ⟨wo, rfl⟩ : ∃ wo : World, wo = wr := ⟨_, rfl⟩
      go_loopw [4, 19] (fun a q wr => ∃ (k : Nat) (ys : List Int) (ag : Bool), q = .int .i64 k ∧ k ≤ ng ∧ a = .bool ag ∧ LenG g.nons ys ∧ LR w bo #[.int .i64 (g.terms : Int), .int .i64 (g.nons : Int), .int .i64 (g.start : Int), .slice Ag ng cg] ys wr ∧ Prog g.nons xs ys ag) (fun _ q _ => ng - (intOf q).toNat)
      case atStart => exact ⟨0, xs, false, rfl, Nat.zero_le _, rfl, HLG.out, HLR.out, Or.inl ⟨rfl, rfl⟩⟩
      case round =>
        obtain ⟨k, ys, ag, rfl, hk, rfl, hlg, hlr, hpg⟩ := hrel
        clear HLR HLG
        by_cases hkn : k < ng
        · obtain ⟨b1, o1, ⟨sl, sA, sn, sc⟩, ⟨sl', rhs⟩, hAg, -, hbb, hy, ⟨hx1, hx2⟩, hc⟩ := (HL0.out.via hlr.bel).at_ hkn
          simp only at hx1 hx2
          obtain rfl : sl = sl' := hx1
          subst hAg
          have d0 := hc 0 _ rfl
          have d1 := hc 1 _ rfl
          simp only [RuE, Nat.add_zero] at d0 d1
          have i0 : (0 : Int) ≤ (k : Int) := by omega
          have i1 : (k : Int) < (ng : Int) := by omega
          have hmem := List.mem_of_getElem? hy
          have hsl : sl < g.nons := HGO.out.ok.left _ hmem
          have HRT := Lib.hid (HGO.out.ok.right _ hmem)
          have hsn : sn ≤ 4 := by rw [← hx2.len]; exact HRT.out.1
          have HSR := Lib.hid (hx2.al (.cells #[.int .i64 (sl : Int), .slice sA sn sc] 75))
          have HLR1 := Lib.hid (hlr.via ((Below.refl wr.heap.size wr).al (.cells #[.int .i64 (sl : Int), .slice sA sn sc] 75)))
          have HBK := Lib.hid (Blk.new wr 75 #[.int .i64 (sl : Int), .slice sA sn sc])
          have HLG1 := Lib.hid hlg
          have HPG1 := Lib.hid hpg
          have hbx : bo < wr.heap.size := hlr.blk.lt
          clear hc hy hx2 hlg hlr hpg hmem hbb
          go_wp2_with fail
          clear d0 d1
          generalize wr.alloc (.cells #[.int .i64 (sl : Int), .slice sA sn sc] 75) = W4 at *
          generalize wr.heap.size = brx at *
          obtain ⟨wp, rfl⟩ : ∃ wp : World, wp = wr := ⟨_, rfl⟩
          go_loopw [7, 26] (fun a q wr => ∃ (j : Nat) (s : Int), q = .int .i64 j ∧ j ≤ sn ∧ a = .int .i64 s ∧ SumB ys j s ∧ LR w bo #[.int .i64 (g.terms : Int), .int .i64 (g.nons : Int), .int .i64 (g.start : Int), .slice (some ⟨b1, o1, none⟩) ng cg] ys wr ∧ Blk wr brx 75 #[.int .i64 (sl : Int), .slice sA sn sc] ∧ Below W4.heap.size W4 wr) (fun _ q _ => sn - (intOf q).toNat)
          case atStart => exact ⟨0, 0, rfl, Nat.zero_le _, rfl, SumB.start ys, HLR1.out, HBK.out, Below.refl _ _⟩
          case round =>
            obtain ⟨j, s, rfl, hj, rfl, hsb, hlr, hbk, hbw⟩ := hrel
            clear HLR1 HBK
            by_cases hjn : j < sn
            · obtain ⟨b2, o2, sx, sy, rfl, -, hbb2, hy2, hxy, hc2⟩ := (HSR.out.via hbw).at_ hjn
              obtain rfl : sx = sy := hxy
              obtain ⟨tb, tn⟩ := sx
              have c0 := hc2 0 _ rfl
              have c1 := hc2 1 _ rfl
              simp only [SyE, Nat.add_zero] at c0 c1
              have j0 : (0 : Int) ≤ (j : Int) := by omega
              have j1 : (j : Int) < (sn : Int) := by omega
              have hsy := HRT.out.2 _ (List.mem_of_getElem? hy2)
              have hsm := hsb.small HLG1.out (by omega) (by omega)
              have hs0 := hsb.1
              have HSB := Lib.hid hsb
              have hal := (Below.refl wr.heap.size wr).al (.cells #[.bool tb, .int .i64 (tn : Int)] 48)
              have HLR2 := Lib.hid (hlr.via hal)
              have HBK2 := Lib.hid (hbk.via hal)
              have HBW2 := Lib.hid (hbw.via hal)
              have Bs := Blk.new wr 48 #[.bool tb, .int .i64 (tn : Int)]
              clear hc2 hy2 hbb2 hsb hlr hbw hal
              have chbk := hbk.cell
              have fhbk := hbk.frozen
              have lhbk := hbk.lt
              go_upto_region 13 with fail
              clear chbk fhbk lhbk
              clear c0 c1 hbk
              generalize wr.alloc (.cells #[.bool tb, .int .i64 (tn : Int)] 48) = W5 at *
              generalize wr.heap.size = bs5 at *
              by_cases hs : 0 ≤ s
              · cases tb with
                | true =>
                  have cBs := Bs.cell
                  have fBs := Bs.frozen
                  have lBs := Bs.lt
                  go_wp2_with fail
                  exact ⟨⟨j + 1, s + 1, by go_num, by omega, by go_num, HSB.out.one, HLR2.out, HBK2.out, HBW2.out⟩, by simp [intOf]; omega⟩
                | false =>
                  rw [Gr.okSy, if_neg (by simp)] at hsy
                  have htn : tn < g.nons := by simpa using hsy
                  obtain ⟨x, hx⟩ : ∃ x, ys[tn]? = some x := ⟨_, List.getElem?_eq_getElem (by rw [HLG1.out.len]; exact htn)⟩
                  have hcx := HLR2.out.cell hx
                  have t0 : (0 : Int) ≤ (tn : Int) := by omega
                  have t1 : (tn : Int) < (g.nons : Int) := by omega
                  have HX := Lib.hid (List.mem_of_getElem? hx)
                  clear hx hsy
                  by_cases hx0 : 0 ≤ x
                  · have HA := Lib.hid (HSB.out.add HLG1.out HX.out hx0)
                    have hA2 := HA.out.small HLG1.out (by omega) (by omega)
                    have cBs := Bs.cell
                    have fBs := Bs.frozen
                    have lBs := Bs.lt
                    go_wp2_with fail
                    exact ⟨⟨j + 1, s + x, by go_num, by omega, by go_num, HA.out, HLR2.out, HBK2.out, HBW2.out⟩, by simp [intOf]; omega⟩
                  · have e2 : decide ((0 : Int) ≤ x) = false := by simpa using hx0
                    have cBs := Bs.cell
                    have fBs := Bs.frozen
                    have lBs := Bs.lt
                    go_wp2_with fail
                    exact ⟨⟨j + 1, -1, by go_num, by omega, rfl, SumB.no ys _, HLR2.out, HBK2.out, HBW2.out⟩, by simp [intOf]; omega⟩
              · have e1 : decide ((0 : Int) ≤ s) = false := by simpa using hs
                cases tb with
                | true =>
                  have cBs := Bs.cell
                  have fBs := Bs.frozen
                  have lBs := Bs.lt
                  go_wp2_with fail
                  exact ⟨⟨j + 1, -1, by go_num, by omega, rfl, SumB.no ys _, HLR2.out, HBK2.out, HBW2.out⟩, by simp [intOf]; omega⟩
                | false =>
                  have cBs := Bs.cell
                  have fBs := Bs.frozen
                  have lBs := Bs.lt
                  go_wp2_with fail
                  exact ⟨⟨j + 1, -1, by go_num, by omega, rfl, SumB.no ys _, HLR2.out, HBK2.out, HBW2.out⟩, by simp [intOf]; omega⟩
            · have hs0 := hsb.1
              obtain ⟨x, hx⟩ : ∃ x, ys[sl]? = some x := ⟨_, List.getElem?_eq_getElem (by rw [HLG1.out.len]; exact hsl)⟩
              have hcx := hlr.cell hx
              have hsm := hsb.small HLG1.out (by omega) (by omega)
              have h4 := Lib.hid (hsb.four (show j ≤ 4 by omega))
              have fr := hlr.blk.frozen
              have HX := Lib.hid hx
              have HLR2 := Lib.hid hlr
              have HS := Lib.hid hsb
              have s0 : (0 : Int) ≤ (sl : Int) := by omega
              have s1 : (sl : Int) < (g.nons : Int) := by omega
              clear hsb hlr hbw hx
              by_cases hs : 0 ≤ s
              · by_cases hxn : x < 0
                · have HP := Lib.hid (HLG1.out.put HX.out hs h4.out (Or.inl hxn))
                  have chbk := hbk.cell
                  have fhbk := hbk.frozen
                  have lhbk := hbk.lt
                  go_wp2_with fail
                  exact ⟨⟨k + 1, ys.set sl s, true, by go_num, by omega, rfl, HP.out.1, HLR2.out.put s, HPG1.out.step HP.out.2⟩, by simp [intOf]; omega⟩
                · by_cases hsx : s < x
                  · have HP := Lib.hid (HLG1.out.put HX.out hs h4.out (Or.inr hsx))
                    have chbk := hbk.cell
                    have fhbk := hbk.frozen
                    have lhbk := hbk.lt
                    go_wp2_with fail
                    exact ⟨⟨k + 1, ys.set sl s, true, by go_num, by omega, rfl, HP.out.1, HLR2.out.put s, HPG1.out.step HP.out.2⟩, by simp [intOf]; omega⟩
                  · have chbk := hbk.cell
                    have fhbk := hbk.frozen
                    have lhbk := hbk.lt
                    go_wp2_with fail
                    exact ⟨⟨k + 1, ys, ag, by go_num, by omega, rfl, HLG1.out, HLR2.out, HPG1.out⟩, by simp [intOf]; omega⟩
              · have e1 : decide ((0 : Int) ≤ s) = false := by simpa using hs
                have chbk := hbk.cell
                have fhbk := hbk.frozen
                have lhbk := hbk.lt
                go_wp2_with fail
                exact ⟨⟨k + 1, ys, ag, by go_num, by omega, rfl, HLG1.out, HLR2.out, HPG1.out⟩, by simp [intOf]; omega⟩
        · have HLG := Lib.hid hlg
          have HLR := Lib.hid hlr
          have HPG := Lib.hid hpg
          clear hlg hlr hpg
          go_wp2_with fail
          go_roundg (2 * muS (4 ^ g.nons + 1) ys + (if ag then 1 else 0))
          case measure =>
            rw [HGK.out]
            rcases HPG.out with ⟨rfl, rfl⟩ | ⟨rfl, h⟩
            · simp
            · simp; omega
          case rel => exact ⟨ys, ag, rfl, HLG.out, HLR.out, rfl⟩
end Go.Proofs.Ytghnkgbingcbcaa
