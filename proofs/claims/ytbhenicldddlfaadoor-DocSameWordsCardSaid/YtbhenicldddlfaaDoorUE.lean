/- Texts UE, laid together. -/
import Derived.Test.YtbhenicldddlfaaDoorG2
import Derived.Test.YtbhenicldddlfaaDoorF3
import Derived.Test.YtbhenicldddlfaaDoorSh




namespace Go.Proofs.YtbhenicldddlfaaDoor
open Go.RowKit

theorem mk_toList (l : List UInt8) : (⟨l.toArray⟩ : ByteArray).data.toList = l := by simp
theorem size_mk (l : List UInt8) : (⟨l.toArray⟩ : ByteArray).size = l.length := by simp [ByteArray.size]
def BareP (s : ByteArray) (w : World) (e : Ending) (w' : World) : Prop := e = .returned (.string ⟨(bareL (bts s)).toArray⟩) ∧ Below w.heap.size w w'
set_option maxHeartbeats 1000000 in
theorem bare_c (s : ByteArray) (m : Int) (w : World) (hs : s.size ≤ 9600000) (hm : w.cell? ⟨0, 0, none⟩ = some (.int .i64 m)) : Calls Tryd.prog 9 #[.string s] w (BareP s w) := by
  have h0 : 0 < w.heap.size := World.block_lt_of_cell? w _ hm
  have HM := Lib.hid hm
  clear hm
  go_enter Tryd.func9, Tryd.ntmps9
  go_wp2_with fail
  refine (Tryd.strings_ReplaceAll s ⟨#[32]⟩ ⟨#[]⟩ m w (by omega) HM.out (by decide) (by have : (⟨#[]⟩ : ByteArray).size = 0 := rfl; rw [this]; omega)).mono ?_
  rintro e w1 ⟨rfl, hb1⟩
  obtain ⟨r, hr⟩ : ∃ r, r = Lib.replaceAll s.data.toList [32] [] := ⟨_, rfl⟩
  have hrl : r.length ≤ 9600000 := by
    have h1 : r.length ≤ s.data.toList.length := by rw [hr, replaceAll1]; exact List.length_filter_le _ _
    have h2 : s.data.toList.length = s.size := bts_len s
    omega
  have HB := Lib.hid hb1
  have HM1 := Lib.hid ((hb1.cell (p := ⟨0, 0, none⟩) h0).trans HM.out)
  have HR := Lib.hid hr
  rw [show (⟨#[32]⟩ : ByteArray).data.toList = [32] from rfl, show (⟨#[]⟩ : ByteArray).data.toList = [] from rfl, ← hr]
  clear hb1 hr
  go_wp2_with fail
  refine (Tryd.strings_ReplaceAll ⟨r.toArray⟩ ⟨#[10]⟩ ⟨#[]⟩ m w1 (by rw [size_mk]; omega) HM1.out (by decide) (by have : (⟨#[]⟩ : ByteArray).size = 0 := rfl; rw [this, size_mk]; omega)).mono ?_
  rintro e w2 ⟨rfl, hb2⟩
  have HB2 := Lib.hid (HB.out.via hb2)
  have HE := Lib.hid (show Lib.replaceAll (⟨r.toArray⟩ : ByteArray).data.toList (⟨#[10]⟩ : ByteArray).data.toList (⟨#[]⟩ : ByteArray).data.toList = bareL (bts s) by
    rw [mk_toList, HR.out]; exact bare_is (bts s))
  rw [HE.out]
  clear hb2
  go_wp2_with fail
  go_ret
  exact ⟨rfl, HB2.out⟩

theorem bare_k (s : ByteArray) (bb : ByteArray) (m : Int) (w : World) (hs : s.size ≤ 9600000) (hb : (⟨(bareL (bts s)).toArray⟩ : ByteArray) = bb) (hm : w.cell? ⟨0, 0, none⟩ = some (.int .i64 m)) :
    Calls Tryd.prog 9 #[.string s] w fun e w' => e = .returned (.string bb) ∧ Below w.heap.size w w' :=
  (bare_c s m w hs hm).mono fun _ _ ⟨h1, h2⟩ => ⟨by rw [h1, hb], h2⟩
/-- All's list of a document -/
def SameK (W : Nat) (t : Dc) (E : Nat) (ks : List Lz) : Prop := (E = 2 ∧ ks = []) ∨ (E = 0 ∧ 0 < ks.length ∧ ks.length ≤ 4096 ∧ (∀ x ∈ ks, LzOk W (bts t.flat) x) ∧ ∀ x, ks[0]? = some x → x = (BestR W t).z)
theorem AllP.samek {W : Nat} {t : Dc} {w w' : World} {e : Ending} (ho : t.Ok) (hs : t.size ≤ 400) (h : AllP W t w e w') :
    ∃ (A : Option Addr) (n c E : Nat) (ks : List Lz), e = .returned (.tuple #[.slice A n c, .int .i64 (E : Int)]) ∧ Sl LzE (fun _ => True) w' A n c ks ∧ SameK W t E ks ∧ Below w.heap.size w w' := by
  unfold AllP at h
  split at h
  · exact ⟨none, 0, 0, 2, [], h.1, Sl.nil 0, Or.inl ⟨rfl, rfl⟩, h.2⟩
  · rename_i hg
    obtain ⟨A, n, c, ys, h1, h2, h3, h4, h5⟩ := h
    refine ⟨A, n, c, 0, ys, h1, h4, Or.inr ⟨rfl, ?_, ?_, fun x hx => allN_ok ho hs x (h2.mem_iff.1 hx), fun x hx => ?_⟩, h5⟩
    · rw [h2.length_eq]
      obtain ⟨N, hN⟩ : ∃ N, 2 ^ grpN (t.ops 0 0) = N + 1 := ⟨2 ^ grpN (t.ops 0 0) - 1, by have := Nat.one_le_two_pow (n := grpN (t.ops 0 0)); omega⟩
      rw [hN]; exact allN_pos _ _ _
    · rw [h2.length_eq]
      have h12 : 2 ^ grpN (t.ops 0 0) ≤ 2 ^ 12 := Nat.pow_le_pow_right (by omega) (by omega)
      exact Nat.le_trans (allN_len _ _ _) h12
    · cases ys with
      | nil => simp at hx
      | cons y r =>
        obtain rfl : y = x := by simpa using hx
        exact best_first ho hs h2 h3

set_option maxRecDepth 100000 in
set_option maxHeartbeats 8000000 in
theorem docSameWords_walk (A : Option Addr) (n c : Nat) (l : List Int) (width : Int) (w : World) (h : Ints w A n c l) (hg : ∃ m, w.cell? ⟨0, 0, none⟩ = some (.int .i64 m)) :
    Calls Tryd.prog 3 #[.slice A n c, .int .i64 width] w fun e w' => e = .returned (.bool true) ∧ Below w.heap.size w w' := by
  obtain ⟨gm, hgm⟩ := hg
  have hg0 : 0 < w.heap.size := World.block_lt_of_cell? w _ hgm
  have HG := Lib.hid hgm
  have HI := Lib.hid h
  clear h hgm
  go_enter Tryd.func3, Tryd.ntmps3
  go_wp2_with fail
  refine (pair_c w).mono ?_
  rintro e W1 ⟨v1, t1, rfl, h1, rfl, hb1⟩
  have HB1 := Lib.hid hb1
  have HI1 := Lib.hid (HI.out.via hb1)
  clear hb1 HI
  go_wp2_with fail
  refine (All_c _ v1 pairD 4 W1 h1 pairD_ok (by rw [pairD_size]; omega) (by omega) (by omega)).mono ?_
  intro e W2 hA
  unfold AllP at hA
  rw [pair_two.1, if_neg (by omega)] at hA
  obtain ⟨A2, n2, c2, ys2, rfl, hp2, -, hs2, hb2⟩ := hA
  obtain rfl : n2 = 2 := by rw [← hs2.len, hp2.length_eq]; exact pair_two.2
  have HB2 := Lib.hid (HB1.out.via hb2)
  have HI2 := Lib.hid (HI1.out.via hb2)
  have x1 := belowI_lo width 20 (by omega)
  have x2 := belowI_hi width 20 (by omega)
  obtain ⟨W, hW⟩ : ∃ W : Nat, (W : Int) = 1 + belowI width 20 := ⟨(1 + belowI width 20).toNat, by omega⟩
  have wW : IntKind.i64.wrap (1 + belowI width 20) = (W : Int) := (IntWalk.i64_in _ (by omega)).trans hW.symm
  have hW1 : 1 ≤ W := by omega
  have hW2 : W ≤ 200 := by omega
  clear hp2 hs2 hb2 h1 HB1 HI1 hW x1 x2
  go_wp2_with (go_at_call 6; refine (below_c width 20 _ (by omega) (by omega)).mono ?_; rintro e w' ⟨rfl, rfl⟩)
  clear wW
  refine (Doc_f A n c l W2 HI2.out).mono ?_
  rintro e W3 ⟨v3, t, rfl, h3, ⟨ho, hs, htl⟩, hb3⟩
  have HB3 := Lib.hid (HB2.out.via hb3)
  have HI3 := Lib.hid (HI2.out.via hb3)
  have HO := Lib.hid ho
  have HTL := Lib.hid htl
  have hs4 : t.size ≤ 400 := by omega
  clear hb3 ho htl HB2 HI2
  go_wp2_with fail
  refine (All_c _ v3 t W W3 h3 HO.out hs4 hW1 hW2).mono ?_
  intro e W4 hA
  obtain ⟨A4, n4, c4, E, ks, rfl, hL, hK, hb4⟩ := hA.samek HO.out hs4
  have HB4 := Lib.hid (HB3.out.via hb4)
  have HI4 := Lib.hid (HI3.out.via hb4)
  have HL := Lib.hid hL
  have hln := hL.len
  clear hA hL hb4 h3 HB3 HI3
  rcases hK with ⟨rfl, rfl⟩ | ⟨rfl, hk1, hk2, hk3, hk4⟩
  · obtain rfl : n4 = 0 := hln.symm
    clear hln
    go_wp2_with fail
    go_ret
    exact ⟨rfl, HB4.out⟩
  · have hn4 : 1 ≤ n4 := by omega
    have hn5 : n4 ≤ 4096 := by omega
    have HK3 := Lib.hid hk3
    have HK4 := Lib.hid hk4
    clear hk3 hk4 hk1 hk2 hln
    have hne : ((n4 : Int) == 0) = false := by simp; omega
    go_wp2_with fail
    go_loopw [56] (fun i wr => ∃ j : Nat, i = .int .i64 j ∧ j ≤ n4 ∧ Hid (Below W4.heap.size W4 wr)) (fun i _ => n4 - (intOf i).toNat)
    case atStart => exact ⟨0, rfl, Nat.zero_le _, Lib.hid (Below.refl _ _)⟩
    case round =>
      obtain ⟨j, rfl, hj, HBR⟩ := hrel
      obtain ⟨b0, o0, ⟨ye, yl, ⟨yA, yn, yc⟩, yt⟩, y, hA4, -, hb0, hy, hyr, hyc⟩ := (HL.out.via HBR.out).at_ (i := 0) (by omega)
      subst hA4
      obtain ⟨-, -, y3, -⟩ := hyr
      simp only at y3
      have hyt := hyc 3 _ rfl
      simp only [LzE, Nat.zero_mul, Nat.add_zero] at hyt
      have HY := Lib.hid hy
      have HYT := Lib.hid y3
      clear hyc hy y3
      by_cases hjl : j < n4
      · as_aux_lemma =>
        obtain ⟨b1, o1, ⟨xe, xl, ⟨xA, xn, xc⟩, xt⟩, x, hA4, -, hb1, hx, hxr, hc⟩ := (HL.out.via HBR.out).at_ hjl
        obtain ⟨rfl, rfl⟩ : b0 = b1 ∧ o0 = o1 := by simpa using hA4
        obtain ⟨a1, a2, a3, -⟩ := hxr
        simp only at a1 a2 a3
        have c0 := hc 0 _ rfl
        have c1 := hc 1 _ rfl
        have c2 := hc 2 _ rfl
        have c3 := hc 3 _ rfl
        simp only [LzE, Nat.add_zero] at c0 c1 c2 c3
        have i0 : (0 : Int) ≤ (j : Int) := by omega
        have i1 : (j : Int) < (n4 : Int) := by omega
        have hox := HK3.out x (List.mem_of_getElem? hx)
        have hoy := HK3.out y (List.mem_of_getElem? HY.out)
        have hxs : xt.size ≤ 9600000 := by rw [a3]; exact hox.size
        have hys : yt.size ≤ 9600000 := by rw [HYT.out]; exact hoy.size
        obtain ⟨bb, hbb⟩ : ∃ bb : ByteArray, bb = ⟨(bareL (bts t.flat)).toArray⟩ := ⟨_, rfl⟩
        have HXB := Lib.hid (show (⟨(bareL (bts xt)).toArray⟩ : ByteArray) = bb by rw [a3, hox.br, hbb])
        have HYB := Lib.hid (show (⟨(bareL (bts yt)).toArray⟩ : ByteArray) = bb by rw [HYT.out, hoy.br, hbb])
        obtain ⟨P, hP⟩ : ∃ P, P = pcs xt := ⟨_, rfl⟩
        have hPL : P.length = xl + 1 := by rw [hP, pcs_len, a3, hox.ln, a2]
        have hPE : exS W P = xe := by rw [hP, pcs_ex, a3, hox.ex, a1]
        have HPY := Lib.hid (show ∀ (k : Nat) (y : ByteArray), P[k]? = some y → y.size ≤ 9600000 from fun k y h => by rw [hP] at h; exact Nat.le_trans (pcs_at_le h) hxs)
        have hxe : xe ≤ 9600000 := by
          have h1 := exL_le W (bts xt) 0
          rw [← pcs_ex, ← hP, hPE, bts_len] at h1; omega
        have hxl : xl ≤ 9600000 := by
          rw [a2, ← hox.ln, ← a3]
          have h1 := List.count_le_length (a := (10 : UInt8)) (l := bts xt)
          rw [bts_len] at h1; omega
        have HPE := Lib.hid hPE
        have HPP := Lib.hid (show Lib.splitB ⟨#[10]⟩ 0 (Lib.countB xt ⟨#[10]⟩) xt = P from hP.symm)
        obtain ⟨K, hKX⟩ : ∃ K, K = xl + 1 := ⟨_, rfl⟩
        have HPC := Lib.hid (show Lib.countB xt ⟨#[10]⟩ + 1 = K by rw [cnt_is, a3, hox.ln, hKX, a2])
        have hPK : P.length = K := by rw [hPL, hKX]
        have hKl : K ≤ 9600001 := by omega
        have HKX := Lib.hid hKX
        have hBx := (Below.refl wr.heap.size wr).al (.cells #[.int .i64 (xe : Int), .int .i64 (xl : Int), .slice xA xn xc, .string xt] 34)
        have BX := Blk.new wr 34 #[.int .i64 (xe : Int), .int .i64 (xl : Int), .slice xA xn xc, .string xt]
        have HBX := Lib.hid (HBR.out.via hBx)
        have HYX := Lib.hid ((hBx.cell (p := ⟨b0, o0 + 3, none⟩) hb0).trans hyt)
        have hb0x := Nat.lt_of_lt_of_le hb0 hBx.size
        clear hPL hKX
        clear hc hx hox hoy hP hPE a1 a2 a3 hbb hBx hyt HBR
        go_upto_region 12 with fail
        clear c0 c1 c2 c3
        generalize hgx : wr.alloc (.cells #[.int .i64 (xe : Int), .int .i64 (xl : Int), .slice xA xn xc, .string xt] 34) = wx at *
        clear hgx
        have HGX := Lib.hid (((HB4.out.via HBX.out).cell (p := ⟨0, 0, none⟩) hg0).trans HG.out)
        have cBX := BX.cell
        have fBX := BX.frozen
        have lBX := BX.lt
        go_wp2_with fail
        clear cBX fBX lBX
        refine (Tryd.strings_Split xt ⟨#[10]⟩ gm wx (by omega) HGX.out (by decide)).mono ?_
        rintro e wy ⟨rfl, hwy⟩
        rw [HPP.out] at hwy
        rw [HPC.out]
        have BP : Blk wy wx.heap.size 9 (P.map Value.string).toArray := by rw [hwy]; exact Blk.new wx _ _
        have hby : Below wx.heap.size wx wy := by rw [hwy]; exact (Below.refl _ _).al _
        have HBY := Lib.hid (HBX.out.via hby)
        have HYY := Lib.hid ((hby.cell (p := ⟨b0, o0 + 3, none⟩) hb0x).trans HYX.out)
        have HGY := Lib.hid ((hby.cell (p := ⟨0, 0, none⟩) (World.block_lt_of_cell? wx _ HGX.out)).trans HGX.out)
        replace BX := BX.via hby
        have hb0y := Nat.lt_of_lt_of_le hb0x hby.size
        clear hwy hby HBX HYX HGX HPP HPC
        generalize wx.heap.size = bs at *
        generalize wr.heap.size = bx at *
        go_wp2_with fail
        go_loopw [65, 12] (fun i s wz => ∃ k : Nat, i = .int .i64 k ∧ k ≤ K ∧ s = .int .i64 (exS W (P.take k) : Int) ∧ wz = wy) (fun i _ _ => K - (intOf i).toNat)
        case atStart => exact ⟨0, rfl, Nat.zero_le _, rfl, rfl⟩
        case round =>
          obtain ⟨k, rfl, hk, rfl, rfl⟩ := hrel
          by_cases hkl : k < K
          · as_aux_lemma =>
            have hp : P[k]? = some P[k] := List.getElem?_eq_getElem (by omega)
            generalize P[k] = p at hp
            have cp : wr.cell? ⟨bs, k, none⟩ = some (.string p) := by
              rw [BP.cell, List.getElem?_toArray, List.getElem?_map, hp]; rfl
            have hpz := HPY.out k p hp
            have hst := exS_take (W := W) hp
            have hle := exS_take_le W P (k + 1)
            rw [HPE.out] at hle
            obtain ⟨S, hS⟩ : ∃ S, S = exS W (P.take k) := ⟨_, rfl⟩
            obtain ⟨S', hS'⟩ : ∃ S', S' = exS W (P.take (k + 1)) := ⟨_, rfl⟩
            rw [← hS, ← hS'] at hst
            rw [← hS'] at hle
            rw [← hS]
            have i2 : (0 : Int) ≤ (k : Int) := by omega
            have i3 : (k : Int) < (K : Int) := by omega
            have e1 : IntKind.i64.wrap ((p.size : Int) - (W : Int)) = (p.size : Int) - (W : Int) := IntWalk.i64_in _ (by omega)
            have HS' := Lib.hid hS'
            have HM := Lib.hid (show max (0 : Int) ((p.size : Int) - (W : Int)) = (ovr W p.size : Int) by rw [Int.max_def]; unfold ovr; split <;> omega)
            have HST := Lib.hid hst
            have hov : S + ovr W p.size ≤ 9600000 := by omega
            generalize ovr W p.size = V at *
            clear hp hS hS' hst
            go_wp2_with fail
            exact ⟨⟨k + 1, by go_num, by omega, by rw [HM.out, ← HS'.out, HST.out]; go_num, trivial⟩, by simp [intOf]; omega⟩
          · obtain rfl : k = K := by omega
            have hSE : exS W (P.take k) = xe := by rw [List.take_of_length_le (by omega)]; exact HPE.out
            rw [hSE]
            have hsl := HBY.out.size
            have SOF := Lib.hid (show ∀ w', Below wr.heap.size wr w' → ((∀ i, w'.cell? ⟨bx, i, none⟩ = #[.int .i64 (xe : Int), .int .i64 (xl : Int), .slice xA xn xc, .string xt][i]?) ∧ w'.cell? ⟨b0, o0 + 3, none⟩ = some (.string yt) ∧ w'.cell? ⟨0, 0, none⟩ = some (.int .i64 gm) ∧ Below wr.heap.size wr w') from fun w' hb => ⟨(BX.via hb).cell, (hb.cell (p := ⟨b0, o0 + 3, none⟩) hb0y).trans HYY.out, (hb.cell (p := ⟨0, 0, none⟩) (World.block_lt_of_cell? wr _ HGY.out)).trans HGY.out, hb⟩)
            have hw1 : IntKind.i64.wrap ((k : Int) - 1) = (xl : Int) := (IntWalk.i64_in _ (by omega)).trans (by have := HKX.out; omega)
            have e1 : ((xe : Int) != (xe : Int)) = false := by simp
            have e2 : ((xl : Int) != (xl : Int)) = false := by simp
            have hb00 := (Below.refl wr.heap.size wr).drew
            have i5 : (0 : Int) < (n4 : Int) := by omega
            have i6 : 0 < n4 := by omega
            clear BX BP hSE HPE HPY
            go_upto_region 18 with fail
            go_region_held3 (fun w' => (∀ i, w'.cell? ⟨bx, i, none⟩ = #[.int .i64 (xe : Int), .int .i64 (xl : Int), .slice xA xn xc, .string xt][i]?) ∧ w'.cell? ⟨b0, o0 + 3, none⟩ = some (.string yt) ∧ w'.cell? ⟨0, 0, none⟩ = some (.int .i64 gm) ∧ Below wr.heap.size wr w') (exact SOF.out _ (by assumption)) (first
              | (go_at_call 9; (with_reducible refine (bare_k xt bb gm _ hxs HXB.out (SOF.out _ (by assumption)).2.2.1).mono ?_); rintro ee wk ⟨rfl, hbk⟩; have hbz := Below.via (by assumption) hbk)
              | (go_at_call 9; (with_reducible refine (bare_k yt bb gm _ hys HYB.out (SOF.out _ (by assumption)).2.2.1).mono ?_); rintro ee wk ⟨rfl, hbk⟩; have hbz := Below.via (by assumption) hbk))
            all_goals
              have HFN := Lib.hid (HBY.out.via hbz)
              go_wp2_with fail
              exact ⟨⟨j + 1, by go_num, by omega, HFN⟩, by simp [intOf]; omega⟩
      · as_aux_lemma =>
        have HBF := Lib.hid (HB4.out.via HBR.out)
        have HIF := Lib.hid (HI4.out.via HBR.out)
        have HYX := Lib.hid hyt
        have HTX := Lib.hid (show yt = ⟨(BestR W t).tx.toArray⟩ by rw [HYT.out, HK4.out y HY.out]; rfl)
        clear hyt HBR
        go_wp2_with fail
        refine (Doc_f A n c l wr HIF.out).mono ?_
        rintro e W6 ⟨v6, t6, rfl, h6, ⟨-, -, ht6⟩, hb6⟩
        obtain rfl : t6 = t := ht6.trans HTL.out.symm
        have HBG := Lib.hid (HBF.out.via hb6)
        have HYG := Lib.hid ((hb6.cell (p := ⟨b0, o0 + 3, none⟩) hb0).trans HYX.out)
        have hb06 := Nat.lt_of_lt_of_le hb0 hb6.size
        clear hb6 HYX HBF ht6
        go_wp2_with fail
        refine (Best_c _ v6 t6 W W6 h6 HO.out hs4 hW1 hW2).mono ?_
        rintro e W7 ⟨A7, n7, c7, rfl, hb7⟩
        obtain ⟨L, hL⟩ : ∃ L, L = BestR W t6 := ⟨_, rfl⟩
        rw [← hL] at HTX ⊢
        clear hL
        obtain ⟨ex7, ln7, xs7, tx7, k7⟩ := L
        dsimp only [LyV] at HTX ⊢
        have hb8 := (Below.refl W7.heap.size W7).al (.cells #[.int .i64 (ex7 : Int), .int .i64 (ln7 : Int), .slice A7 n7 c7, .string ⟨tx7.toArray⟩] 34)
        have B8 := Blk.new W7 34 #[.int .i64 (ex7 : Int), .int .i64 (ln7 : Int), .slice A7 n7 c7, .string ⟨tx7.toArray⟩]
        have HBH := Lib.hid ((HBG.out.via hb7).via hb8)
        have hyt8 := ((hb7.trans (hb8.mono hb7.size)).cell (p := ⟨b0, o0 + 3, none⟩) hb06).trans HYG.out
        rw [HTX.out] at hyt8
        have i5 : (0 : Int) < (n4 : Int) := by omega
        have i6 : 0 < n4 := by omega
        clear hb7 hb8 HBG HYG h6
        go_upto_region 22 with fail
        generalize hgw : W7.alloc (.cells #[.int .i64 (ex7 : Int), .int .i64 (ln7 : Int), .slice A7 n7 c7, .string ⟨tx7.toArray⟩] 34) = W8 at *
        clear hgw
        have cB8 := B8.cell
        have fB8 := B8.frozen
        have lB8 := B8.lt
        generalize (⟨tx7.toArray⟩ : ByteArray) = bb at *
        go_quiet (fail)
        go_wp2_with fail
        go_ret
        exact ⟨rfl, below_drewN HBH.out _⟩
end Go.Proofs.YtbhenicldddlfaaDoor

