/- TreePlaced: the walk. -/
import Derived.Test.YtdccgeiniockpaaJJ
namespace Go.Proofs.Ytdccgeiniockpaa
open Go.RowKit

theorem Tr.Part.mid {t x : Tr} {off f g : Nat} (h : Tr.Part t x off) (h1 : off ≤ f) (h2 : f ≤ g) (h3 : g ≤ off + x.wds.length) : (x.wds.take (f - off + (g - f))).drop (f - off) = (t.wds.take g).drop f := by
  obtain ⟨a, b, e, l⟩ := h
  rw [e]
  apply List.ext_getElem?
  intro i
  simp only [List.getElem?_drop, List.getElem?_take]
  by_cases hi : f + i < g
  · rw [if_pos (by omega), if_pos hi, List.append_assoc, List.getElem?_append_right (by omega), List.getElem?_append_left (by omega)]
    congr 1; omega
  · rw [if_neg (by omega), if_neg hi]
theorem TreeR.zero (ok : Nat → Prop) (w : World) : TreeR ok w (0, 0, none, 0, 0) (.node 0 []) :=
  .node 0 none 0 0 [] [] rfl (Nat.le_refl _) rfl Cel.nil fun i x t h => by simp at h
theorem twoWds : twoT.wds = [0, 0] := by decide
theorem twoLeaf : twoT.leafQ 1 = [1] := by decide
theorem Ints.at2 {w : World} {A : Option Addr} {n c k : Nat} {xs : List Int} {x : Int} (h : Ints w A n c xs) (hx : xs[k]? = some x) : ∃ b off, A = some ⟨b, off, none⟩ ∧ b < w.heap.size ∧ w.cell? ⟨b, off + k, none⟩ = some (.int .i64 x) := by
  have hk := (List.getElem?_eq_some_iff.1 hx).1
  rw [h.len] at hk
  obtain ⟨b, off, e, hb, hc⟩ := h.at_ hk
  rw [List.getD_eq_getElem?_getD, hx] at hc
  exact ⟨b, off, e, hb, hc⟩

set_option maxRecDepth 100000 in
set_option maxHeartbeats 8000000 in
theorem placed_walk (A B : Option Addr) (n c m d : Nat) (l1 l2 : List Int) (i j : Int) (w : World) (h1 : Ints w A n c l1) (h2 : Ints w B m d l2) :
    Calls Try.prog 9 #[.slice A n c, .slice B m d, .int .i64 i, .int .i64 j] w fun e w' => e = .returned (.bool true) ∧ Below w.heap.size w w' := by
  go_enter Try.func9, Try.ntmps9
  go_wp2_with fail
  refine (two_c w).mono ?_
  rintro e w1 ⟨⟨va, vb, vA, vn, vc⟩, rfl, hT, hb⟩
  dsimp only [trVal]
  have hB := hb
  go_wp2_with fail
  refine (leaf_c _ (va, vb, vA, vn, vc) twoT w1 hT (by rw [twoSize]; omega) 1 (by rw [twoWds]; decide)).mono ?_
  rintro e w2 ⟨A9, k9, c9, rfl, hI9, hb⟩
  rw [twoLeaf] at hI9
  have hk9 : k9 = 1 := by have := hI9.len; simpa using this.symm
  subst hk9
  replace hB := hB.via hb
  clear hT hb hI9
  go_wp2_with fail
  refine (grammar_c A n c l1 w2 (h1.keep hB (Nat.le_refl _))).mono ?_
  rintro e w3 ⟨g, Ag, ng, cg, rfl, hG, hS, hb⟩
  replace hB := hB.via hb
  clear hb h1
  dsimp only [grVal]
  have Bg := Blk.new w3 40 #[.int .i64 (g.terms : Int), .int .i64 (g.nons : Int), .int .i64 (g.start : Int), .slice Ag ng cg]
  replace hS := hS.al (.cells #[.int .i64 (g.terms : Int), .int .i64 (g.nons : Int), .int .i64 (g.start : Int), .slice Ag ng cg] 40)
  replace hB := hB.al (.cells #[.int .i64 (g.terms : Int), .int .i64 (g.nons : Int), .int .i64 (g.start : Int), .slice Ag ng cg] 40)
  have HS := Lib.hid hS
  clear hS
  go_wp2_with fail
  generalize w3.alloc (.cells #[.int .i64 (g.terms : Int), .int .i64 (g.nons : Int), .int .i64 (g.start : Int), .slice Ag ng cg] 40) = w4 at *
  refine (make_z _ g Ag ng cg hG.hng hG.hrl B m d l2 w4 HS.out (h2.keep hB (Nat.le_refl _))).mono ?_
  rintro e w5 ⟨⟨ta, tb, tA, tn, tc⟩, b1, rfl, hb, ht, ht0⟩
  replace hB := hB.via hb
  have K5 := Below.refl w5.heap.size w5
  have HT := Lib.hid ht
  have HT0 := Lib.hid ht0
  clear HS hb h2 ht ht0 Bg hG
  dsimp only [trVal]
  have Bt := Blk.new w5 36 #[.int .i64 ta, .int .i64 tb, .slice tA tn tc]
  replace hB := hB.al (.cells #[.int .i64 ta, .int .i64 tb, .slice tA tn tc] 36)
  replace K5 := K5.al (.cells #[.int .i64 ta, .int .i64 tb, .slice tA tn tc] 36)
  go_wp2_with fail
  generalize hW : w5.alloc (.cells #[.int .i64 ta, .int .i64 tb, .slice tA tn tc] 36) = W5 at *
  clear hW
  cases b1 with
  | false =>
    have e0 := HT0.out rfl
    simp only [Prod.mk.injEq] at e0
    obtain ⟨rfl, rfl, rfl, rfl, rfl⟩ := e0
    clear HT HT0
    refine (word_t (fun _ => True) (0, 0, none, 0, 0) (.node 0 []) W5 (TreeR.zero _ _) (by simp [Tr.size, Tr.sizes])).mono ?_
    rintro e w6 ⟨A2, n2, c2, rfl, ho, hb⟩
    replace hB := hB.via hb
    clear ho
    go_wp2_with fail
    go_ret
    exact ⟨rfl, hB⟩
  | true =>
  obtain ⟨t, hT, -, hTs⟩ := HT.out rfl
  have hTz : t.size ≤ 1000000 := by omega
  have HT2 := Lib.hid hT
  clear HT HT0 hT
  refine (word_t _ (ta, tb, tA, tn, tc) t W5 (HT2.out.via K5) hTz).mono ?_
  rintro e w6 ⟨Aw, nw, cw, rfl, ho, hb⟩
  replace hB := hB.via hb
  replace Bt := Bt.via hb
  replace K5 := K5.via hb
  have hIw : Ints w6 Aw nw cw t.wds := ho.toInts
  have hnw : nw = t.wds.length := hIw.len.symm
  have hwl := t.wds_len
  clear ho hb
  by_cases hz : nw = 0
  · subst hz
    clear hIw hnw
    go_wp2_with fail
    go_ret
    exact ⟨rfl, hB⟩
  · have hz2 : ((nw : Int) == 0) = false := by rw [beq_eq_false_iff_ne]; omega
    have HNW := Lib.hid hnw
    have hnw2 : nw ≤ 1000000 := by omega
    have hnw1 : 1 ≤ nw := by omega
    clear hnw hz hwl
    go_wp2_with fail
    refine (below_c i (nw : Int) w6 (by omega) (by omega)).mono ?_
    rintro e w7 ⟨rfl, rfl⟩
    obtain ⟨fr, hfr⟩ := Int.eq_ofNat_of_zero_le (belowI_lo i (nw : Int) (by omega))
    have hfr2 := belowI_hi i (nw : Int) (by omega)
    rw [hfr] at hfr2 ⊢
    have hfl : fr < nw := by omega
    clear hfr hfr2
    obtain ⟨o, ho⟩ : ∃ o, o = nw - fr := ⟨_, rfl⟩
    have hsub : (nw : Int) - (fr : Int) = (o : Int) := by omega
    have ho1 : 1 ≤ o := by omega
    have ho2 : fr + o ≤ nw := by omega
    clear ho
    go_wp2_with fail
    refine (below_c j (o : Int) w6 (by omega) (by omega)).mono ?_
    rintro e w7 ⟨rfl, rfl⟩
    obtain ⟨jj, hjj⟩ := Int.eq_ofNat_of_zero_le (belowI_lo j (o : Int) (by omega))
    have hjj2 := belowI_hi j (o : Int) (by omega)
    rw [hjj] at hjj2 ⊢
    obtain ⟨tt, htt⟩ : ∃ tt, tt = fr + 1 + jj := ⟨_, rfl⟩
    have hsum : (fr : Int) + 1 + (jj : Int) = (tt : Int) := by omega
    have ht1 : fr < tt := by omega
    have ht2 : tt ≤ nw := by omega
    clear hjj hjj2 htt hsub ho1 ho2
    have hHIw := Lib.hid hIw
    clear hIw
    have cBt := Bt.cell
    have fBt := Bt.frozen
    have lBt := Bt.lt
    go_wp2_with fail
    clear cBt fBt lBt
    clear hsum
    refine (leaf_c _ (ta, tb, tA, tn, tc) t w6 (HT2.out.via K5) hTz fr (by have := HNW.out; omega)).mono ?_
    rintro e w7 ⟨A7, k7, c7, rfl, hI7, hb⟩
    obtain ⟨kk, hat, hwk⟩ := Tr.leafQ_at t fr (by have := HNW.out; omega)
    have HI8 := Lib.hid (hHIw.out.via hb)
    have HAT := Lib.hid hat
    have HWK := Lib.hid hwk
    replace hB := hB.via hb
    replace Bt := Bt.via hb
    replace K5 := K5.via hb
    have K7 := Below.refl w7.heap.size w7
    have HI7 := Lib.hid hI7
    clear hb hI7 hHIw hat hwk
    have cBt := Bt.cell
    have fBt := Bt.frozen
    have lBt := Bt.lt
    go_wp2_with fail
    clear cBt fBt lBt
    refine (cover_c _ (ta, tb, tA, tn, tc) t w7 (HT2.out.via K5) hTz fr tt (by omega) (by have := HNW.out; omega)).mono ?_
    rintro e w8 ⟨A8, k8, c8, q, z, off, rfl, hI9, hqz, hpz, ho1, ho2, hb⟩
    have HI10 := Lib.hid (HI8.out.via hb)
    have HI11 := Lib.hid (HI7.out.via hb)
    replace hB := hB.via hb
    replace Bt := Bt.via hb
    replace K5 := K5.via hb
    have HQZ := Lib.hid hqz
    have HPZ := Lib.hid hpz
    have HI9 := Lib.hid hI9
    clear hb hI9 hqz hpz HI8 HI7 K7
    have cBt := Bt.cell
    have fBt := Bt.frozen
    have lBt := Bt.lt
    go_wp2_with fail
    clear cBt fBt lBt
    refine (at_c _ (ta, tb, tA, tn, tc) t w8 (HT2.out.via K5) hTz A7 k7 c7 _ HI11.out (.leaf kk) HAT.out).mono ?_
    rintro e w9 ⟨⟨xa, xb, xA, xn, xc⟩, rfl, hX, hb⟩
    have HI12 := Lib.hid (HI10.out.via hb)
    have HI13 := Lib.hid (HI9.out.via hb)
    replace hB := hB.via hb
    replace Bt := Bt.via hb
    replace K5 := K5.via hb
    obtain ⟨e1, e2, -⟩ := hX.ofLeaf
    subst e1 e2
    clear hb hX HI10 HI9
    dsimp only [trVal]
    have hI12 := HI12.out
    have hI13 := HI13.out
    have Bx := Blk.new w9 36 #[.int .i64 (-1), .int .i64 (kk : Int), .slice xA xn xc]
    replace hB := hB.al (.cells #[.int .i64 (-1), .int .i64 (kk : Int), .slice xA xn xc] 36)
    replace Bt := Bt.al (.cells #[.int .i64 (-1), .int .i64 (kk : Int), .slice xA xn xc] 36)
    replace K5 := K5.al (.cells #[.int .i64 (-1), .int .i64 (kk : Int), .slice xA xn xc] 36)
    replace hI12 := hI12.al (.cells #[.int .i64 (-1), .int .i64 (kk : Int), .slice xA xn xc] 36)
    replace hI13 := hI13.al (.cells #[.int .i64 (-1), .int .i64 (kk : Int), .slice xA xn xc] 36)
    have cBt := Bt.cell
    have fBt := Bt.frozen
    have lBt := Bt.lt
    go_wp2_with fail
    clear cBt fBt lBt
    generalize hW : w9.alloc (.cells #[.int .i64 (-1), .int .i64 (kk : Int), .slice xA xn xc] 36) = W9 at *
    clear hW
    refine (at_c _ (ta, tb, tA, tn, tc) t W9 (HT2.out.via K5) hTz A8 k8 c8 q hI13 z HQZ.out).mono ?_
    rintro e w10 ⟨⟨ya, yb, yA, yn, yc⟩, rfl, hY, hb⟩
    replace hB := hB.via hb
    replace Bt := Bt.via hb
    replace Bx := Bx.via hb
    replace hI12 := hI12.via hb
    have K10 := Below.refl w10.heap.size w10
    have HY := Lib.hid hY
    clear hb hY hI13 HI12 HI13
    dsimp only [trVal]
    have hzs := Tr.at_size HQZ.out
    have hz1 : z.size ≤ 1000000 := by omega
    have hzw := z.wds_len
    have By := Blk.new w10 36 #[.int .i64 ya, .int .i64 yb, .slice yA yn yc]
    have o1 := (Below.refl w10.heap.size w10).al (.cells #[.int .i64 ya, .int .i64 yb, .slice yA yn yc] 36)
    replace Bt := Bt.via o1
    replace Bx := Bx.via o1
    replace hB := hB.via o1
    replace K10 := K10.via o1
    replace hI12 := hI12.via o1
    clear o1
    obtain ⟨bw, ow, rfl, hbw, hcw⟩ := hI12.at2 HWK.out
    obtain ⟨A', hA', hI'⟩ := hI12.mid (l := fr) (m := tt) (by omega) (by omega)
    have hA2 : some ⟨bw, ow + fr, none⟩ = A' := by
      have := hI12.le
      rw [← hA', if_neg (by omega), Option.map_some, Addr.add_lit]
    subst hA2
    clear hA'
    have HIA := Lib.hid hI'
    have hcap : tt ≤ cw := Nat.le_trans ht2 hI12.le
    have hneg : ((-1 : Int) == -1) = true := by decide
    have hkk : ((kk : Int) == (kk : Int)) = true := by simp
    clear hI' hI12
    go_upto_region 1 with fail
    generalize w10.alloc (.cells #[.int .i64 ya, .int .i64 yb, .slice yA yn yc] 36) = W at *
    have T1 := Lib.hid (show ∀ w', Below W.heap.size W w' → TreeR (fun _ => True) w' (ya, yb, yA, yn, yc) z from fun w' hb => (HY.out.via (K10.via hb)).mono fun _ _ _ => trivial)
    have T2 := Lib.hid (show ∀ w', Below W.heap.size W w' → Ints w' (some ⟨bw, ow + fr, none⟩) (tt - fr) (cw - fr) ((t.wds.take tt).drop fr) from fun w' hb => HIA.out.via hb)
    have SOF := Lib.hid (show ∀ w', Below W.heap.size W w' → ((∀ i, w'.cell? ⟨w9.heap.size, i, none⟩ = #[.int .i64 (-1), .int .i64 (kk : Int), .slice xA xn xc][i]?) ∧ (∀ i, w'.cell? ⟨w10.heap.size, i, none⟩ = #[.int .i64 ya, .int .i64 yb, .slice yA yn yc][i]?) ∧ (w'.cell? ⟨bw, ow + fr, none⟩ = some (.int .i64 (kk : Int))) ∧ Below W.heap.size W w') from fun w' hb => ⟨(Bx.via hb).cell, (By.via hb).cell, (hb.cell (p := ⟨bw, ow + fr, none⟩) hbw).trans hcw, hb⟩)
    have HMID := Lib.hid (HPZ.out.mid (g := tt) ho1 (by omega) ho2)
    have HBB := Lib.hid hB
    have hb0 := (Below.refl W.heap.size W).drew
    have i0 : (0 : Int) ≤ (fr : Int) := by omega
    have i1 : (fr : Int) < (nw : Int) := by omega
    have i2 : (fr : Int) ≤ (tt : Int) := by omega
    have i3 : (tt : Int) ≤ (cw : Int) := by omega
    have i4 : fr - off + (tt - fr) ≤ z.wds.length := by omega
    have i5 : z.wds.length ≤ 1000000 := by omega
    clear hB hb Bt Bx By K5 K10 HT2 HIA hbw hcw HPZ HQZ HAT HWK HY HI11 hzs hTs hzw
    go_region_held3 (fun w' => (∀ i, w'.cell? ⟨w9.heap.size, i, none⟩ = #[.int .i64 (-1), .int .i64 (kk : Int), .slice xA xn xc][i]?) ∧ (∀ i, w'.cell? ⟨w10.heap.size, i, none⟩ = #[.int .i64 ya, .int .i64 yb, .slice yA yn yc][i]?) ∧ (w'.cell? ⟨bw, ow + fr, none⟩ = some (.int .i64 (kk : Int))) ∧ Below W.heap.size W w') (exact SOF.out _ (by assumption)) (first
      | (go_at_call 31; (with_reducible refine (word_a ya yb yA yn yc z _ (T1.out _ (by assumption)) hz1).mono ?_); rintro ee wn ⟨A3, n3, c3, rfl, ho3, hbn⟩; have hbm : Below W.heap.size W wn := Below.via (by assumption) hbn; have I3 := ho3.toInts; have hl3 := I3.len; subst hl3)
      | (go_at_call 34; (with_reducible refine (contains_c A3 (some ⟨bw, ow + fr, none⟩) z.wds.length c3 (tt - fr) (cw - fr) z.wds ((t.wds.take tt).drop fr) _ I3 (T2.out _ (by assumption)) i5 (fr - off) i4 HMID.out).mono ?_); rintro ee wk ⟨rfl, hbk⟩; have hbm2 : Below W.heap.size W wk := Below.via (by assumption) hbk))
    all_goals
      have HF := Lib.hid (HBB.out.via hbm2)
      clear hbm hbm2 hbk hb0
      go_wp2_with fail
      go_ret
      exact ⟨rfl, HF.out⟩
end Go.Proofs.Ytdccgeiniockpaa
