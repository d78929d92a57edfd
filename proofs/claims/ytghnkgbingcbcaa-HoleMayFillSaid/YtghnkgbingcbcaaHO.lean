/- hole.Check of valid cells; hole.Fill, hole.May. -/
import Derived.Test.YtghnkgbingcbcaaHM
import Derived.Test.YtghnkgbingcbcaaHN
namespace Go.Proofs.Ytghnkgbingcbcaa
open Go.RowKit

def okCe (g : Gr) (x : Ce) : Prop := x.1 = true ∧ ((∃ t : Nat, x.2 = (t : Int) ∧ t < g.terms) ∨ x.2 = -1)
set_option maxRecDepth 100000 in
set_option maxHeartbeats 2000000 in
theorem has_any (g : Gr) (A : Option Addr) (n c : Nat) (w : World) :
    Calls Try.prog 50 #[grVal g A n c, .agg #[.bool true, .int .i64 (-1)]] w (TellB w false) := by
  simp only [grVal]
  have HB := Lib.hid (((Below.refl w.heap.size w).al (.cells #[.int .i64 (g.terms : Int), .int .i64 (g.nons : Int), .int .i64 (g.start : Int), .slice A n c] 28)).al (.cells #[.bool true, .int .i64 (-1)] 48))
  go_enter Try.func50, Try.ntmps50
  go_wp2_with fail
  go_ret
  exact ⟨rfl, HB.out⟩
theorem has_t (g : Gr) (A : Option Addr) (n c t : Nat) (w : World) (ht : t < g.terms) :
    Calls Try.prog 50 #[.agg #[.int .i64 (g.terms : Int), .int .i64 (g.nons : Int), .int .i64 (g.start : Int), .slice A n c], .agg #[.bool true, .int .i64 (t : Int)]] w (TellB w true) := by
  have := has_sym g A n c (true, t) w (by simpa [Gr.okSy] using ht)
  simpa only [grVal] using this
theorem has_a (g : Gr) (A : Option Addr) (n c : Nat) (w : World) :
    Calls Try.prog 50 #[.agg #[.int .i64 (g.terms : Int), .int .i64 (g.nons : Int), .int .i64 (g.start : Int), .slice A n c], .agg #[.bool true, .int .i64 (-1)]] w (TellB w false) := by
  have := has_any g A n c w
  simpa only [grVal] using this
set_option maxRecDepth 100000 in
set_option maxHeartbeats 8000000 in
theorem hcheck_c (ok okc : Nat → Prop) (g : Gr) (Ag : Option Addr) (ng cg : Nat) (A : Option Addr) (n c : Nat) (cs : List Ce) (w : World) (hg : GrOk g) (hl : Sl RuE ok w Ag ng cg g.rules) (hx : Sl CeE okc w A n c cs) (hn : n ≤ 12) (hc : ∀ x ∈ cs, okCe g x) :
    Calls Try.prog 39 #[grVal g Ag ng cg, .slice A n c] w (IntO w 0) := by
  have HGO := Lib.hid hg
  have HC := Lib.hid hc
  have hB := (Below.refl w.heap.size w).al (.cells #[.int .i64 (g.terms : Int), .int .i64 (g.nons : Int), .int .i64 (g.start : Int), .slice Ag ng cg] 28)
  have HL := Lib.hid (hl.via hB)
  have HX := Lib.hid (hx.via hB)
  have HB := Lib.hid hB
  have B0 := Blk.new w 28 #[.int .i64 (g.terms : Int), .int .i64 (g.nons : Int), .int .i64 (g.start : Int), .slice Ag ng cg]
  have HB0 := Lib.hid B0
  have e1 : decide ((12 : Int) < (n : Int)) = false := by simp; omega
  simp only [grVal]
  clear hg hc hl hx hB
  go_enter Try.func39, Try.ntmps39
  have cB0 := B0.cell
  have fB0 := B0.frozen
  have lB0 := B0.lt
  go_wp2_with fail
  clear cB0 fB0 lB0
  generalize w.alloc (.cells #[.int .i64 (g.terms : Int), .int .i64 (g.nons : Int), .int .i64 (g.start : Int), .slice Ag ng cg] 28) = W at *
  refine (check_c ok g Ag ng cg W HGO.out HL.out).mono ?_
  rintro e w1 ⟨rfl, hb⟩
  have HX1 := Lib.hid (HX.out.via hb)
  have HB1 := Lib.hid (HB.out.via hb)
  have HBG := Lib.hid (HB0.out.via hb)
  clear hb HX HB HB0 HL B0
  go_wp2_with fail
  clear e1
  go_loopw [18] (fun i wr => ∃ k : Nat, i = .int .i64 k ∧ k ≤ n ∧ Below w1.heap.size w1 wr) (fun i _ => n - (intOf i).toNat)
  case atStart => exact ⟨0, rfl, Nat.zero_le _, Below.refl _ _⟩
  case round =>
    obtain ⟨k, rfl, hk, hbw⟩ := hrel
    by_cases hkn : k < n
    · obtain ⟨b1, o1, sx, sy, rfl, -, hbb, hy, hxy, hc⟩ := HX1.out.at_ hkn
      obtain rfl : sx = sy := hxy
      have d0 := (hbw.cell (p := ⟨b1, o1 + k * CeE.k + 0, none⟩) hbb).trans (hc 0 _ rfl)
      have d1 := (hbw.cell (p := ⟨b1, o1 + k * CeE.k + 1, none⟩) hbb).trans (hc 1 _ rfl)
      simp only [CeE, Nat.add_zero] at d0 d1
      have i0 : (0 : Int) ≤ (k : Int) := by omega
      have i1 : (k : Int) < (n : Int) := by omega
      obtain ⟨hs1, hs2⟩ := HC.out _ (List.mem_of_getElem? hy)
      obtain ⟨sb, sn⟩ := sx
      simp only at hs1 hs2 d0 d1
      subst hs1
      have HS2 := Lib.hid hs2
      have Bg := (HBG.out.via hbw).al (.cells #[.bool true, .int .i64 sn] 48)
      have HBW := Lib.hid (hbw.al (.cells #[.bool true, .int .i64 sn] 48))
      have Bs := Blk.new wr 48 #[.bool true, .int .i64 sn]
      clear hs2 hc hy hbw hbb
      go_upto_region 9 with fail
      clear d0 d1
      generalize wr.alloc (.cells #[.bool true, .int .i64 sn] 48) = W5 at *
      generalize wr.heap.size = bs at *
      have SOF := Lib.hid (show ∀ w', Below W5.heap.size W5 w' → ((∀ i, w'.cell? ⟨w.heap.size, i, none⟩ = #[.int .i64 (g.terms : Int), .int .i64 (g.nons : Int), .int .i64 (g.start : Int), .slice Ag ng cg][i]?) ∧ (∀ i, w'.cell? ⟨bs, i, none⟩ = #[.bool true, .int .i64 sn][i]?) ∧ Below W5.heap.size W5 w') from fun w' hb => ⟨(Bg.via hb).cell, (Bs.via hb).cell, hb⟩)
      have hb0 := (Below.refl W5.heap.size W5).drew
      clear Bg Bs
      rcases HS2.out with ⟨t, rfl, ht⟩ | rfl
      · clear HS2
        have HT := Lib.hid ht
        clear ht
        go_cut [30] (fun s30 wx => s30 = .bool false ∧ Below W5.heap.size W5 wx)
        case first =>
          refine wp_region_noPanic ?_
          refine wp_region_held_drew (S := fun w' => (∀ i, w'.cell? ⟨w.heap.size, i, none⟩ = #[.int .i64 (g.terms : Int), .int .i64 (g.nons : Int), .int .i64 (g.start : Int), .slice Ag ng cg][i]?) ∧ (∀ i, w'.cell? ⟨bs, i, none⟩ = #[.bool true, .int .i64 (t : Int)][i]?) ∧ Below W5.heap.size W5 w') (by kernel_rfl) (SOF.out _ hb0) (fun hHeld => ?_)
          refine wpAnyH_takeD (i := 0) (d := some 22) (v := ?_) rfl (by kernel_rfl) (by kernel_rfl) (by kernel_rfl) rfl (fun _ _ _ h => h) (Or.inl ⟨by rfl, ?_⟩) (by assumption) ?_
          rotate_left
          · intro w hSw; (try dsimp only at hSw); go_simp; try with_reducible rfl
          simp only [Act.put, List.setIfInBounds_toArray, List.set_cons_zero, List.set_cons_succ]
          refine wpAnyH_takeD (i := 1) (d := some 23) (v := ?_) rfl (by kernel_rfl) (by kernel_rfl) (by kernel_rfl) rfl (fun _ _ _ h => h) (Or.inl ⟨by rfl, ?_⟩) (by assumption) ?_
          rotate_left
          · intro w hSw; (try dsimp only at hSw); go_simp; try with_reducible rfl
          simp only [Act.put, List.setIfInBounds_toArray, List.set_cons_zero, List.set_cons_succ]
          refine wpAnyH_ready (rs := [2]) (by kernel_rfl) (by simp) ?_
          refine AllReadyH.cons rfl (fun K hK => ?_) AllReadyH.nil
          go_simp
          go_at_call 50
          refine (has_t g Ag ng cg t _ HT.out).mono ?_
          rintro ee wn ⟨rfl, hbn⟩
          have hbm : Below W5.heap.size W5 wn := Below.via (by assumption) hbn
          go_wp2_with fail
          refine hK.out _ _ (SOF.out _ hbm) (fun hHeld2 => ?_)
          clear hK K hHeld
          refine wpAnyH_takeD (i := 3) (d := some 25) (v := ?_) rfl (by kernel_rfl) (by kernel_rfl) (by kernel_rfl) rfl (fun _ _ _ h => h) (Or.inl ⟨by rfl, ?_⟩) (by assumption) ?_
          rotate_left
          · intro w hSw; (try dsimp only at hSw); go_simp; try with_reducible rfl
          simp only [Act.put, List.setIfInBounds_toArray, List.set_cons_zero, List.set_cons_succ]
          refine wpAnyH_takeD (i := 4) (d := some 26) (v := ?_) rfl (by kernel_rfl) (by kernel_rfl) (by kernel_rfl) rfl (fun _ _ _ h => h) (Or.inl ⟨by rfl, ?_⟩) (by assumption) ?_
          rotate_left
          · intro w hSw; (try dsimp only at hSw); go_simp; try with_reducible rfl
          simp only [Act.put, List.setIfInBounds_toArray, List.set_cons_zero, List.set_cons_succ]
          refine wpAnyH_takeD (i := 5) (d := some 27) (v := undef) rfl (by kernel_rfl) (by kernel_rfl) (by kernel_rfl) rfl (fun _ _ _ h => h) (Or.inr ⟨by rfl, rfl⟩) (by assumption) ?_
          simp only [Act.put, List.setIfInBounds_toArray, List.set_cons_zero, List.set_cons_succ]
          refine wpAnyH_takeD (i := 6) (d := some 28) (v := undef) rfl (by kernel_rfl) (by kernel_rfl) (by kernel_rfl) rfl (fun _ _ _ h => h) (Or.inr ⟨by rfl, rfl⟩) (by assumption) ?_
          simp only [Act.put, List.setIfInBounds_toArray, List.set_cons_zero, List.set_cons_succ]
          refine wpAnyH_takeD (i := 7) (d := some 29) (v := undef) rfl (by kernel_rfl) (by kernel_rfl) (by kernel_rfl) rfl (fun _ _ _ h => h) (Or.inr ⟨by rfl, rfl⟩) (by assumption) ?_
          simp only [Act.put, List.setIfInBounds_toArray, List.set_cons_zero, List.set_cons_succ]
          refine wpAnyH_takeD (i := 8) (d := some 30) (v := ?_) rfl (by kernel_rfl) (by kernel_rfl) (by kernel_rfl) rfl (fun _ _ _ h => h) (Or.inl ⟨by rfl, ?_⟩) (by assumption) ?_
          rotate_left
          · intro w hSw; (try dsimp only at hSw); go_simp; try with_reducible rfl
          simp only [Act.put, List.setIfInBounds_toArray, List.set_cons_zero, List.set_cons_succ]
          refine wpAnyH_done (by kernel_rfl) ?_ _
          refine NoPanic.normal ?_
          go_wp2_with fail
          go_meet
          exact ⟨rfl, hbm⟩
        case rest =>
          obtain ⟨rfl, hcb⟩ := hcut
          have HBM := Lib.hid (HBW.out.via hcb)
          clear SOF hb0 hcb HBW
          go_wp2_with fail
          exact ⟨⟨k + 1, by go_num, by omega, HBM.out⟩, by simp [intOf]; omega⟩
      · clear HS2
        go_region_held3 (fun w' => (∀ i, w'.cell? ⟨w.heap.size, i, none⟩ = #[.int .i64 (g.terms : Int), .int .i64 (g.nons : Int), .int .i64 (g.start : Int), .slice Ag ng cg][i]?) ∧ (∀ i, w'.cell? ⟨bs, i, none⟩ = #[.bool true, .int .i64 (-1)][i]?) ∧ Below W5.heap.size W5 w') (exact SOF.out _ (by assumption)) (first
          | (go_at_call 50; (with_reducible refine (has_a g Ag ng cg _).mono ?_); rintro ee wn ⟨rfl, hbn⟩; have hbm : Below W5.heap.size W5 wn := Below.via (by assumption) hbn)
          | (go_at_call 40; (with_reducible refine (gT_c _ _).mono ?_); rintro ee wz ⟨rfl, hbk⟩; have hbz : Below W5.heap.size W5 wz := Below.via (by assumption) hbk))
        have HBM := Lib.hid (HBW.out.via hbz)
        clear SOF hb0 hbm hbn hbz hbk HBW
        go_wp2_with fail
        exact ⟨⟨k + 1, by go_num, by omega, HBM.out⟩, by simp [intOf]; omega⟩
    · have HBM := Lib.hid (HB1.out.trans (hbw.mono HB1.out.size))
      clear hbw
      go_wp2_with fail
      go_ret
      exact ⟨rfl, HBM.out⟩

/-! ### hole.Fill -/
def FillF (w : World) (g : Gr) (cs : List Ce) (e : Ending) (w' : World) : Prop :=
  ∃ st, GoodH g.rules cs st ∧ FixH g.rules cs st ∧ Below w.heap.size w w' ∧
    ((e = .returned (.tuple #[.slice none 0 0, .int .i64 10]) ∧ (st g.start 0 cs.length).ok = false) ∨
     (∃ A n c, e = .returned (.tuple #[.slice A n c, .int .i64 0]) ∧ (st g.start 0 cs.length).ok = true ∧ Ints w' A n c (st g.start 0 cs.length).w))
set_option maxRecDepth 100000 in
set_option maxHeartbeats 8000000 in
theorem Fill_c (ok okc : Nat → Prop) (g : Gr) (Ag : Option Addr) (ng cg : Nat) (A : Option Addr) (n c : Nat) (cs : List Ce) (w : World) (hg : GrOk g) (hl : Sl RuE ok w Ag ng cg g.rules) (hx : Sl CeE okc w A n c cs) (hn : n ≤ 12) (hc : ∀ x ∈ cs, okCe g x) :
    Calls Try.prog 18 #[grVal g Ag ng cg, .slice A n c] w (FillF w g cs) := by
  have hcl := hx.len
  have HCL := Lib.hid (show cs.length ≤ 12 by omega)
  have HGO := Lib.hid hg
  have HC := Lib.hid hc
  have hB := (Below.refl w.heap.size w).al (.cells #[.int .i64 (g.terms : Int), .int .i64 (g.nons : Int), .int .i64 (g.start : Int), .slice Ag ng cg] 28)
  have HL := Lib.hid (hl.via hB)
  have HX := Lib.hid (hx.via hB)
  have HB := Lib.hid hB
  have B0 := Blk.new w 28 #[.int .i64 (g.terms : Int), .int .i64 (g.nons : Int), .int .i64 (g.start : Int), .slice Ag ng cg]
  have HB0 := Lib.hid B0
  simp only [grVal]
  clear hg hc hl hx hB hcl
  go_enter Try.func18, Try.ntmps18
  have cB0 := B0.cell
  have fB0 := B0.frozen
  have lB0 := B0.lt
  go_wp2_with fail
  clear cB0 fB0 lB0
  generalize w.alloc (.cells #[.int .i64 (g.terms : Int), .int .i64 (g.nons : Int), .int .i64 (g.start : Int), .slice Ag ng cg] 28) = W at *
  refine (hcheck_c ok okc g Ag ng cg A n c cs W HGO.out HL.out HX.out hn HC.out).mono ?_
  rintro e w1 ⟨rfl, hb⟩
  have HL1 := Lib.hid (HL.out.via hb)
  have HX1 := Lib.hid (HX.out.via hb)
  have HB1 := Lib.hid (HB.out.via hb)
  have Bg := HB0.out.via hb
  clear hb HX HB HB0 HL B0
  have cBg := Bg.cell
  have fBg := Bg.frozen
  have lBg := Bg.lt
  go_wp2_with fail
  clear cBg fBg lBg
  clear Bg
  refine (fill_c ok okc g Ag ng cg A n c cs w1 HGO.out HL1.out HX1.out hn (fun x hx => (HC.out x hx).1)).mono ?_
  rintro e w2 ⟨st, ⟨vs, ⟨vA, vn, vc⟩, vo⟩, hgd, hfx, rfl, hv, hb⟩
  have HGD := Lib.hid hgd
  have HFX := Lib.hid hfx
  obtain ⟨v1, v2, -, v4⟩ := hv
  simp only at v1 v2 v4
  have HV1 := Lib.hid v1
  have HV2 := Lib.hid v2
  have HV4 := Lib.hid v4
  have HB2 := Lib.hid ((HB1.out.via hb).al (.cells #[.int .i64 vs, .slice vA vn vc, .bool vo] 101))
  have Bw := Blk.new w2 101 #[.int .i64 vs, .slice vA vn vc, .bool vo]
  clear hgd hfx v1 v2 v4 hb HB1 HL1 HX1
  simp only [hoVal]
  cases vo with
  | false =>
    go_wp2_with fail
    go_ret2
    exact ⟨st, HGD.out, HFX.out, HB2.out, Or.inl ⟨rfl, HV2.out.symm⟩⟩
  | true =>
    have hsz : vs = (cs.length : Int) ∧ (st g.start 0 cs.length).w.length = cs.length := by
      obtain ⟨_, h2, _, v, h3, h4, h5⟩ := HGD.out.snd g.start 0 cs.length HV2.out.symm
      have h6 := h3.len
      rw [gpart_len h2] at h6
      have h7 := HV1.out
      exact ⟨by omega, by rw [h5]; omega⟩
    have e2 : decide ((2000 : Int) < vs) = false := by have := hsz.1; have := HCL.out; simp; omega
    have hvn : vn ≤ 17592186044416 := by have := hsz.2; have := HCL.out; have := HV4.out.len; omega
    have HI := Lib.hid (show Ints _ vA vn vc _ from (HV4.out.al (.cells #[.int .i64 vs, .slice vA vn vc, .bool true] 101)).ints)
    clear hsz
    have cBw := Bw.cell
    have fBw := Bw.frozen
    have lBw := Bw.lt
    go_wp2_with fail
    clear cBw fBw lBw
    refine (clone_s vA vn vc (st g.start 0 cs.length).w _ HI.out hvn).mono ?_
    rintro e w3 ⟨Bc, dc, rfl, hoc, hbn⟩
    have HOC := Lib.hid hoc.toInts
    have HB3 := Lib.hid (HB2.out.via hbn)
    clear hoc hbn HB2 HI e2
    go_wp2_with fail
    go_ret2
    exact ⟨st, HGD.out, HFX.out, HB3.out, Or.inr ⟨Bc, vn, dc, rfl, HV2.out.symm, HOC.out⟩⟩
end Go.Proofs.Ytghnkgbingcbcaa
