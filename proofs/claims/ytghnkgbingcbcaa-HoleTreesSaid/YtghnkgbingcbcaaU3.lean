/- Texts HY, HZ, laid together. -/
import Derived.Test.YtghnkgbingcbcaaU2
import Derived.Test.YtghnkgbingcbcaaH3



namespace Go.Proofs.Ytghnkgbingcbcaa
open Go.RowKit

def okSyC (g : Gr) (x : Ce) : Prop := ∃ t : Nat, x.2 = (t : Int) ∧ g.okSy (x.1, t)
theorem has_sy (g : Gr) (A : Option Addr) (n c : Nat) (s : Sy) (w : World) (hs : g.okSy s) :
    Calls Try.prog 50 #[.agg #[.int .i64 (g.terms : Int), .int .i64 (g.nons : Int), .int .i64 (g.start : Int), .slice A n c], .agg #[.bool s.1, .int .i64 (s.2 : Int)]] w (TellB w true) := by
  have := has_sym g A n c s w hs
  simpa only [grVal] using this
set_option maxRecDepth 100000 in
set_option maxHeartbeats 8000000 in
theorem hcheckU_c (ok okc : Nat → Prop) (g : Gr) (Ag : Option Addr) (ng cg : Nat) (A : Option Addr) (n c : Nat) (cs : List Ce) (w : World) (hg : GrOk g) (hl : Sl RuE ok w Ag ng cg g.rules) (hx : Sl CeE okc w A n c cs) (hn : n ≤ 12) (hc : ∀ x ∈ cs, okSyC g x) :
    Calls Try.prog 39 #[grVal g Ag ng cg, .slice A n c] w (IntO w 0) := by
  have HGO := Lib.hid hg
  have HC := Lib.hid hc
  have hB := (Below.refl w.heap.size w).al (.cells #[.int .i64 (g.terms : Int), .int .i64 (g.nons : Int), .int .i64 (g.start : Int), .slice Ag ng cg] 28)
  have HL := Lib.hid (hl.via hB)
  have HX := Lib.hid (hx.via hB)
  have HB := Lib.hid hB
  have B0 := Blk.new w 28 #[.int .i64 (g.terms : Int), .int .i64 (g.nons : Int), .int .i64 (g.start : Int), .slice Ag ng cg]
  have HB0 := Lib.hid B0
  have e1 : decide ((12 : Int) < (n : Int)) = false := by simp; omega
  simp only [grVal]
  clear hg hc hl hx hB
  go_enter Try.func39, Try.ntmps39
  have cB0 := B0.cell
  have fB0 := B0.frozen
  have lB0 := B0.lt
  go_wp2_with fail
  clear cB0 fB0 lB0
  generalize w.alloc (.cells #[.int .i64 (g.terms : Int), .int .i64 (g.nons : Int), .int .i64 (g.start : Int), .slice Ag ng cg] 28) = W at *
  refine (check_c ok g Ag ng cg W HGO.out HL.out).mono ?_
  rintro e w1 ⟨rfl, hb⟩
  have HX1 := Lib.hid (HX.out.via hb)
  have HB1 := Lib.hid (HB.out.via hb)
  have HBG := Lib.hid (HB0.out.via hb)
  clear hb HX HB HB0 HL B0
  go_wp2_with fail
  clear e1
  go_loopw [18] (fun i wr => ∃ k : Nat, i = .int .i64 k ∧ k ≤ n ∧ Below w1.heap.size w1 wr) (fun i _ => n - (intOf i).toNat)
  case atStart => exact ⟨0, rfl, Nat.zero_le _, Below.refl _ _⟩
  case round =>
    obtain ⟨k, rfl, hk, hbw⟩ := hrel
    by_cases hkn : k < n
    · obtain ⟨b1, o1, sx, sy, rfl, -, hbb, hy, hxy, hc⟩ := HX1.out.at_ hkn
      obtain rfl : sx = sy := hxy
      have d0 := (hbw.cell (p := ⟨b1, o1 + k * CeE.k + 0, none⟩) hbb).trans (hc 0 _ rfl)
      have d1 := (hbw.cell (p := ⟨b1, o1 + k * CeE.k + 1, none⟩) hbb).trans (hc 1 _ rfl)
      simp only [CeE, Nat.add_zero] at d0 d1
      have i0 : (0 : Int) ≤ (k : Int) := by omega
      have i1 : (k : Int) < (n : Int) := by omega
      obtain ⟨t, hs2, hs3⟩ := HC.out _ (List.mem_of_getElem? hy)
      obtain ⟨sb, sn⟩ := sx
      simp only at hs2 hs3 d0 d1
      subst hs2
      have HT := Lib.hid hs3
      have Bg := (HBG.out.via hbw).al (.cells #[.bool sb, .int .i64 (t : Int)] 48)
      have HBW := Lib.hid (hbw.al (.cells #[.bool sb, .int .i64 (t : Int)] 48))
      have Bs := Blk.new wr 48 #[.bool sb, .int .i64 (t : Int)]
      clear hs3 hc hy hbw hbb
      go_upto_region 9 with fail
      clear d0 d1
      generalize wr.alloc (.cells #[.bool sb, .int .i64 (t : Int)] 48) = W5 at *
      generalize wr.heap.size = bs at *
      have SOF := Lib.hid (show ∀ w', Below W5.heap.size W5 w' → ((∀ i, w'.cell? ⟨w.heap.size, i, none⟩ = #[.int .i64 (g.terms : Int), .int .i64 (g.nons : Int), .int .i64 (g.start : Int), .slice Ag ng cg][i]?) ∧ (∀ i, w'.cell? ⟨bs, i, none⟩ = #[.bool sb, .int .i64 (t : Int)][i]?) ∧ Below W5.heap.size W5 w') from fun w' hb => ⟨(Bg.via hb).cell, (Bs.via hb).cell, hb⟩)
      have hb0 := (Below.refl W5.heap.size W5).drew
      clear Bg Bs
      go_cut [30] (fun s30 wx => s30 = .bool false ∧ Below W5.heap.size W5 wx)
      case first =>
        refine wp_region_noPanic ?_
        refine wp_region_held_drew (S := fun w' => (∀ i, w'.cell? ⟨w.heap.size, i, none⟩ = #[.int .i64 (g.terms : Int), .int .i64 (g.nons : Int), .int .i64 (g.start : Int), .slice Ag ng cg][i]?) ∧ (∀ i, w'.cell? ⟨bs, i, none⟩ = #[.bool sb, .int .i64 (t : Int)][i]?) ∧ Below W5.heap.size W5 w') (by kernel_rfl) (SOF.out _ hb0) (fun hHeld => ?_)
        refine wpAnyH_takeD (i := 0) (d := some 22) (v := ?_) rfl (by kernel_rfl) (by kernel_rfl) (by kernel_rfl) rfl (fun _ _ _ h => h) (Or.inl ⟨by rfl, ?_⟩) (by assumption) ?_
        rotate_left
        · intro w hSw; (try dsimp only at hSw); go_simp; try with_reducible rfl
        simp only [Act.put, List.setIfInBounds_toArray, List.set_cons_zero, List.set_cons_succ]
        refine wpAnyH_takeD (i := 1) (d := some 23) (v := ?_) rfl (by kernel_rfl) (by kernel_rfl) (by kernel_rfl) rfl (fun _ _ _ h => h) (Or.inl ⟨by rfl, ?_⟩) (by assumption) ?_
        rotate_left
        · intro w hSw; (try dsimp only at hSw); go_simp; try with_reducible rfl
        simp only [Act.put, List.setIfInBounds_toArray, List.set_cons_zero, List.set_cons_succ]
        refine wpAnyH_ready (rs := [2]) (by kernel_rfl) (by simp) ?_
        refine AllReadyH.cons rfl (fun K hK => ?_) AllReadyH.nil
        go_simp
        go_at_call 50
        refine (has_sy g Ag ng cg (sb, t) _ HT.out).mono ?_
        rintro ee wn ⟨rfl, hbn⟩
        have hbm : Below W5.heap.size W5 wn := Below.via (by assumption) hbn
        go_wp2_with fail
        refine hK.out _ _ (SOF.out _ hbm) (fun hHeld2 => ?_)
        clear hK K hHeld
        refine wpAnyH_takeD (i := 3) (d := some 25) (v := ?_) rfl (by kernel_rfl) (by kernel_rfl) (by kernel_rfl) rfl (fun _ _ _ h => h) (Or.inl ⟨by rfl, ?_⟩) (by assumption) ?_
        rotate_left
        · intro w hSw; (try dsimp only at hSw); go_simp; try with_reducible rfl
        simp only [Act.put, List.setIfInBounds_toArray, List.set_cons_zero, List.set_cons_succ]
        refine wpAnyH_takeD (i := 4) (d := some 26) (v := ?_) rfl (by kernel_rfl) (by kernel_rfl) (by kernel_rfl) rfl (fun _ _ _ h => h) (Or.inl ⟨by rfl, ?_⟩) (by assumption) ?_
        rotate_left
        · intro w hSw; (try dsimp only at hSw); go_simp; try with_reducible rfl
        simp only [Act.put, List.setIfInBounds_toArray, List.set_cons_zero, List.set_cons_succ]
        refine wpAnyH_takeD (i := 5) (d := some 27) (v := undef) rfl (by kernel_rfl) (by kernel_rfl) (by kernel_rfl) rfl (fun _ _ _ h => h) (Or.inr ⟨by rfl, rfl⟩) (by assumption) ?_
        simp only [Act.put, List.setIfInBounds_toArray, List.set_cons_zero, List.set_cons_succ]
        refine wpAnyH_takeD (i := 6) (d := some 28) (v := undef) rfl (by kernel_rfl) (by kernel_rfl) (by kernel_rfl) rfl (fun _ _ _ h => h) (Or.inr ⟨by rfl, rfl⟩) (by assumption) ?_
        simp only [Act.put, List.setIfInBounds_toArray, List.set_cons_zero, List.set_cons_succ]
        refine wpAnyH_takeD (i := 7) (d := some 29) (v := undef) rfl (by kernel_rfl) (by kernel_rfl) (by kernel_rfl) rfl (fun _ _ _ h => h) (Or.inr ⟨by rfl, rfl⟩) (by assumption) ?_
        simp only [Act.put, List.setIfInBounds_toArray, List.set_cons_zero, List.set_cons_succ]
        refine wpAnyH_takeD (i := 8) (d := some 30) (v := ?_) rfl (by kernel_rfl) (by kernel_rfl) (by kernel_rfl) rfl (fun _ _ _ h => h) (Or.inl ⟨by rfl, ?_⟩) (by assumption) ?_
        rotate_left
        · intro w hSw; (try dsimp only at hSw); go_simp; try with_reducible rfl
        simp only [Act.put, List.setIfInBounds_toArray, List.set_cons_zero, List.set_cons_succ]
        refine wpAnyH_done (by kernel_rfl) ?_ _
        refine NoPanic.normal ?_
        go_wp2_with fail
        go_meet
        exact ⟨rfl, hbm⟩
      case rest =>
        obtain ⟨rfl, hcb⟩ := hcut
        have HBM := Lib.hid (HBW.out.via hcb)
        clear SOF hb0 hcb HBW
        go_wp2_with fail
        exact ⟨⟨k + 1, by go_num, by omega, HBM.out⟩, by simp [intOf]; omega⟩
    · have HBM := Lib.hid (HB1.out.trans (hbw.mono HB1.out.size))
      clear hbw
      go_wp2_with fail
      go_ret
      exact ⟨rfl, HBM.out⟩

end Go.Proofs.Ytghnkgbingcbcaa



namespace Go.Proofs.Ytghnkgbingcbcaa
open Go.RowKit

def FillY (w : World) (g : Gr) (cs : List Ce) (e : Ending) (w' : World) : Prop :=
  ∃ lens, FixL g.rules lens ∧ SndL g.rules lens ∧ (∀ c ∈ cs, OkU g.nons (szOf lens) c) ∧ Below w.heap.size w w' ∧
    ((∃ A n c, e = .returned (.tuple #[.slice A n c, .int .i64 0]) ∧ ((n : Nat) : Int) = szL (szOf lens) cs) ∨ (e = .returned (.tuple #[.slice none 0 0, .int .i64 2]) ∧ 2000 < szL (szOf lens) cs))
set_option maxRecDepth 100000 in
set_option maxHeartbeats 8000000 in
theorem FillY_c (ok okc : Nat → Prop) (g : Gr) (Ag : Option Addr) (ng cg : Nat) (A : Option Addr) (n c : Nat) (cs : List Ce) (w : World) (hg : GrOk g) (hl : Sl RuE ok w Ag ng cg g.rules) (hx : Sl CeE okc w A n c cs) (hn : n ≤ 12) (hc : ∀ x ∈ cs, okSyC g x) (hct : ∀ c ∈ cs, CellU g c) (hdr : DrvU g.rules [(false, g.start)] cs) :
    Calls Try.prog 18 #[grVal g Ag ng cg, .slice A n c] w (FillY w g cs) := by
  have hcl := hx.len
  have HCL := Lib.hid (show cs.length ≤ 12 by omega)
  have HGO := Lib.hid hg
  have HC := Lib.hid hc
  have HCT := Lib.hid hct
  have HDR := Lib.hid hdr
  have hB := (Below.refl w.heap.size w).al (.cells #[.int .i64 (g.terms : Int), .int .i64 (g.nons : Int), .int .i64 (g.start : Int), .slice Ag ng cg] 28)
  have HL := Lib.hid (hl.via hB)
  have HX := Lib.hid (hx.via hB)
  have HB := Lib.hid hB
  have B0 := Blk.new w 28 #[.int .i64 (g.terms : Int), .int .i64 (g.nons : Int), .int .i64 (g.start : Int), .slice Ag ng cg]
  have HB0 := Lib.hid B0
  simp only [grVal]
  clear hg hc hl hx hB hcl hct hdr
  go_enter Try.func18, Try.ntmps18
  have cB0 := B0.cell
  have fB0 := B0.frozen
  have lB0 := B0.lt
  go_wp2_with fail
  clear cB0 fB0 lB0
  generalize w.alloc (.cells #[.int .i64 (g.terms : Int), .int .i64 (g.nons : Int), .int .i64 (g.start : Int), .slice Ag ng cg] 28) = W at *
  refine (hcheckU_c ok okc g Ag ng cg A n c cs W HGO.out HL.out HX.out hn HC.out).mono ?_
  rintro e w1 ⟨rfl, hb⟩
  have HL1 := Lib.hid (HL.out.via hb)
  have HX1 := Lib.hid (HX.out.via hb)
  have HB1 := Lib.hid (HB.out.via hb)
  have Bg := HB0.out.via hb
  clear hb HX HB HB0 HL B0
  have cBg := Bg.cell
  have fBg := Bg.frozen
  have lBg := Bg.lt
  go_wp2_with fail
  clear cBg fBg lBg
  clear Bg
  refine (fillU_c ok okc g Ag ng cg A n c cs w1 HGO.out HL1.out HX1.out hn HCT.out).mono ?_
  rintro e w2 ⟨lens, st, ⟨vs, ⟨vA, vn, vc⟩, vo⟩, hfl, hsl, hok, hgd, hfx, rfl, hv, hb⟩
  have HFL := Lib.hid hfl
  have HSL := Lib.hid hsl
  have HOK := Lib.hid hok
  have HFU := Lib.hid (hfx.full hgd HDR.out)
  have HGD := Lib.hid hgd
  have HFX := Lib.hid hfx
  obtain ⟨v1, v2, -, v4⟩ := hv
  simp only at v1 v2 v4
  have HV1 := Lib.hid v1
  have HV2 := Lib.hid v2
  have HV4 := Lib.hid v4
  have HB2 := Lib.hid ((HB1.out.via hb).al (.cells #[.int .i64 vs, .slice vA vn vc, .bool vo] 101))
  have Bw := Blk.new w2 101 #[.int .i64 vs, .slice vA vn vc, .bool vo]
  clear hgd hfx hfl hsl hok v1 v2 v4 hb HB1 HL1 HX1
  simp only [hoVal]
  cases vo with
  | false =>
    have h1 := HV2.out
    rw [HFU.out.1] at h1
    cases h1
  | true =>
    by_cases hbig : 2000 < vs
    · have e2 : decide ((2000 : Int) < vs) = true := decide_eq_true hbig
      have cBw := Bw.cell
      have fBw := Bw.frozen
      have lBw := Bw.lt
      go_wp2_with fail
      go_ret2
      exact ⟨lens, HFL.out, HSL.out, HOK.out, HB2.out, Or.inr ⟨rfl, by have h1 := HFU.out.2.s; have h3 := HV1.out; rw [← h3] at h1; omega⟩⟩
    have hsz : (vn : Int) = szL (szOf lens) cs := by
      have h1 := HFU.out.2.s
      have h2 := HFU.out.2.l
      have h3 := HV1.out
      have h4 := HV4.out.len
      have h5 := (szL_ok (sz := szOf lens) HOK.out).1
      rw [← h3] at h1 h2
      rw [if_pos (by omega)] at h2
      omega
    have e2 : decide ((2000 : Int) < vs) = false := decide_eq_false hbig
    have hvn : vn ≤ 17592186044416 := by have := HFU.out.2.s; have := HV1.out; omega
    have HSZ := Lib.hid hsz
    have HI := Lib.hid (show Ints _ vA vn vc _ from (HV4.out.al (.cells #[.int .i64 vs, .slice vA vn vc, .bool true] 101)).ints)
    clear hsz
    have cBw := Bw.cell
    have fBw := Bw.frozen
    have lBw := Bw.lt
    go_wp2_with fail
    clear cBw fBw lBw
    refine (clone_s vA vn vc (st g.start 0 cs.length).w _ HI.out hvn).mono ?_
    rintro e w3 ⟨Bc, dc, rfl, hoc, hbn⟩
    have HOC := Lib.hid hoc.toInts
    have HB3 := Lib.hid (HB2.out.via hbn)
    clear hoc hbn HB2 HI e2
    go_wp2_with fail
    go_ret2
    exact ⟨lens, HFL.out, HSL.out, HOK.out, HB3.out, Or.inl ⟨Bc, vn, dc, rfl, HSZ.out⟩⟩
end Go.Proofs.Ytghnkgbingcbcaa

