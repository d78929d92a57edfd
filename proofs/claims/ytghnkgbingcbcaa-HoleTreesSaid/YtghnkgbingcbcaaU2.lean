/- Texts HW, laid together. -/
import Derived.Test.YtghnkgbingcbcaaU1
import Derived.Test.YtghnkgbingcbcaaH3




namespace Go.Proofs.Ytghnkgbingcbcaa
open Go.RowKit

def szOf (lens : List Int) : SzU := fun N => lens.getD N (-1)
/-- a cell of a pattern: a terminal, or a nonterminal that derives a word -/
def CellU (g : Gr) (c : Ce) : Prop := (c.1 = true ∧ 0 ≤ c.2 ∧ c.2 < 8) ∨ (c.1 = false ∧ 0 ≤ c.2 ∧ c.2.toNat < g.nons ∧ ∃ v, Dv g.rules [(false, c.2.toNat)] v)
theorem CellU.all {g : Gr} {cs : List Ce} {lens : List Int} (h : ∀ c ∈ cs, CellU g c) (hf : FixL g.rules lens) (hl : LenG g.nons lens) (hn : g.nons ≤ 10) : ∀ c ∈ cs, OkU g.nons (szOf lens) c := fun c hc => by
  rcases h c hc with h1 | ⟨h1, h2, h3, v, hv⟩
  · exact Or.inl h1
  · exact Or.inr ⟨h1, h2, h3, (hf.one hv).1, hl.small hn _⟩
def FillU (w : World) (g : Gr) (cs : List Ce) (e : Ending) (w' : World) : Prop :=
  ∃ lens st v, FixL g.rules lens ∧ SndL g.rules lens ∧ (∀ c ∈ cs, OkU g.nons (szOf lens) c) ∧ GoodU (szOf lens) cs st ∧ FixH g.rules cs st ∧ e = .returned (hoVal v) ∧ HoR (fun _ => True) w' v (st g.start 0 cs.length) ∧ Below w.heap.size w w'
theorem gk_snoc {sz : SzU} {cs : List Ce} {k i : Nat} {sk : Nat → Nat → Way} {f : Nat → Way} (h : ∀ a, a < i → GRow sz cs k a (sk a)) (hf : GRow sz cs k i f) : ∀ a, a < i + 1 → GRow sz cs k a (if a = i then f else sk a) := fun a ha => by
  by_cases e : a = i
  · subst e; rw [if_pos rfl]; exact hf
  · rw [if_neg e]; exact h a (by omega)
theorem gr_snoc {sz : SzU} {cs : List Ce} {k n i : Nat} {st : WSt} {sk : Nat → Nat → Way} (h : ∀ a i, a < k → i ≤ n → GRow sz cs a i (st a i)) (hk : ∀ a, a < i → GRow sz cs k a (sk a)) (hi : i = n + 1) : ∀ a i, a < k + 1 → i ≤ n → GRow sz cs a i (if a = k then sk i else st a i) := fun a i' ha hi' => by
  by_cases e : a = k
  · subst e; rw [if_pos rfl]; exact hk i' (by omega)
  · rw [if_neg e]; exact h a i' (by omega) hi'
set_option maxRecDepth 100000 in
set_option maxHeartbeats 16000000 in
theorem fillU_c (ok okc : Nat → Prop) (g : Gr) (Ag : Option Addr) (ng cg : Nat) (A : Option Addr) (n c : Nat) (cs : List Ce) (w : World) (hg : GrOk g) (hl : Sl RuE ok w Ag ng cg g.rules) (hx : Sl CeE okc w A n c cs) (hn : n ≤ 12) (hct : ∀ c ∈ cs, CellU g c) :
    Calls Try.prog 42 #[grVal g Ag ng cg, .slice A n c] w (FillU w g cs) := by
  have B0 := (Blk.new w 28 #[.int .i64 (g.terms : Int), .int .i64 (g.nons : Int), .int .i64 (g.start : Int), .slice Ag ng cg]).al (.cells #[.int .i64 0, .slice none 0 0, .bool false] 101)
  have HGO := Lib.hid hg
  have HL0 := Lib.hid hl
  have HX0 := Lib.hid hx
  have HCT := Lib.hid hct
  have hct_ := hct
  simp only [grVal]
  have H8 := Lib.hid (show ∀ r ∈ g.rules, ∀ s ∈ r.2, s.1 = true → s.2 < 8 from fun r hr s hs hb => by
    have h1 := (HGO.out.ok.right r hr).2 s hs
    have h2 := HGO.out.ok.terms.2
    rw [Gr.okSy, if_pos hb] at h1
    have h3 : s.2 < g.terms := by simpa using h1
    omega)
  clear hg hl hx hct
  go_enter Try.func42, Try.ntmps42
  have cB0 := B0.cell
  have fB0 := B0.frozen
  have lB0 := B0.lt
  go_wp2_with fail
  clear cB0 fB0 lB0
  have hB3 := (((Below.refl w.heap.size w).al (.cells #[.int .i64 (g.terms : Int), .int .i64 (g.nons : Int), .int .i64 (g.start : Int), .slice Ag ng cg] 28)).al (.cells #[.int .i64 0, .slice none 0 0, .bool false] 101)).al (.cells #[.int .i64 (g.terms : Int), .int .i64 (g.nons : Int), .int .i64 (g.start : Int), .slice Ag ng cg, .slice A n c, .slice none 0 0] 123)
  have BZ0 := (Blk.new (w.alloc (.cells #[.int .i64 (g.terms : Int), .int .i64 (g.nons : Int), .int .i64 (g.start : Int), .slice Ag ng cg] 28)) 101 #[.int .i64 0, .slice none 0 0, .bool false]).al (.cells #[.int .i64 (g.terms : Int), .int .i64 (g.nons : Int), .int .i64 (g.start : Int), .slice Ag ng cg, .slice A n c, .slice none 0 0] 123)
  have BF0 := Blk.new ((w.alloc (.cells #[.int .i64 (g.terms : Int), .int .i64 (g.nons : Int), .int .i64 (g.start : Int), .slice Ag ng cg] 28)).alloc (.cells #[.int .i64 0, .slice none 0 0, .bool false] 101)) 123 #[.int .i64 (g.terms : Int), .int .i64 (g.nons : Int), .int .i64 (g.start : Int), .slice Ag ng cg, .slice A n c, .slice none 0 0]
  rw [World.size_alloc] at BZ0
  rw [World.size_alloc, World.size_alloc] at BF0
  have BG0 := B0.al (.cells #[.int .i64 (g.terms : Int), .int .i64 (g.nons : Int), .int .i64 (g.start : Int), .slice Ag ng cg, .slice A n c, .slice none 0 0] 123)
  have HL1 := Lib.hid (HL0.out.via hB3)
  have lF0 := BF0.lt
  generalize hW3 : (((w.alloc (.cells #[.int .i64 (g.terms : Int), .int .i64 (g.nons : Int), .int .i64 (g.start : Int), .slice Ag ng cg] 28)).alloc (.cells #[.int .i64 0, .slice none 0 0, .bool false] 101)).alloc (.cells #[.int .i64 (g.terms : Int), .int .i64 (g.nons : Int), .int .i64 (g.start : Int), .slice Ag ng cg, .slice A n c, .slice none 0 0] 123)) = W3 at *
  clear hW3
  refine (Lengths_q ok g Ag ng cg W3 HGO.out HL1.out).mono ?_
  rintro e w3 ⟨bl, lens, rfl, hzl, hsn_, hfx_, hbz, hb3, hblt⟩
  have HFXL := Lib.hid hfx_
  have HLEG := Lib.hid hzl
  have HOK := Lib.hid (CellU.all hct_ hfx_ hzl HGO.out.ok.nons.2)
  have HBLZ := Lib.hid hbz
  have HSNL := Lib.hid hsn_
  clear hsn_ hfx_ hct_
  have HB3 := Lib.hid (hB3.via hb3)
  have BG := BG0.via hb3
  have BZ := BZ0.via hb3
  have BF := BF0.via hb3
  have lF := BF.lt
  have HIr0 := Lib.hid (show UIR w (w.heap.size + 1 + 1) w.heap.size n w3.heap.size 0 (fun _ => 0) (fun _ _ => 0) (fun v => #[.int .i64 (g.terms : Int), .int .i64 (g.nons : Int), .int .i64 (g.start : Int), .slice Ag ng cg, .slice A n c, v]) #[.int .i64 (g.terms : Int), .int .i64 (g.nons : Int), .int .i64 (g.start : Int), .slice Ag ng cg] (.slice none 0 0) (fun _ _ _ => Way.no) (fun b => b = bl) w3 from
    ⟨BF, BG, Own.nil _ _, fun a i h => by omega, fun a i h => by omega, fun a i a' i' h => by omega, fun a a' i h => by omega, fun a h => by omega, fun a i h => by omega, fun b h => (by cases h), fun b hb => (by subst hb; exact ⟨⟨by omega, hbz.lt⟩, by simp [Value.ownBlock], fun a i h => by omega⟩), HB3.out, Nat.le_refl _, by omega, lF, Nat.le_refl _⟩)
  have HBZ := Lib.hid BZ
  clear BG0 BZ0 BF0 BZ BF hB3 hzl hbz hb3 B0
  have cBG := BG.cell
  have fBG := BG.frozen
  have lBG := BG.lt
  go_wp2_with fail
  clear cBG fBG lBG
  clear BG
  have gn1 : g.nons ≤ 10 := HGO.out.ok.nons.2
  generalize hbc : w.heap.size + 1 + 1 = bc at *
  have HBC := Lib.hid hbc
  clear hbc
  go_loopw [30] (fun q wr => ∃ (k hi : Nat) (rb : Nat → Nat) (cb : Nat → Nat → Nat) (Av : Option Addr) (cv : Nat) (st : WSt) (Wd : Nat → Prop), q = .int .i64 k ∧ k ≤ g.nons ∧ UIR w bc w.heap.size n hi k rb cb (fun v => #[.int .i64 (g.terms : Int), .int .i64 (g.nons : Int), .int .i64 (g.start : Int), .slice Ag ng cg, .slice A n c, v]) #[.int .i64 (g.terms : Int), .int .i64 (g.nons : Int), .int .i64 (g.start : Int), .slice Ag ng cg] (.slice Av k cv) st Wd wr ∧ Below bc w3 wr ∧ Blk wr bl 3 (iVals lens) ∧ Wd bl ∧ ∀ a i, a < k → i ≤ n → GRow (szOf lens) cs a i (st a i)) (fun q _ => g.nons - (intOf q).toNat)
  case atStart => exact ⟨0, _, _, _, none, 0, _, _, rfl, Nat.zero_le _, HIr0.out, Below.refl _ _, HBLZ.out, rfl, fun a i h => by omega⟩
  case round =>
    obtain ⟨k, hi, rb, cb, Av, cv, st, Wd, rfl, hk, hir, hbw, hblk, hwdl, hgr⟩ := hrel
    have HGR := Lib.hid hgr
    have HWDL := Lib.hid hwdl
    clear HIr0 HBLZ hgr hwdl
    by_cases hlt : k < g.nons
    · have HJ0 := Lib.hid (UJR.start hir (fun _ => 0) (fun _ _ => Way.no))
      have HBW := Lib.hid (hbw.alloc (Nat.le_of_lt hir.hc.lt) (.cells (mkCells (.slice none 0 0) (n + 1)) 126))
      have HBK0 := Lib.hid (hblk.al (.cells (mkCells (.slice none 0 0) (n + 1)) 126))
      have hmk := h_mk_wrows n (by omega)
      have hlr := Lib.hid (show bc < wr.heap.size from hir.hc.lt)
      clear hir hbw hblk
      go_wp2_with fail
      clear hmk
      generalize wr.alloc (.cells (mkCells (.slice none 0 0) (n + 1)) 126) = W4 at *
      generalize wr.heap.size = R at *
      obtain ⟨wo, rfl⟩ : ∃ wo : World, wo = wr := ⟨_, rfl⟩
      go_loopw [39] (fun q wr => ∃ (i : Nat) (ck : Nat → Nat) (sk : Nat → Nat → Way) (Wk : Nat → Prop), q = .int .i64 i ∧ i ≤ n + 1 ∧ UJR w bc w.heap.size n hi k rb cb (fun v => #[.int .i64 (g.terms : Int), .int .i64 (g.nons : Int), .int .i64 (g.start : Int), .slice Ag ng cg, .slice A n c, v]) #[.int .i64 (g.terms : Int), .int .i64 (g.nons : Int), .int .i64 (g.start : Int), .slice Ag ng cg] (.slice Av k cv) st Wd R i ck sk Wk wr ∧ Below bc w3 wr ∧ Blk wr bl 3 (iVals lens) ∧ ∀ a, a < i → GRow (szOf lens) cs k a (sk a)) (fun q _ => n + 1 - (intOf q).toNat)
      case atStart => exact ⟨0, _, _, _, rfl, Nat.zero_le _, HJ0.out, HBW.out, HBK0.out, fun a h => by omega⟩
      case round =>
        obtain ⟨i, ck, sk, Wk, rfl, hi2, hjr, hbw, hblk, hgk⟩ := hrel
        have HGK := Lib.hid hgk
        clear HJ0 HBW HBK0 hgk
        by_cases hin : i ≤ n
        · have hms := mk_hos n (by omega)
          have hRl0 : R < wr.heap.size := by obtain ⟨C, C1, -⟩ := hjr.top; exact C1.lt
          have hjn := UJM.start hjr hin
          have hblR : bl ≠ R := by have := (hjr.ir.wdb bl HWDL.out).1.2; have := hjr.lo; omega
          have HBK5 := Lib.hid ((hblk.far (p := ⟨R, i, none⟩) hblR (.slice (some ⟨wr.heap.size, 0, none⟩) (n + 1) (n + 1))).al (.cells (hoCells n) 101))
          rw [World.setCell_alloc_past _ R i _ hRl0] at hjn
          have HJN := Lib.hid hjn
          have hRl := hjr.lo
          have hbR : bc ≤ R := by have := hjr.ir.l2; omega
          have hbn := ((hbw.alloc (by have := hjr.ir.l3; have := hjr.ir.l2; omega) (.cells (hoCells n) 101)).setCell (p := ⟨R, i, none⟩) hbR (.slice (some ⟨wr.heap.size, 0, none⟩) (n + 1) (n + 1)))
          rw [World.setCell_alloc_past _ R i _ hRl0] at hbn
          have HBN := Lib.hid hbn
          obtain ⟨C, C1, C2, -⟩ := hjr.top
          have cR : ∃ u, wr.cell? ⟨R, i, none⟩ = some u := ⟨C[i]'(by omega), by rw [C1.cell]; exact Array.getElem?_eq_getElem (by omega)⟩
          obtain ⟨u, cR⟩ := cR
          have fR := C1.frozen i
          have lR := C1.lt
          have i0 : (0 : Int) ≤ (i : Int) := by omega
          have i1 : (i : Int) < (n : Int) + 1 := by omega
          clear hjr C1 C2 hbw hjn hbn hRl0 hblk
          go_upto_region 11 with fail
          clear hms cR fR
          generalize hW5 : ((wr.setCell ⟨R, i, none⟩ (.slice (some ⟨wr.heap.size, 0, none⟩) (n + 1) (n + 1))).alloc (.cells (hoCells n) 101)) = W5 at *
          clear hW5
          generalize wr.heap.size = cn at *
          by_cases hic : i < n
          · obtain ⟨b2, o2, sx, sy, hA2, -, hbb2, hy2, hxy2, hc2⟩ := (HX0.out.via HJN.out.jr.ir.bel).at_ hic
            obtain rfl : sx = sy := hxy2
            subst hA2
            have d0 := hc2 0 _ rfl
            have d1 := hc2 1 _ rfl
            simp only [CeE, Nat.add_zero] at d0 d1
            have HCU := Lib.hid (HCT.out _ (List.mem_of_getElem? hy2))
            obtain ⟨tb, xv⟩ := sx
            have HY2 := Lib.hid hy2
            have i2 : (i : Int) < (n : Int) := by omega
            clear hc2 hy2
            simp only at d0 d1
            by_cases hmt : tb = false ∧ xv = (k : Int)
            · obtain ⟨rfl, rfl⟩ := hmt
              have HDV := Lib.hid (show ∃ v, Dv g.rules [(false, k)] v from by
                rcases HCU.out with ⟨h, _⟩ | ⟨_, _, _, v, hv⟩
                · cases h
                · exact ⟨v, by simpa using hv⟩)
              obtain ⟨x, hx⟩ : ∃ x, lens[k]? = some x := ⟨_, List.getElem?_eq_getElem (by rw [HLEG.out.len]; exact hlt)⟩
              have HVX := Lib.hid (show lens.getD k (-1) = x by simp [List.getD_eq_getElem?_getD, hx])
              have hx0 : 0 ≤ x := by rw [← HVX.out]; obtain ⟨v, hv⟩ := HDV.out; exact (HFXL.out.one hv).1
              have cx5 : W5.cell? ⟨bl, k, none⟩ = some (.int .i64 x) := (HBK5.out.cell k).trans (by simp [iVals, hx])
              have lx5 := HBK5.out.lt
              have k0 : (0 : Int) ≤ (k : Int) := by omega
              have k1 : (k : Int) < (g.nons : Int) := by omega
              have HXK := Lib.hid hx
              clear hx
              go_cut [68] (fun s68 wx => s68 = .bool true ∧ Below W5.heap.size W5 wx)
              case first =>
                have SOF := Lib.hid (show ∀ w', Below W5.heap.size W5 w' → (w'.cell? ⟨b2, o2 + i * 2, none⟩ = some (.bool false) ∧ w'.cell? ⟨b2, o2 + i * 2 + 1, none⟩ = some (.int .i64 (k : Int)) ∧ w'.cell? ⟨bl, k, none⟩ = some (.int .i64 x) ∧ Below W5.heap.size W5 w') from fun w' hb => ⟨(hb.cell (p := ⟨b2, o2 + i * 2, none⟩) hbb2).trans d0, (hb.cell (p := ⟨b2, o2 + i * 2 + 1, none⟩) hbb2).trans d1, (hb.cell (p := ⟨bl, k, none⟩) lx5).trans cx5, hb⟩)
                have hb0 := (Below.refl W5.heap.size W5).drew
                clear d0 d1
                refine wp_region_noPanic ?_
                refine wp_region_held_drew (S := fun w' => w'.cell? ⟨b2, o2 + i * 2, none⟩ = some (.bool false) ∧ w'.cell? ⟨b2, o2 + i * 2 + 1, none⟩ = some (.int .i64 (k : Int)) ∧ w'.cell? ⟨bl, k, none⟩ = some (.int .i64 x) ∧ Below W5.heap.size W5 w') (by kernel_rfl) (SOF.out _ hb0) (fun hHeld => ?_)
                refine wpAnyH_takeD (i := 0) (d := some 49) (v := ?_) rfl (by kernel_rfl) (by kernel_rfl) (by kernel_rfl) rfl (fun _ _ _ h => h) (Or.inl ⟨by rfl, ?_⟩) (by assumption) ?_
                rotate_left
                · intro w hSw; (try dsimp only at hSw); go_simp; try with_reducible rfl
                simp only [Act.put, List.setIfInBounds_toArray, List.set_cons_zero, List.set_cons_succ]
                refine wpAnyH_takeD (i := 1) (d := some 50) (v := ?_) rfl (by kernel_rfl) (by kernel_rfl) (by kernel_rfl) rfl (fun _ _ _ h => h) (Or.inl ⟨by rfl, ?_⟩) (by assumption) ?_
                rotate_left
                · intro w hSw; (try dsimp only at hSw); go_simp; try with_reducible rfl
                simp only [Act.put, List.setIfInBounds_toArray, List.set_cons_zero, List.set_cons_succ]
                refine wpAnyH_takeD (i := 2) (d := some 51) (v := ?_) rfl (by kernel_rfl) (by kernel_rfl) (by kernel_rfl) rfl (fun _ _ _ h => h) (Or.inl ⟨by rfl, ?_⟩) (by assumption) ?_
                rotate_left
                · intro w hSw; (try dsimp only at hSw); go_simp; try with_reducible rfl
                simp only [Act.put, List.setIfInBounds_toArray, List.set_cons_zero, List.set_cons_succ]
                refine wpAnyH_takeD (i := 3) (d := some 52) (v := ?_) rfl (by kernel_rfl) (by kernel_rfl) (by kernel_rfl) rfl (fun _ _ _ h => h) (Or.inl ⟨by rfl, ?_⟩) (by assumption) ?_
                rotate_left
                · intro w hSw; (try dsimp only at hSw); go_simp; try with_reducible rfl
                simp only [Act.put, List.setIfInBounds_toArray, List.set_cons_zero, List.set_cons_succ]
                refine wpAnyH_takeD (i := 4) (d := some 53) (v := ?_) rfl (by kernel_rfl) (by kernel_rfl) (by kernel_rfl) rfl (fun _ _ _ h => h) (Or.inl ⟨by rfl, ?_⟩) (by assumption) ?_
                rotate_left
                · intro w hSw; (try dsimp only at hSw); go_simp; try with_reducible rfl
                simp only [Act.put, List.setIfInBounds_toArray, List.set_cons_zero, List.set_cons_succ]
                refine wpAnyH_takeD (i := 5) (d := some 54) (v := ?_) rfl (by kernel_rfl) (by kernel_rfl) (by kernel_rfl) rfl (fun _ _ _ h => h) (Or.inl ⟨by rfl, ?_⟩) (by assumption) ?_
                rotate_left
                · intro w hSw; (try dsimp only at hSw); go_simp; try with_reducible rfl
                simp only [Act.put, List.setIfInBounds_toArray, List.set_cons_zero, List.set_cons_succ]
                refine wpAnyH_takeD (i := 6) (d := some 55) (v := ?_) rfl (by kernel_rfl) (by kernel_rfl) (by kernel_rfl) rfl (fun _ _ _ h => h) (Or.inl ⟨by rfl, ?_⟩) (by assumption) ?_
                rotate_left
                · intro w hSw; (try dsimp only at hSw); go_simp; try with_reducible rfl
                simp only [Act.put, List.setIfInBounds_toArray, List.set_cons_zero, List.set_cons_succ]
                refine wpAnyH_takeD (i := 7) (d := some 56) (v := ?_) rfl (by kernel_rfl) (by kernel_rfl) (by kernel_rfl) rfl (fun _ _ _ h => h) (Or.inl ⟨by rfl, ?_⟩) (by assumption) ?_
                rotate_left
                · intro w hSw; (try dsimp only at hSw); go_simp; try with_reducible rfl
                simp only [Act.put, List.setIfInBounds_toArray, List.set_cons_zero, List.set_cons_succ]
                refine wpAnyH_takeD (i := 8) (d := some 57) (v := ?_) rfl (by kernel_rfl) (by kernel_rfl) (by kernel_rfl) rfl (fun _ _ _ h => h) (Or.inl ⟨by rfl, ?_⟩) (by assumption) ?_
                rotate_left
                · intro w hSw; (try dsimp only at hSw); go_simp; try with_reducible rfl
                simp only [Act.put, List.setIfInBounds_toArray, List.set_cons_zero, List.set_cons_succ]
                refine wpAnyH_takeD (i := 9) (d := some 58) (v := ?_) rfl (by kernel_rfl) (by kernel_rfl) (by kernel_rfl) rfl (fun _ _ _ h => h) (Or.inl ⟨by rfl, ?_⟩) (by assumption) ?_
                rotate_left
                · intro w hSw; (try dsimp only at hSw); go_simp; try with_reducible rfl
                simp only [Act.put, List.setIfInBounds_toArray, List.set_cons_zero, List.set_cons_succ]
                refine wpAnyH_ready (rs := [10]) (by kernel_rfl) (by simp) ?_
                refine AllReadyH.cons rfl (fun K hK => ?_) AllReadyH.nil
                go_simp
                go_at_call 63
                refine (gN_c _ _).mono ?_
                rintro ee wn ⟨rfl, hbn⟩
                have hbm : Below W5.heap.size W5 wn := Below.via (by assumption) hbn
                go_wp2_with fail
                refine hK.out _ _ (SOF.out _ hbm) (fun hHeld2 => ?_)
                clear hK K hHeld
                refine wpAnyH_takeD (i := 11) (d := some 60) (v := ?_) rfl (by kernel_rfl) (by kernel_rfl) (by kernel_rfl) rfl (fun _ _ _ h => h) (Or.inl ⟨by rfl, ?_⟩) (by assumption) ?_
                rotate_left
                · intro w hSw; (try dsimp only at hSw); go_simp; try with_reducible rfl
                simp only [Act.put, List.setIfInBounds_toArray, List.set_cons_zero, List.set_cons_succ]
                refine wpAnyH_takeD (i := 12) (d := some 61) (v := ?_) rfl (by kernel_rfl) (by kernel_rfl) (by kernel_rfl) rfl (fun _ _ _ h => h) (Or.inl ⟨by rfl, ?_⟩) (by assumption) ?_
                rotate_left
                · intro w hSw; (try dsimp only at hSw); go_simp; try with_reducible rfl
                simp only [Act.put, List.setIfInBounds_toArray, List.set_cons_zero, List.set_cons_succ]
                refine wpAnyH_takeD (i := 13) (d := some 62) (v := ?_) rfl (by kernel_rfl) (by kernel_rfl) (by kernel_rfl) rfl (fun _ _ _ h => h) (Or.inl ⟨by rfl, ?_⟩) (by assumption) ?_
                rotate_left
                · intro w hSw; (try dsimp only at hSw); go_simp; try with_reducible rfl
                simp only [Act.put, List.setIfInBounds_toArray, List.set_cons_zero, List.set_cons_succ]
                refine wpAnyH_takeD (i := 14) (d := some 63) (v := ?_) rfl (by kernel_rfl) (by kernel_rfl) (by kernel_rfl) rfl (fun _ _ _ h => h) (Or.inl ⟨by rfl, ?_⟩) (by assumption) ?_
                rotate_left
                · intro w hSw; (try dsimp only at hSw); go_simp; try with_reducible rfl
                simp only [Act.put, List.setIfInBounds_toArray, List.set_cons_zero, List.set_cons_succ]
                refine wpAnyH_takeD (i := 15) (d := some 64) (v := ?_) rfl (by kernel_rfl) (by kernel_rfl) (by kernel_rfl) rfl (fun _ _ _ h => h) (Or.inl ⟨by rfl, ?_⟩) (by assumption) ?_
                rotate_left
                · intro w hSw; (try dsimp only at hSw); go_simp; try with_reducible rfl
                simp only [Act.put, List.setIfInBounds_toArray, List.set_cons_zero, List.set_cons_succ]
                refine wpAnyH_takeD (i := 16) (d := some 65) (v := ?_) rfl (by kernel_rfl) (by kernel_rfl) (by kernel_rfl) rfl (fun _ _ _ h => h) (Or.inl ⟨by rfl, ?_⟩) (by assumption) ?_
                rotate_left
                · intro w hSw; (try dsimp only at hSw); go_simp; try with_reducible rfl
                simp only [Act.put, List.setIfInBounds_toArray, List.set_cons_zero, List.set_cons_succ]
                refine wpAnyH_takeD (i := 17) (d := some 66) (v := ?_) rfl (by kernel_rfl) (by kernel_rfl) (by kernel_rfl) rfl (fun _ _ _ h => h) (Or.inl ⟨by rfl, ?_⟩) (by assumption) ?_
                rotate_left
                · intro w hSw; (try dsimp only at hSw); go_simp; try with_reducible rfl
                simp only [Act.put, List.setIfInBounds_toArray, List.set_cons_zero, List.set_cons_succ]
                refine wpAnyH_takeD (i := 18) (d := some 67) (v := ?_) rfl (by kernel_rfl) (by kernel_rfl) (by kernel_rfl) rfl (fun _ _ _ h => h) (Or.inl ⟨by rfl, ?_⟩) (by assumption) ?_
                rotate_left
                · intro w hSw; (try dsimp only at hSw); go_simp; try with_reducible rfl
                simp only [Act.put, List.setIfInBounds_toArray, List.set_cons_zero, List.set_cons_succ]
                refine wpAnyH_takeD (i := 19) (d := some 68) (v := ?_) rfl (by kernel_rfl) (by kernel_rfl) (by kernel_rfl) rfl (fun _ _ _ h => h) (Or.inl ⟨by rfl, ?_⟩) (by assumption) ?_
                rotate_left
                · intro w hSw; (try dsimp only at hSw); go_simp; try with_reducible rfl
                simp only [Act.put, List.setIfInBounds_toArray, List.set_cons_zero, List.set_cons_succ]
                refine wpAnyH_done (by kernel_rfl) ?_ _
                refine NoPanic.normal ?_
                go_wp2_with fail
                go_meet
                exact ⟨rfl, hbm⟩
              case rest =>
                obtain ⟨rfl, hcb⟩ := hcut
                have HJM := Lib.hid (HJN.out.via hcb)
                have HBM := Lib.hid (HBN.out.trans (hcb.mono (by have := HBN.out.size; have := lF; omega)))
                have HBK6 := Lib.hid (HBK5.out.via hcb)
                clear HJN HBN d0 d1 HBK5 cx5 lx5
                have Bg := HJM.out.jr.ir.hg
                have cBg := Bg.cell
                have fBg := Bg.frozen
                have lBg := Bg.lt
                go_wp2_with fail
                clear cBg fBg lBg
                clear Bg
                refine (Least_c ok g Ag ng cg k wc HGO.out (HL0.out.via HJM.out.jr.ir.bel) hlt HDV.out).mono ?_
                rintro e w6 ⟨lens2, hs2, hf2, hb6, hcase⟩
                have hxx : lens2.getD k (-1) = x := by
                  obtain ⟨v0, hv0⟩ := HDV.out
                  obtain ⟨v1, hv1, hl1⟩ := hs2 k (hf2.one hv0).1
                  obtain ⟨v2, hv2, hl2⟩ := HSNL.out k (HFXL.out.one hv0).1
                  have a1 := (HFXL.out.one hv1).2
                  have a2 := (hf2.one hv2).2
                  rw [HVX.out] at a1 hl2
                  omega
                have hkey : ∃ (A6 : Option Addr) (m6 c6 : Nat) (v6 : List Int) (z : Int), e = .returned (.tuple #[.slice A6 m6 c6, .int .i64 z]) ∧ Sl IntE (fun b => wc.heap.size ≤ b) w6 A6 m6 c6 v6 ∧ v6.length = (if x ≤ 2000 then x.toNat else 0) ∧ ∀ y ∈ v6, 0 ≤ y ∧ y < 8 := by
                  rw [hxx] at hcase
                  rcases hcase with ⟨h1, A6, m6, c6, v6, h2, h3, h4, h5⟩ | ⟨h1, h2⟩
                  · exact ⟨A6, m6, c6, v6, 0, h2, h3, by rw [if_pos h1]; omega, h4.lets H8.out fun s hs hb => by rw [List.mem_singleton.1 hs] at hb; cases hb⟩
                  · exact ⟨none, 0, 0, [], 2, h2, Sl.nil 0, by rw [if_neg (by omega)]; rfl, fun y hy => by cases hy⟩
                obtain ⟨A6, m6, c6, v6, z, rfl, hsl6, hlen6, hlet6⟩ := hkey
                clear hcase hs2 hf2 hxx
                have HSL6 := Lib.hid hsl6
                have HGW := Lib.hid (gk_snoc HGK.out (GRow.word (sz := szOf lens) (x := ⟨0, x, v6, true⟩) HY2.out rfl ⟨rfl, by simp only [szL, szC, szOf, Bool.false_eq_true, if_false, Int.toNat_natCast, Int.add_zero]; exact HVX.out.symm, hlen6, hlet6⟩))
                have HJ6 := Lib.hid (HJM.out.via hb6)
                have HBM6 := Lib.hid (HBM.out.trans (hb6.mono (by have := HBM.out.size; have := lF; omega)))
                have HBK7 := Lib.hid (HBK6.out.via hb6)
                have hcnB : cn < wc.heap.size := HJM.out.lcn.2.1
                clear hb6 HJM HBM HBK6 hsl6 hlen6 hlet6
                have cx6 : w6.cell? ⟨bl, k, none⟩ = some (.int .i64 x) := (HBK7.out.cell k).trans (by simp [iVals, HXK.out])
                obtain ⟨C7, C71, C72, C73, C74⟩ := HJ6.out.topn
                have cR7 := (C71.cell i).trans C74
                obtain ⟨v7, -, e70, e71, e72⟩ := HJ6.out.rown.at_ (show i + 1 ≤ n by omega)
                have f7 := HJ6.out.rown.frozen
                have l7 := HJ6.out.lcn.2.1
                clear C71 C72 C73 C74
                have hRc := HJ6.out.lcn.1
                have HJF := Lib.hid ((HJ6.out.word (B := wc.heap.size) (j := i + 1) (u := (x, (A6, m6, c6), true)) (y := ⟨0, x, v6, true⟩) hcnB (by omega) ⟨rfl, rfl, rfl, HSL6.out⟩).via (Below.refl _ _).drew)
                have HBF := Lib.hid ((below_p3 (b := cn) (o := (i + 1) * 3) (v := (x, (A6, m6, c6), true)) HBM6.out (by omega)).drew)
                have hblc : bl ≠ cn := by have := (HJ6.out.jr.ir.wdb bl HWDL.out).1.2; have := HJ6.out.jr.lo; omega
                have HBKF := Lib.hid (show Blk (World.put3 w6 cn ((i + 1) * 3) (x, (A6, m6, c6), true)).drew bl 3 (iVals lens) from Blk.dr ((heap_p3 hblc).trans HBK7.out))
                go_upto_region 13 with fail
                go_region
                go_wp2_with fail
                exact ⟨⟨i + 1, _, _, _, by go_num, by omega, HJF.out, HBF.out, HBKF.out, HGW.out⟩, by simp [intOf]; omega⟩
            · have HNE2 := Lib.hid (show cs[i]? ≠ some (false, (k : Int)) from fun h => by rw [HY2.out] at h; simp at h; exact hmt h)
              go_cut [68] (fun s68 wx => s68 = .bool false ∧ Below W5.heap.size W5 wx)
              case first =>
                have SOF := Lib.hid (show ∀ w', Below W5.heap.size W5 w' → (w'.cell? ⟨b2, o2 + i * 2, none⟩ = some (.bool tb) ∧ w'.cell? ⟨b2, o2 + i * 2 + 1, none⟩ = some (.int .i64 xv) ∧ Below W5.heap.size W5 w') from fun w' hb => ⟨(hb.cell (p := ⟨b2, o2 + i * 2, none⟩) hbb2).trans d0, (hb.cell (p := ⟨b2, o2 + i * 2 + 1, none⟩) hbb2).trans d1, hb⟩)
                have hb0 := (Below.refl W5.heap.size W5).drew
                clear d0 d1
                refine wp_region_noPanic ?_
                refine wp_region_held_drew (S := fun w' => w'.cell? ⟨b2, o2 + i * 2, none⟩ = some (.bool tb) ∧ w'.cell? ⟨b2, o2 + i * 2 + 1, none⟩ = some (.int .i64 xv) ∧ Below W5.heap.size W5 w') (by kernel_rfl) (SOF.out _ hb0) (fun hHeld => ?_)
                refine wpAnyH_takeD (i := 0) (d := some 49) (v := ?_) rfl (by kernel_rfl) (by kernel_rfl) (by kernel_rfl) rfl (fun _ _ _ h => h) (Or.inl ⟨by rfl, ?_⟩) (by assumption) ?_
                rotate_left
                · intro w hSw; (try dsimp only at hSw); go_simp; try with_reducible rfl
                simp only [Act.put, List.setIfInBounds_toArray, List.set_cons_zero, List.set_cons_succ]
                refine wpAnyH_takeD (i := 1) (d := some 50) (v := ?_) rfl (by kernel_rfl) (by kernel_rfl) (by kernel_rfl) rfl (fun _ _ _ h => h) (Or.inl ⟨by rfl, ?_⟩) (by assumption) ?_
                rotate_left
                · intro w hSw; (try dsimp only at hSw); go_simp; try with_reducible rfl
                simp only [Act.put, List.setIfInBounds_toArray, List.set_cons_zero, List.set_cons_succ]
                refine wpAnyH_takeD (i := 2) (d := some 51) (v := ?_) rfl (by kernel_rfl) (by kernel_rfl) (by kernel_rfl) rfl (fun _ _ _ h => h) (Or.inl ⟨by rfl, ?_⟩) (by assumption) ?_
                rotate_left
                · intro w hSw; (try dsimp only at hSw); go_simp; try with_reducible rfl
                simp only [Act.put, List.setIfInBounds_toArray, List.set_cons_zero, List.set_cons_succ]
                refine wpAnyH_takeD (i := 3) (d := some 52) (v := ?_) rfl (by kernel_rfl) (by kernel_rfl) (by kernel_rfl) rfl (fun _ _ _ h => h) (Or.inl ⟨by rfl, ?_⟩) (by assumption) ?_
                rotate_left
                · intro w hSw; (try dsimp only at hSw); go_simp; try with_reducible rfl
                simp only [Act.put, List.setIfInBounds_toArray, List.set_cons_zero, List.set_cons_succ]
                refine wpAnyH_takeD (i := 4) (d := some 53) (v := ?_) rfl (by kernel_rfl) (by kernel_rfl) (by kernel_rfl) rfl (fun _ _ _ h => h) (Or.inl ⟨by rfl, ?_⟩) (by assumption) ?_
                rotate_left
                · intro w hSw; (try dsimp only at hSw); go_simp; try with_reducible rfl
                simp only [Act.put, List.setIfInBounds_toArray, List.set_cons_zero, List.set_cons_succ]
                refine wpAnyH_takeD (i := 5) (d := some 54) (v := ?_) rfl (by kernel_rfl) (by kernel_rfl) (by kernel_rfl) rfl (fun _ _ _ h => h) (Or.inl ⟨by rfl, ?_⟩) (by assumption) ?_
                rotate_left
                · intro w hSw; (try dsimp only at hSw); go_simp; try with_reducible rfl
                simp only [Act.put, List.setIfInBounds_toArray, List.set_cons_zero, List.set_cons_succ]
                refine wpAnyH_takeD (i := 6) (d := some 55) (v := ?_) rfl (by kernel_rfl) (by kernel_rfl) (by kernel_rfl) rfl (fun _ _ _ h => h) (Or.inl ⟨by rfl, ?_⟩) (by assumption) ?_
                rotate_left
                · intro w hSw; (try dsimp only at hSw); go_simp; try with_reducible rfl
                simp only [Act.put, List.setIfInBounds_toArray, List.set_cons_zero, List.set_cons_succ]
                refine wpAnyH_takeD (i := 7) (d := some 56) (v := ?_) rfl (by kernel_rfl) (by kernel_rfl) (by kernel_rfl) rfl (fun _ _ _ h => h) (Or.inl ⟨by rfl, ?_⟩) (by assumption) ?_
                rotate_left
                · intro w hSw; (try dsimp only at hSw); go_simp; try with_reducible rfl
                simp only [Act.put, List.setIfInBounds_toArray, List.set_cons_zero, List.set_cons_succ]
                refine wpAnyH_takeD (i := 8) (d := some 57) (v := ?_) rfl (by kernel_rfl) (by kernel_rfl) (by kernel_rfl) rfl (fun _ _ _ h => h) (Or.inl ⟨by rfl, ?_⟩) (by assumption) ?_
                rotate_left
                · intro w hSw; (try dsimp only at hSw); go_simp; try with_reducible rfl
                simp only [Act.put, List.setIfInBounds_toArray, List.set_cons_zero, List.set_cons_succ]
                refine wpAnyH_takeD (i := 9) (d := some 58) (v := ?_) rfl (by kernel_rfl) (by kernel_rfl) (by kernel_rfl) rfl (fun _ _ _ h => h) (Or.inl ⟨by rfl, ?_⟩) (by assumption) ?_
                rotate_left
                · intro w hSw; (try dsimp only at hSw); go_simp; try with_reducible rfl
                simp only [Act.put, List.setIfInBounds_toArray, List.set_cons_zero, List.set_cons_succ]
                refine wpAnyH_ready (rs := [10]) (by kernel_rfl) (by simp) ?_
                refine AllReadyH.cons rfl (fun K hK => ?_) AllReadyH.nil
                go_simp
                go_at_call 63
                refine (gN_c _ _).mono ?_
                rintro ee wn ⟨rfl, hbn⟩
                have hbm : Below W5.heap.size W5 wn := Below.via (by assumption) hbn
                go_wp2_with fail
                refine hK.out _ _ (SOF.out _ hbm) (fun hHeld2 => ?_)
                clear hK K hHeld
                cases tb with
                | true =>
                  refine wpAnyH_takeD (i := 11) (d := some 60) (v := ?_) rfl (by kernel_rfl) (by kernel_rfl) (by kernel_rfl) rfl (fun _ _ _ h => h) (Or.inl ⟨by rfl, ?_⟩) (by assumption) ?_
                  rotate_left
                  · intro w hSw; (try dsimp only at hSw); go_simp; try with_reducible rfl
                  simp only [Act.put, List.setIfInBounds_toArray, List.set_cons_zero, List.set_cons_succ]
                  refine wpAnyH_takeD (i := 12) (d := some 61) (v := ?_) rfl (by kernel_rfl) (by kernel_rfl) (by kernel_rfl) rfl (fun _ _ _ h => h) (Or.inl ⟨by rfl, ?_⟩) (by assumption) ?_
                  rotate_left
                  · intro w hSw; (try dsimp only at hSw); go_simp; try with_reducible rfl
                  simp only [Act.put, List.setIfInBounds_toArray, List.set_cons_zero, List.set_cons_succ]
                  refine wpAnyH_takeD (i := 13) (d := some 62) (v := ?_) rfl (by kernel_rfl) (by kernel_rfl) (by kernel_rfl) rfl (fun _ _ _ h => h) (Or.inl ⟨by rfl, ?_⟩) (by assumption) ?_
                  rotate_left
                  · intro w hSw; (try dsimp only at hSw); go_simp; try with_reducible rfl
                  simp only [Act.put, List.setIfInBounds_toArray, List.set_cons_zero, List.set_cons_succ]
                  refine wpAnyH_takeD (i := 14) (d := some 63) (v := undef) rfl (by kernel_rfl) (by kernel_rfl) (by kernel_rfl) rfl (fun _ _ _ h => h) (Or.inr ⟨by rfl, rfl⟩) (by assumption) ?_
                  simp only [Act.put, List.setIfInBounds_toArray, List.set_cons_zero, List.set_cons_succ]
                  refine wpAnyH_takeD (i := 15) (d := some 64) (v := undef) rfl (by kernel_rfl) (by kernel_rfl) (by kernel_rfl) rfl (fun _ _ _ h => h) (Or.inr ⟨by rfl, rfl⟩) (by assumption) ?_
                  simp only [Act.put, List.setIfInBounds_toArray, List.set_cons_zero, List.set_cons_succ]
                  refine wpAnyH_takeD (i := 16) (d := some 65) (v := undef) rfl (by kernel_rfl) (by kernel_rfl) (by kernel_rfl) rfl (fun _ _ _ h => h) (Or.inr ⟨by rfl, rfl⟩) (by assumption) ?_
                  simp only [Act.put, List.setIfInBounds_toArray, List.set_cons_zero, List.set_cons_succ]
                  refine wpAnyH_takeD (i := 17) (d := some 66) (v := undef) rfl (by kernel_rfl) (by kernel_rfl) (by kernel_rfl) rfl (fun _ _ _ h => h) (Or.inr ⟨by rfl, rfl⟩) (by assumption) ?_
                  simp only [Act.put, List.setIfInBounds_toArray, List.set_cons_zero, List.set_cons_succ]
                  refine wpAnyH_takeD (i := 18) (d := some 67) (v := undef) rfl (by kernel_rfl) (by kernel_rfl) (by kernel_rfl) rfl (fun _ _ _ h => h) (Or.inr ⟨by rfl, rfl⟩) (by assumption) ?_
                  simp only [Act.put, List.setIfInBounds_toArray, List.set_cons_zero, List.set_cons_succ]
                  refine wpAnyH_takeD (i := 19) (d := some 68) (v := ?_) rfl (by kernel_rfl) (by kernel_rfl) (by kernel_rfl) rfl (fun _ _ _ h => h) (Or.inl ⟨by rfl, ?_⟩) (by assumption) ?_
                  rotate_left
                  · intro w hSw; (try dsimp only at hSw); go_simp; try with_reducible rfl
                  simp only [Act.put, List.setIfInBounds_toArray, List.set_cons_zero, List.set_cons_succ]
                  refine wpAnyH_done (by kernel_rfl) ?_ _
                  refine NoPanic.normal ?_
                  go_wp2_with fail
                  go_meet
                  exact ⟨rfl, hbm⟩
                | false =>
                  have hxk : xv ≠ (k : Int) := fun h => hmt ⟨rfl, h⟩
                  have hxd : decide (xv = (k : Int)) = false := decide_eq_false hxk
                  have hxb : (xv == (k : Int)) = false := by simpa using hxk
                  refine wpAnyH_takeD (i := 11) (d := some 60) (v := ?_) rfl (by kernel_rfl) (by kernel_rfl) (by kernel_rfl) rfl (fun _ _ _ h => h) (Or.inl ⟨by rfl, ?_⟩) (by assumption) ?_
                  rotate_left
                  · intro w hSw; (try dsimp only at hSw); go_simp; try with_reducible rfl
                  simp only [Act.put, List.setIfInBounds_toArray, List.set_cons_zero, List.set_cons_succ]
                  refine wpAnyH_takeD (i := 12) (d := some 61) (v := ?_) rfl (by kernel_rfl) (by kernel_rfl) (by kernel_rfl) rfl (fun _ _ _ h => h) (Or.inl ⟨by rfl, ?_⟩) (by assumption) ?_
                  rotate_left
                  · intro w hSw; (try dsimp only at hSw); go_simp; try with_reducible rfl
                  simp only [Act.put, List.setIfInBounds_toArray, List.set_cons_zero, List.set_cons_succ]
                  refine wpAnyH_takeD (i := 13) (d := some 62) (v := ?_) rfl (by kernel_rfl) (by kernel_rfl) (by kernel_rfl) rfl (fun _ _ _ h => h) (Or.inl ⟨by rfl, ?_⟩) (by assumption) ?_
                  rotate_left
                  · intro w hSw; (try dsimp only at hSw); go_simp; try with_reducible rfl
                  simp only [Act.put, List.setIfInBounds_toArray, List.set_cons_zero, List.set_cons_succ]
                  refine wpAnyH_takeD (i := 14) (d := some 63) (v := undef) rfl (by kernel_rfl) (by kernel_rfl) (by kernel_rfl) rfl (fun _ _ _ h => h) (Or.inr ⟨by rfl, rfl⟩) (by assumption) ?_
                  simp only [Act.put, List.setIfInBounds_toArray, List.set_cons_zero, List.set_cons_succ]
                  refine wpAnyH_takeD (i := 15) (d := some 64) (v := undef) rfl (by kernel_rfl) (by kernel_rfl) (by kernel_rfl) rfl (fun _ _ _ h => h) (Or.inr ⟨by rfl, rfl⟩) (by assumption) ?_
                  simp only [Act.put, List.setIfInBounds_toArray, List.set_cons_zero, List.set_cons_succ]
                  refine wpAnyH_takeD (i := 16) (d := some 65) (v := undef) rfl (by kernel_rfl) (by kernel_rfl) (by kernel_rfl) rfl (fun _ _ _ h => h) (Or.inr ⟨by rfl, rfl⟩) (by assumption) ?_
                  simp only [Act.put, List.setIfInBounds_toArray, List.set_cons_zero, List.set_cons_succ]
                  refine wpAnyH_takeD (i := 17) (d := some 66) (v := undef) rfl (by kernel_rfl) (by kernel_rfl) (by kernel_rfl) rfl (fun _ _ _ h => h) (Or.inr ⟨by rfl, rfl⟩) (by assumption) ?_
                  simp only [Act.put, List.setIfInBounds_toArray, List.set_cons_zero, List.set_cons_succ]
                  refine wpAnyH_takeD (i := 18) (d := some 67) (v := undef) rfl (by kernel_rfl) (by kernel_rfl) (by kernel_rfl) rfl (fun _ _ _ h => h) (Or.inr ⟨by rfl, rfl⟩) (by assumption) ?_
                  simp only [Act.put, List.setIfInBounds_toArray, List.set_cons_zero, List.set_cons_succ]
                  refine wpAnyH_takeD (i := 19) (d := some 68) (v := ?_) rfl (by kernel_rfl) (by kernel_rfl) (by kernel_rfl) rfl (fun _ _ _ h => h) (Or.inl ⟨by rfl, ?_⟩) (by assumption) ?_
                  rotate_left
                  · intro w hSw; (try dsimp only at hSw); go_simp; try with_reducible rfl
                  simp only [Act.put, List.setIfInBounds_toArray, List.set_cons_zero, List.set_cons_succ]
                  refine wpAnyH_done (by kernel_rfl) ?_ _
                  refine NoPanic.normal ?_
                  go_wp2_with fail
                  go_meet
                  exact ⟨rfl, hbm⟩
              case rest =>
                obtain ⟨rfl, hcb⟩ := hcut
                have HJM := Lib.hid ((HJN.out.via hcb).no)
                have HBM := Lib.hid (HBN.out.trans (hcb.mono (by have := HBN.out.size; have := lF; omega)))
                have HBK6 := Lib.hid (HBK5.out.via hcb)
                have HGK2 := Lib.hid (gk_snoc HGK.out (GRow.start HNE2.out))
                clear HJN HBN d0 d1 HBK5
                go_wp2_with fail
                exact ⟨⟨i + 1, _, _, _, by go_num, by omega, HJM.out, HBM.out, HBK6.out, HGK2.out⟩, by simp [intOf]; omega⟩
          · have e1 : decide ((i : Int) < (n : Int)) = false := by simp; omega
            go_quiet (fail)
            have HJM := Lib.hid ((HJN.out.via (below_drewN (Below.refl W5.heap.size W5) nq)).no)
            have HBM := Lib.hid (below_drewN HBN.out nq)
            have HBK6 := Lib.hid (HBK5.out.via (below_drewN (Below.refl W5.heap.size W5) nq))
            have HGK2 := Lib.hid (gk_snoc HGK.out (GRow.start (cells := cs) (by have := HX0.out.len; rw [List.getElem?_eq_none (by omega)]; simp)))
            clear HJN HBN e1 HBK5
            generalize W5.drewN nq = W6 at *
            go_wp2_with fail
            exact ⟨⟨i + 1, _, _, _, by go_num, by omega, HJM.out, HBM.out, HBK6.out, HGK2.out⟩, by simp [intOf]; omega⟩
        · have HIN := Lib.hid (show i = n + 1 by omega)
          have hbc := hjr.ir.hc
          have hown := hjr.ir.own
          have hl3 := hjr.ir.l3
          have hl2 := hjr.ir.l2
          have HJ := Lib.hid hjr
          have HBW := Lib.hid hbw
          have HOWN := Lib.hid (hown.al (.cells #[.slice (some ⟨R, 0, none⟩) (n + 1) (n + 1)] 125))
          have hlB := hbc.lt
          have cB : ∀ q, wr.cell? ⟨bc, q, none⟩ = #[.int .i64 (g.terms : Int), .int .i64 (g.nons : Int), .int .i64 (g.start : Int), .slice Ag ng cg, .slice A n c, .slice Av k cv][q]? := hbc.cell
          have Bnew := Blk.new wr 125 #[.slice (some ⟨R, 0, none⟩) (n + 1) (n + 1)]
          have HNE := Lib.hid (show some bc ≠ (Value.slice Av k cv).ownBlock from fun e => by have := (hown.lt bc e.symm).1; omega)
          have HBA := Lib.hid (hbc.al (.cells #[.slice (some ⟨R, 0, none⟩) (n + 1) (n + 1)] 125))
          have HBLA := Lib.hid (hblk.al (.cells #[.slice (some ⟨R, 0, none⟩) (n + 1) (n + 1)] 125))
          have HBLN := Lib.hid (show some bl ≠ (Value.slice Av k cv).ownBlock ∧ bl ≠ bc from ⟨fun e => (hjr.ir.wdb bl HWDL.out).2.1 e.symm, by have := (hjr.ir.wdb bl HWDL.out).1.1; omega⟩)
          have HOB := Lib.hid (show ∀ j, (Value.slice Av k cv).ownBlock = some j → bc ≤ j from fun j e => by have := (hown.lt j e).1; omega)
          clear hjr hbw hbc hown hblk
          go_wp2_with (at_builtin; refine h_wpList_append_rows _ rfl (.tmp 93) (.tmp 95) rfl (bc + 1) (.slice Av k cv) k _ rfl HOWN.out wr.heap.size (some ⟨R, 0, none⟩, n + 1, n + 1) rfl ((Bnew.cell 0).trans rfl) (by omega) (by simp; omega) ?_; intro A' c' w5 ho1 hg1 ha1; have Bw5 := HBA.out.grown hg1 HNE.out; have c5 := Bw5.cell; have f5 := Bw5.frozen; have l5 := Bw5.lt)
          have HF := Lib.hid (UJR.hang (by rw [← HIN.out]; exact HJ.out) (.cells #[.slice (some ⟨R, 0, none⟩) (n + 1) (n + 1)] 125) ho1 hg1 ha1 (fun u => rfl))
          have HBLF := Lib.hid (((HBLA.out.grown hg1 HBLN.out.1).far (p := ⟨bc, 5, none⟩) HBLN.out.2 (.slice A' (k + 1) c')))
          have HGR2 := Lib.hid (gr_snoc HGR.out HGK.out HIN.out)
          have HBF := Lib.hid (((HBW.out.alloc (Nat.le_of_lt hlB) (.cells #[.slice (some ⟨R, 0, none⟩) (n + 1) (n + 1)] 125)).grown hg1 (by simp; omega) HOB.out).setCell (p := ⟨bc, 5, none⟩) (Nat.le_refl _) (.slice A' (k + 1) c'))
          clear ho1 hg1 ha1 Bw5 c5 f5 l5 cB Bnew
          exact ⟨⟨k + 1, _, _, _, A', c', _, _, by go_num, by omega, HF.out, HBF.out, HBLF.out, Or.inl HWDL.out, HGR2.out⟩, by simp [intOf]; omega⟩
    · obtain rfl : k = g.nons := by omega
      have hcl : cs.length = n := HX0.out.len
      obtain ⟨stI, he, hgdI⟩ : ∃ stI : WSt, (∀ a i, a < g.nons → i ≤ n → st a i = stI a i) ∧ GoodU (szOf lens) cs stI :=
        ⟨_, fun a i ha hi => by funext j; rw [if_pos (show a < g.nons ∧ i ≤ cs.length from ⟨ha, by rw [hcl]; exact hi⟩)], GoodU.start HOK.out fun N i hN hi => HGR.out N i hN (by rw [← hcl]; exact hi)⟩
      have HWB := Lib.hid (show ∀ b, Wd b → bc < b from fun b hb => (hir.wdb b hb).1.1)
      obtain ⟨ob, oo, rfl, hst, hbr⟩ := hir.fin HGO.out.ok.nons.1 stI he
      clear he hcl HGR
      have hlb : bc < wr.heap.size := hir.hc.lt
      have HQ0 := Lib.hid (show Blk wr (w.heap.size + 1) 101 #[.int .i64 0, .slice none 0 0, .bool false] from HBZ.out.below hbw (by have := HBC.out; omega))
      generalize hB0 : wr.heap.size = BZ at *
      have HST := Lib.hid hst
      have HBR := Lib.hid (show UBRel w bc w.heap.size ob oo g.nons n BZ rb cb #[.int .i64 (g.terms : Int), .int .i64 (g.nons : Int), .int .i64 (g.start : Int), .slice Ag ng cg, .slice A n c, .slice (some ⟨ob, oo, none⟩) g.nons cv] #[.int .i64 (g.terms : Int), .int .i64 (g.nons : Int), .int .i64 (g.start : Int), .slice Ag ng cg] stI Wd wr from hbr)
      clear hir hst hbr hbw hblk
      have HNL := Lib.hid (show cs.length = n from HX0.out.len)
      have HTL := Lib.hid (show ∀ r ∈ g.rules, ∀ s ∈ r.2, s.1 = true → s.2 < 8 from fun r hr s hs hb => by
        have := (HGO.out.ok.right r hr).2 s hs
        rw [Gr.okSy, if_pos hb] at this
        have := HGO.out.ok.terms.2; omega)
      have HLEN := Lib.hid (show cs.length ≤ 12 by rw [HNL.out]; exact hn)
      have HGD := Lib.hid hgdI
      clear hgdI
      go_wp2_with fail
      clear hB0
      go_loopg [13] (2 * total big 8 g.nons cs.length stI + 1) (fun gk a wx => ∃ st ag, a = .bool ag ∧ GoodU (szOf lens) cs st ∧ UBRel w bc w.heap.size ob oo g.nons n BZ rb cb #[.int .i64 (g.terms : Int), .int .i64 (g.nons : Int), .int .i64 (g.start : Int), .slice Ag ng cg, .slice A n c, .slice (some ⟨ob, oo, none⟩) g.nons cv] #[.int .i64 (g.terms : Int), .int .i64 (g.nons : Int), .int .i64 (g.start : Int), .slice Ag ng cg] st Wd wx ∧ Blk wx (w.heap.size + 1) 101 #[.int .i64 0, .slice none 0 0, .bool false] ∧ (ag = false → FixH g.rules cs st) ∧ gk = 2 * total big 8 g.nons cs.length st + (if ag then 1 else 0))
      case atStart => exact ⟨_, true, rfl, HGD.out, HBR.out, HQ0.out, fun h => (by cases h), rfl⟩
      case round =>
        obtain ⟨st, ag, rfl, hgd, hbr, hq, hfx, hgk⟩ := hrel
        clear HBR HGD HQ0
        cases ag with
        | false =>
          have HGD := Lib.hid hgd
          have HBR := Lib.hid hbr
          have HFX := Lib.hid (hfx rfl)
          have HQ := Lib.hid hq
          clear hgd hbr hfx hgk hq
          go_upto_region 34 with fail
          have hsn := HGO.out.ok.start
          have t1 := HBR.out.bt.top g.start hsn
          have t2 := HBR.out.bt.mid g.start 0 hsn (Nat.zero_le _)
          obtain ⟨⟨xs_, ⟨xA, xn, xcc⟩, xo⟩, hxr, d0, d1, d2⟩ := (HBR.out.bt.row g.start 0 hsn (Nat.zero_le _)).at_ (Nat.le_refl n)
          simp only at d0 d1 d2
          have Bq := HQ.out
          have cC := HBR.out.hc.cell
          have cG := HBR.out.hg.cell
          have fQ := Bq.frozen
          have lQ := Bq.lt
          have cQ := Bq.cell
          have j0 : (0 : Int) ≤ (g.start : Int) := by omega
          have j1 : (g.start : Int) < (g.nons : Int) := by omega
          have j2 : (0 : Int) < (n : Int) + 1 := by omega
          have j3 : (n : Int) < (n : Int) + 1 := by omega
          have j4 : (0 : Int) ≤ (n : Int) := by omega
          have HXR := Lib.hid hxr
          clear hxr Bq
          go_region
          clear t1 t2 d0 d1 d2 cC cG fQ lQ cQ j0 j1 j2 j3 j4 hsn
          go_wp2_with fail
          have hlq : w.heap.size + 1 < BZ := by have := HBC.out; omega
          have cX := (((HQ.out.set_ 0 (.int .i64 xs_)).set_ 1 (.slice xA xn xcc)).set_ 2 (.bool xo)).dr.cell
          have HXF := (HXR.out.agr (agr_p3 (w := wr) (b := w.heap.size + 1) (o := 0) (v := (xs_, (xA, xn, xcc), xo)) fun x hx => by have h9 := HBC.out; exact hx.elim (fun hx => by omega) (fun hx => by have := HWB.out x hx; omega))).dr
          have HBF := (below_p3 (b := w.heap.size + 1) (o := 0) (v := (xs_, (xA, xn, xcc), xo)) HBR.out.bel (by omega)).drew
          refine bodyPost_ret (v := .agg #[.int .i64 xs_, .slice xA xn xcc, .bool xo]) (by simp [results, Try.results42, go_sem, cX]) rfl ⟨lens, st, (xs_, (xA, xn, xcc), xo), HFXL.out, HSNL.out, HOK.out, HGD.out, HFX.out, rfl, ?_, HBF⟩
          rw [HNL.out]
          exact HoR.mono HXF fun _ _ _ => trivial
        | true =>
          have HGD := Lib.hid hgd
          have HBR := Lib.hid hbr
          have HGK := Lib.hid hgk
          have HQ := Lib.hid hq
          have Bg := hbr.hg
          clear hgd hbr hfx hgk hq
          have cBg := Bg.cell
          have fBg := Bg.frozen
          have lBg := Bg.lt
          go_wp2_with fail
          have hng := HL0.out.len
          have hng32 : ng ≤ 32 := by have := HGO.out.ok.count; omega
          have HNG := Lib.hid hng
          clear hng
          have HPG := Lib.hid (show PrgH cs g.nons st st false (V4 g.rules n 0) from PrgH.mono (PrgH.start st) fun r i j h => by obtain ⟨⟨k', hk', _⟩, _⟩ := h; omega)
          clear cBg fBg lBg
          clear Bg
          obtain ⟨wo, rfl⟩ : ∃ wo : World, wo = wr := ⟨_, rfl⟩
          go_loopw [13, 104] (fun a q wr => ∃ (k : Nat) (st1 : WSt) (ag : Bool), q = .int .i64 k ∧ k ≤ ng ∧ a = .bool ag ∧ GoodU (szOf lens) cs st1 ∧ UBRel w bc w.heap.size ob oo g.nons n BZ rb cb #[.int .i64 (g.terms : Int), .int .i64 (g.nons : Int), .int .i64 (g.start : Int), .slice Ag ng cg, .slice A n c, .slice (some ⟨ob, oo, none⟩) g.nons cv] #[.int .i64 (g.terms : Int), .int .i64 (g.nons : Int), .int .i64 (g.start : Int), .slice Ag ng cg] st1 Wd wr ∧ Blk wr (w.heap.size + 1) 101 #[.int .i64 0, .slice none 0 0, .bool false] ∧ PrgH cs g.nons st st1 ag (V4 g.rules n k)) (fun _ q _ => ng - (intOf q).toNat)
          case atStart => exact ⟨0, st, false, rfl, Nat.zero_le _, rfl, HGD.out, HBR.out, HQ.out, HPG.out⟩
          case round =>
            obtain ⟨k, st1, ag, rfl, hk, rfl, hgd1, hbr1, hq1, hpg1⟩ := hrel
            clear HPG HBR HGD HQ
            by_cases hkn : k < ng
            · obtain ⟨b1, o1, ⟨sl, sA, sn, sc⟩, ⟨sl', rhs⟩, hAg, -, hbb, hy, ⟨hx1, hx2⟩, hc⟩ := HL0.out.at_ hkn
              simp only at hx1 hx2
              obtain rfl : sl = sl' := hx1
              subst hAg
              have d0 := (hbr1.bel.cell (p := ⟨b1, o1 + k * RuE.k + 0, none⟩) hbb).trans (hc 0 _ rfl)
              have d1 := (hbr1.bel.cell (p := ⟨b1, o1 + k * RuE.k + 1, none⟩) hbb).trans (hc 1 _ rfl)
              simp only [RuE, Nat.add_zero] at d0 d1
              have i0 : (0 : Int) ≤ (k : Int) := by omega
              have i1 : (k : Int) < (ng : Int) := by omega
              have hmem := List.mem_of_getElem? hy
              have hsl : sl < g.nons := HGO.out.ok.left _ hmem
              have HRT := Lib.hid (HGO.out.ok.right _ hmem)
              have HMEM := Lib.hid hmem
              have HY := Lib.hid hy
              have HSR := Lib.hid hx2
              have HGD1 := Lib.hid hgd1
              have HBR1 := Lib.hid (hbr1.via ((Below.refl wr.heap.size wr).al (.cells #[.int .i64 (sl : Int), .slice sA sn sc] 75)))
              have HQ1 := Lib.hid (hq1.al (.cells #[.int .i64 (sl : Int), .slice sA sn sc] 75))
              have HPG1 := Lib.hid (show PrgH cs g.nons st st1 ag (V6 g.rules n k (sl, rhs) 0 0) from PrgH.mono hpg1 fun r i j h => by
                rcases h with h | ⟨_, _, _, h⟩
                · exact h
                · omega)
              have HBK := Lib.hid (Blk.new wr 75 #[.int .i64 (sl : Int), .slice sA sn sc])
              have hbrl : BZ ≤ wr.heap.size := hbr1.l3
              clear hc hy hx2 hgd1 hbr1 hpg1 hmem hbb hq1
              go_wp2_with fail
              clear d0 d1
              generalize wr.alloc (.cells #[.int .i64 (sl : Int), .slice sA sn sc] 75) = W4 at *
              generalize wr.heap.size = brx at *
              obtain ⟨wp, rfl⟩ : ∃ wp : World, wp = wr := ⟨_, rfl⟩
              go_loopw [13, 111] (fun a q wr => ∃ (i : Nat) (st2 : WSt) (ag : Bool), q = .int .i64 i ∧ i ≤ n + 1 ∧ a = .bool ag ∧ GoodU (szOf lens) cs st2 ∧ UBRel w bc w.heap.size ob oo g.nons n BZ rb cb #[.int .i64 (g.terms : Int), .int .i64 (g.nons : Int), .int .i64 (g.start : Int), .slice (some ⟨b1, o1, none⟩) ng cg, .slice A n c, .slice (some ⟨ob, oo, none⟩) g.nons cv] #[.int .i64 (g.terms : Int), .int .i64 (g.nons : Int), .int .i64 (g.start : Int), .slice (some ⟨b1, o1, none⟩) ng cg] st2 Wd wr ∧ Blk wr brx 75 #[.int .i64 (sl : Int), .slice sA sn sc] ∧ Blk wr (w.heap.size + 1) 101 #[.int .i64 0, .slice none 0 0, .bool false] ∧ PrgH cs g.nons st st2 ag (V6 g.rules n k (sl, rhs) i 0)) (fun _ q _ => n + 1 - (intOf q).toNat)
              case atStart => exact ⟨0, st1, ag, rfl, Nat.zero_le _, rfl, HGD1.out, HBR1.out, HBK.out, HQ1.out, HPG1.out⟩
              case round =>
                obtain ⟨i, st2, ag2, rfl, hi, rfl, hmid, hbr2, hbk, hq2, hpg2⟩ := hrel
                clear HGD1 HBR1 HBK HPG1 HQ1
                by_cases hin : i ≤ n
                · have HM2 := Lib.hid hmid
                  have HB2 := Lib.hid hbr2
                  have HK2 := Lib.hid hbk
                  have HP2 := Lib.hid hpg2
                  have HQ2 := Lib.hid hq2
                  have HS2 := Lib.hid (show ag2 = false → st2 = st from fun h => (hpg2.no h).1)
                  have Bk := hbk
                  clear hmid hbr2 hbk hpg2 hq2
                  have cBk := Bk.cell
                  have fBk := Bk.frozen
                  have lBk := Bk.lt
                  go_wp2_with fail
                  clear cBk fBk lBk
                  clear Bk
                  refine (hrule_c (fun b => BZ ≤ b ∨ Wd b) okc bc ⟨g.terms, g.nons, g.start, (some ⟨b1, o1, none⟩), ng, cg, A, n, c, some ⟨ob, oo, none⟩, g.nons, cv⟩ cs sl sn sc i oo ob sA rhs rb cb st2 wr HB2.out.hc (HX0.out.via HB2.out.bel) hn hin rfl HB2.out.bt ok (HSR.out.via HB2.out.bel) (fun s hs hb => by have := HRT.out.2 s hs; rw [Gr.okSy, if_neg (by simp [hb])] at this; exact this) (by have := HSR.out.len; have := HRT.out.1; omega) (fun N i j => HM2.out.bnds HOK.out HLEN.out N i j)).mono ?_
                  rintro e w5 ⟨bw, rfl, hbw, hrow, hb5⟩
                  have HROW := Lib.hid (show HRow (fun b => BZ ≤ b ∨ Wd b) w5 bw n (ruleH cs st2 i rhs) from by
                    unfold ruleH
                    rw [HNL.out]
                    exact hrow.mono fun b _ hz => by
                      have := HB2.out.l3
                      rcases hz.1 with h | h
                      · exact h
                      · exact Or.inl (Nat.le_trans this h))
                  have HBW := Lib.hid (show BZ ≤ bw from Nat.le_trans HB2.out.l3 hbw)
                  have HB5 := Lib.hid (HB2.out.via hb5)
                  have HK5 := Lib.hid (HK2.out.via hb5)
                  have HQ5 := Lib.hid (HQ2.out.via hb5)
                  have HP5 := Lib.hid (show PrgH cs g.nons st st2 ag2 (V6 g.rules n k (sl, rhs) i 0) from HP2.out)
                  clear hb5 hrow hbw HB2 HK2 HP2 HQ2
                  go_wp2_with fail
                  obtain ⟨wq, rfl⟩ : ∃ wq : World, wq = wr := ⟨_, rfl⟩
                  have HM6 := Lib.hid (show GoodU (szOf lens) cs st2 from HM2.out)
                  go_loopw [13, 119] (fun a q wr => ∃ (j : Nat) (st3 : WSt) (ag : Bool), q = .int .i64 j ∧ j ≤ n + 1 ∧ a = .bool ag ∧ GoodU (szOf lens) cs st3 ∧ UBRel w bc w.heap.size ob oo g.nons n BZ rb cb #[.int .i64 (g.terms : Int), .int .i64 (g.nons : Int), .int .i64 (g.start : Int), .slice (some ⟨b1, o1, none⟩) ng cg, .slice A n c, .slice (some ⟨ob, oo, none⟩) g.nons cv] #[.int .i64 (g.terms : Int), .int .i64 (g.nons : Int), .int .i64 (g.start : Int), .slice (some ⟨b1, o1, none⟩) ng cg] st3 Wd wr ∧ Blk wr brx 75 #[.int .i64 (sl : Int), .slice sA sn sc] ∧ HRow (fun b => BZ ≤ b ∨ Wd b) wr bw n (ruleH cs st2 i rhs) ∧ (ag = false → st2 = st) ∧ Blk wr (w.heap.size + 1) 101 #[.int .i64 0, .slice none 0 0, .bool false] ∧ PrgH cs g.nons st st3 ag (V6 g.rules n k (sl, rhs) i j)) (fun _ q _ => n + 1 - (intOf q).toNat)
                  case atStart => exact ⟨0, st2, ag2, rfl, Nat.zero_le _, rfl, HM6.out, HB5.out, HK5.out, HROW.out, HS2.out, HQ5.out, HP5.out⟩
                  case round =>
                    obtain ⟨j, st3, ag3, rfl, hj, rfl, hm3, hb3, hk3, hr3, hs3, hq3, hp3⟩ := hrel
                    clear HM6 HB5 HK5 HROW HS2 HP5 HQ5
                    by_cases hjn : j ≤ n
                    · obtain ⟨⟨xs_, ⟨xA, xn, xcc⟩, xo⟩, hxr, e0, e1, e2⟩ := hr3.at_ hjn
                      simp only at e0 e1 e2
                      have HM3 := Lib.hid hm3
                      have HB3 := Lib.hid (hb3.via ((Below.refl wr.heap.size wr).al (.cells #[.int .i64 xs_, .slice xA xn xcc, .bool xo] 101)))
                      have HK3 := Lib.hid (hk3.al (.cells #[.int .i64 xs_, .slice xA xn xcc, .bool xo] 101))
                      have HQ3 := Lib.hid (hq3.al (.cells #[.int .i64 xs_, .slice xA xn xcc, .bool xo] 101))
                      have HR3 := Lib.hid (hr3.al (.cells #[.int .i64 xs_, .slice xA xn xcc, .bool xo] 101))
                      have HXR := Lib.hid (hxr.al (.cells #[.int .i64 xs_, .slice xA xn xcc, .bool xo] 101))
                      have HBX := Lib.hid (Blk.new wr 101 #[.int .i64 xs_, .slice xA xn xcc, .bool xo])
                      have HS3 := Lib.hid hs3
                      have HP3 := Lib.hid hp3
                      have j0 : (0 : Int) ≤ (j : Int) := by omega
                      have j1 : (j : Int) < (n : Int) + 1 := by omega
                      have j2 : (0 : Int) ≤ (i : Int) := by omega
                      have j3 : (i : Int) < (n : Int) + 1 := by omega
                      have j4 : (0 : Int) ≤ (sl : Int) := by omega
                      have j5 : (sl : Int) < (g.nons : Int) := by omega
                      clear hm3 hb3 hk3 hr3 hxr hs3 hp3 hq3
                      go_upto_region 29 with fail
                      clear e0 e1 e2
                      generalize wr.alloc (.cells #[.int .i64 xs_, .slice xA xn xcc, .bool xo] 101) = W6 at *
                      generalize wr.heap.size = bxx at *
                      have t1 := HB3.out.bt.top sl hsl
                      have t2 := HB3.out.bt.mid sl i hsl hin
                      obtain ⟨⟨ts, ⟨tA, tn, tcc⟩, tk⟩, htr, d0, d1, d2⟩ := (HB3.out.bt.row sl i hsl hin).at_ hjn
                      simp only at d0 d1 d2
                      have l1 := World.block_lt_of_cell? W6 _ t1
                      have l2 := World.block_lt_of_cell? W6 _ t2
                      have l3 := World.block_lt_of_cell? W6 _ d0
                      simp only at l1 l2 l3
                      have SOF := Lib.hid (show ∀ w', Below W6.heap.size W6 w' → ((∀ i, w'.cell? ⟨bc, i, none⟩ = #[.int .i64 (g.terms : Int), .int .i64 (g.nons : Int), .int .i64 (g.start : Int), .slice (some ⟨b1, o1, none⟩) ng cg, .slice A n c, .slice (some ⟨ob, oo, none⟩) g.nons cv][i]?) ∧ (∀ i, w'.cell? ⟨brx, i, none⟩ = #[.int .i64 (sl : Int), .slice sA sn sc][i]?) ∧ (∀ i, w'.cell? ⟨bxx, i, none⟩ = #[.int .i64 xs_, .slice xA xn xcc, .bool xo][i]?) ∧ w'.cell? ⟨ob, oo + sl, none⟩ = some (.slice (some ⟨rb sl, 0, none⟩) (n + 1) (n + 1)) ∧ w'.cell? ⟨rb sl, i, none⟩ = some (.slice (some ⟨cb sl i, 0, none⟩) (n + 1) (n + 1)) ∧ w'.cell? ⟨cb sl i, j * 3, none⟩ = some (.int .i64 ts) ∧ w'.cell? ⟨cb sl i, j * 3 + 1, none⟩ = some (.slice tA tn tcc) ∧ w'.cell? ⟨cb sl i, j * 3 + 2, none⟩ = some (.bool tk) ∧ Below W6.heap.size W6 w') from fun w' hb => ⟨(HB3.out.hc.via hb).cell, (HK3.out.via hb).cell, (HBX.out.via hb).cell, (hb.cell (p := ⟨ob, oo + sl, none⟩) l1).trans t1, (hb.cell (p := ⟨rb sl, i, none⟩) l2).trans t2, (hb.cell (p := ⟨cb sl i, j * 3, none⟩) l3).trans d0, (hb.cell (p := ⟨cb sl i, j * 3 + 1, none⟩) l3).trans d1, (hb.cell (p := ⟨cb sl i, j * 3 + 2, none⟩) l3).trans d2, hb⟩)
                      have FX := Lib.hid (show ∀ w', Below W6.heap.size W6 w' → HoR (fun b => BZ ≤ b ∨ Wd b) w' (xs_, (xA, xn, xcc), xo) (ruleH cs st2 i rhs j) from fun w' hb => HXR.out.via hb)
                      have FT := Lib.hid (show ∀ w', Below W6.heap.size W6 w' → HoR _ w' (ts, (tA, tn, tcc), tk) (st3 sl i j) from fun w' hb => htr.via hb)
                      have HSH := Lib.hid (ruleU_short HM2.out HOK.out HLEN.out i rhs j)
                      have hb0 := (Below.refl W6.heap.size W6).drew
                      clear t1 t2 d0 d1 d2 l1 l2 l3 htr
                      cases hles : lessW (ruleH cs st2 i rhs j) (st3 sl i j) with
                      | true =>
                        have HLES := Lib.hid hles
                        clear hles
                        go_region_held3 (fun w' => (∀ i, w'.cell? ⟨bc, i, none⟩ = #[.int .i64 (g.terms : Int), .int .i64 (g.nons : Int), .int .i64 (g.start : Int), .slice (some ⟨b1, o1, none⟩) ng cg, .slice A n c, .slice (some ⟨ob, oo, none⟩) g.nons cv][i]?) ∧ (∀ i, w'.cell? ⟨brx, i, none⟩ = #[.int .i64 (sl : Int), .slice sA sn sc][i]?) ∧ (∀ i, w'.cell? ⟨bxx, i, none⟩ = #[.int .i64 xs_, .slice xA xn xcc, .bool xo][i]?) ∧ w'.cell? ⟨ob, oo + sl, none⟩ = some (.slice (some ⟨rb sl, 0, none⟩) (n + 1) (n + 1)) ∧ w'.cell? ⟨rb sl, i, none⟩ = some (.slice (some ⟨cb sl i, 0, none⟩) (n + 1) (n + 1)) ∧ w'.cell? ⟨cb sl i, j * 3, none⟩ = some (.int .i64 ts) ∧ w'.cell? ⟨cb sl i, j * 3 + 1, none⟩ = some (.slice tA tn tcc) ∧ w'.cell? ⟨cb sl i, j * 3 + 2, none⟩ = some (.bool tk) ∧ Below W6.heap.size W6 w') (exact SOF.out _ (by assumption)) (first
                          | (go_at_call 66; (with_reducible refine (hless_b _ _ xs_ xA xn xcc xo ts tA tn tcc tk (ruleH cs st2 i rhs j) (st3 sl i j) true _ (FX.out _ (by assumption)) (FT.out _ (by assumption)) HSH.out HLES.out).mono ?_); rintro ee wl ⟨rfl, hbl⟩; have hbz : Below W6.heap.size W6 wl := Below.via (by assumption) hbl))
                        obtain ⟨s1, s2, s3, s4, s5, s6, s7, s8, -⟩ := SOF.out wl hbz
                        have HB7 := Lib.hid (HB3.out.via hbz)
                        have HK7 := Lib.hid (HK3.out.via hbz)
                        have HQ7 := Lib.hid (HQ3.out.via hbz)
                        have HR7 := Lib.hid (HR3.out.via hbz)
                        have HX7 := Lib.hid (FX.out wl hbz)
                        have fr := (HB7.out.bt.row sl i hsl hin).frozen
                        have HLC := Lib.hid (HST.out.lc sl i hsl hin)
                        clear hb0 hbl hbz SOF FX FT HB3 HK3 HR3 HXR HBX HQ3
                        go_upto_region 30 with fail
                        go_region
                        have hlc := HLC.out
                        have HWB := Lib.hid (show bw ≠ cb sl i by have := HBW.out; omega)
                        have HXB := Lib.hid (show brx ≠ cb sl i by omega)
                        have HQB := Lib.hid (show w.heap.size + 1 ≠ cb sl i by have := HBC.out; omega)
                        have HZB := Lib.hid (show ∀ x, BZ ≤ x ∨ Wd x → x ≠ cb sl i from fun x hx => hx.elim (fun hx => by omega) (fun hx => HB7.out.hd x hx _ _ hsl hin))
                        have HB8 := Lib.hid ((HB7.out.put HST.out hsl hin hjn HX7.out).dr)
                        have HK8 := Lib.hid (show Blk (World.put3 wl (cb sl i) (j * 3) (xs_, (xA, xn, xcc), xo)).drew brx 75 #[.int .i64 (sl : Int), .slice sA sn sc] from (heap_p3 HXB.out).trans HK7.out)
                        have HQ8 := Lib.hid (show Blk (World.put3 wl (cb sl i) (j * 3) (xs_, (xA, xn, xcc), xo)).drew (w.heap.size + 1) 101 #[.int .i64 0, .slice none 0 0, .bool false] from (heap_p3 HQB.out).trans HQ7.out)
                        have HR8 := Lib.hid ((HR7.out.agr (heap_p3 (o := j * 3) (v := (xs_, (xA, xn, xcc), xo)) HWB.out) (agr_p3 HZB.out)).dr)
                        have HM8 := Lib.hid (show GoodU (szOf lens) cs (updS st3 sl i j (ruleH cs st2 i rhs j)) from GoodU.put (r := (sl, rhs)) HOK.out HM2.out HM3.out (by rw [HNL.out]; exact hin) HLES.out)
                        have HP8 := Lib.hid (show PrgH cs g.nons st (updS st3 sl i j (ruleH cs st2 i rhs j)) true (V6 g.rules n k (sl, rhs) i (j + 1)) from PrgU.put (r := (sl, rhs)) HOK.out HLEN.out hsl HM2.out HM3.out HP3.out (by rw [HNL.out]; exact hin) (by rw [HNL.out]; exact hjn) HLES.out)
                        clear s1 s2 s3 s4 s5 s6 s7 s8 fr hlc
                        simp only [World.put3] at HB8 HK8 HR8 HQ8
                        go_wp2_with fail
                        exact ⟨⟨j + 1, updS st3 sl i j (ruleH cs st2 i rhs j), true, by go_num, by omega, rfl, HM8.out, HB8.out, HK8.out, HR8.out, fun h => (by cases h), HQ8.out, HP8.out⟩, by simp [intOf]; omega⟩
                      | false =>
                        have HLES := Lib.hid hles
                        clear hles
                        go_region_held3 (fun w' => (∀ i, w'.cell? ⟨bc, i, none⟩ = #[.int .i64 (g.terms : Int), .int .i64 (g.nons : Int), .int .i64 (g.start : Int), .slice (some ⟨b1, o1, none⟩) ng cg, .slice A n c, .slice (some ⟨ob, oo, none⟩) g.nons cv][i]?) ∧ (∀ i, w'.cell? ⟨brx, i, none⟩ = #[.int .i64 (sl : Int), .slice sA sn sc][i]?) ∧ (∀ i, w'.cell? ⟨bxx, i, none⟩ = #[.int .i64 xs_, .slice xA xn xcc, .bool xo][i]?) ∧ w'.cell? ⟨ob, oo + sl, none⟩ = some (.slice (some ⟨rb sl, 0, none⟩) (n + 1) (n + 1)) ∧ w'.cell? ⟨rb sl, i, none⟩ = some (.slice (some ⟨cb sl i, 0, none⟩) (n + 1) (n + 1)) ∧ w'.cell? ⟨cb sl i, j * 3, none⟩ = some (.int .i64 ts) ∧ w'.cell? ⟨cb sl i, j * 3 + 1, none⟩ = some (.slice tA tn tcc) ∧ w'.cell? ⟨cb sl i, j * 3 + 2, none⟩ = some (.bool tk) ∧ Below W6.heap.size W6 w') (exact SOF.out _ (by assumption)) (first
                          | (go_at_call 66; (with_reducible refine (hless_b _ _ xs_ xA xn xcc xo ts tA tn tcc tk (ruleH cs st2 i rhs j) (st3 sl i j) false _ (FX.out _ (by assumption)) (FT.out _ (by assumption)) HSH.out HLES.out).mono ?_); rintro ee wl ⟨rfl, hbl⟩; have hbz : Below W6.heap.size W6 wl := Below.via (by assumption) hbl))
                        have HB7 := Lib.hid (HB3.out.via hbz)
                        have HK7 := Lib.hid (HK3.out.via hbz)
                        have HQ7 := Lib.hid (HQ3.out.via hbz)
                        have HR7 := Lib.hid (HR3.out.via hbz)
                        have HP7 := Lib.hid (show PrgH cs g.nons st st3 ag3 (V6 g.rules n k (sl, rhs) i (j + 1)) from PrgH.skip (r := (sl, rhs)) (i := i) (j := j) HP3.out HS3.out HLES.out fun r' i' j' h => by
                          rcases h with h | ⟨h1, h2, h3, h4⟩
                          · exact Or.inl (Or.inl h)
                          · by_cases e : i' = i ∧ j' = j
                            · exact Or.inr ⟨h1, e.1, e.2⟩
                            · exact Or.inl (Or.inr ⟨h1, h2, h3, by omega⟩))
                        clear hb0 hbl hbz SOF FX FT HB3 HK3 HR3 HXR HBX HQ3
                        go_wp2_with fail
                        exact ⟨⟨j + 1, st3, ag3, by go_num, by omega, rfl, HM3.out, HB7.out, HK7.out, HR7.out, HS3.out, HQ7.out, HP7.out⟩, by simp [intOf]; omega⟩
                    · have HJN := Lib.hid (show j = n + 1 by omega)
                      have HM7 := Lib.hid hm3
                      have HP7 := Lib.hid (show PrgH cs g.nons st st3 ag3 (V6 g.rules n k (sl, rhs) (i + 1) 0) from PrgH.mono hp3 fun r' i' j' h => by
                        have := HJN.out
                        rcases h with h | ⟨h1, h2, h3, h4⟩
                        · exact Or.inl h
                        · exact Or.inr ⟨h1, h2, h3, by omega⟩)
                      have HB7 := Lib.hid hb3
                      have HK7 := Lib.hid hk3
                      have HQ7 := Lib.hid hq3
                      clear hm3 hb3 hk3 hr3 hs3 hp3 hq3
                      go_wp2_with fail
                      exact ⟨⟨i + 1, st3, ag3, by go_num, by omega, rfl, HM7.out, HB7.out, HK7.out, HQ7.out, HP7.out⟩, by simp [intOf]; omega⟩
                · have HIN := Lib.hid (show i = n + 1 by omega)
                  have HG7 := Lib.hid hmid
                  have HP7 := Lib.hid (show PrgH cs g.nons st st2 ag2 (V4 g.rules n (k + 1)) from PrgH.mono hpg2 fun r' i' j' h => by
                    obtain ⟨⟨k', hk', hr'⟩, h2, h3⟩ := h
                    have := HIN.out
                    by_cases e : k' = k
                    · subst e
                      rw [HY.out] at hr'
                      exact Or.inr ⟨(Option.some.inj hr').symm, h2, h3, by omega⟩
                    · exact Or.inl ⟨⟨k', by omega, hr'⟩, h2, h3⟩)
                  have HB7 := Lib.hid hbr2
                  have HQ7 := Lib.hid hq2
                  clear hmid hbr2 hbk hpg2 hq2
                  go_wp2_with fail
                  exact ⟨⟨k + 1, st2, ag2, by go_num, by omega, rfl, HG7.out, HB7.out, HQ7.out, HP7.out⟩, by simp [intOf]; omega⟩
            · have HKN := Lib.hid (show k = ng by omega)
              have HG8 := Lib.hid hgd1
              have HB8 := Lib.hid hbr1
              have HP8 := Lib.hid hpg1
              have HQ8 := Lib.hid hq1
              clear hgd1 hbr1 hpg1 hq1
              go_wp2_with fail
              go_roundg (2 * total big 8 g.nons cs.length st1 + (if ag then 1 else 0))
              case measure =>
                rw [HGK.out]
                cases ag with
                | false => obtain ⟨rfl, -⟩ := HP8.out.no rfl; simp
                | true => have := HP8.out.yes rfl; simp; omega
              case rel =>
                refine ⟨st1, ag, rfl, HG8.out, HB8.out, HQ8.out, fun ha => ?_, rfl⟩
                obtain ⟨rfl, hv⟩ := HP8.out.no ha
                intro r hr i j hij hjn
                rw [HNL.out] at hjn
                obtain ⟨k', hk', e⟩ := List.getElem_of_mem hr
                exact hv r i j ⟨⟨k', by rw [HKN.out, ← HNG.out]; exact hk', by rw [List.getElem?_eq_getElem hk', e]⟩, hij, hjn⟩
end Go.Proofs.Ytghnkgbingcbcaa

