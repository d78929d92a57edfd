/- Texts HM, HN, HO, HQ, HR, laid together. -/
import Derived.Test.YtdmecijpioljaaaH2
import Derived.Test.YtdmecijpioljaaaZ3



namespace Go.Proofs.Ytdmecijpioljaaa
open Go.RowKit

def FillP (w : World) (g : Gr) (cs : List Ce) (e : Ending) (w' : World) : Prop :=
  ∃ st v, GoodH g.rules cs st ∧ FixH g.rules cs st ∧ e = .returned (hoVal v) ∧ HoR (fun _ => True) w' v (st g.start 0 cs.length) ∧ Below w.heap.size w w'
theorem wpAnyH_takeD {P : Program} {ops : Array Oper} {Q : Exit → Act → World → Prop} {md : Region.Mode} {S : World → Prop} {i : Nat} {oi : Oper} {d : Option Tmp} {v : Value} {fuel : Nat} {listed : Array Bool} {a : Act} {w : World} (hi : ops[i]? = some oi)
    (hs : Region.noSelect ops = true) (hf : Region.free md ops listed i = true) (hr : (Region.ready md ops listed).contains i = true) (hd : oi.dst = d)
    (hQ : ∀ c a w, Q (.panic c) (a.put oi.dst v) w → Q (.panic c) a w) (hy : YieldsIf P ops S oi v a) (hS : S w)
    (h : wpAnyH P md ops Q S fuel (listed.setIfInBounds i true) (a.put d v) w) : wpAnyH P md ops Q S (fuel + 1) listed a w :=
  wpAnyH_take hi hs hf hr hQ hy hS (hd ▸ h)
theorem HJR.via {w wr wa : World} {bc bg n hi k R i : Nat} {rb : Nat → Nat} {cb : Nat → Nat → Nat} {cs : Value → Array Value} {gcs : Array Value} {v : Value} {ck : Nat → Nat} (h : HJR w bc bg n hi k rb cb cs gcs v R i ck wr) (hb : Below wr.heap.size wr wa) : HJR w bc bg n hi k rb cb cs gcs v R i ck wa := by
  obtain ⟨hir, ⟨C, c1, c2, c3⟩, hrow, hinj, hlo, hlc⟩ := h
  exact ⟨hir.below (hb.mono hir.l3), ⟨C, c1.via hb, c2, c3⟩, fun a ha => (hrow a ha).via hb, hinj, hlo, fun a ha => ⟨(hlc a ha).1, Nat.lt_of_lt_of_le (hlc a ha).2 hb.size⟩⟩
theorem ruleH_short {rules : List Ru} {cells : List Ce} {st : WSt} (h : GoodH rules cells st) (hc : cells.length ≤ 12) (hl : ∀ r ∈ rules, ∀ s ∈ r.2, s.1 = true → s.2 < 8) (i : Nat) (l : List Sy) (j : Nat) : (ruleH cells st i l j).w.length ≤ 2000 :=
  (Bnd.foldRow (M := 2000000000) (by omega) (fun s k j => Bnd.symH (by omega) (h.bnds hc hl) s k j) l j).short
set_option maxRecDepth 100000 in
set_option maxHeartbeats 16000000 in
theorem fill_c (ok okc : Nat → Prop) (g : Gr) (Ag : Option Addr) (ng cg : Nat) (A : Option Addr) (n c : Nat) (cs : List Ce) (w : World) (hg : GrOk g) (hl : Sl RuE ok w Ag ng cg g.rules) (hx : Sl CeE okc w A n c cs) (hn : n ≤ 12) (hct : ∀ x ∈ cs, x.1 = true) :
    Calls Try.prog 28 #[grVal g Ag ng cg, .slice A n c] w (FillP w g cs) := by
  have B0 := (Blk.new w 28 #[.int .i64 (g.terms : Int), .int .i64 (g.nons : Int), .int .i64 (g.start : Int), .slice Ag ng cg]).al (.cells #[.int .i64 0, .slice none 0 0, .bool false] 72)
  have HGO := Lib.hid hg
  have HL0 := Lib.hid hl
  have HX0 := Lib.hid hx
  have HCT := Lib.hid hct
  simp only [grVal]
  clear hg hl hx hct
  go_enter Try.func28, Try.ntmps28
  have cB0 := B0.cell
  have fB0 := B0.frozen
  have lB0 := B0.lt
  go_wp2_with fail
  clear cB0 fB0 lB0
  have hB3 := (((Below.refl w.heap.size w).al (.cells #[.int .i64 (g.terms : Int), .int .i64 (g.nons : Int), .int .i64 (g.start : Int), .slice Ag ng cg] 28)).al (.cells #[.int .i64 0, .slice none 0 0, .bool false] 72)).al (.cells #[.int .i64 (g.terms : Int), .int .i64 (g.nons : Int), .int .i64 (g.start : Int), .slice Ag ng cg, .slice A n c, .slice none 0 0] 96)
  have BZ0 := (Blk.new (w.alloc (.cells #[.int .i64 (g.terms : Int), .int .i64 (g.nons : Int), .int .i64 (g.start : Int), .slice Ag ng cg] 28)) 72 #[.int .i64 0, .slice none 0 0, .bool false]).al (.cells #[.int .i64 (g.terms : Int), .int .i64 (g.nons : Int), .int .i64 (g.start : Int), .slice Ag ng cg, .slice A n c, .slice none 0 0] 96)
  have BF0 := Blk.new ((w.alloc (.cells #[.int .i64 (g.terms : Int), .int .i64 (g.nons : Int), .int .i64 (g.start : Int), .slice Ag ng cg] 28)).alloc (.cells #[.int .i64 0, .slice none 0 0, .bool false] 72)) 96 #[.int .i64 (g.terms : Int), .int .i64 (g.nons : Int), .int .i64 (g.start : Int), .slice Ag ng cg, .slice A n c, .slice none 0 0]
  rw [World.size_alloc] at BZ0
  rw [World.size_alloc, World.size_alloc] at BF0
  have BG0 := B0.al (.cells #[.int .i64 (g.terms : Int), .int .i64 (g.nons : Int), .int .i64 (g.start : Int), .slice Ag ng cg, .slice A n c, .slice none 0 0] 96)
  have HL1 := Lib.hid (HL0.out.via hB3)
  generalize hW3 : (((w.alloc (.cells #[.int .i64 (g.terms : Int), .int .i64 (g.nons : Int), .int .i64 (g.start : Int), .slice Ag ng cg] 28)).alloc (.cells #[.int .i64 0, .slice none 0 0, .bool false] 72)).alloc (.cells #[.int .i64 (g.terms : Int), .int .i64 (g.nons : Int), .int .i64 (g.start : Int), .slice Ag ng cg, .slice A n c, .slice none 0 0] 96)) = W3 at *
  clear hW3
  refine (Lengths_c ok g Ag ng cg W3 HGO.out HL1.out).mono ?_
  rintro e w3 ⟨bl, zs, rfl, hzl, hbz, hb3, hblt⟩
  have HB3 := Lib.hid (hB3.via hb3)
  have BG := BG0.via hb3
  have BZ := BZ0.via hb3
  have BF := BF0.via hb3
  have lF := BF.lt
  have HIr0 := Lib.hid (show HIR w (w.heap.size + 1 + 1) w.heap.size n w3.heap.size 0 (fun _ => 0) (fun _ _ => 0) (fun v => #[.int .i64 (g.terms : Int), .int .i64 (g.nons : Int), .int .i64 (g.start : Int), .slice Ag ng cg, .slice A n c, v]) #[.int .i64 (g.terms : Int), .int .i64 (g.nons : Int), .int .i64 (g.start : Int), .slice Ag ng cg] (.slice none 0 0) w3 from
    ⟨BF, BG, Own.nil _ _, fun a i h => by omega, fun a i h => by omega, fun a i a' i' h => by omega, fun a a' i h => by omega, fun a h => by omega, fun a i h => by omega, fun b h => (by cases h), HB3.out, Nat.le_refl _, by omega, lF, Nat.le_refl _⟩)
  have HBZ := Lib.hid BZ
  clear BG0 BZ0 BF0 BZ BF hB3 hzl hbz hb3 B0
  have cBG := BG.cell
  have fBG := BG.frozen
  have lBG := BG.lt
  go_wp2_with fail
  clear cBG fBG lBG
  clear BG
  have gn1 : g.nons ≤ 10 := HGO.out.ok.nons.2
  generalize hbc : w.heap.size + 1 + 1 = bc at *
  have HBC := Lib.hid hbc
  clear hbc
  go_loopw [30] (fun q wr => ∃ (k hi : Nat) (rb : Nat → Nat) (cb : Nat → Nat → Nat) (Av : Option Addr) (cv : Nat), q = .int .i64 k ∧ k ≤ g.nons ∧ HIR w bc w.heap.size n hi k rb cb (fun v => #[.int .i64 (g.terms : Int), .int .i64 (g.nons : Int), .int .i64 (g.start : Int), .slice Ag ng cg, .slice A n c, v]) #[.int .i64 (g.terms : Int), .int .i64 (g.nons : Int), .int .i64 (g.start : Int), .slice Ag ng cg] (.slice Av k cv) wr ∧ Below bc w3 wr) (fun q _ => g.nons - (intOf q).toNat)
  case atStart => exact ⟨0, _, _, _, none, 0, rfl, Nat.zero_le _, HIr0.out, Below.refl _ _⟩
  case round =>
    obtain ⟨k, hi, rb, cb, Av, cv, rfl, hk, hir, hbw⟩ := hrel
    clear HIr0
    by_cases hlt : k < g.nons
    · have HJ0 := Lib.hid (HJR.start hir (fun _ => 0))
      have HBW := Lib.hid (hbw.alloc (Nat.le_of_lt hir.hc.lt) (.cells (mkCells (.slice none 0 0) (n + 1)) 98))
      have hmk := h_mk_wrows n (by omega)
      have hlr := Lib.hid (show bc < wr.heap.size from hir.hc.lt)
      clear hir hbw
      go_wp2_with fail
      clear hmk
      generalize wr.alloc (.cells (mkCells (.slice none 0 0) (n + 1)) 98) = W4 at *
      generalize wr.heap.size = R at *
      obtain ⟨wo, rfl⟩ : ∃ wo : World, wo = wr := ⟨_, rfl⟩
      go_loopw [39] (fun q wr => ∃ (i : Nat) (ck : Nat → Nat), q = .int .i64 i ∧ i ≤ n + 1 ∧ HJR w bc w.heap.size n hi k rb cb (fun v => #[.int .i64 (g.terms : Int), .int .i64 (g.nons : Int), .int .i64 (g.start : Int), .slice Ag ng cg, .slice A n c, v]) #[.int .i64 (g.terms : Int), .int .i64 (g.nons : Int), .int .i64 (g.start : Int), .slice Ag ng cg] (.slice Av k cv) R i ck wr ∧ Below bc w3 wr) (fun q _ => n + 1 - (intOf q).toNat)
      case atStart => exact ⟨0, _, rfl, Nat.zero_le _, HJ0.out, HBW.out⟩
      case round =>
        obtain ⟨i, ck, rfl, hi2, hjr, hbw⟩ := hrel
        clear HJ0 HBW
        by_cases hin : i ≤ n
        · have hms := mk_hos n (by omega)
          have hRl0 : R < wr.heap.size := by obtain ⟨C, C1, -⟩ := hjr.top; exact C1.lt
          have hjn := hjr.next hin
          rw [World.setCell_alloc_past _ R i _ hRl0] at hjn
          have HJN := Lib.hid hjn
          have hRl := hjr.lo
          have hbR : bc ≤ R := by have := hjr.ir.l2; omega
          have hbn := ((hbw.alloc (by have := hjr.ir.l3; have := hjr.ir.l2; omega) (.cells (hoCells n) 72)).setCell (p := ⟨R, i, none⟩) hbR (.slice (some ⟨wr.heap.size, 0, none⟩) (n + 1) (n + 1)))
          rw [World.setCell_alloc_past _ R i _ hRl0] at hbn
          have HBN := Lib.hid hbn
          obtain ⟨C, C1, C2, -⟩ := hjr.top
          have cR : ∃ u, wr.cell? ⟨R, i, none⟩ = some u := ⟨C[i]'(by omega), by rw [C1.cell]; exact Array.getElem?_eq_getElem (by omega)⟩
          obtain ⟨u, cR⟩ := cR
          have fR := C1.frozen i
          have lR := C1.lt
          have i0 : (0 : Int) ≤ (i : Int) := by omega
          have i1 : (i : Int) < (n : Int) + 1 := by omega
          clear hjr C1 C2 hbw hjn hbn hRl0
          go_upto_region 11 with fail
          clear hms cR fR
          generalize hW5 : ((wr.setCell ⟨R, i, none⟩ (.slice (some ⟨wr.heap.size, 0, none⟩) (n + 1) (n + 1))).alloc (.cells (hoCells n) 72)) = W5 at *
          clear hW5
          generalize (fun a => if a = i then wr.heap.size else ck a) = ck2 at *
          by_cases hic : i < n
          · obtain ⟨b2, o2, sx, sy, hA2, -, hbb2, hy2, hxy2, hc2⟩ := (HX0.out.via HJN.out.ir.bel).at_ hic
            obtain rfl : sx = sy := hxy2
            subst hA2
            have d0 := hc2 0 _ rfl
            have d1 := hc2 1 _ rfl
            simp only [CeE, Nat.add_zero] at d0 d1
            have hst : sx.1 = true := HCT.out _ (List.mem_of_getElem? hy2)
            rw [hst] at d0
            generalize sx.2 = xv at *
            have i2 : (i : Int) < (n : Int) := by omega
            clear hc2 hy2 hst
            go_cut [68] (fun s68 wx => s68 = .bool false ∧ Below W5.heap.size W5 wx)
            case first =>
              have SOF := Lib.hid (show ∀ w', Below W5.heap.size W5 w' → (w'.cell? ⟨b2, o2 + i * 2, none⟩ = some (.bool true) ∧ w'.cell? ⟨b2, o2 + i * 2 + 1, none⟩ = some (.int .i64 xv) ∧ Below W5.heap.size W5 w') from fun w' hb => ⟨(hb.cell (p := ⟨b2, o2 + i * 2, none⟩) hbb2).trans d0, (hb.cell (p := ⟨b2, o2 + i * 2 + 1, none⟩) hbb2).trans d1, hb⟩)
              have hb0 := (Below.refl W5.heap.size W5).drew
              clear d0 d1
              refine wp_region_noPanic ?_
              refine wp_region_held_drew (S := fun w' => w'.cell? ⟨b2, o2 + i * 2, none⟩ = some (.bool true) ∧ w'.cell? ⟨b2, o2 + i * 2 + 1, none⟩ = some (.int .i64 xv) ∧ Below W5.heap.size W5 w') (by kernel_rfl) (SOF.out _ hb0) (fun hHeld => ?_)
              refine wpAnyH_takeD (i := 0) (d := some 49) (v := ?_) rfl (by kernel_rfl) (by kernel_rfl) (by kernel_rfl) rfl (fun _ _ _ h => h) (Or.inl ⟨by rfl, ?_⟩) (by assumption) ?_
              rotate_left
              · intro w hSw; (try dsimp only at hSw); go_simp; try with_reducible rfl
              simp only [Act.put, List.setIfInBounds_toArray, List.set_cons_zero, List.set_cons_succ]
              refine wpAnyH_takeD (i := 1) (d := some 50) (v := ?_) rfl (by kernel_rfl) (by kernel_rfl) (by kernel_rfl) rfl (fun _ _ _ h => h) (Or.inl ⟨by rfl, ?_⟩) (by assumption) ?_
              rotate_left
              · intro w hSw; (try dsimp only at hSw); go_simp; try with_reducible rfl
              simp only [Act.put, List.setIfInBounds_toArray, List.set_cons_zero, List.set_cons_succ]
              refine wpAnyH_takeD (i := 2) (d := some 51) (v := ?_) rfl (by kernel_rfl) (by kernel_rfl) (by kernel_rfl) rfl (fun _ _ _ h => h) (Or.inl ⟨by rfl, ?_⟩) (by assumption) ?_
              rotate_left
              · intro w hSw; (try dsimp only at hSw); go_simp; try with_reducible rfl
              simp only [Act.put, List.setIfInBounds_toArray, List.set_cons_zero, List.set_cons_succ]
              refine wpAnyH_takeD (i := 3) (d := some 52) (v := ?_) rfl (by kernel_rfl) (by kernel_rfl) (by kernel_rfl) rfl (fun _ _ _ h => h) (Or.inl ⟨by rfl, ?_⟩) (by assumption) ?_
              rotate_left
              · intro w hSw; (try dsimp only at hSw); go_simp; try with_reducible rfl
              simp only [Act.put, List.setIfInBounds_toArray, List.set_cons_zero, List.set_cons_succ]
              refine wpAnyH_takeD (i := 4) (d := some 53) (v := ?_) rfl (by kernel_rfl) (by kernel_rfl) (by kernel_rfl) rfl (fun _ _ _ h => h) (Or.inl ⟨by rfl, ?_⟩) (by assumption) ?_
              rotate_left
              · intro w hSw; (try dsimp only at hSw); go_simp; try with_reducible rfl
              simp only [Act.put, List.setIfInBounds_toArray, List.set_cons_zero, List.set_cons_succ]
              refine wpAnyH_takeD (i := 5) (d := some 54) (v := ?_) rfl (by kernel_rfl) (by kernel_rfl) (by kernel_rfl) rfl (fun _ _ _ h => h) (Or.inl ⟨by rfl, ?_⟩) (by assumption) ?_
              rotate_left
              · intro w hSw; (try dsimp only at hSw); go_simp; try with_reducible rfl
              simp only [Act.put, List.setIfInBounds_toArray, List.set_cons_zero, List.set_cons_succ]
              refine wpAnyH_takeD (i := 6) (d := some 55) (v := ?_) rfl (by kernel_rfl) (by kernel_rfl) (by kernel_rfl) rfl (fun _ _ _ h => h) (Or.inl ⟨by rfl, ?_⟩) (by assumption) ?_
              rotate_left
              · intro w hSw; (try dsimp only at hSw); go_simp; try with_reducible rfl
              simp only [Act.put, List.setIfInBounds_toArray, List.set_cons_zero, List.set_cons_succ]
              refine wpAnyH_takeD (i := 7) (d := some 56) (v := ?_) rfl (by kernel_rfl) (by kernel_rfl) (by kernel_rfl) rfl (fun _ _ _ h => h) (Or.inl ⟨by rfl, ?_⟩) (by assumption) ?_
              rotate_left
              · intro w hSw; (try dsimp only at hSw); go_simp; try with_reducible rfl
              simp only [Act.put, List.setIfInBounds_toArray, List.set_cons_zero, List.set_cons_succ]
              refine wpAnyH_takeD (i := 8) (d := some 57) (v := ?_) rfl (by kernel_rfl) (by kernel_rfl) (by kernel_rfl) rfl (fun _ _ _ h => h) (Or.inl ⟨by rfl, ?_⟩) (by assumption) ?_
              rotate_left
              · intro w hSw; (try dsimp only at hSw); go_simp; try with_reducible rfl
              simp only [Act.put, List.setIfInBounds_toArray, List.set_cons_zero, List.set_cons_succ]
              refine wpAnyH_takeD (i := 9) (d := some 58) (v := ?_) rfl (by kernel_rfl) (by kernel_rfl) (by kernel_rfl) rfl (fun _ _ _ h => h) (Or.inl ⟨by rfl, ?_⟩) (by assumption) ?_
              rotate_left
              · intro w hSw; (try dsimp only at hSw); go_simp; try with_reducible rfl
              simp only [Act.put, List.setIfInBounds_toArray, List.set_cons_zero, List.set_cons_succ]
              refine wpAnyH_ready (rs := [10]) (by kernel_rfl) (by simp) ?_
              refine AllReadyH.cons rfl (fun K hK => ?_) AllReadyH.nil
              go_simp
              go_at_call 24
              refine (gN_c _ _).mono ?_
              rintro ee wn ⟨rfl, hbn⟩
              have hbm : Below W5.heap.size W5 wn := Below.via (by assumption) hbn
              go_wp2_with fail
              refine hK.out _ _ (SOF.out _ hbm) (fun hHeld2 => ?_)
              clear hK K hHeld
              refine wpAnyH_takeD (i := 11) (d := some 60) (v := ?_) rfl (by kernel_rfl) (by kernel_rfl) (by kernel_rfl) rfl (fun _ _ _ h => h) (Or.inl ⟨by rfl, ?_⟩) (by assumption) ?_
              rotate_left
              · intro w hSw; (try dsimp only at hSw); go_simp; try with_reducible rfl
              simp only [Act.put, List.setIfInBounds_toArray, List.set_cons_zero, List.set_cons_succ]
              refine wpAnyH_takeD (i := 12) (d := some 61) (v := ?_) rfl (by kernel_rfl) (by kernel_rfl) (by kernel_rfl) rfl (fun _ _ _ h => h) (Or.inl ⟨by rfl, ?_⟩) (by assumption) ?_
              rotate_left
              · intro w hSw; (try dsimp only at hSw); go_simp; try with_reducible rfl
              simp only [Act.put, List.setIfInBounds_toArray, List.set_cons_zero, List.set_cons_succ]
              refine wpAnyH_takeD (i := 13) (d := some 62) (v := ?_) rfl (by kernel_rfl) (by kernel_rfl) (by kernel_rfl) rfl (fun _ _ _ h => h) (Or.inl ⟨by rfl, ?_⟩) (by assumption) ?_
              rotate_left
              · intro w hSw; (try dsimp only at hSw); go_simp; try with_reducible rfl
              simp only [Act.put, List.setIfInBounds_toArray, List.set_cons_zero, List.set_cons_succ]
              refine wpAnyH_takeD (i := 14) (d := some 63) (v := undef) rfl (by kernel_rfl) (by kernel_rfl) (by kernel_rfl) rfl (fun _ _ _ h => h) (Or.inr ⟨by rfl, rfl⟩) (by assumption) ?_
              simp only [Act.put, List.setIfInBounds_toArray, List.set_cons_zero, List.set_cons_succ]
              refine wpAnyH_takeD (i := 15) (d := some 64) (v := undef) rfl (by kernel_rfl) (by kernel_rfl) (by kernel_rfl) rfl (fun _ _ _ h => h) (Or.inr ⟨by rfl, rfl⟩) (by assumption) ?_
              simp only [Act.put, List.setIfInBounds_toArray, List.set_cons_zero, List.set_cons_succ]
              refine wpAnyH_takeD (i := 16) (d := some 65) (v := undef) rfl (by kernel_rfl) (by kernel_rfl) (by kernel_rfl) rfl (fun _ _ _ h => h) (Or.inr ⟨by rfl, rfl⟩) (by assumption) ?_
              simp only [Act.put, List.setIfInBounds_toArray, List.set_cons_zero, List.set_cons_succ]
              refine wpAnyH_takeD (i := 17) (d := some 66) (v := undef) rfl (by kernel_rfl) (by kernel_rfl) (by kernel_rfl) rfl (fun _ _ _ h => h) (Or.inr ⟨by rfl, rfl⟩) (by assumption) ?_
              simp only [Act.put, List.setIfInBounds_toArray, List.set_cons_zero, List.set_cons_succ]
              refine wpAnyH_takeD (i := 18) (d := some 67) (v := undef) rfl (by kernel_rfl) (by kernel_rfl) (by kernel_rfl) rfl (fun _ _ _ h => h) (Or.inr ⟨by rfl, rfl⟩) (by assumption) ?_
              simp only [Act.put, List.setIfInBounds_toArray, List.set_cons_zero, List.set_cons_succ]
              refine wpAnyH_takeD (i := 19) (d := some 68) (v := ?_) rfl (by kernel_rfl) (by kernel_rfl) (by kernel_rfl) rfl (fun _ _ _ h => h) (Or.inl ⟨by rfl, ?_⟩) (by assumption) ?_
              rotate_left
              · intro w hSw; (try dsimp only at hSw); go_simp; try with_reducible rfl
              simp only [Act.put, List.setIfInBounds_toArray, List.set_cons_zero, List.set_cons_succ]
              refine wpAnyH_done (by kernel_rfl) ?_ _
              refine NoPanic.normal ?_
              go_wp2_with fail
              go_meet
              exact ⟨rfl, hbm⟩
            case rest =>
              obtain ⟨rfl, hcb⟩ := hcut
              have HJM := Lib.hid (HJN.out.via hcb)
              have HBM := Lib.hid (HBN.out.trans (hcb.mono (by have := HBN.out.size; have := lF; omega)))
              clear HJN HBN d0 d1
              go_wp2_with fail
              exact ⟨⟨i + 1, _, by go_num, by omega, HJM.out, HBM.out⟩, by simp [intOf]; omega⟩
          · have e1 : decide ((i : Int) < (n : Int)) = false := by simp; omega
            go_quiet (fail)
            have HJM := Lib.hid (HJN.out.via (below_drewN (Below.refl W5.heap.size W5) nq))
            have HBM := Lib.hid (below_drewN HBN.out nq)
            clear HJN HBN e1
            generalize W5.drewN nq = W6 at *
            go_wp2_with fail
            exact ⟨⟨i + 1, _, by go_num, by omega, HJM.out, HBM.out⟩, by simp [intOf]; omega⟩
        · have HIN := Lib.hid (show i = n + 1 by omega)
          have hbc := hjr.ir.hc
          have hown := hjr.ir.own
          have hl3 := hjr.ir.l3
          have hl2 := hjr.ir.l2
          have HJ := Lib.hid hjr
          have HBW := Lib.hid hbw
          have HOWN := Lib.hid (hown.al (.cells #[.slice (some ⟨R, 0, none⟩) (n + 1) (n + 1)] 97))
          have hlB := hbc.lt
          have cB : ∀ q, wr.cell? ⟨bc, q, none⟩ = #[.int .i64 (g.terms : Int), .int .i64 (g.nons : Int), .int .i64 (g.start : Int), .slice Ag ng cg, .slice A n c, .slice Av k cv][q]? := hbc.cell
          have Bnew := Blk.new wr 97 #[.slice (some ⟨R, 0, none⟩) (n + 1) (n + 1)]
          have HNE := Lib.hid (show some bc ≠ (Value.slice Av k cv).ownBlock from fun e => by have := (hown.lt bc e.symm).1; omega)
          have HBA := Lib.hid (hbc.al (.cells #[.slice (some ⟨R, 0, none⟩) (n + 1) (n + 1)] 97))
          have HOB := Lib.hid (show ∀ j, (Value.slice Av k cv).ownBlock = some j → bc ≤ j from fun j e => by have := (hown.lt j e).1; omega)
          clear hjr hbw hbc hown
          go_wp2_with (at_builtin; refine h_wpList_append_rows _ rfl (.tmp 93) (.tmp 95) rfl (bc + 1) (.slice Av k cv) k _ rfl HOWN.out wr.heap.size (some ⟨R, 0, none⟩, n + 1, n + 1) rfl ((Bnew.cell 0).trans rfl) (by omega) (by simp; omega) ?_; intro A' c' w5 ho1 hg1 ha1; have Bw5 := HBA.out.grown hg1 HNE.out; have c5 := Bw5.cell; have f5 := Bw5.frozen; have l5 := Bw5.lt)
          have HF := Lib.hid (HJR.hang (by rw [← HIN.out]; exact HJ.out) (.cells #[.slice (some ⟨R, 0, none⟩) (n + 1) (n + 1)] 97) ho1 hg1 ha1 (fun u => rfl))
          have HBF := Lib.hid (((HBW.out.alloc (Nat.le_of_lt hlB) (.cells #[.slice (some ⟨R, 0, none⟩) (n + 1) (n + 1)] 97)).grown hg1 (by simp; omega) HOB.out).setCell (p := ⟨bc, 5, none⟩) (Nat.le_refl _) (.slice A' (k + 1) c'))
          clear ho1 hg1 ha1 Bw5 c5 f5 l5 cB Bnew
          exact ⟨⟨k + 1, _, _, _, A', c', by go_num, by omega, HF.out, HBF.out⟩, by simp [intOf]; omega⟩
    · obtain rfl : k = g.nons := by omega
      obtain ⟨ob, oo, rfl, hst, hbr⟩ := hir.fin HGO.out.ok.nons.1
      have hlb : bc < wr.heap.size := hir.hc.lt
      have HQ0 := Lib.hid (show Blk wr (w.heap.size + 1) 72 #[.int .i64 0, .slice none 0 0, .bool false] from HBZ.out.below hbw (by have := HBC.out; omega))
      generalize hB0 : wr.heap.size = BZ at *
      have HST := Lib.hid hst
      have HBR := Lib.hid (show HBRel w bc w.heap.size ob oo g.nons n BZ rb cb #[.int .i64 (g.terms : Int), .int .i64 (g.nons : Int), .int .i64 (g.start : Int), .slice Ag ng cg, .slice A n c, .slice (some ⟨ob, oo, none⟩) g.nons cv] #[.int .i64 (g.terms : Int), .int .i64 (g.nons : Int), .int .i64 (g.start : Int), .slice Ag ng cg] (fun _ _ _ => Way.no) wr from hbr)
      clear hir hst hbr hbw
      have HNL := Lib.hid (show cs.length = n from HX0.out.len)
      have HTL := Lib.hid (show ∀ r ∈ g.rules, ∀ s ∈ r.2, s.1 = true → s.2 < 8 from fun r hr s hs hb => by
        have := (HGO.out.ok.right r hr).2 s hs
        rw [Gr.okSy, if_pos hb] at this
        have := HGO.out.ok.terms.2; omega)
      have HLEN := Lib.hid (show cs.length ≤ 12 by rw [HNL.out]; exact hn)
      have HGD := Lib.hid (GoodH.start g.rules cs)
      go_wp2_with fail
      clear hB0
      go_loopg [13] (2 * total big 8 g.nons cs.length (fun _ _ _ => Way.no) + 1) (fun gk a wx => ∃ st ag, a = .bool ag ∧ GoodH g.rules cs st ∧ HBRel w bc w.heap.size ob oo g.nons n BZ rb cb #[.int .i64 (g.terms : Int), .int .i64 (g.nons : Int), .int .i64 (g.start : Int), .slice Ag ng cg, .slice A n c, .slice (some ⟨ob, oo, none⟩) g.nons cv] #[.int .i64 (g.terms : Int), .int .i64 (g.nons : Int), .int .i64 (g.start : Int), .slice Ag ng cg] st wx ∧ Blk wx (w.heap.size + 1) 72 #[.int .i64 0, .slice none 0 0, .bool false] ∧ (ag = false → FixH g.rules cs st) ∧ gk = 2 * total big 8 g.nons cs.length st + (if ag then 1 else 0))
      case atStart => exact ⟨_, true, rfl, HGD.out, HBR.out, HQ0.out, fun h => (by cases h), rfl⟩
      case round =>
        obtain ⟨st, ag, rfl, hgd, hbr, hq, hfx, hgk⟩ := hrel
        clear HBR HGD HQ0
        cases ag with
        | false =>
          have HGD := Lib.hid hgd
          have HBR := Lib.hid hbr
          have HFX := Lib.hid (hfx rfl)
          have HQ := Lib.hid hq
          clear hgd hbr hfx hgk hq
          go_upto_region 34 with fail
          have hsn := HGO.out.ok.start
          have t1 := HBR.out.bt.top g.start hsn
          have t2 := HBR.out.bt.mid g.start 0 hsn (Nat.zero_le _)
          obtain ⟨⟨xs_, ⟨xA, xn, xcc⟩, xo⟩, hxr, d0, d1, d2⟩ := (HBR.out.bt.row g.start 0 hsn (Nat.zero_le _)).at_ (Nat.le_refl n)
          simp only at d0 d1 d2
          have Bq := HQ.out
          have cC := HBR.out.hc.cell
          have cG := HBR.out.hg.cell
          have fQ := Bq.frozen
          have lQ := Bq.lt
          have cQ := Bq.cell
          have j0 : (0 : Int) ≤ (g.start : Int) := by omega
          have j1 : (g.start : Int) < (g.nons : Int) := by omega
          have j2 : (0 : Int) < (n : Int) + 1 := by omega
          have j3 : (n : Int) < (n : Int) + 1 := by omega
          have j4 : (0 : Int) ≤ (n : Int) := by omega
          have HXR := Lib.hid hxr
          clear hxr Bq
          go_region
          clear t1 t2 d0 d1 d2 cC cG fQ lQ cQ j0 j1 j2 j3 j4 hsn
          go_wp2_with fail
          have hlq : w.heap.size + 1 < BZ := by have := HBC.out; omega
          have cX := (((HQ.out.set_ 0 (.int .i64 xs_)).set_ 1 (.slice xA xn xcc)).set_ 2 (.bool xo)).dr.cell
          have HXF := (HXR.out.agr (agr_p3 (w := wr) (b := w.heap.size + 1) (o := 0) (v := (xs_, (xA, xn, xcc), xo)) fun x hx => by omega)).dr
          have HBF := (below_p3 (b := w.heap.size + 1) (o := 0) (v := (xs_, (xA, xn, xcc), xo)) HBR.out.bel (by omega)).drew
          refine bodyPost_ret (v := .agg #[.int .i64 xs_, .slice xA xn xcc, .bool xo]) (by simp [results, Try.results28, go_sem, cX]) rfl ⟨st, (xs_, (xA, xn, xcc), xo), HGD.out, HFX.out, rfl, ?_, HBF⟩
          rw [HNL.out]
          exact HoR.mono HXF fun _ _ _ => trivial
        | true =>
          have HGD := Lib.hid hgd
          have HBR := Lib.hid hbr
          have HGK := Lib.hid hgk
          have HQ := Lib.hid hq
          have Bg := hbr.hg
          clear hgd hbr hfx hgk hq
          have cBg := Bg.cell
          have fBg := Bg.frozen
          have lBg := Bg.lt
          go_wp2_with fail
          have hng := HL0.out.len
          have hng32 : ng ≤ 32 := by have := HGO.out.ok.count; omega
          have HNG := Lib.hid hng
          clear hng
          have HPG := Lib.hid (show PrgH cs g.nons st st false (V4 g.rules n 0) from PrgH.mono (PrgH.start st) fun r i j h => by obtain ⟨⟨k', hk', _⟩, _⟩ := h; omega)
          clear cBg fBg lBg
          clear Bg
          obtain ⟨wo, rfl⟩ : ∃ wo : World, wo = wr := ⟨_, rfl⟩
          go_loopw [13, 104] (fun a q wr => ∃ (k : Nat) (st1 : WSt) (ag : Bool), q = .int .i64 k ∧ k ≤ ng ∧ a = .bool ag ∧ GoodH g.rules cs st1 ∧ HBRel w bc w.heap.size ob oo g.nons n BZ rb cb #[.int .i64 (g.terms : Int), .int .i64 (g.nons : Int), .int .i64 (g.start : Int), .slice Ag ng cg, .slice A n c, .slice (some ⟨ob, oo, none⟩) g.nons cv] #[.int .i64 (g.terms : Int), .int .i64 (g.nons : Int), .int .i64 (g.start : Int), .slice Ag ng cg] st1 wr ∧ Blk wr (w.heap.size + 1) 72 #[.int .i64 0, .slice none 0 0, .bool false] ∧ PrgH cs g.nons st st1 ag (V4 g.rules n k)) (fun _ q _ => ng - (intOf q).toNat)
          case atStart => exact ⟨0, st, false, rfl, Nat.zero_le _, rfl, HGD.out, HBR.out, HQ.out, HPG.out⟩
          case round =>
            obtain ⟨k, st1, ag, rfl, hk, rfl, hgd1, hbr1, hq1, hpg1⟩ := hrel
            clear HPG HBR HGD HQ
            by_cases hkn : k < ng
            · obtain ⟨b1, o1, ⟨sl, sA, sn, sc⟩, ⟨sl', rhs⟩, hAg, -, hbb, hy, ⟨hx1, hx2⟩, hc⟩ := HL0.out.at_ hkn
              simp only at hx1 hx2
              obtain rfl : sl = sl' := hx1
              subst hAg
              have d0 := (hbr1.bel.cell (p := ⟨b1, o1 + k * RuE.k + 0, none⟩) hbb).trans (hc 0 _ rfl)
              have d1 := (hbr1.bel.cell (p := ⟨b1, o1 + k * RuE.k + 1, none⟩) hbb).trans (hc 1 _ rfl)
              simp only [RuE, Nat.add_zero] at d0 d1
              have i0 : (0 : Int) ≤ (k : Int) := by omega
              have i1 : (k : Int) < (ng : Int) := by omega
              have hmem := List.mem_of_getElem? hy
              have hsl : sl < g.nons := HGO.out.ok.left _ hmem
              have HRT := Lib.hid (HGO.out.ok.right _ hmem)
              have HMEM := Lib.hid hmem
              have HY := Lib.hid hy
              have HSR := Lib.hid hx2
              have HGD1 := Lib.hid hgd1
              have HBR1 := Lib.hid (hbr1.via ((Below.refl wr.heap.size wr).al (.cells #[.int .i64 (sl : Int), .slice sA sn sc] 47)))
              have HQ1 := Lib.hid (hq1.al (.cells #[.int .i64 (sl : Int), .slice sA sn sc] 47))
              have HPG1 := Lib.hid (show PrgH cs g.nons st st1 ag (V6 g.rules n k (sl, rhs) 0 0) from PrgH.mono hpg1 fun r i j h => by
                rcases h with h | ⟨_, _, _, h⟩
                · exact h
                · omega)
              have HBK := Lib.hid (Blk.new wr 47 #[.int .i64 (sl : Int), .slice sA sn sc])
              have hbrl : BZ ≤ wr.heap.size := hbr1.l3
              clear hc hy hx2 hgd1 hbr1 hpg1 hmem hbb hq1
              go_wp2_with fail
              clear d0 d1
              generalize wr.alloc (.cells #[.int .i64 (sl : Int), .slice sA sn sc] 47) = W4 at *
              generalize wr.heap.size = brx at *
              obtain ⟨wp, rfl⟩ : ∃ wp : World, wp = wr := ⟨_, rfl⟩
              go_loopw [13, 111] (fun a q wr => ∃ (i : Nat) (st2 : WSt) (ag : Bool), q = .int .i64 i ∧ i ≤ n + 1 ∧ a = .bool ag ∧ GoodH g.rules cs st2 ∧ HBRel w bc w.heap.size ob oo g.nons n BZ rb cb #[.int .i64 (g.terms : Int), .int .i64 (g.nons : Int), .int .i64 (g.start : Int), .slice (some ⟨b1, o1, none⟩) ng cg, .slice A n c, .slice (some ⟨ob, oo, none⟩) g.nons cv] #[.int .i64 (g.terms : Int), .int .i64 (g.nons : Int), .int .i64 (g.start : Int), .slice (some ⟨b1, o1, none⟩) ng cg] st2 wr ∧ Blk wr brx 47 #[.int .i64 (sl : Int), .slice sA sn sc] ∧ Blk wr (w.heap.size + 1) 72 #[.int .i64 0, .slice none 0 0, .bool false] ∧ PrgH cs g.nons st st2 ag (V6 g.rules n k (sl, rhs) i 0)) (fun _ q _ => n + 1 - (intOf q).toNat)
              case atStart => exact ⟨0, st1, ag, rfl, Nat.zero_le _, rfl, HGD1.out, HBR1.out, HBK.out, HQ1.out, HPG1.out⟩
              case round =>
                obtain ⟨i, st2, ag2, rfl, hi, rfl, hmid, hbr2, hbk, hq2, hpg2⟩ := hrel
                clear HGD1 HBR1 HBK HPG1 HQ1
                by_cases hin : i ≤ n
                · have HM2 := Lib.hid hmid
                  have HB2 := Lib.hid hbr2
                  have HK2 := Lib.hid hbk
                  have HP2 := Lib.hid hpg2
                  have HQ2 := Lib.hid hq2
                  have HS2 := Lib.hid (show ag2 = false → st2 = st from fun h => (hpg2.no h).1)
                  have Bk := hbk
                  clear hmid hbr2 hbk hpg2 hq2
                  have cBk := Bk.cell
                  have fBk := Bk.frozen
                  have lBk := Bk.lt
                  go_wp2_with fail
                  clear cBk fBk lBk
                  clear Bk
                  refine (hrule_c (fun b => BZ ≤ b) okc bc ⟨g.terms, g.nons, g.start, (some ⟨b1, o1, none⟩), ng, cg, A, n, c, some ⟨ob, oo, none⟩, g.nons, cv⟩ cs sl sn sc i oo ob sA rhs rb cb st2 wr HB2.out.hc (HX0.out.via HB2.out.bel) hn hin rfl HB2.out.bt ok (HSR.out.via HB2.out.bel) (fun s hs hb => by have := HRT.out.2 s hs; rw [Gr.okSy, if_neg (by simp [hb])] at this; exact this) (by have := HSR.out.len; have := HRT.out.1; omega) (fun N i j => HM2.out.bnds HLEN.out HTL.out N i j)).mono ?_
                  rintro e w5 ⟨bw, rfl, hbw, hrow, hb5⟩
                  have HROW := Lib.hid (show HRow (fun b => BZ ≤ b) w5 bw n (ruleH cs st2 i rhs) from by
                    unfold ruleH
                    rw [HNL.out]
                    exact hrow.mono fun b _ hz => by
                      have := HB2.out.l3
                      rcases hz.1 with h | h
                      · exact h
                      · exact Nat.le_trans this h)
                  have HBW := Lib.hid (show BZ ≤ bw from Nat.le_trans HB2.out.l3 hbw)
                  have HB5 := Lib.hid (HB2.out.via hb5)
                  have HK5 := Lib.hid (HK2.out.via hb5)
                  have HQ5 := Lib.hid (HQ2.out.via hb5)
                  have HP5 := Lib.hid (show PrgH cs g.nons st st2 ag2 (V6 g.rules n k (sl, rhs) i 0) from HP2.out)
                  clear hb5 hrow hbw HB2 HK2 HP2 HQ2
                  go_wp2_with fail
                  obtain ⟨wq, rfl⟩ : ∃ wq : World, wq = wr := ⟨_, rfl⟩
                  have HM6 := Lib.hid (show GoodH g.rules cs st2 from HM2.out)
                  go_loopw [13, 119] (fun a q wr => ∃ (j : Nat) (st3 : WSt) (ag : Bool), q = .int .i64 j ∧ j ≤ n + 1 ∧ a = .bool ag ∧ GoodH g.rules cs st3 ∧ HBRel w bc w.heap.size ob oo g.nons n BZ rb cb #[.int .i64 (g.terms : Int), .int .i64 (g.nons : Int), .int .i64 (g.start : Int), .slice (some ⟨b1, o1, none⟩) ng cg, .slice A n c, .slice (some ⟨ob, oo, none⟩) g.nons cv] #[.int .i64 (g.terms : Int), .int .i64 (g.nons : Int), .int .i64 (g.start : Int), .slice (some ⟨b1, o1, none⟩) ng cg] st3 wr ∧ Blk wr brx 47 #[.int .i64 (sl : Int), .slice sA sn sc] ∧ HRow (fun b => BZ ≤ b) wr bw n (ruleH cs st2 i rhs) ∧ (ag = false → st2 = st) ∧ Blk wr (w.heap.size + 1) 72 #[.int .i64 0, .slice none 0 0, .bool false] ∧ PrgH cs g.nons st st3 ag (V6 g.rules n k (sl, rhs) i j)) (fun _ q _ => n + 1 - (intOf q).toNat)
                  case atStart => exact ⟨0, st2, ag2, rfl, Nat.zero_le _, rfl, HM6.out, HB5.out, HK5.out, HROW.out, HS2.out, HQ5.out, HP5.out⟩
                  case round =>
                    obtain ⟨j, st3, ag3, rfl, hj, rfl, hm3, hb3, hk3, hr3, hs3, hq3, hp3⟩ := hrel
                    clear HM6 HB5 HK5 HROW HS2 HP5 HQ5
                    by_cases hjn : j ≤ n
                    · obtain ⟨⟨xs_, ⟨xA, xn, xcc⟩, xo⟩, hxr, e0, e1, e2⟩ := hr3.at_ hjn
                      simp only at e0 e1 e2
                      have HM3 := Lib.hid hm3
                      have HB3 := Lib.hid (hb3.via ((Below.refl wr.heap.size wr).al (.cells #[.int .i64 xs_, .slice xA xn xcc, .bool xo] 72)))
                      have HK3 := Lib.hid (hk3.al (.cells #[.int .i64 xs_, .slice xA xn xcc, .bool xo] 72))
                      have HQ3 := Lib.hid (hq3.al (.cells #[.int .i64 xs_, .slice xA xn xcc, .bool xo] 72))
                      have HR3 := Lib.hid (hr3.al (.cells #[.int .i64 xs_, .slice xA xn xcc, .bool xo] 72))
                      have HXR := Lib.hid (hxr.al (.cells #[.int .i64 xs_, .slice xA xn xcc, .bool xo] 72))
                      have HBX := Lib.hid (Blk.new wr 72 #[.int .i64 xs_, .slice xA xn xcc, .bool xo])
                      have HS3 := Lib.hid hs3
                      have HP3 := Lib.hid hp3
                      have j0 : (0 : Int) ≤ (j : Int) := by omega
                      have j1 : (j : Int) < (n : Int) + 1 := by omega
                      have j2 : (0 : Int) ≤ (i : Int) := by omega
                      have j3 : (i : Int) < (n : Int) + 1 := by omega
                      have j4 : (0 : Int) ≤ (sl : Int) := by omega
                      have j5 : (sl : Int) < (g.nons : Int) := by omega
                      clear hm3 hb3 hk3 hr3 hxr hs3 hp3 hq3
                      go_upto_region 29 with fail
                      clear e0 e1 e2
                      generalize wr.alloc (.cells #[.int .i64 xs_, .slice xA xn xcc, .bool xo] 72) = W6 at *
                      generalize wr.heap.size = bxx at *
                      have t1 := HB3.out.bt.top sl hsl
                      have t2 := HB3.out.bt.mid sl i hsl hin
                      obtain ⟨⟨ts, ⟨tA, tn, tcc⟩, tk⟩, htr, d0, d1, d2⟩ := (HB3.out.bt.row sl i hsl hin).at_ hjn
                      simp only at d0 d1 d2
                      have l1 := World.block_lt_of_cell? W6 _ t1
                      have l2 := World.block_lt_of_cell? W6 _ t2
                      have l3 := World.block_lt_of_cell? W6 _ d0
                      simp only at l1 l2 l3
                      have SOF := Lib.hid (show ∀ w', Below W6.heap.size W6 w' → ((∀ i, w'.cell? ⟨bc, i, none⟩ = #[.int .i64 (g.terms : Int), .int .i64 (g.nons : Int), .int .i64 (g.start : Int), .slice (some ⟨b1, o1, none⟩) ng cg, .slice A n c, .slice (some ⟨ob, oo, none⟩) g.nons cv][i]?) ∧ (∀ i, w'.cell? ⟨brx, i, none⟩ = #[.int .i64 (sl : Int), .slice sA sn sc][i]?) ∧ (∀ i, w'.cell? ⟨bxx, i, none⟩ = #[.int .i64 xs_, .slice xA xn xcc, .bool xo][i]?) ∧ w'.cell? ⟨ob, oo + sl, none⟩ = some (.slice (some ⟨rb sl, 0, none⟩) (n + 1) (n + 1)) ∧ w'.cell? ⟨rb sl, i, none⟩ = some (.slice (some ⟨cb sl i, 0, none⟩) (n + 1) (n + 1)) ∧ w'.cell? ⟨cb sl i, j * 3, none⟩ = some (.int .i64 ts) ∧ w'.cell? ⟨cb sl i, j * 3 + 1, none⟩ = some (.slice tA tn tcc) ∧ w'.cell? ⟨cb sl i, j * 3 + 2, none⟩ = some (.bool tk) ∧ Below W6.heap.size W6 w') from fun w' hb => ⟨(HB3.out.hc.via hb).cell, (HK3.out.via hb).cell, (HBX.out.via hb).cell, (hb.cell (p := ⟨ob, oo + sl, none⟩) l1).trans t1, (hb.cell (p := ⟨rb sl, i, none⟩) l2).trans t2, (hb.cell (p := ⟨cb sl i, j * 3, none⟩) l3).trans d0, (hb.cell (p := ⟨cb sl i, j * 3 + 1, none⟩) l3).trans d1, (hb.cell (p := ⟨cb sl i, j * 3 + 2, none⟩) l3).trans d2, hb⟩)
                      have FX := Lib.hid (show ∀ w', Below W6.heap.size W6 w' → HoR (fun b => BZ ≤ b) w' (xs_, (xA, xn, xcc), xo) (ruleH cs st2 i rhs j) from fun w' hb => HXR.out.via hb)
                      have FT := Lib.hid (show ∀ w', Below W6.heap.size W6 w' → HoR _ w' (ts, (tA, tn, tcc), tk) (st3 sl i j) from fun w' hb => htr.via hb)
                      have HSH := Lib.hid (ruleH_short HM2.out HLEN.out HTL.out i rhs j)
                      have hb0 := (Below.refl W6.heap.size W6).drew
                      clear t1 t2 d0 d1 d2 l1 l2 l3 htr
                      cases hles : lessW (ruleH cs st2 i rhs j) (st3 sl i j) with
                      | true =>
                        have HLES := Lib.hid hles
                        clear hles
                        go_region_held3 (fun w' => (∀ i, w'.cell? ⟨bc, i, none⟩ = #[.int .i64 (g.terms : Int), .int .i64 (g.nons : Int), .int .i64 (g.start : Int), .slice (some ⟨b1, o1, none⟩) ng cg, .slice A n c, .slice (some ⟨ob, oo, none⟩) g.nons cv][i]?) ∧ (∀ i, w'.cell? ⟨brx, i, none⟩ = #[.int .i64 (sl : Int), .slice sA sn sc][i]?) ∧ (∀ i, w'.cell? ⟨bxx, i, none⟩ = #[.int .i64 xs_, .slice xA xn xcc, .bool xo][i]?) ∧ w'.cell? ⟨ob, oo + sl, none⟩ = some (.slice (some ⟨rb sl, 0, none⟩) (n + 1) (n + 1)) ∧ w'.cell? ⟨rb sl, i, none⟩ = some (.slice (some ⟨cb sl i, 0, none⟩) (n + 1) (n + 1)) ∧ w'.cell? ⟨cb sl i, j * 3, none⟩ = some (.int .i64 ts) ∧ w'.cell? ⟨cb sl i, j * 3 + 1, none⟩ = some (.slice tA tn tcc) ∧ w'.cell? ⟨cb sl i, j * 3 + 2, none⟩ = some (.bool tk) ∧ Below W6.heap.size W6 w') (exact SOF.out _ (by assumption)) (first
                          | (go_at_call 49; (with_reducible refine (hless_b _ _ xs_ xA xn xcc xo ts tA tn tcc tk (ruleH cs st2 i rhs j) (st3 sl i j) true _ (FX.out _ (by assumption)) (FT.out _ (by assumption)) HSH.out HLES.out).mono ?_); rintro ee wl ⟨rfl, hbl⟩; have hbz : Below W6.heap.size W6 wl := Below.via (by assumption) hbl))
                        obtain ⟨s1, s2, s3, s4, s5, s6, s7, s8, -⟩ := SOF.out wl hbz
                        have HB7 := Lib.hid (HB3.out.via hbz)
                        have HK7 := Lib.hid (HK3.out.via hbz)
                        have HQ7 := Lib.hid (HQ3.out.via hbz)
                        have HR7 := Lib.hid (HR3.out.via hbz)
                        have HX7 := Lib.hid (FX.out wl hbz)
                        have fr := (HB7.out.bt.row sl i hsl hin).frozen
                        have HLC := Lib.hid (HST.out.lc sl i hsl hin)
                        clear hb0 hbl hbz SOF FX FT HB3 HK3 HR3 HXR HBX HQ3
                        go_upto_region 30 with fail
                        go_region
                        have hlc := HLC.out
                        have HWB := Lib.hid (show bw ≠ cb sl i by have := HBW.out; omega)
                        have HXB := Lib.hid (show brx ≠ cb sl i by omega)
                        have HQB := Lib.hid (show w.heap.size + 1 ≠ cb sl i by have := HBC.out; omega)
                        have HZB := Lib.hid (show ∀ x, BZ ≤ x → x ≠ cb sl i from fun x hx => by omega)
                        have HB8 := Lib.hid ((HB7.out.put HST.out hsl hin hjn HX7.out).dr)
                        have HK8 := Lib.hid (show Blk (World.put3 wl (cb sl i) (j * 3) (xs_, (xA, xn, xcc), xo)).drew brx 47 #[.int .i64 (sl : Int), .slice sA sn sc] from (heap_p3 HXB.out).trans HK7.out)
                        have HQ8 := Lib.hid (show Blk (World.put3 wl (cb sl i) (j * 3) (xs_, (xA, xn, xcc), xo)).drew (w.heap.size + 1) 72 #[.int .i64 0, .slice none 0 0, .bool false] from (heap_p3 HQB.out).trans HQ7.out)
                        have HR8 := Lib.hid ((HR7.out.agr (heap_p3 (o := j * 3) (v := (xs_, (xA, xn, xcc), xo)) HWB.out) (agr_p3 HZB.out)).dr)
                        have HM8 := Lib.hid (show GoodH g.rules cs (updS st3 sl i j (ruleH cs st2 i rhs j)) from GoodH.put (r := (sl, rhs)) (by have := HLEN.out; omega) HMEM.out HM2.out HM3.out (by rw [HNL.out]; exact hin) HLES.out)
                        have HP8 := Lib.hid (show PrgH cs g.nons st (updS st3 sl i j (ruleH cs st2 i rhs j)) true (V6 g.rules n k (sl, rhs) i (j + 1)) from PrgH.put (r := (sl, rhs)) HLEN.out HTL.out HMEM.out hsl HM2.out HM3.out HP3.out (by rw [HNL.out]; exact hin) (by rw [HNL.out]; exact hjn) HLES.out)
                        clear s1 s2 s3 s4 s5 s6 s7 s8 fr hlc
                        simp only [World.put3] at HB8 HK8 HR8 HQ8
                        go_wp2_with fail
                        exact ⟨⟨j + 1, updS st3 sl i j (ruleH cs st2 i rhs j), true, by go_num, by omega, rfl, HM8.out, HB8.out, HK8.out, HR8.out, fun h => (by cases h), HQ8.out, HP8.out⟩, by simp [intOf]; omega⟩
                      | false =>
                        have HLES := Lib.hid hles
                        clear hles
                        go_region_held3 (fun w' => (∀ i, w'.cell? ⟨bc, i, none⟩ = #[.int .i64 (g.terms : Int), .int .i64 (g.nons : Int), .int .i64 (g.start : Int), .slice (some ⟨b1, o1, none⟩) ng cg, .slice A n c, .slice (some ⟨ob, oo, none⟩) g.nons cv][i]?) ∧ (∀ i, w'.cell? ⟨brx, i, none⟩ = #[.int .i64 (sl : Int), .slice sA sn sc][i]?) ∧ (∀ i, w'.cell? ⟨bxx, i, none⟩ = #[.int .i64 xs_, .slice xA xn xcc, .bool xo][i]?) ∧ w'.cell? ⟨ob, oo + sl, none⟩ = some (.slice (some ⟨rb sl, 0, none⟩) (n + 1) (n + 1)) ∧ w'.cell? ⟨rb sl, i, none⟩ = some (.slice (some ⟨cb sl i, 0, none⟩) (n + 1) (n + 1)) ∧ w'.cell? ⟨cb sl i, j * 3, none⟩ = some (.int .i64 ts) ∧ w'.cell? ⟨cb sl i, j * 3 + 1, none⟩ = some (.slice tA tn tcc) ∧ w'.cell? ⟨cb sl i, j * 3 + 2, none⟩ = some (.bool tk) ∧ Below W6.heap.size W6 w') (exact SOF.out _ (by assumption)) (first
                          | (go_at_call 49; (with_reducible refine (hless_b _ _ xs_ xA xn xcc xo ts tA tn tcc tk (ruleH cs st2 i rhs j) (st3 sl i j) false _ (FX.out _ (by assumption)) (FT.out _ (by assumption)) HSH.out HLES.out).mono ?_); rintro ee wl ⟨rfl, hbl⟩; have hbz : Below W6.heap.size W6 wl := Below.via (by assumption) hbl))
                        have HB7 := Lib.hid (HB3.out.via hbz)
                        have HK7 := Lib.hid (HK3.out.via hbz)
                        have HQ7 := Lib.hid (HQ3.out.via hbz)
                        have HR7 := Lib.hid (HR3.out.via hbz)
                        have HP7 := Lib.hid (show PrgH cs g.nons st st3 ag3 (V6 g.rules n k (sl, rhs) i (j + 1)) from PrgH.skip (r := (sl, rhs)) (i := i) (j := j) HP3.out HS3.out HLES.out fun r' i' j' h => by
                          rcases h with h | ⟨h1, h2, h3, h4⟩
                          · exact Or.inl (Or.inl h)
                          · by_cases e : i' = i ∧ j' = j
                            · exact Or.inr ⟨h1, e.1, e.2⟩
                            · exact Or.inl (Or.inr ⟨h1, h2, h3, by omega⟩))
                        clear hb0 hbl hbz SOF FX FT HB3 HK3 HR3 HXR HBX HQ3
                        go_wp2_with fail
                        exact ⟨⟨j + 1, st3, ag3, by go_num, by omega, rfl, HM3.out, HB7.out, HK7.out, HR7.out, HS3.out, HQ7.out, HP7.out⟩, by simp [intOf]; omega⟩
                    · have HJN := Lib.hid (show j = n + 1 by omega)
                      have HM7 := Lib.hid hm3
                      have HP7 := Lib.hid (show PrgH cs g.nons st st3 ag3 (V6 g.rules n k (sl, rhs) (i + 1) 0) from PrgH.mono hp3 fun r' i' j' h => by
                        have := HJN.out
                        rcases h with h | ⟨h1, h2, h3, h4⟩
                        · exact Or.inl h
                        · exact Or.inr ⟨h1, h2, h3, by omega⟩)
                      have HB7 := Lib.hid hb3
                      have HK7 := Lib.hid hk3
                      have HQ7 := Lib.hid hq3
                      clear hm3 hb3 hk3 hr3 hs3 hp3 hq3
                      go_wp2_with fail
                      exact ⟨⟨i + 1, st3, ag3, by go_num, by omega, rfl, HM7.out, HB7.out, HK7.out, HQ7.out, HP7.out⟩, by simp [intOf]; omega⟩
                · have HIN := Lib.hid (show i = n + 1 by omega)
                  have HG7 := Lib.hid hmid
                  have HP7 := Lib.hid (show PrgH cs g.nons st st2 ag2 (V4 g.rules n (k + 1)) from PrgH.mono hpg2 fun r' i' j' h => by
                    obtain ⟨⟨k', hk', hr'⟩, h2, h3⟩ := h
                    have := HIN.out
                    by_cases e : k' = k
                    · subst e
                      rw [HY.out] at hr'
                      exact Or.inr ⟨(Option.some.inj hr').symm, h2, h3, by omega⟩
                    · exact Or.inl ⟨⟨k', by omega, hr'⟩, h2, h3⟩)
                  have HB7 := Lib.hid hbr2
                  have HQ7 := Lib.hid hq2
                  clear hmid hbr2 hbk hpg2 hq2
                  go_wp2_with fail
                  exact ⟨⟨k + 1, st2, ag2, by go_num, by omega, rfl, HG7.out, HB7.out, HQ7.out, HP7.out⟩, by simp [intOf]; omega⟩
            · have HKN := Lib.hid (show k = ng by omega)
              have HG8 := Lib.hid hgd1
              have HB8 := Lib.hid hbr1
              have HP8 := Lib.hid hpg1
              have HQ8 := Lib.hid hq1
              clear hgd1 hbr1 hpg1 hq1
              go_wp2_with fail
              go_roundg (2 * total big 8 g.nons cs.length st1 + (if ag then 1 else 0))
              case measure =>
                rw [HGK.out]
                cases ag with
                | false => obtain ⟨rfl, -⟩ := HP8.out.no rfl; simp
                | true => have := HP8.out.yes rfl; simp; omega
              case rel =>
                refine ⟨st1, ag, rfl, HG8.out, HB8.out, HQ8.out, fun ha => ?_, rfl⟩
                obtain ⟨rfl, hv⟩ := HP8.out.no ha
                intro r hr i j hij hjn
                rw [HNL.out] at hjn
                obtain ⟨k', hk', e⟩ := List.getElem_of_mem hr
                exact hv r i j ⟨⟨k', by rw [HKN.out, ← HNG.out]; exact hk', by rw [List.getElem?_eq_getElem hk', e]⟩, hij, hjn⟩
end Go.Proofs.Ytdmecijpioljaaa



namespace Go.Proofs.Ytdmecijpioljaaa
open Go.RowKit

def BoE : Elem Bool Bool where
  k := 1
  cells b := [.bool b]
  rel _ _ r x := r = x
  pos := by omega
  len _ := rfl
  one r u hu := by simp at hu; subst hu; rfl
  agr h _ := h
  mono h _ := h
theorem bool_info : (Try.prog.info? 4).map (fun i => (i.zero, i.size, i.bytes)) = some (some (.bool false), 1, 1) := by kernel_rfl
theorem wpList_append_b {ops : Array Oper} {rest : List Oper} {o : Oper} {a : Act} {Q : Exit → Act → World → Prop} (w : World) (hgd : o.guard = none) (s y : Operand)
    (ho : o.op = .call { callee := .builtin .append, args := #[s, y], argTypes := #[32, 32] }) (base : Nat) (v : Value) (n : Nat) (l : List Bool) (hv : a.eval s = v) (hown : Own BoE 4 (fun _ => False) w base v n l)
    (b : Nat) (x : Bool) (hy : a.eval y = .slice (some ⟨b, 0, none⟩) 1 1) (hcell : w.cell? ⟨b, 0, none⟩ = some (.bool x))
    (h63 : n + 1 ≤ 1000000) (hbase : base ≤ w.heap.size)
    (h : ∀ A' c' w', Own BoE 4 (fun _ => False) w' base (.slice A' (n + 1) c') (n + 1) (l ++ [x]) → w.grownBy w' v.ownBlock → ((Value.slice A' (n + 1) c').ownBlock = v.ownBlock ∨ (Value.slice A' (n + 1) c').ownBlock = some w.heap.size) → wpList Try.prog ops Q rest (a.put o.dst (.slice A' (n + 1) c')) w') : wpList Try.prog ops Q (o :: rest) a w := by
  obtain ⟨i, hi, hz, hs, hb⟩ := info_parts bool_info
  exact wpList_append_E w hgd s y _ _ ho i _ 1 Try.underlying32 hi hz hs hb rfl (fun _ => False) base v n l hv hown b x x hy (fun j u hu => by
    cases j with
    | zero => simp [BoE] at hu; subst hu; exact hcell
    | succ j => simp [BoE] at hu) rfl (by unfold maxLen; omega) (by omega) hbase h
theorem wpList_append_ce {ops : Array Oper} {rest : List Oper} {o : Oper} {a : Act} {Q : Exit → Act → World → Prop} (w : World) (hgd : o.guard = none) (s y : Operand)
    (ho : o.op = .call { callee := .builtin .append, args := #[s, y], argTypes := #[35, 35] }) (base : Nat) (v : Value) (n : Nat) (l : List Ce) (hv : a.eval s = v) (hown : Own CeE 45 (fun _ => False) w base v n l)
    (b : Nat) (x : Ce) (hy : a.eval y = .slice (some ⟨b, 0, none⟩) 1 1) (hcell : w.cell? ⟨b, 0, none⟩ = some (.bool x.1)) (hcell1 : w.cell? ⟨b, 1, none⟩ = some (.int .i64 x.2))
    (h63 : n + 1 ≤ 1000000) (hbase : base ≤ w.heap.size)
    (h : ∀ A' c' w', Own CeE 45 (fun _ => False) w' base (.slice A' (n + 1) c') (n + 1) (l ++ [x]) → w.grownBy w' v.ownBlock → ((Value.slice A' (n + 1) c').ownBlock = v.ownBlock ∨ (Value.slice A' (n + 1) c').ownBlock = some w.heap.size) → wpList Try.prog ops Q rest (a.put o.dst (.slice A' (n + 1) c')) w') : wpList Try.prog ops Q (o :: rest) a w := by
  obtain ⟨i, hi, hz, hs, hb⟩ := info_parts sym_info
  exact wpList_append_E w hgd s y _ _ ho i _ 16 Try.underlying35 hi hz hs hb rfl (fun _ => False) base v n l hv hown b x x hy (fun j u hu => by
    match j, hu with
    | 0, hu => simp [CeE] at hu; subst hu; exact hcell
    | 1, hu => simp [CeE] at hu; subst hu; exact hcell1
    | j + 2, hu => simp [CeE] at hu) rfl (by unfold maxLen; omega) (by omega) hbase h

/-! ### append of a row of cells onto an own row -/
theorem flat_ce_one (xs : List Ce) : ∀ u ∈ flat CeE xs, u.oneCell' = true := by
  intro u hu
  obtain ⟨r, _, hr⟩ := List.mem_flatMap.1 hu
  exact CeE.one r u hr
theorem Sl.rawc {w : World} {ok : Nat → Prop} {A : Option Addr} {n c : Nat} {xs : List Ce} (h : Sl CeE ok w A n c xs) : Cel ok w A (flat CeE xs) := by
  obtain ⟨h1, h2, raw, h3, h4, h5⟩ := h
  have : raw = xs := List.ext_getElem? fun i => by
    rcases Nat.lt_or_ge i n with hi | hi
    · have e1 : raw[i]? = some raw[i] := List.getElem?_eq_getElem (by omega)
      have e2 : xs[i]? = some xs[i] := List.getElem?_eq_getElem (by omega)
      rw [e1, e2]
      exact congrArg some (h5 i _ _ e1 e2)
    · rw [List.getElem?_eq_none (by omega), List.getElem?_eq_none (by omega)]
  rw [← this]; exact h4
theorem Own.rawc {w : World} {ok : Nat → Prop} {base n : Nat} {v : Value} {xs : List Ce} (h : Own CeE 45 ok w base v n xs) : w.ownsRow base 45 2 v n (flat CeE xs) := by
  obtain ⟨h1, raw, h3, h4, h5⟩ := h
  have : raw = xs := List.ext_getElem? fun i => by
    rcases Nat.lt_or_ge i n with hi | hi
    · have e1 : raw[i]? = some raw[i] := List.getElem?_eq_getElem (by omega)
      have e2 : xs[i]? = some xs[i] := List.getElem?_eq_getElem (by omega)
      rw [e1, e2]
      exact congrArg some (h5 i _ _ e1 e2)
    · rw [List.getElem?_eq_none (by omega), List.getElem?_eq_none (by omega)]
  rw [← this]; exact h4
theorem Own.ofRawc {w : World} {ok : Nat → Prop} {base n : Nat} {v : Value} {xs : List Ce} (hl : xs.length = n) (h : w.ownsRow base 45 2 v n (flat CeE xs)) : Own CeE 45 ok w base v n xs :=
  ⟨hl, xs, hl, h, fun i r x hr hx => by rw [hr] at hx; exact Option.some.inj hx⟩

theorem run_append_ces (w : World) (ty : TypeId) (ok oks : Nat → Prop) (base : Nat) (v : Value) (n : Nat) (xs : List Ce) (hown : Own CeE 45 ok w base v n xs)
    (A : Option Addr) (m c : Nat) (ys : List Ce) (hr : Sl CeE oks w A m c ys) (hb : n + m ≤ 1000000) (hbase : base ≤ w.heap.size) :
    ∃ v' w', (Builtin.append_ #[35, 35] ty #[v, .slice A m c]).run Try.prog w = .ok v' w' ∧ Own CeE 45 ok w' base v' (n + m) (xs ++ ys) ∧ w.grownBy w' v.ownBlock ∧
      (v'.ownBlock = v.ownBlock ∨ v'.ownBlock = some w.heap.size) := by
  obtain ⟨i, hi, hz⟩ := Option.map_eq_some_iff.1 sym_info
  simp only [Prod.mk.injEq] at hz
  have hlen := hr.len
  have hlx := hown.len
  have hcel := hr.rawc
  rcases A with _ | ad
  · have hm : ys = [] := by
      cases ys with
      | nil => rfl
      | cons y ys =>
        obtain ⟨b, off, h, _⟩ := hcel (by simp [flat, CeE])
        cases h
    subst hm
    have hm0 : m = 0 := by simpa using hlen.symm
    subst hm0
    refine ⟨v, w, ?_, by simpa using hown, World.grownBy.refl w _, Or.inl rfl⟩
    rcases hown.rawc.2 with ⟨rfl, rfl⟩ | ⟨g, cap, cur, rfl, _, _, hnc, _⟩
    · simp [Builtin.append_, run_underlying Try.underlying35, sizeOf, typeInfo, hi, Builtin.lenOf, Builtin.firstCells]
    · simp [Builtin.append_, run_underlying Try.underlying35, sizeOf, typeInfo, hi, Builtin.lenOf, Builtin.firstCells, hnc, storeCells]
  · obtain ⟨v', w', hrun, h2, h3, _, h5⟩ := run_append_own_at (P := Try.prog) w base 35 ty 45 i _ 2 16 Try.underlying35 hi hz.1 hz.2.1 hz.2.2 rfl (by omega) v n _ hown.rawc ad m c (flat CeE ys) (by rw [flat_len, hlen]; rfl) (fun j u hu => by
        cases ys with
        | nil => simp [flat] at hu
        | cons y ys =>
          obtain ⟨b, off, e, _, hc⟩ := hcel (by simp [flat, CeE])
          cases e
          rw [Addr.add_lit]; exact hc j u hu) (flat_ce_one _) (by simp only [maxLen]; omega) (by omega) hbase
    refine ⟨v', w', hrun, Own.ofRawc (by rw [List.length_append]; omega) ?_, h3, h5⟩
    have e : flat CeE (xs ++ ys) = flat CeE xs ++ flat CeE ys := by simp [flat]
    rw [e]; exact h2

theorem wp_append_ces (w : World) {o : Oper} {a : Act} {K : Act → World → Prop} {Q : Exit → Act → World → Prop} (s x : Operand)
    (ho : o.op = .call { callee := .builtin .append, args := #[s, x], argTypes := #[35, 35] })
    (ok oks : Nat → Prop) (base : Nat) (v : Value) (n : Nat) (xs : List Ce) (hs : a.eval s = v) (hown : Own CeE 45 ok w base v n xs)
    (A : Option Addr) (m c : Nat) (ys : List Ce) (hx : a.eval x = .slice A m c) (hr : Sl CeE oks w A m c ys) (hb : n + m ≤ 1000000) (hbase : base ≤ w.heap.size)
    (h : ∀ A' c' w', Own CeE 45 ok w' base (.slice A' (n + m) c') (n + m) (xs ++ ys) → w.grownBy w' v.ownBlock → ((Value.slice A' (n + m) c').ownBlock = v.ownBlock ∨ (Value.slice A' (n + m) c').ownBlock = some w.heap.size) → K (a.put o.dst (.slice A' (n + m) c')) w') : o.wp Try.prog a w K Q := by
  obtain ⟨v', w', hrun, h2, h3, h4⟩ := run_append_ces w o.type ok oks base v n xs hown A m c ys hr hb hbase
  unfold Oper.wp execOp
  simp only [ho, resolve, invoke, builtin, Sem.run_bind, Sem.run_pure, Result.andThen_ok, List.map_toArray, List.map_cons, List.map_nil, hs, hx, hrun]
  obtain ⟨A', c', rfl, _⟩ := h2.form
  exact h A' c' w' h2 h3 h4
theorem wpList_append_ces (w : World) {ops : Array Oper} {rest : List Oper} {o : Oper} {a : Act} {Q : Exit → Act → World → Prop} (hgd : o.guard = none) (s x : Operand)
    (ho : o.op = .call { callee := .builtin .append, args := #[s, x], argTypes := #[35, 35] })
    (ok oks : Nat → Prop) (base : Nat) (v : Value) (n : Nat) (xs : List Ce) (hs : a.eval s = v) (hown : Own CeE 45 ok w base v n xs)
    (A : Option Addr) (m c : Nat) (ys : List Ce) (hx : a.eval x = .slice A m c) (hr : Sl CeE oks w A m c ys) (hb : n + m ≤ 1000000) (hbase : base ≤ w.heap.size)
    (h : ∀ A' c' w', Own CeE 45 ok w' base (.slice A' (n + m) c') (n + m) (xs ++ ys) → w.grownBy w' v.ownBlock → ((Value.slice A' (n + m) c').ownBlock = v.ownBlock ∨ (Value.slice A' (n + m) c').ownBlock = some w.heap.size) → wpList Try.prog ops Q rest (a.put o.dst (.slice A' (n + m) c')) w') : wpList Try.prog ops Q (o :: rest) a w :=
  wpList_plain hgd fun _ hK => wp_append_ces w s x ho ok oks base v n xs hs hown A m c ys hx hr hb hbase fun A' c' w' h2 h3 h4 => hK _ _ (h A' c' w' h2 h3 h4)

/-! ### slices.Clone of cells -/
def CloCP (w : World) (n : Nat) (xs : List Ce) (e : Ending) (w' : World) : Prop :=
  ∃ B d, e = .returned (.slice B n d) ∧ Own CeE 45 (fun _ => True) w' w.heap.size (.slice B n d) n xs ∧ Below w.heap.size w w'
set_option maxHeartbeats 400000 in
theorem clonece_c (ok : Nat → Prop) (A : Option Addr) (n c : Nat) (xs : List Ce) (w : World) (h : Sl CeE ok w A n c xs) (hn : n ≤ 1000000) :
    Calls Try.prog 41 #[.slice A n c] w (CloCP w n xs) := by
  have he := fun wx => Lib.run_eql_slice_nil (P := Try.prog) wx 35 45 A n c 0 0 Try.underlying35
  have hl := h.len
  rcases A with _ | ad
  · have hx : xs = [] := by
      cases xs with
      | nil => rfl
      | cons y ys =>
        obtain ⟨b, off, h, _⟩ := h.rawc (by simp [flat, CeE])
        cases h
    subst hx
    have hn0 : n = 0 := by simpa using hl.symm
    subst hn0
    clear h
    go_enter Try.func41, Try.ntmps41
    go_wp2
    go_ret
    exact ⟨_, _, rfl, Own.nil _ _, Below.refl _ _⟩
  · have H := Lib.hid h
    clear h
    go_enter Try.func41, Try.ntmps41
    go_wp2_with (at_builtin; refine wpList_append_ces _ rfl (.tmp 5) (.tmp 6) rfl (fun _ => True) ok w.heap.size (.slice (some ⟨w.heap.size, 0, none⟩) 0 0) 0 [] rfl (Own.ofRawc rfl (World.ownsRow_lit w #[] 0 (Nat.le_refl _) (by omega) rfl)) (some ad) n c xs rfl (H.out.al _) (by omega) (by simp) ?_; intro Av1 cv1 w1 hown1 hg1 hat1)
    go_ret
    exact ⟨_, _, rfl, by simpa using hown1, ((Below.refl _ _).alloc (Nat.le_refl _) _).grown hg1 (by simp) (by simp [Value.ownBlock])⟩
/-- a row of cells in a block of its own -/
def CeB (w : World) (b n c : Nat) (cs : List Ce) : Prop :=
  cs.length = n ∧ n ≤ c ∧ ∃ C : Array Value, Blk w b 45 C ∧ ∀ (i : Nat) (x : Ce), cs[i]? = some x → C[i * 2]? = some (.bool x.1) ∧ C[i * 2 + 1]? = some (.int .i64 x.2)
section
variable {w w' : World} {b n c base : Nat} {cs : List Ce}
theorem CeB.lt (h : CeB w b n c cs) : b < w.heap.size := by obtain ⟨_, _, C, h1, _⟩ := h; exact h1.lt
theorem CeB.len (h : CeB w b n c cs) : cs.length = n := h.1
theorem CeB.frozen (h : CeB w b n c cs) (i : Nat) : w.frozen? ⟨b, i, none⟩ = false := by obtain ⟨_, _, C, h1, _⟩ := h; exact h1.frozen i
theorem CeB.cell (h : CeB w b n c cs) {i : Nat} {x : Ce} (hx : cs[i]? = some x) : w.cell? ⟨b, i * 2, none⟩ = some (.bool x.1) ∧ w.cell? ⟨b, i * 2 + 1, none⟩ = some (.int .i64 x.2) := by
  obtain ⟨_, _, C, h1, h2⟩ := h
  exact ⟨(h1.cell _).trans (h2 i x hx).1, (h1.cell _).trans (h2 i x hx).2⟩
theorem CeB.agr (h : CeB w b n c cs) (hb : w'.heap[b]? = w.heap[b]?) : CeB w' b n c cs := by
  obtain ⟨h0, h3, C, h1, h2⟩ := h
  exact ⟨h0, h3, C, hb.trans h1, h2⟩
theorem CeB.via (h : CeB w b n c cs) (k : Below w.heap.size w w') : CeB w' b n c cs := h.agr (k.block b h.lt)
theorem CeB.al (h : CeB w b n c cs) (o : Obj) : CeB (w.alloc o) b n c cs := h.via ((Below.refl w.heap.size w).alloc (Nat.le_refl _) o)
theorem CeB.dr (h : CeB w b n c cs) : CeB w.drew b n c cs := h.via ((Below.refl w.heap.size w).drew)
theorem CeB.toSl (h : CeB w b n c cs) : Sl CeE (fun x => x = b) w (some ⟨b, 0, none⟩) n c cs := by
  obtain ⟨h0, h3, C, h1, h2⟩ := h
  refine ⟨h0, h3, cs, h0, fun _ => ⟨b, 0, rfl, rfl, fun j u hu => ?_⟩, fun i r x hr hx => by rw [hr] at hx; exact Option.some.inj hx⟩
  rw [Nat.zero_add, h1.cell]
  have hj : j < (flat CeE cs).length := (List.getElem?_eq_some_iff.1 hu).1
  rw [flat_len] at hj
  have hk : j / 2 < cs.length := by simp only [CeE] at hj; omega
  obtain ⟨x, hx⟩ : ∃ x, cs[j / 2]? = some x := ⟨_, List.getElem?_eq_getElem hk⟩
  obtain ⟨e0, e1⟩ := h2 _ x hx
  rcases Nat.mod_two_eq_zero_or_one j with hm | hm
  · have e : j = j / 2 * 2 := by omega
    have q := flat_at (E := CeE) cs (j / 2) x 0 (.bool x.1) hx rfl
    simp only [CeE, Nat.add_zero] at q
    rw [e] at hu ⊢
    have q2 : (flat CeE cs)[j / 2 * 2]? = some (.bool x.1) := q
    rw [hu] at q2
    rw [e0]; exact q2.symm
  · have e : j = j / 2 * 2 + 1 := by omega
    have q2 : (flat CeE cs)[j / 2 * 2 + 1]? = some (.int .i64 x.2) := flat_at (E := CeE) cs (j / 2) x 1 (.int .i64 x.2) hx rfl
    rw [e] at hu ⊢
    rw [hu] at q2
    rw [e1]; exact q2.symm
theorem CeB.setN (h : CeB w b n c cs) {i : Nat} {x : Ce} (hx : cs[i]? = some x) (v : Int) : CeB (w.setCell ⟨b, i * 2 + 1, none⟩ (.int .i64 v)) b n c (cs.set i (x.1, v)) := by
  obtain ⟨h0, h3, C, h1, h2⟩ := h
  refine ⟨by simp [h0], h3, _, h1.set_ (i * 2 + 1) (.int .i64 v), fun j y hy => ?_⟩
  have hi := (List.getElem?_eq_some_iff.1 hx).1
  have hC := (Array.getElem?_eq_some_iff.1 (h2 i x hx).2).1
  rw [Array.getElem?_setIfInBounds, Array.getElem?_setIfInBounds]
  by_cases e : i = j
  · subst e
    rw [List.getElem?_set_self hi] at hy
    cases hy
    rw [if_neg (by omega), if_pos rfl, if_pos hC]
    exact ⟨(h2 i x hx).1, rfl⟩
  · rw [List.getElem?_set_ne e] at hy
    rw [if_neg (by omega), if_neg (by omega)]
    exact h2 j y hy
theorem CeB.put (h : CeB w b n c cs) {i : Nat} {x : Ce} (hx : cs[i]? = some x) (y : Ce) : CeB ((w.setCell ⟨b, i * 2, none⟩ (.bool y.1)).setCell ⟨b, i * 2 + 1, none⟩ (.int .i64 y.2)) b n c (cs.set i y) := by
  obtain ⟨h0, h3, C, h1, h2⟩ := h
  refine ⟨by simp [h0], h3, _, (h1.set_ (i * 2) (.bool y.1)).set_ (i * 2 + 1) (.int .i64 y.2), fun j z hz => ?_⟩
  have hi := (List.getElem?_eq_some_iff.1 hx).1
  have hC := (Array.getElem?_eq_some_iff.1 (h2 i x hx).2).1
  simp only [Array.getElem?_setIfInBounds, Array.size_setIfInBounds]
  by_cases e : i = j
  · subst e
    rw [List.getElem?_set_self hi] at hz
    cases hz
    rw [if_neg (by omega), if_pos rfl, if_pos (by omega), if_pos rfl, if_pos hC]
    exact ⟨rfl, rfl⟩
  · rw [List.getElem?_set_ne e] at hz
    rw [if_neg (by omega), if_neg (by omega), if_neg (by omega), if_neg (by omega)]
    exact h2 j z hz
theorem Own.toCeB {ok : Nat → Prop} {A : Option Addr} (h : Own CeE 45 ok w base (.slice A n c) n cs) (hn : 0 < n) : ∃ b, A = some ⟨b, 0, none⟩ ∧ base ≤ b ∧ CeB w b n c cs := by
  have hr := h.rawc
  obtain ⟨hl, h2⟩ := hr
  rcases h2 with ⟨_, h0⟩ | ⟨g, cap, cur, e, hb, hh, hc, _, _, ht⟩
  · omega
  · cases e
    refine ⟨g, rfl, hb, h.len, hc, cur, hh, fun i x hx => ?_⟩
    have q0 := flat_at (E := CeE) cs i x 0 (.bool x.1) hx rfl
    have q1 := flat_at (E := CeE) cs i x 1 (.int .i64 x.2) hx rfl
    have q0 : (flat CeE cs)[i * 2]? = some (.bool x.1) := q0
    have q1 : (flat CeE cs)[i * 2 + 1]? = some (.int .i64 x.2) := q1
    rw [← ht, List.getElem?_take] at q0 q1
    have hi := (List.getElem?_eq_some_iff.1 hx).1
    have hln := h.len
    rw [if_pos (by omega)] at q0 q1
    exact ⟨by rw [← Array.getElem?_toList]; exact q0, by rw [← Array.getElem?_toList]; exact q1⟩
end

end Go.Proofs.Ytdmecijpioljaaa




namespace Go.Proofs.Ytdmecijpioljaaa
open Go.RowKit

def okCe (g : Gr) (x : Ce) : Prop := x.1 = true ∧ ((∃ t : Nat, x.2 = (t : Int) ∧ t < g.terms) ∨ x.2 = -1)
set_option maxRecDepth 100000 in
set_option maxHeartbeats 2000000 in
theorem has_any (g : Gr) (A : Option Addr) (n c : Nat) (w : World) :
    Calls Try.prog 39 #[grVal g A n c, .agg #[.bool true, .int .i64 (-1)]] w (TellB w false) := by
  simp only [grVal]
  have HB := Lib.hid (((Below.refl w.heap.size w).al (.cells #[.int .i64 (g.terms : Int), .int .i64 (g.nons : Int), .int .i64 (g.start : Int), .slice A n c] 28)).al (.cells #[.bool true, .int .i64 (-1)] 45))
  go_enter Try.func39, Try.ntmps39
  go_wp2_with fail
  go_ret
  exact ⟨rfl, HB.out⟩
theorem has_t (g : Gr) (A : Option Addr) (n c t : Nat) (w : World) (ht : t < g.terms) :
    Calls Try.prog 39 #[.agg #[.int .i64 (g.terms : Int), .int .i64 (g.nons : Int), .int .i64 (g.start : Int), .slice A n c], .agg #[.bool true, .int .i64 (t : Int)]] w (TellB w true) := by
  have := has_sym g A n c (true, t) w (by simpa [Gr.okSy] using ht)
  simpa only [grVal] using this
theorem has_a (g : Gr) (A : Option Addr) (n c : Nat) (w : World) :
    Calls Try.prog 39 #[.agg #[.int .i64 (g.terms : Int), .int .i64 (g.nons : Int), .int .i64 (g.start : Int), .slice A n c], .agg #[.bool true, .int .i64 (-1)]] w (TellB w false) := by
  have := has_any g A n c w
  simpa only [grVal] using this
set_option maxRecDepth 100000 in
set_option maxHeartbeats 8000000 in
theorem hcheck_c (ok okc : Nat → Prop) (g : Gr) (Ag : Option Addr) (ng cg : Nat) (A : Option Addr) (n c : Nat) (cs : List Ce) (w : World) (hg : GrOk g) (hl : Sl RuE ok w Ag ng cg g.rules) (hx : Sl CeE okc w A n c cs) (hn : n ≤ 12) (hc : ∀ x ∈ cs, okCe g x) :
    Calls Try.prog 17 #[grVal g Ag ng cg, .slice A n c] w (IntO w 0) := by
  have HGO := Lib.hid hg
  have HC := Lib.hid hc
  have hB := (Below.refl w.heap.size w).al (.cells #[.int .i64 (g.terms : Int), .int .i64 (g.nons : Int), .int .i64 (g.start : Int), .slice Ag ng cg] 28)
  have HL := Lib.hid (hl.via hB)
  have HX := Lib.hid (hx.via hB)
  have HB := Lib.hid hB
  have B0 := Blk.new w 28 #[.int .i64 (g.terms : Int), .int .i64 (g.nons : Int), .int .i64 (g.start : Int), .slice Ag ng cg]
  have HB0 := Lib.hid B0
  have e1 : decide ((12 : Int) < (n : Int)) = false := by simp; omega
  simp only [grVal]
  clear hg hc hl hx hB
  go_enter Try.func17, Try.ntmps17
  have cB0 := B0.cell
  have fB0 := B0.frozen
  have lB0 := B0.lt
  go_wp2_with fail
  clear cB0 fB0 lB0
  generalize w.alloc (.cells #[.int .i64 (g.terms : Int), .int .i64 (g.nons : Int), .int .i64 (g.start : Int), .slice Ag ng cg] 28) = W at *
  refine (check_c ok g Ag ng cg W HGO.out HL.out).mono ?_
  rintro e w1 ⟨rfl, hb⟩
  have HX1 := Lib.hid (HX.out.via hb)
  have HB1 := Lib.hid (HB.out.via hb)
  have HBG := Lib.hid (HB0.out.via hb)
  clear hb HX HB HB0 HL B0
  go_wp2_with fail
  clear e1
  go_loopw [18] (fun i wr => ∃ k : Nat, i = .int .i64 k ∧ k ≤ n ∧ Below w1.heap.size w1 wr) (fun i _ => n - (intOf i).toNat)
  case atStart => exact ⟨0, rfl, Nat.zero_le _, Below.refl _ _⟩
  case round =>
    obtain ⟨k, rfl, hk, hbw⟩ := hrel
    by_cases hkn : k < n
    · obtain ⟨b1, o1, sx, sy, rfl, -, hbb, hy, hxy, hc⟩ := HX1.out.at_ hkn
      obtain rfl : sx = sy := hxy
      have d0 := (hbw.cell (p := ⟨b1, o1 + k * CeE.k + 0, none⟩) hbb).trans (hc 0 _ rfl)
      have d1 := (hbw.cell (p := ⟨b1, o1 + k * CeE.k + 1, none⟩) hbb).trans (hc 1 _ rfl)
      simp only [CeE, Nat.add_zero] at d0 d1
      have i0 : (0 : Int) ≤ (k : Int) := by omega
      have i1 : (k : Int) < (n : Int) := by omega
      obtain ⟨hs1, hs2⟩ := HC.out _ (List.mem_of_getElem? hy)
      obtain ⟨sb, sn⟩ := sx
      simp only at hs1 hs2 d0 d1
      subst hs1
      have HS2 := Lib.hid hs2
      have Bg := (HBG.out.via hbw).al (.cells #[.bool true, .int .i64 sn] 45)
      have HBW := Lib.hid (hbw.al (.cells #[.bool true, .int .i64 sn] 45))
      have Bs := Blk.new wr 45 #[.bool true, .int .i64 sn]
      clear hs2 hc hy hbw hbb
      go_upto_region 9 with fail
      clear d0 d1
      generalize wr.alloc (.cells #[.bool true, .int .i64 sn] 45) = W5 at *
      generalize wr.heap.size = bs at *
      have SOF := Lib.hid (show ∀ w', Below W5.heap.size W5 w' → ((∀ i, w'.cell? ⟨w.heap.size, i, none⟩ = #[.int .i64 (g.terms : Int), .int .i64 (g.nons : Int), .int .i64 (g.start : Int), .slice Ag ng cg][i]?) ∧ (∀ i, w'.cell? ⟨bs, i, none⟩ = #[.bool true, .int .i64 sn][i]?) ∧ Below W5.heap.size W5 w') from fun w' hb => ⟨(Bg.via hb).cell, (Bs.via hb).cell, hb⟩)
      have hb0 := (Below.refl W5.heap.size W5).drew
      clear Bg Bs
      rcases HS2.out with ⟨t, rfl, ht⟩ | rfl
      · clear HS2
        have HT := Lib.hid ht
        clear ht
        go_cut [30] (fun s30 wx => s30 = .bool false ∧ Below W5.heap.size W5 wx)
        case first =>
          refine wp_region_noPanic ?_
          refine wp_region_held_drew (S := fun w' => (∀ i, w'.cell? ⟨w.heap.size, i, none⟩ = #[.int .i64 (g.terms : Int), .int .i64 (g.nons : Int), .int .i64 (g.start : Int), .slice Ag ng cg][i]?) ∧ (∀ i, w'.cell? ⟨bs, i, none⟩ = #[.bool true, .int .i64 (t : Int)][i]?) ∧ Below W5.heap.size W5 w') (by kernel_rfl) (SOF.out _ hb0) (fun hHeld => ?_)
          refine wpAnyH_takeD (i := 0) (d := some 22) (v := ?_) rfl (by kernel_rfl) (by kernel_rfl) (by kernel_rfl) rfl (fun _ _ _ h => h) (Or.inl ⟨by rfl, ?_⟩) (by assumption) ?_
          rotate_left
          · intro w hSw; (try dsimp only at hSw); go_simp; try with_reducible rfl
          simp only [Act.put, List.setIfInBounds_toArray, List.set_cons_zero, List.set_cons_succ]
          refine wpAnyH_takeD (i := 1) (d := some 23) (v := ?_) rfl (by kernel_rfl) (by kernel_rfl) (by kernel_rfl) rfl (fun _ _ _ h => h) (Or.inl ⟨by rfl, ?_⟩) (by assumption) ?_
          rotate_left
          · intro w hSw; (try dsimp only at hSw); go_simp; try with_reducible rfl
          simp only [Act.put, List.setIfInBounds_toArray, List.set_cons_zero, List.set_cons_succ]
          refine wpAnyH_ready (rs := [2]) (by kernel_rfl) (by simp) ?_
          refine AllReadyH.cons rfl (fun K hK => ?_) AllReadyH.nil
          go_simp
          go_at_call 39
          refine (has_t g Ag ng cg t _ HT.out).mono ?_
          rintro ee wn ⟨rfl, hbn⟩
          have hbm : Below W5.heap.size W5 wn := Below.via (by assumption) hbn
          go_wp2_with fail
          refine hK.out _ _ (SOF.out _ hbm) (fun hHeld2 => ?_)
          clear hK K hHeld
          refine wpAnyH_takeD (i := 3) (d := some 25) (v := ?_) rfl (by kernel_rfl) (by kernel_rfl) (by kernel_rfl) rfl (fun _ _ _ h => h) (Or.inl ⟨by rfl, ?_⟩) (by assumption) ?_
          rotate_left
          · intro w hSw; (try dsimp only at hSw); go_simp; try with_reducible rfl
          simp only [Act.put, List.setIfInBounds_toArray, List.set_cons_zero, List.set_cons_succ]
          refine wpAnyH_takeD (i := 4) (d := some 26) (v := ?_) rfl (by kernel_rfl) (by kernel_rfl) (by kernel_rfl) rfl (fun _ _ _ h => h) (Or.inl ⟨by rfl, ?_⟩) (by assumption) ?_
          rotate_left
          · intro w hSw; (try dsimp only at hSw); go_simp; try with_reducible rfl
          simp only [Act.put, List.setIfInBounds_toArray, List.set_cons_zero, List.set_cons_succ]
          refine wpAnyH_takeD (i := 5) (d := some 27) (v := undef) rfl (by kernel_rfl) (by kernel_rfl) (by kernel_rfl) rfl (fun _ _ _ h => h) (Or.inr ⟨by rfl, rfl⟩) (by assumption) ?_
          simp only [Act.put, List.setIfInBounds_toArray, List.set_cons_zero, List.set_cons_succ]
          refine wpAnyH_takeD (i := 6) (d := some 28) (v := undef) rfl (by kernel_rfl) (by kernel_rfl) (by kernel_rfl) rfl (fun _ _ _ h => h) (Or.inr ⟨by rfl, rfl⟩) (by assumption) ?_
          simp only [Act.put, List.setIfInBounds_toArray, List.set_cons_zero, List.set_cons_succ]
          refine wpAnyH_takeD (i := 7) (d := some 29) (v := undef) rfl (by kernel_rfl) (by kernel_rfl) (by kernel_rfl) rfl (fun _ _ _ h => h) (Or.inr ⟨by rfl, rfl⟩) (by assumption) ?_
          simp only [Act.put, List.setIfInBounds_toArray, List.set_cons_zero, List.set_cons_succ]
          refine wpAnyH_takeD (i := 8) (d := some 30) (v := ?_) rfl (by kernel_rfl) (by kernel_rfl) (by kernel_rfl) rfl (fun _ _ _ h => h) (Or.inl ⟨by rfl, ?_⟩) (by assumption) ?_
          rotate_left
          · intro w hSw; (try dsimp only at hSw); go_simp; try with_reducible rfl
          simp only [Act.put, List.setIfInBounds_toArray, List.set_cons_zero, List.set_cons_succ]
          refine wpAnyH_done (by kernel_rfl) ?_ _
          refine NoPanic.normal ?_
          go_wp2_with fail
          go_meet
          exact ⟨rfl, hbm⟩
        case rest =>
          obtain ⟨rfl, hcb⟩ := hcut
          have HBM := Lib.hid (HBW.out.via hcb)
          clear SOF hb0 hcb HBW
          go_wp2_with fail
          exact ⟨⟨k + 1, by go_num, by omega, HBM.out⟩, by simp [intOf]; omega⟩
      · clear HS2
        go_region_held3 (fun w' => (∀ i, w'.cell? ⟨w.heap.size, i, none⟩ = #[.int .i64 (g.terms : Int), .int .i64 (g.nons : Int), .int .i64 (g.start : Int), .slice Ag ng cg][i]?) ∧ (∀ i, w'.cell? ⟨bs, i, none⟩ = #[.bool true, .int .i64 (-1)][i]?) ∧ Below W5.heap.size W5 w') (exact SOF.out _ (by assumption)) (first
          | (go_at_call 39; (with_reducible refine (has_a g Ag ng cg _).mono ?_); rintro ee wn ⟨rfl, hbn⟩; have hbm : Below W5.heap.size W5 wn := Below.via (by assumption) hbn)
          | (go_at_call 40; (with_reducible refine (gT_c _ _).mono ?_); rintro ee wz ⟨rfl, hbk⟩; have hbz : Below W5.heap.size W5 wz := Below.via (by assumption) hbk))
        have HBM := Lib.hid (HBW.out.via hbz)
        clear SOF hb0 hbm hbn hbz hbk HBW
        go_wp2_with fail
        exact ⟨⟨k + 1, by go_num, by omega, HBM.out⟩, by simp [intOf]; omega⟩
    · have HBM := Lib.hid (HB1.out.trans (hbw.mono HB1.out.size))
      clear hbw
      go_wp2_with fail
      go_ret
      exact ⟨rfl, HBM.out⟩

/-! ### hole.Fill -/
def FillF (w : World) (g : Gr) (cs : List Ce) (e : Ending) (w' : World) : Prop :=
  ∃ st, GoodH g.rules cs st ∧ FixH g.rules cs st ∧ Below w.heap.size w w' ∧
    ((e = .returned (.tuple #[.slice none 0 0, .int .i64 10]) ∧ (st g.start 0 cs.length).ok = false) ∨
     (∃ A n c, e = .returned (.tuple #[.slice A n c, .int .i64 0]) ∧ (st g.start 0 cs.length).ok = true ∧ Ints w' A n c (st g.start 0 cs.length).w))
end Go.Proofs.Ytdmecijpioljaaa



namespace Go.Proofs.Ytdmecijpioljaaa
open Go.RowKit

theorem list_set_self {α : Type} {l : List α} {i : Nat} {x : α} (h : l[i]? = some x) : l.set i x = l := by
  obtain ⟨hi, rfl⟩ := List.getElem?_eq_some_iff.1 h
  exact List.set_getElem_self hi
def CanDo (g : Gr) (cs : List Ce) : Prop := ∃ v, Ms g.rules [(false, g.start)] cs v
theorem canDo_iff {g : Gr} {cs : List Ce} {st : WSt} (h1 : GoodH g.rules cs st) (h2 : FixH g.rules cs st) : (st g.start 0 cs.length).ok = true ↔ CanDo g cs := by
  constructor
  · intro h
    obtain ⟨_, _, _, v, h3, _⟩ := h1.snd g.start 0 cs.length h
    rw [gpart_all] at h3
    exact ⟨v, h3⟩
  · rintro ⟨v, h⟩; exact h2.least h
def MayP (w : World) (g : Gr) (cs : List Ce) (i : Nat) (e : Ending) (w' : World) : Prop :=
  ∃ (A : Option Addr) (c : Nat) (bs : List Bool), e = .returned (.tuple #[.slice A g.terms c, .int .i64 0]) ∧ Sl BoE (fun x => w.heap.size ≤ x) w' A g.terms c bs ∧ (∀ (j : Nat) (b : Bool), bs[j]? = some b → (b = true ↔ CanDo g (cs.set i (true, (j : Int))))) ∧ Below w.heap.size w w'
end Go.Proofs.Ytdmecijpioljaaa




namespace Go.Proofs.Ytdmecijpioljaaa
open Go.RowKit

def IdxBP (w : World) (xs : List Bool) (v : Bool) (e : Ending) (w' : World) : Prop := ∃ r : Int, e = .returned (.int .i64 r) ∧ (0 ≤ r ↔ v ∈ xs) ∧ w' = w
set_option maxRecDepth 100000 in
set_option maxHeartbeats 1000000 in
theorem indexBo_c (A : Option Addr) (n c : Nat) (xs : List Bool) (v : Bool) (w : World) (ok : Nat → Prop) (h : Sl BoE ok w A n c xs) (hn : n ≤ 1000000) :
    Calls Try.prog 50 #[.slice A n c, .bool v] w (IdxBP w xs v) := by
  have H := Lib.hid h
  clear h
  go_enter Try.func50, Try.ntmps50
  go_wp2_with fail
  go_loopw [8] (fun i wr => ∃ k : Nat, i = .int .i64 k ∧ k ≤ n ∧ Hid (∀ j, j < k → xs[j]? ≠ some v) ∧ wr = w) (fun i _ => n - (intOf i).toNat)
  case atStart => exact ⟨0, rfl, Nat.zero_le _, Lib.hid (fun j h => by omega), rfl⟩
  case round =>
    obtain ⟨k, rfl, hk, HN, rfl⟩ := hrel
    by_cases hkn : k < n
    · obtain ⟨b1, o1, x, x', rfl, -, hb1, hy, hxy, hc⟩ := H.out.at_ hkn
      obtain rfl : x = x' := hxy
      have hx := hc 0 _ rfl
      simp only [BoE, Nat.mul_one, Nat.add_zero] at hx
      have i0 : (0 : Int) ≤ (k : Int) := by omega
      have i1 : (k : Int) < (n : Int) := by omega
      have HX := Lib.hid hy
      clear hy hc
      by_cases e : v = x
      · have he : (v == x) = true := by simpa using e
        have HE := Lib.hid e
        clear e
        go_wp2_with fail
        go_ret
        refine ⟨k, rfl, ⟨fun _ => ?_, fun _ => by omega⟩, rfl⟩
        rw [HE.out]
        exact List.mem_of_getElem? HX.out
      · have he : (v == x) = false := by simpa using e
        have HE := Lib.hid e
        clear e
        go_wp2_with fail
        refine ⟨⟨k + 1, by go_num, by omega, Lib.hid fun j hj => ?_, by trivial⟩, by simp [intOf]; omega⟩
        by_cases e2 : j = k
        · rw [e2, HX.out]; exact fun h => HE.out (Option.some.inj h).symm
        · exact HN.out j (by omega)
    · go_wp2_with fail
      go_ret
      refine ⟨-1, rfl, ⟨fun h => by omega, fun h => ?_⟩, rfl⟩
      exfalso
      obtain ⟨j, hj, e⟩ := List.getElem_of_mem h
      have hl := H.out.len
      refine HN.out j (by omega) ?_
      rw [List.getElem?_eq_getElem hj, e]
set_option maxRecDepth 100000 in
set_option maxHeartbeats 1000000 in
theorem containsBo_c (A : Option Addr) (n c : Nat) (xs : List Bool) (v : Bool) (w : World) (ok : Nat → Prop) (h : Sl BoE ok w A n c xs) (hn : n ≤ 1000000) :
    Calls Try.prog 29 #[.slice A n c, .bool v] w fun e w' => e = .returned (.bool (decide (v ∈ xs))) ∧ w' = w := by
  have H := Lib.hid h
  clear h
  go_enter Try.func29, Try.ntmps29
  go_wp2_with fail
  refine (indexBo_c A n c xs v w ok H.out hn).mono ?_
  rintro e w' ⟨r, rfl, hr, rfl⟩
  have HR := Lib.hid hr
  clear hr
  go_wp2_with fail
  go_ret
  refine ⟨?_, rfl⟩
  rw [show decide (v ∈ xs) = decide (0 ≤ r) from decide_eq_decide.2 HR.out.symm]
  rfl


def TermsP (w : World) (n : Nat) (xs : List Int) (e : Ending) (w' : World) : Prop :=
  ∃ B d, e = .returned (.slice B n d) ∧ Own CeE 45 (fun _ => False) w' w.heap.size (.slice B n d) n (xs.map fun x => (true, x)) ∧ Below w.heap.size w w'
set_option maxRecDepth 100000 in
set_option maxHeartbeats 2000000 in
theorem terminals_c (A : Option Addr) (n c : Nat) (xs : List Int) (w : World) (h : Ints w A n c xs) (hn : n ≤ 100000) :
    Calls Try.prog 9 #[.slice A n c] w (TermsP w n xs) := by
  have H := Lib.hid h
  have hl := h.len
  have HL := Lib.hid hl
  clear h hl
  go_enter Try.func9, Try.ntmps9
  go_wp2_with fail
  go_loopw [3, 8] (fun a q wr => ∃ (k : Nat) (Ab : Option Addr) (cb : Nat), q = .int .i64 k ∧ k ≤ n ∧ a = .slice Ab k cb ∧ Own CeE 45 (fun _ => False) wr w.heap.size (.slice Ab k cb) k ((xs.take k).map fun x => (true, x)) ∧ Below w.heap.size w wr) (fun _ q _ => n - (intOf q).toNat)
  case atStart => exact ⟨0, none, 0, rfl, Nat.zero_le _, rfl, Own.nil _ _, Below.refl _ _⟩
  case round =>
    obtain ⟨k, Ab, cb, rfl, hk, rfl, how, hbe⟩ := hrel
    by_cases hkn : k < n
    · obtain ⟨b, off, hA, hb, hx⟩ := (H.out.keep hbe (Nat.le_refl _)).at_ hkn
      have HS := Lib.hid (take_snoc xs 0 k (by rw [HL.out]; exact hkn))
      subst hA
      generalize xs.getD k 0 = x at *
      have i0 : (0 : Int) ≤ (k : Int) := by omega
      have i1 : (k : Int) < (n : Int) := by omega
      have HOW := Lib.hid (how.al (.cells #[.bool true, .int .i64 x] 45))
      have HBE := Lib.hid (hbe.al (.cells #[.bool true, .int .i64 x] 45))
      have Bn := Blk.new wr 45 #[.bool true, .int .i64 x]
      have hws := hbe.size
      clear how hbe
      go_wp2_with (at_builtin; refine wpList_append_ce _ rfl (.tmp 12) (.tmp 15) rfl w.heap.size (.slice Ab k cb) k _ rfl HOW.out wr.heap.size (true, x) rfl ((Bn.cell 0).trans rfl) ((Bn.cell 1).trans rfl) (by omega) (by simp; omega) ?_; intro A' c' w7 ho1 hg1 ha1)
      have HOW7 := Lib.hid (show Own CeE 45 (fun _ => False) w7 w.heap.size (.slice A' (k + 1) c') (k + 1) ((xs.take (k + 1)).map fun x => (true, x)) by
        rw [HS.out, List.map_append]; exact ho1)
      have HBE7 := Lib.hid (HBE.out.grown hg1 (by simp; omega) fun j e => (HOW.out.lt j e).1)
      clear ho1 hg1 ha1 Bn HOW HBE
      exact ⟨⟨k + 1, A', c', by go_num, by omega, rfl, HOW7.out, HBE7.out⟩, by simp [intOf]; omega⟩
    · obtain rfl : k = n := by omega
      have HF := Lib.hid (show Own CeE 45 (fun _ => False) wr w.heap.size (.slice Ab k cb) k (xs.map fun x => (true, x)) by
        rw [List.take_of_length_le (by rw [HL.out]; exact Nat.le_refl _)] at how; exact how)
      have HBE := Lib.hid hbe
      clear how hbe
      go_wp2_with fail
      go_ret
      exact ⟨_, _, rfl, HF.out, HBE.out⟩
end Go.Proofs.Ytdmecijpioljaaa

