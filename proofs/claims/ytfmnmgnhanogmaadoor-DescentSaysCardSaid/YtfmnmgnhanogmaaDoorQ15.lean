/- Texts IH, IK, BD, LM, laid together. -/
import Derived.Test.YtfmnmgnhanogmaaDoorQ14
import Derived.Test.YtfmnmgnhanogmaaDoorQ6
import Derived.Test.YtfmnmgnhanogmaaDoorQ12
import Derived.Test.YtfmnmgnhanogmaaDoorQ3
import Derived.Test.YtfmnmgnhanogmaaDoorQ10



namespace Go.Proofs.YtfmnmgnhanogmaaDoor
open Go.RowKit

theorem Sl.upS {ok : Nat → Prop} {w : World} {A : Option Addr} {n c : Nat} {l : List Sy} (h : Sl SyE ok w A n c l) : Sl SiE ok w A n c (l.map embS) := by
  obtain ⟨h1, h2, raw, h3, h4, h5⟩ := h
  have e : raw = l := List.ext_getElem (by omega) fun i a b => h5 i _ _ (List.getElem?_eq_getElem a) (List.getElem?_eq_getElem b)
  subst e
  refine ⟨by simpa using h1, h2, raw.map embS, by simpa using h3, ?_, fun i r x hr hx => by rw [hr] at hx; exact Option.some.inj hx⟩
  have : flat SiE (raw.map embS) = flat SyE raw := by
    unfold flat
    rw [List.flatMap_map]
    rfl
  rw [this]; exact h4
theorem BRowS.setB {w : World} {b s n : Nat} {f : Nat → Bool} {i : Nat} (h : BRowS w b s n f) (hi : i < n) (v : Bool) : BRowS (w.setCell ⟨b, i, none⟩ (.bool v)) b s n (fun j => if j = i then v else f j) := by
  obtain ⟨cs, h1, hs, h2⟩ := h
  refine ⟨_, h1.set_ i (.bool v), by simpa using hs, fun j hj => ?_⟩
  have hil : i < cs.size := by
    have := h2 i hi
    exact (Array.getElem?_eq_some_iff.1 this).1
  rw [Array.getElem?_setIfInBounds]
  by_cases e : i = j
  · subst e; simp [hil]
  · have e' : ¬ j = i := fun q => e q.symm
    simp only [if_neg e, if_neg e']; exact h2 j hj
/-! ### plain -/
def nulStep (es : Nat → Bool) (u : Ru) : Nat → Bool := fun N => if N = u.1 then es u.1 || ofE es u.2 else es N
def nulRound (R : List Ru) (es : Nat → Bool) : Nat → Bool := R.foldl nulStep es
def nulK (R : List Ru) : Nat → Nat → Bool
  | 0 => fun _ => false
  | k + 1 => nulRound R (nulK R k)
theorem nulRound_take {R : List Ru} {es : Nat → Bool} {k : Nat} {u : Ru} (h : R[k]? = some u) : nulRound (R.take (k + 1)) es = nulStep (nulRound (R.take k) es) u := by
  have h1 := List.getElem?_eq_some_iff.1 h
  unfold nulRound
  rw [List.take_succ_eq_append_getElem h1.1, h1.2, List.foldl_append]; rfl
theorem ofE_any (es : Nat → Bool) : ∀ l : List Sy, (l.map embS).any (fun c => c.1 || !es c.2.toNat) = !ofE es l
  | [] => rfl
  | (true, k) :: l => by simp [embS, ofE]
  | (false, M) :: l => by
    have := ofE_any es l
    simp only [List.map_cons, List.any_cons, embS, Bool.false_or, ofE, Bool.not_and] at this ⊢
    rw [this]
    simp
/-! ### the walk -/
theorem null1_c (bx bo n s : Nat) (es : Nat → Bool) (y : Sy) (hy : y.1 = false → y.2 < n) (w : World) (hx : Blk w bx 59 #[.slice (some ⟨bo, 0, none⟩) n n]) (hr : BRowS w bo s n es) :
    Calls Tryd.prog 63 (#[siVal (embS y)] ++ #[.pointer (some ⟨bx, 0, none⟩)]) w fun e w' => e = .returned (.bool (y.1 || !es y.2)) ∧ Below w.heap.size w w' := by
  obtain ⟨b, M⟩ := y
  simp only [siVal, embS]
  cases b with
  | true =>
    have chx := hx.cell
    have fhx := hx.frozen
    have lhx := hx.lt
    go_enter Tryd.func63, Tryd.ntmps63
    go_wp2_with fail
    go_ret
    exact ⟨rfl, (Below.refl _ _).al _⟩
  | false =>
    have hM := hy rfl
    simp only at hM
    have c0 := hr.cell hM
    have hbl := hr.lt
    have i0 : (0 : Int) ≤ (M : Int) := by omega
    have i1 : (M : Int) < (n : Int) := by omega
    cases hv : es M <;>
    · rw [hv] at c0
      have chx := hx.cell
      have fhx := hx.frozen
      have lhx := hx.lt
      go_enter Tryd.func63, Tryd.ntmps63
      go_wp2_with fail
      go_ret
      exact ⟨rfl, (Below.refl _ _).al _⟩
structure NuR (w : World) (g : Gr) (Ag : Option Addr) (ng cg : Nat) (es : Nat → Bool) (wr : World) : Prop where
  hg : Blk wr w.heap.size 24 (gCells g Ag ng cg)
  row : BRow wr (w.heap.size + 1) g.nons es
  bx : Blk wr (w.heap.size + 1 + 1) 59 #[.slice (some ⟨w.heap.size + 1, 0, none⟩) g.nons g.nons]
  bel : Below w.heap.size w wr
theorem NuR.via {w wr wa : World} {g : Gr} {Ag : Option Addr} {ng cg : Nat} {es : Nat → Bool} (h : NuR w g Ag ng cg es wr) (hb : Below wr.heap.size wr wa) : NuR w g Ag ng cg es wa :=
  ⟨h.hg.via hb, h.row.via hb, h.bx.via hb, h.bel.trans (hb.mono h.bel.size)⟩
theorem NuR.put {w wr : World} {g : Gr} {Ag : Option Addr} {ng cg : Nat} {es : Nat → Bool} {u : Ru} (h : NuR w g Ag ng cg es wr) (hn : u.1 < g.nons) : NuR w g Ag ng cg (nulStep es u) (wr.setCell ⟨w.heap.size + 1, u.1, none⟩ (.bool (es u.1 || ofE es u.2))) :=
  ⟨h.hg.far (by simp) _, h.row.setB hn _, h.bx.far (by simp) _, h.bel.setCell (by simp) _⟩
def NulP (w : World) (g : Gr) (e : Ending) (w' : World) : Prop :=
  ∃ b, e = .returned (.slice (some ⟨b, 0, none⟩) g.nons g.nons) ∧ BRow w' b g.nons (nulK g.rules g.nons) ∧ w.heap.size ≤ b ∧ Below w.heap.size w w'
set_option maxRecDepth 100000 in
set_option maxHeartbeats 8000000 in
theorem rnull_c (ok : Nat → Prop) (g : Gr) (Ag : Option Addr) (ng cg : Nat) (w : World) (hg : GrOk g) (hl : Sl RuE ok w Ag ng cg g.rules) :
    Calls Tryd.prog 35 #[grVal g Ag ng cg] w (NulP w g) := by
  have hn1 := hg.ok.nons.1
  have hn10 := hg.ok.nons.2
  have hlen := hl.len
  have hng32 : ng ≤ 32 := by have := hg.ok.count; omega
  have B0 := Blk.new w 24 (gCells g Ag ng cg)
  have hB0 := (Below.refl w.heap.size w).al (.cells (gCells g Ag ng cg) 24)
  have HGO := Lib.hid hg
  have HL := Lib.hid hl
  have hmb := mk_bools g.nons (by omega)
  have hmf : ∀ (fn : Fn) (first cap : Array Value) (w : World), (Instr.makeFunc fn first cap).run Tryd.prog w = .ok (.func fn first cap) w := fun _ _ _ _ => rfl
  simp only [grVal]
  clear hg hl
  go_enter Tryd.func35, Tryd.ntmps35
  have e0 : (Obj.cells #[.int .i64 (g.terms : Int), .int .i64 (g.nons : Int), .int .i64 (g.start : Int), .slice Ag ng cg] 24) = .cells (gCells g Ag ng cg) 24 := rfl
  go_upto_region 1 with fail
  have hW0 : (w.alloc (.cells (gCells g Ag ng cg) 24)).heap.size = w.heap.size + 1 := by simp
  clear e0
  generalize w.alloc (.cells (gCells g Ag ng cg) 24) = W0 at *
  have cB := B0.cell
  simp only [gCells] at cB
  have fB := B0.frozen
  go_upto_region 2 with fail
  have hal0 := ((Below.refl W0.heap.size W0).al (.cells (mkCells (.bool false) g.nons) 4)).al (.cells #[.slice (some ⟨w.heap.size + 1, 0, none⟩) g.nons g.nons] 59)
  have BX1 := Blk.newAt (W0.alloc (.cells (mkCells (.bool false) g.nons) 4)) 59 #[.slice (some ⟨w.heap.size + 1, 0, none⟩) g.nons g.nons] (w.heap.size + 1 + 1) (by simp [hW0])
  have BR1 := (BRow.new W0 g.nons).al (.cells #[.slice (some ⟨w.heap.size + 1, 0, none⟩) g.nons g.nons] 59)
  rw [hW0] at BR1
  have HN := Lib.hid (show NuR w g Ag ng cg (nulK g.rules 0) ((W0.alloc (.cells (mkCells (.bool false) g.nons) 4)).alloc (.cells #[.slice (some ⟨w.heap.size + 1, 0, none⟩) g.nons g.nons] 59)) from
    ⟨B0.via hal0, BR1, BX1, hB0.trans (hal0.mono (by omega))⟩)
  clear hal0 BX1 BR1 B0 hB0 cB fB hmb

  generalize (W0.alloc (.cells (mkCells (.bool false) g.nons) 4)).alloc (.cells #[.slice (some ⟨w.heap.size + 1, 0, none⟩) g.nons g.nons] 59) = W at *
  clear hW0
  have BG := HN.out.hg
  simp only [gCells] at BG
  have cBG := BG.cell
  have fBG := BG.frozen
  have lBG := BG.lt
  go_wp2_with fail
  clear cBG fBG lBG
  clear BG
  go_loopw [11] (fun a wr => ∃ r : Nat, a = .int .i64 r ∧ r ≤ g.nons ∧ Hid (NuR w g Ag ng cg (nulK g.rules r) wr)) (fun a _ => g.nons - (intOf a).toNat)
  case atStart => exact ⟨0, rfl, Nat.zero_le _, HN⟩
  case round =>
    obtain ⟨r, rfl, hr, HR⟩ := hrel
    clear HN
    by_cases hrn : r < g.nons
    · have q0 : (0 : Int) ≤ (r : Int) := by omega
      have q1 : (r : Int) < (g.nons : Int) := by omega
      have BG := HR.out.hg
      simp only [gCells] at BG
      have cBG := BG.cell
      have fBG := BG.frozen
      have lBG := BG.lt
      go_wp2_with fail
      clear cBG fBG lBG
      clear BG
      go_loopw [16] (fun a wr => ∃ i : Nat, a = .int .i64 i ∧ i ≤ ng ∧ Hid (NuR w g Ag ng cg (nulRound (g.rules.take i) (nulK g.rules r)) wr)) (fun a _ => ng - (intOf a).toNat)
      case atStart => exact ⟨0, rfl, Nat.zero_le _, HR⟩
      case round =>
        obtain ⟨i, rfl, hi, HQ⟩ := hrel
        clear HR
        by_cases hin : i < ng
        · obtain ⟨b1, o1, ⟨sl, sA, sn, sc⟩, ⟨sl', rhs⟩, rfl, -, hbb, hy, ⟨hx1, hx2⟩, hcc⟩ := (HL.out.via HQ.out.bel).at_ hin
          simp only at hx1 hx2
          obtain rfl : sl = sl' := hx1
          have d0 := hcc 0 _ rfl
          have d1 := hcc 1 _ rfl
          simp only [RuE, Nat.add_zero] at d0 d1
          have p0 : (0 : Int) ≤ (i : Int) := by omega
          have p1 : (i : Int) < (ng : Int) := by omega
          have hsl : sl < g.nons := HGO.out.ok.left _ (List.mem_of_getElem? hy)
          have hrt := HGO.out.ok.right _ (List.mem_of_getElem? hy)
          have HRT := Lib.hid hrt
          have HY := Lib.hid hy
          have hal := (Below.refl wr.heap.size wr).al (.cells #[.int .i64 (sl : Int), .slice sA sn sc] 77)
          have BX := Blk.new wr 77 #[.int .i64 (sl : Int), .slice sA sn sc]
          have HX2 := Lib.hid (hx2.via hal)
          have HQ4 := Lib.hid (HQ.out.via hal)
          have hwr : w.heap.size + 1 + 1 < wr.heap.size := HQ.out.bx.lt
          clear hcc hy hx2 hbb hal hrt HQ
          go_upto_region 7 with fail
          clear d0 d1
          have hw4 : wr.heap.size < (wr.alloc (.cells #[.int .i64 (sl : Int), .slice sA sn sc] 77)).heap.size := by simp
          generalize wr.alloc (.cells #[.int .i64 (sl : Int), .slice sA sn sc] 77) = W4 at *
          generalize wr.heap.size = bR at *
          obtain ⟨es, hes⟩ : ∃ es, es = nulRound (g.rules.take i) (nulK g.rules r) := ⟨_, rfl⟩
          rw [← hes] at HQ4
          have HES := Lib.hid hes
          clear hes
          have HS := Lib.hid (show ∀ w', Below W4.heap.size W4 w' → ((∀ x, w'.cell? ⟨w.heap.size + 1 + 1, x, none⟩ = #[.slice (some ⟨w.heap.size + 1, 0, none⟩) g.nons g.nons][x]?) ∧ (∀ x, w'.cell? ⟨bR, x, none⟩ = #[.int .i64 (sl : Int), .slice sA sn sc][x]?) ∧ w'.cell? ⟨w.heap.size + 1, sl, none⟩ = some (.bool (es sl))) from fun w' hb => ⟨(HQ4.out.bx.via hb).cell, (BX.via hb).cell, (HQ4.out.row.via hb).cell hsl⟩)
          have s0 : (0 : Int) ≤ (sl : Int) := by omega
          have s1 : (sl : Int) < (g.nons : Int) := by omega
          have HD := Lib.hid (Below.refl W4.heap.size W4).drew
          have hHeld := HS.out _ HD.out
          have HQD := Lib.hid (HQ4.out.via HD.out)
          have HXD := Lib.hid (HX2.out.via HD.out)
          clear BX HX2 HQ4
          cases hv : es sl with
          | true =>
            rw [hv] at hHeld HS
            refine wp_region_L 16 (fun w' => (∀ x, w'.cell? ⟨w.heap.size + 1 + 1, x, none⟩ = #[.slice (some ⟨w.heap.size + 1, 0, none⟩) g.nons g.nons][x]?) ∧ (∀ x, w'.cell? ⟨bR, x, none⟩ = #[.int .i64 (sl : Int), .slice sA sn sc][x]?) ∧ w'.cell? ⟨w.heap.size + 1, sl, none⟩ = some (.bool true)) (by kernel_rfl) ?_
            generalize W4.drew = W5 at *
            refine wpAnyL.take (i := 0) (d := some 20) (v := ?_) rfl (by kernel_rfl) (by kernel_rfl) (by kernel_rfl) (by kernel_rfl) rfl (fun _ _ _ h => h) (Or.inl ⟨by rfl, ?_⟩) (by assumption) ?_
            rotate_left
            · intro w hSw; (try dsimp only at hSw); go_simp; try with_reducible rfl
            simp only [Act.put, List.setIfInBounds_toArray, List.set_cons_zero, List.set_cons_succ]
            refine wpAnyL.take (i := 1) (d := some 21) (v := ?_) rfl (by kernel_rfl) (by kernel_rfl) (by kernel_rfl) (by kernel_rfl) rfl (fun _ _ _ h => h) (Or.inl ⟨by rfl, ?_⟩) (by assumption) ?_
            rotate_left
            · intro w hSw; (try dsimp only at hSw); go_simp; try with_reducible rfl
            simp only [Act.put, List.setIfInBounds_toArray, List.set_cons_zero, List.set_cons_succ]
            refine wpAnyL.take (i := 2) (d := some 22) (v := ?_) rfl (by kernel_rfl) (by kernel_rfl) (by kernel_rfl) (by kernel_rfl) rfl (fun _ _ _ h => h) (Or.inl ⟨by rfl, ?_⟩) (by assumption) ?_
            rotate_left
            · intro w hSw; (try dsimp only at hSw); go_simp; try with_reducible rfl
            simp only [Act.put, List.setIfInBounds_toArray, List.set_cons_zero, List.set_cons_succ]
            refine wpAnyL.take (i := 3) (d := some 23) (v := ?_) rfl (by kernel_rfl) (by kernel_rfl) (by kernel_rfl) (by kernel_rfl) rfl (fun _ _ _ h => h) (Or.inl ⟨by rfl, ?_⟩) (by assumption) ?_
            rotate_left
            · intro w hSw; (try dsimp only at hSw); go_simp; try with_reducible rfl
            simp only [Act.put, List.setIfInBounds_toArray, List.set_cons_zero, List.set_cons_succ]
            refine wpAnyL.take (i := 4) (d := some 24) (v := ?_) rfl (by kernel_rfl) (by kernel_rfl) (by kernel_rfl) (by kernel_rfl) rfl (fun _ _ _ h => h) (Or.inl ⟨by rfl, ?_⟩) (by assumption) ?_
            rotate_left
            · intro w hSw; (try dsimp only at hSw); go_simp; try with_reducible rfl
            simp only [Act.put, List.setIfInBounds_toArray, List.set_cons_zero, List.set_cons_succ]
            refine wpAnyL.take (i := 5) (d := some 25) (v := ?_) rfl (by kernel_rfl) (by kernel_rfl) (by kernel_rfl) (by kernel_rfl) rfl (fun _ _ _ h => h) (Or.inl ⟨by rfl, ?_⟩) (by assumption) ?_
            rotate_left
            · intro w hSw; (try dsimp only at hSw); go_simp; try with_reducible rfl
            simp only [Act.put, List.setIfInBounds_toArray, List.set_cons_zero, List.set_cons_succ]
            refine wpAnyL.take (i := 6) (d := some 26) (v := ?_) rfl (by kernel_rfl) (by kernel_rfl) (by kernel_rfl) (by kernel_rfl) rfl (fun _ _ _ h => h) (Or.inl ⟨by rfl, ?_⟩) (by assumption) ?_
            rotate_left
            · intro w hSw; (try dsimp only at hSw); go_simp; try with_reducible rfl
            simp only [Act.put, List.setIfInBounds_toArray, List.set_cons_zero, List.set_cons_succ]
            refine wpAnyL.take (i := 7) (d := some 27) (v := ?_) rfl (by kernel_rfl) (by kernel_rfl) (by kernel_rfl) (by kernel_rfl) rfl (fun _ _ _ h => h) (Or.inl ⟨by rfl, ?_⟩) (by assumption) ?_
            rotate_left
            · intro w hSw; (try dsimp only at hSw); go_simp; try with_reducible rfl
            simp only [Act.put, List.setIfInBounds_toArray, List.set_cons_zero, List.set_cons_succ]
            refine wpAnyL.take (i := 8) (d := some 28) (v := ?_) rfl (by kernel_rfl) (by kernel_rfl) (by kernel_rfl) (by kernel_rfl) rfl (fun _ _ _ h => h) (Or.inl ⟨by rfl, ?_⟩) (by assumption) ?_
            rotate_left
            · intro w hSw; (try dsimp only at hSw); go_simp; try with_reducible rfl
            simp only [Act.put, List.setIfInBounds_toArray, List.set_cons_zero, List.set_cons_succ]
            refine wpAnyL.take (i := 9) (d := some 29) (v := undef) rfl (by kernel_rfl) (by kernel_rfl) (by kernel_rfl) (by kernel_rfl) rfl (fun _ _ _ h => h) (Or.inr ⟨by rfl, rfl⟩) (by assumption) ?_
            simp only [Act.put, List.setIfInBounds_toArray, List.set_cons_zero, List.set_cons_succ]
            refine wpAnyL.take (i := 10) (d := some 30) (v := undef) rfl (by kernel_rfl) (by kernel_rfl) (by kernel_rfl) (by kernel_rfl) rfl (fun _ _ _ h => h) (Or.inr ⟨by rfl, rfl⟩) (by assumption) ?_
            simp only [Act.put, List.setIfInBounds_toArray, List.set_cons_zero, List.set_cons_succ]
            refine wpAnyL.take (i := 11) (d := some 31) (v := undef) rfl (by kernel_rfl) (by kernel_rfl) (by kernel_rfl) (by kernel_rfl) rfl (fun _ _ _ h => h) (Or.inr ⟨by rfl, rfl⟩) (by assumption) ?_
            simp only [Act.put, List.setIfInBounds_toArray, List.set_cons_zero, List.set_cons_succ]
            refine wpAnyL.take (i := 12) (d := some 32) (v := undef) rfl (by kernel_rfl) (by kernel_rfl) (by kernel_rfl) (by kernel_rfl) rfl (fun _ _ _ h => h) (Or.inr ⟨by rfl, rfl⟩) (by assumption) ?_
            simp only [Act.put, List.setIfInBounds_toArray, List.set_cons_zero, List.set_cons_succ]
            refine wpAnyL.take (i := 13) (d := some 33) (v := undef) rfl (by kernel_rfl) (by kernel_rfl) (by kernel_rfl) (by kernel_rfl) rfl (fun _ _ _ h => h) (Or.inr ⟨by rfl, rfl⟩) (by assumption) ?_
            simp only [Act.put, List.setIfInBounds_toArray, List.set_cons_zero, List.set_cons_succ]
            refine wpAnyL.take (i := 14) (d := some 34) (v := ?_) rfl (by kernel_rfl) (by kernel_rfl) (by kernel_rfl) (by kernel_rfl) rfl (fun _ _ _ h => h) (Or.inl ⟨by rfl, ?_⟩) (by assumption) ?_
            rotate_left
            · intro w hSw; (try dsimp only at hSw); go_simp; try with_reducible rfl
            simp only [Act.put, List.setIfInBounds_toArray, List.set_cons_zero, List.set_cons_succ]
            refine wpAnyL.take (i := 15) (d := some 35) (v := ?_) rfl (by kernel_rfl) (by kernel_rfl) (by kernel_rfl) (by kernel_rfl) rfl (fun _ _ _ h => h) (Or.inl ⟨by rfl, ?_⟩) (by assumption) ?_
            rotate_left
            · intro w hSw; (try dsimp only at hSw); go_simp; try with_reducible rfl
            simp only [Act.put, List.setIfInBounds_toArray, List.set_cons_zero, List.set_cons_succ]
            refine wpAnyL.ready (rs := [16]) (by kernel_rfl) (by simp) ?_
            refine AllL.cons rfl (fun K hK => ?_) AllL.nil
            have c0 := hHeld.2.2
            have f0 := HQD.out.row.frozen sl
            go_simp
            refine hK.out _ _ (fun h => absurd rfl h) ?_
            clear hK K
            refine wpAnyL.done (by kernel_rfl) ?_ _
            have HP := Lib.hid (HQD.out.put (u := (sl, rhs)) hsl)
            simp only [hv, Bool.true_or] at HP
            clear c0 f0 hHeld
            go_wp2_with fail
            refine ⟨⟨i + 1, by go_num, by omega, ?_⟩, by simp [intOf]; omega⟩
            rw [nulRound_take HY.out, ← HES.out]
            exact HP
          | false =>
            rw [hv] at hHeld HS
            refine wp_region_L 16 (fun w' => (∀ x, w'.cell? ⟨w.heap.size + 1 + 1, x, none⟩ = #[.slice (some ⟨w.heap.size + 1, 0, none⟩) g.nons g.nons][x]?) ∧ (∀ x, w'.cell? ⟨bR, x, none⟩ = #[.int .i64 (sl : Int), .slice sA sn sc][x]?) ∧ w'.cell? ⟨w.heap.size + 1, sl, none⟩ = some (.bool false)) (by kernel_rfl) ?_
            generalize W4.drew = W5 at *
            refine wpAnyL.take (i := 0) (d := some 20) (v := ?_) rfl (by kernel_rfl) (by kernel_rfl) (by kernel_rfl) (by kernel_rfl) rfl (fun _ _ _ h => h) (Or.inl ⟨by rfl, ?_⟩) (by assumption) ?_
            rotate_left
            · intro w hSw; (try dsimp only at hSw); go_simp; try with_reducible rfl
            simp only [Act.put, List.setIfInBounds_toArray, List.set_cons_zero, List.set_cons_succ]
            refine wpAnyL.take (i := 1) (d := some 21) (v := ?_) rfl (by kernel_rfl) (by kernel_rfl) (by kernel_rfl) (by kernel_rfl) rfl (fun _ _ _ h => h) (Or.inl ⟨by rfl, ?_⟩) (by assumption) ?_
            rotate_left
            · intro w hSw; (try dsimp only at hSw); go_simp; try with_reducible rfl
            simp only [Act.put, List.setIfInBounds_toArray, List.set_cons_zero, List.set_cons_succ]
            refine wpAnyL.take (i := 2) (d := some 22) (v := ?_) rfl (by kernel_rfl) (by kernel_rfl) (by kernel_rfl) (by kernel_rfl) rfl (fun _ _ _ h => h) (Or.inl ⟨by rfl, ?_⟩) (by assumption) ?_
            rotate_left
            · intro w hSw; (try dsimp only at hSw); go_simp; try with_reducible rfl
            simp only [Act.put, List.setIfInBounds_toArray, List.set_cons_zero, List.set_cons_succ]
            refine wpAnyL.take (i := 3) (d := some 23) (v := ?_) rfl (by kernel_rfl) (by kernel_rfl) (by kernel_rfl) (by kernel_rfl) rfl (fun _ _ _ h => h) (Or.inl ⟨by rfl, ?_⟩) (by assumption) ?_
            rotate_left
            · intro w hSw; (try dsimp only at hSw); go_simp; try with_reducible rfl
            simp only [Act.put, List.setIfInBounds_toArray, List.set_cons_zero, List.set_cons_succ]
            refine wpAnyL.take (i := 4) (d := some 24) (v := ?_) rfl (by kernel_rfl) (by kernel_rfl) (by kernel_rfl) (by kernel_rfl) rfl (fun _ _ _ h => h) (Or.inl ⟨by rfl, ?_⟩) (by assumption) ?_
            rotate_left
            · intro w hSw; (try dsimp only at hSw); go_simp; try with_reducible rfl
            simp only [Act.put, List.setIfInBounds_toArray, List.set_cons_zero, List.set_cons_succ]
            refine wpAnyL.take (i := 5) (d := some 25) (v := ?_) rfl (by kernel_rfl) (by kernel_rfl) (by kernel_rfl) (by kernel_rfl) rfl (fun _ _ _ h => h) (Or.inl ⟨by rfl, ?_⟩) (by assumption) ?_
            rotate_left
            · intro w hSw; (try dsimp only at hSw); go_simp; try with_reducible rfl
            simp only [Act.put, List.setIfInBounds_toArray, List.set_cons_zero, List.set_cons_succ]
            refine wpAnyL.take (i := 6) (d := some 26) (v := ?_) rfl (by kernel_rfl) (by kernel_rfl) (by kernel_rfl) (by kernel_rfl) rfl (fun _ _ _ h => h) (Or.inl ⟨by rfl, ?_⟩) (by assumption) ?_
            rotate_left
            · intro w hSw; (try dsimp only at hSw); go_simp; try with_reducible rfl
            simp only [Act.put, List.setIfInBounds_toArray, List.set_cons_zero, List.set_cons_succ]
            refine wpAnyL.take (i := 7) (d := some 27) (v := ?_) rfl (by kernel_rfl) (by kernel_rfl) (by kernel_rfl) (by kernel_rfl) rfl (fun _ _ _ h => h) (Or.inl ⟨by rfl, ?_⟩) (by assumption) ?_
            rotate_left
            · intro w hSw; (try dsimp only at hSw); go_simp; try with_reducible rfl
            simp only [Act.put, List.setIfInBounds_toArray, List.set_cons_zero, List.set_cons_succ]
            refine wpAnyL.take (i := 8) (d := some 28) (v := ?_) rfl (by kernel_rfl) (by kernel_rfl) (by kernel_rfl) (by kernel_rfl) rfl (fun _ _ _ h => h) (Or.inl ⟨by rfl, ?_⟩) (by assumption) ?_
            rotate_left
            · intro w hSw; (try dsimp only at hSw); go_simp; try with_reducible rfl
            simp only [Act.put, List.setIfInBounds_toArray, List.set_cons_zero, List.set_cons_succ]
            refine wpAnyL.take (i := 9) (d := some 29) (v := ?_) rfl (by kernel_rfl) (by kernel_rfl) (by kernel_rfl) (by kernel_rfl) rfl (fun _ _ _ h => h) (Or.inl ⟨by rfl, ?_⟩) (by assumption) ?_
            rotate_left
            · intro w hSw; (try dsimp only at hSw); go_simp; try with_reducible rfl
            simp only [Act.put, List.setIfInBounds_toArray, List.set_cons_zero, List.set_cons_succ]
            refine wpAnyL.take (i := 10) (d := some 30) (v := ?_) rfl (by kernel_rfl) (by kernel_rfl) (by kernel_rfl) (by kernel_rfl) rfl (fun _ _ _ h => h) (Or.inl ⟨by rfl, ?_⟩) (by assumption) ?_
            rotate_left
            · intro w hSw; (try dsimp only at hSw); go_simp; try with_reducible rfl
            simp only [Act.put, List.setIfInBounds_toArray, List.set_cons_zero, List.set_cons_succ]
            refine wpAnyL.take (i := 11) (d := some 31) (v := ?_) rfl (by kernel_rfl) (by kernel_rfl) (by kernel_rfl) (by kernel_rfl) rfl (fun _ _ _ h => h) (Or.inl ⟨by rfl, ?_⟩) (by assumption) ?_
            rotate_left
            · intro w hSw; (try dsimp only at hSw); go_simp; try with_reducible rfl
            simp only [Act.put, List.setIfInBounds_toArray, List.set_cons_zero, List.set_cons_succ]
            refine wpAnyL.ready (rs := [12]) (by kernel_rfl) (by simp) ?_
            refine AllL.cons rfl (fun K hK => ?_) AllL.nil
            go_simp
            go_at_call 50
            have hlr : sn = rhs.length := HXD.out.len.symm
            refine (conSi_c 63 (enters_c rfl rfl rfl) #[.pointer (some ⟨w.heap.size + 1 + 1, 0, none⟩)] ok sA sn sc (rhs.map embS) (fun c => c.1 || !es c.2.toNat) W5 HXD.out.upS (by have := HRT.out.1; simp only at this; omega) ?_).mono ?_
            · intro w' rr x hb hx hrx
              obtain ⟨y, hy, rfl⟩ := List.mem_map.1 hx
              have hrr : rr = embS y := hrx
              subst hrr
              have hok := HRT.out.2 y hy
              refine (null1_c (w.heap.size + 1 + 1) (w.heap.size + 1) g.nons g.nons es y (fun h => by simpa [Gr.okSy, h] using hok) w' (HQD.out.bx.via hb) (HQD.out.row.via hb)).mono ?_
              rintro e w'' ⟨rfl, hb2⟩
              exact ⟨by simp [embS], hb2⟩
            · rintro e w6 ⟨rfl, hb6⟩
              rw [ofE_any]
              have HQ6 := Lib.hid (HQD.out.via hb6)
              have hH6 := HS.out w6 (HD.out.via hb6)
              clear hb6 hlr
              go_wp2_with fail
              refine hK.out _ _ (fun _ => hH6) ?_
              clear hK K
              try simp only [Act.put, List.setIfInBounds_toArray, List.set_cons_zero, List.set_cons_succ]
              obtain ⟨bv, hbv⟩ : ∃ bv, bv = ofE es rhs := ⟨_, rfl⟩
              rw [← hbv]
              have HBV := Lib.hid hbv
              clear hbv
              have hnot : ∀ (x : Bool) (w : World), (Op.unary .not (.bool x)).run Tryd.prog w = .ok (.bool (!x)) w := fun _ _ => rfl
              refine wpAnyL.take (i := 13) (d := some 33) (v := ?_) rfl (by kernel_rfl) (by kernel_rfl) (by kernel_rfl) (by kernel_rfl) rfl (fun _ _ _ h => h) (Or.inl ⟨by rfl, ?_⟩) (by assumption) ?_
              rotate_left
              · intro w hSw; (try dsimp only at hSw); go_simp; try with_reducible rfl
              simp only [Act.put, List.setIfInBounds_toArray, List.set_cons_zero, List.set_cons_succ]
              refine wpAnyL.take (i := 14) (d := some 34) (v := ?_) rfl (by kernel_rfl) (by kernel_rfl) (by kernel_rfl) (by kernel_rfl) rfl (fun _ _ _ h => h) (Or.inl ⟨by rfl, ?_⟩) (by assumption) ?_
              rotate_left
              · intro w hSw; (try dsimp only at hSw); go_simp; try with_reducible rfl
              simp only [Act.put, List.setIfInBounds_toArray, List.set_cons_zero, List.set_cons_succ]
              refine wpAnyL.take (i := 15) (d := some 35) (v := ?_) rfl (by kernel_rfl) (by kernel_rfl) (by kernel_rfl) (by kernel_rfl) rfl (fun _ _ _ h => h) (Or.inl ⟨by rfl, ?_⟩) (by assumption) ?_
              rotate_left
              · intro w hSw; (try dsimp only at hSw); go_simp; try with_reducible rfl
              simp only [Act.put, List.setIfInBounds_toArray, List.set_cons_zero, List.set_cons_succ]
              refine wpAnyL.ready (rs := [16]) (by kernel_rfl) (by simp) ?_
              refine AllL.cons rfl (fun K hK => ?_) AllL.nil
              have c0 := hH6.2.2
              have f0 := HQ6.out.row.frozen sl
              go_simp
              refine hK.out _ _ (fun h => absurd rfl h) ?_
              clear hK K
              refine wpAnyL.done (by kernel_rfl) ?_ _
              have HP := Lib.hid (HQ6.out.put (u := (sl, rhs)) hsl)
              simp only [hv, Bool.false_or] at HP
              rw [← HBV.out] at HP
              clear c0 f0 hHeld hH6
              go_wp2_with fail
              refine ⟨⟨i + 1, by go_num, by omega, ?_⟩, by simp [intOf]; omega⟩
              rw [nulRound_take HY.out, ← HES.out]
              exact HP
        · obtain rfl : i = ng := by omega
          go_wp2_with fail
          refine ⟨⟨r + 1, by go_num, by omega, ?_⟩, by simp [intOf]; omega⟩
          have := HQ.out
          rw [List.take_of_length_le (by omega)] at this
          exact Lib.hid this
    · obtain rfl : r = g.nons := by omega
      have BX := HR.out.bx
      have cBX := BX.cell
      have fBX := BX.frozen
      have lBX := BX.lt
      go_wp2_with fail
      go_ret
      exact ⟨_, rfl, HR.out.row, by omega, HR.out.bel⟩
end Go.Proofs.YtfmnmgnhanogmaaDoor




namespace Go.Proofs.YtfmnmgnhanogmaaDoor
open Go.RowKit

section
variable {es : Nat → Bool} {fs : Nat → Nat → Bool}
end
theorem splitL_at {α : Type} {l : List α} {k : Nat} {x : α} (h : l[k]? = some x) : l = l.take k ++ x :: l.drop (k + 1) := by
  obtain ⟨h1, h2⟩ := List.getElem?_eq_some_iff.1 h
  have h3 := List.take_append_drop k l
  rw [List.drop_eq_getElem_cons h1, h2] at h3
  exact h3.symm
end Go.Proofs.YtfmnmgnhanogmaaDoor




namespace Go.Proofs.YtfmnmgnhanogmaaDoor
open Go.RowKit

def intsN (l : List Nat) : List Int := l.map fun i : Nat => (i : Int)
section
variable {D : Ky → Bool} {idx : Ky → Nat} {P : Ky → Prop}
end
end Go.Proofs.YtfmnmgnhanogmaaDoor



namespace Go.Proofs.YtfmnmgnhanogmaaDoor
open Go.RowKit

section
variable {f : Sy → Nat → Option (Option (Tr × Nat))} {l l' : List Sy} {s : Sy} {k k1 k2 : Nat} {ts : List Tr} {t : Tr}
theorem pgL_app (h : pgL f l k = some (some (ts, k1))) : pgL f (l ++ l') k = match pgL f l' k1 with
    | none => none
    | some none => some none
    | some (some (us, k'')) => some (some (ts ++ us, k'')) := by
  induction l generalizing k ts with
  | nil =>
    simp only [pgL, Option.some.injEq, Prod.mk.injEq] at h
    obtain ⟨rfl, rfl⟩ := h
    simp only [List.nil_append]
    split <;> simp_all
  | cons a l ih =>
    simp only [pgL, List.cons_append] at h ⊢
    cases hf : f a k with
    | none => rw [hf] at h; cases h
    | some p =>
      cases p with
      | none => rw [hf] at h; simp at h
      | some q =>
        obtain ⟨x, k'⟩ := q
        rw [hf] at h
        simp only at h ⊢
        cases hl : pgL f l k' with
        | none => rw [hl] at h; cases h
        | some p =>
          cases p with
          | none => rw [hl] at h; simp at h
          | some q =>
            obtain ⟨us, k''⟩ := q
            rw [hl] at h
            simp only [Option.some.injEq, Prod.mk.injEq] at h
            obtain ⟨rfl, rfl⟩ := h
            rw [ih hl]
            cases pgL f l' k'' with
            | none => rfl
            | some p => cases p <;> rfl
theorem pgL_snoc (h : pgL f l k = some (some (ts, k1))) (hs : f s k1 = some (some (t, k2))) : pgL f (l ++ [s]) k = some (some (ts ++ [t], k2)) := by
  rw [pgL_app h]; simp [pgL, hs]
theorem pgL_stop (h : pgL f l k = some (some (ts, k1))) (hs : f s k1 = some none) : pgL f (l ++ s :: l') k = some none := by
  rw [pgL_app h]; simp [pgL, hs]
theorem pgL_deep (h : pgL f l k = some (some (ts, k1))) (hs : f s k1 = none) : pgL f (l ++ s :: l') k = none := by
  rw [pgL_app h]; simp [pgL, hs]
theorem pgC_skip {n i : Nat} {u : Ru} {rs : List Ru} (h : ¬ u.1 = n) : pgC f n k i (u :: rs) = pgC f n k (i + 1) rs := by
  simp only [pgC, if_neg h]
theorem pgC_miss {n i : Nat} {u : Ru} {rs : List Ru} (h : u.1 = n) (hl : pgL f u.2 k = some none) : pgC f n k i (u :: rs) = pgC f n k (i + 1) rs := by
  simp only [pgC, if_pos h, hl]
theorem pgC_hit {n i : Nat} {u : Ru} {rs : List Ru} (h : u.1 = n) (hl : pgL f u.2 k = some (some (ts, k1))) : pgC f n k i (u :: rs) = some (some (.node i ts, k1)) := by
  simp only [pgC, if_pos h, hl]
theorem pgC_deep {n i : Nat} {u : Ru} {rs : List Ru} {r : Option (Tr × Nat)} (h : u.1 = n) (hc : pgC f n k i (u :: rs) = some r) : ∃ x, pgL f u.2 k = some x := by
  simp only [pgC, if_pos h] at hc
  cases hl : pgL f u.2 k with
  | none => rw [hl] at hc; cases hc
  | some x => exact ⟨x, rfl⟩
end
/-! ### no nonterminal begins with itself -/
theorem plus_lt {D : Nat → Nat → Bool} {N : Nat} (hD : ∀ i j, D i j = true → i < N ∧ j < N) {i j : Nat} (h : Plus D i j) : i < N ∧ j < N := by
  induction h with
  | one j h => exact hD i j h
  | more m j _ h2 ih => exact ⟨ih.1, (hD m j h2).2⟩
theorem loops_no {D : Nat → Nat → Bool} {N : Nat} (hD : ∀ i j, D i j = true → i < N ∧ j < N) (h : ∀ n, n < N → wshF D N n n = false) (i : Nat) : ¬ Plus D i i := fun hp => by
  have h1 := h i (plus_lt hD hp).1
  rw [(wshF_all hD i i).2 hp] at h1; cases h1
/-- those with which n begins, rising -/
def lefL (D : Nat → Nat → Bool) (N n : Nat) : List Nat := (List.range N).filter fun k => wshF D N n k
def lefB (D : Nat → Nat → Bool) (N : Nat) : Bool := (List.range N).any fun n => wshF D N n n
theorem lefB_no {D : Nat → Nat → Bool} {N : Nat} (hD : ∀ i j, D i j = true → i < N ∧ j < N) (h : lefB D N = false) (i : Nat) : ¬ Plus D i i :=
  loops_no hD (fun n hn => by
    unfold lefB at h
    rw [List.any_eq_false] at h
    simpa using h n (List.mem_range.2 hn)) i
theorem lefL_has {D : Nat → Nat → Bool} {N n k : Nat} (hk : k < N) : k ∈ lefL D N n ↔ wshF D N n k = true := by
  unfold lefL; rw [List.mem_filter, List.mem_range]; exact ⟨fun h => h.2, fun h => ⟨hk, h⟩⟩
end Go.Proofs.YtfmnmgnhanogmaaDoor

