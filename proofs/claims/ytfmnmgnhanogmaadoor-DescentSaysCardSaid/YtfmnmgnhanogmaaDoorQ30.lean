/- Texts OL, EK, OR, laid together. -/
import Derived.Test.YtfmnmgnhanogmaaDoorQ29
import Derived.Test.YtfmnmgnhanogmaaDoorQ27
import Derived.Test.YtfmnmgnhanogmaaDoorQ17
import Derived.Test.YtfmnmgnhanogmaaDoorQ5
import Derived.Test.YtfmnmgnhanogmaaDoorQ2
import Derived.Test.YtfmnmgnhanogmaaDoorQ22
import Derived.Test.YtfmnmgnhanogmaaDoorQ11





namespace Go.Proofs.YtfmnmgnhanogmaaDoor
open Go.RowKit

theorem pgL_nrw {f : Sy → Nat → Option (Option (Tr × Nat))} (hf : ∀ s k t k', f s k = some (some (t, k')) → t.Nrw) : ∀ (l : List Sy) (k : Nat) (ts : List Tr) (k' : Nat), pgL f l k = some (some (ts, k')) → ts.length = l.length ∧ ∀ t ∈ ts, t.Nrw
  | [], k, ts, k', e => by
    simp only [pgL, Option.some.injEq, Prod.mk.injEq] at e
    obtain ⟨rfl, _⟩ := e
    exact ⟨rfl, fun t h => absurd h List.not_mem_nil⟩
  | s :: l, k, ts, k', e => by
    simp only [pgL] at e
    cases hs : f s k with
    | none => rw [hs] at e; cases e
    | some x =>
      rw [hs] at e
      cases x with
      | none => cases e
      | some p =>
        obtain ⟨t, k1⟩ := p
        simp only at e
        cases hl : pgL f l k1 with
        | none => rw [hl] at e; cases e
        | some y =>
          rw [hl] at e
          cases y with
          | none => cases e
          | some p =>
            obtain ⟨us, k2⟩ := p
            simp only [Option.some.injEq, Prod.mk.injEq] at e
            obtain ⟨rfl, _⟩ := e
            obtain ⟨h1, h2⟩ := pgL_nrw hf l k1 us k2 hl
            refine ⟨by simp [h1], fun z hz => ?_⟩
            rcases List.mem_cons.1 hz with rfl | hz
            · exact hf s k z k1 hs
            · exact h2 z hz
theorem pgC_nrw {f : Sy → Nat → Option (Option (Tr × Nat))} (hf : ∀ s k t k', f s k = some (some (t, k')) → t.Nrw) {n k : Nat} : ∀ (rs : List Ru) (i : Nat) (t : Tr) (k' : Nat), (∀ u ∈ rs, u.2.length ≤ 4) → pgC f n k i rs = some (some (t, k')) → t.Nrw
  | [], i, t, k', _, e => by simp [pgC] at e
  | u :: rs, i, t, k', hR, e => by
    simp only [pgC] at e
    have hR' : ∀ v ∈ rs, v.2.length ≤ 4 := fun v hv => hR v (List.mem_cons_of_mem _ hv)
    by_cases hn : u.1 = n
    · rw [if_pos hn] at e
      cases hl : pgL f u.2 k with
      | none => rw [hl] at e; cases e
      | some y =>
        rw [hl] at e
        cases y with
        | none => exact pgC_nrw hf rs (i + 1) t k' hR' e
        | some p =>
          obtain ⟨us, k2⟩ := p
          simp only [Option.some.injEq, Prod.mk.injEq] at e
          obtain ⟨rfl, _⟩ := e
          obtain ⟨h1, h2⟩ := pgL_nrw hf u.2 k us k2 hl
          have := hR u (List.mem_cons_self ..)
          exact .node i us (by omega) h2
    · rw [if_neg hn] at e; exact pgC_nrw hf rs (i + 1) t k' hR' e
theorem pg_nrw {R : List Ru} {W : List Nat} (hR : ∀ u ∈ R, u.2.length ≤ 4) : ∀ (d : Nat) (s : Sy) (k : Nat) (t : Tr) (k' : Nat), pg R W d s k = some (some (t, k')) → t.Nrw
  | 0, s, k, t, k', e => by simp [pg] at e
  | d + 1, s, k, t, k', e => by
    rw [pg] at e
    by_cases hs : s.1 = true
    · rw [if_pos hs] at e
      by_cases hw : W[k]? = some s.2
      · rw [if_pos hw] at e
        simp only [Option.some.injEq, Prod.mk.injEq] at e
        obtain ⟨rfl, _⟩ := e
        exact .leaf _
      · rw [if_neg hw] at e; cases e
    · rw [if_neg hs] at e
      exact pgC_nrw (pg_nrw hR d) R 0 t k' hR e
/-- what Parse returns: the tree and its end, or why there is none -/
def PkrP (w : World) (g : Gr) (W : List Nat) (e : Ending) (w' : World) : Prop :=
  ∃ (v : TrV) (t : Tr) (m c : Int), e = .returned (.tuple #[trVal v, .int .i64 m, .int .i64 c]) ∧ TreeR (fun b => w.heap.size ≤ b) w' v t ∧ Below w.heap.size w w' ∧
    ((loopB g = true ∧ c = 9 ∧ m = 0 ∧ t = .node 0 []) ∨ (loopB g = false ∧ (∃ d, pg g.rules W d (false, g.start) 0 = some none) ∧ c = 10 ∧ m = 0 ∧ t = .node 0 []) ∨ (loopB g = false ∧ (∃ d e, pg g.rules W d (false, g.start) 0 = some (some (t, e)) ∧ m = (e : Int)) ∧ c = 0))
set_option maxRecDepth 100000 in
set_option maxHeartbeats 8000000 in
theorem ppk_c (ok : Nat → Prop) (g : Gr) (Ag : Option Addr) (ng cg : Nat) (wA : Option Addr) (wc : Nat) (W : List Nat) (w : World) (hg : GrOk g) (hl : Sl RuE ok w Ag ng cg g.rules) (hx : Ints w wA W.length wc (intsN W)) (hW : ∀ a ∈ W, a < g.terms) (hn : W.length ≤ 2000) :
    Calls Tryd.prog 18 #[grVal g Ag ng cg, .slice wA W.length wc] w (PkrP w g W) := by
  have BG := (Blk.new w 24 #[.int .i64 (g.terms : Int), .int .i64 (g.nons : Int), .int .i64 (g.start : Int), .slice Ag ng cg]).al (.cells #[.int .i64 0, .int .i64 0, .slice none 0 0] 34)
  have B4 := Blk.newAt (w.alloc (.cells #[.int .i64 (g.terms : Int), .int .i64 (g.nons : Int), .int .i64 (g.start : Int), .slice Ag ng cg] 24)) 34 #[.int .i64 0, .int .i64 0, .slice none 0 0] (w.heap.size + 1) (by simp)
  have HB := Lib.hid (((Below.refl w.heap.size w).al (.cells #[.int .i64 (g.terms : Int), .int .i64 (g.nons : Int), .int .i64 (g.start : Int), .slice Ag ng cg] 24)).al (.cells #[.int .i64 0, .int .i64 0, .slice none 0 0] 34))
  have HL := Lib.hid ((hl.mono (ok' := fun b => b < w.heap.size) fun b hb _ => hb).via HB.out)
  have HX := Lib.hid (hx.keep HB.out (Nat.le_refl _))
  have HGO := Lib.hid hg
  have HB4 := Lib.hid B4
  have HBG := Lib.hid BG
  have HWZ := Lib.hid (show chkW (g.terms : Int) 2000 (intsN W) = 0 from by
    unfold chkW
    rw [if_neg (by rw [wd_size]; omega), if_neg]
    rw [Bool.not_eq_true, List.any_eq_false]
    intro x hx
    unfold intsN at hx
    obtain ⟨a, ha, rfl⟩ := List.mem_map.1 hx
    have h1 := hW a ha
    have h2 : okT (g.terms : Int) ((a : Nat) : Int) = true := by
      unfold okT
      rw [Bool.and_eq_true]
      exact ⟨decide_eq_true (by omega), decide_eq_true (by omega)⟩
    show ¬ ((!okT (g.terms : Int) ((a : Nat) : Int)) = true)
    rw [h2]; simp)
  simp only [grVal]
  clear hl hx hg hW B4
  go_enter Tryd.func18, Tryd.ntmps18
  have cBG := BG.cell
  have fBG := BG.frozen
  have lBG := BG.lt
  go_wp2_with fail
  clear cBG fBG lBG
  clear BG
  have hsz : ((w.alloc (.cells #[.int .i64 (g.terms : Int), .int .i64 (g.nons : Int), .int .i64 (g.start : Int), .slice Ag ng cg] 24)).alloc (.cells #[.int .i64 0, .int .i64 0, .slice none 0 0] 34)).heap.size = w.heap.size + 2 := by simp
  generalize (w.alloc (.cells #[.int .i64 (g.terms : Int), .int .i64 (g.nons : Int), .int .i64 (g.start : Int), .slice Ag ng cg] 24)).alloc (.cells #[.int .i64 0, .int .i64 0, .slice none 0 0] 34) = W0 at *
  have HF := check_c (fun b => b < w.heap.size) g Ag ng cg W0 HGO.out HL.out
  simp only [grVal] at HF
  refine HF.mono ?_
  clear HF
  rintro e w1 ⟨rfl, hb1⟩
  have HL1 := Lib.hid (HL.out.via hb1)
  have HX1 := Lib.hid (HX.out.keep hb1 (Nat.le_refl _))
  have HB1 := Lib.hid (HB.out.via hb1)
  have HB41 := Lib.hid (HB4.out.via hb1)
  have HBG1 := Lib.hid (HBG.out.via hb1)
  have hs1 : w.heap.size + 2 ≤ w1.heap.size := by have := hb1.size; omega
  clear hb1 HL HX HB HB4 HBG hsz
  have BG := HBG1.out
  have cBG := BG.cell
  have fBG := BG.frozen
  have lBG := BG.lt
  go_wp2_with fail
  clear cBG fBG lBG
  clear BG
  have hcw := wordI_c (g.terms : Int) (g.nons : Int) (g.start : Int) (by have := HGO.out.ok.terms; omega) Ag ng cg wA W.length wc 2000 (intsN W) w1 HX1.out (by omega)
  rw [HWZ.out] at hcw
  refine hcw.mono ?_
  clear hcw
  rintro e w1b ⟨rfl, hb1b⟩
  have HL1b := Lib.hid (HL1.out.via hb1b)
  have HX1b := Lib.hid (HX1.out.keep hb1b (Nat.le_refl _))
  have HB1b := Lib.hid (HB1.out.via hb1b)
  have HB41b := Lib.hid (HB41.out.via hb1b)
  have HBG1b := Lib.hid (HBG1.out.via hb1b)
  have hs1b : w.heap.size + 2 ≤ w1b.heap.size := by have := hb1b.size; omega
  clear hb1b HL1 HX1 HB1 HB41 HBG1 hs1
  have BG := HBG1b.out
  have cBG := BG.cell
  have fBG := BG.frozen
  have lBG := BG.lt
  go_wp2_with fail
  clear cBG fBG lBG
  clear BG
  have HF := loops_c (fun b => b < w.heap.size) g Ag ng cg w1b HGO.out HL1b.out
  simp only [grVal] at HF
  refine HF.mono ?_
  clear HF
  rintro e w2 ⟨rfl, hb2⟩
  have HL2 := Lib.hid (HL1b.out.via hb2)
  have HX2 := Lib.hid (HX1b.out.keep hb2 (Nat.le_refl _))
  have HB2 := Lib.hid (HB1b.out.via hb2)
  have HB42 := Lib.hid (HB41b.out.via hb2)
  have HBG2 := Lib.hid (HBG1b.out.via hb2)
  have hs2 : w.heap.size + 2 ≤ w2.heap.size := by have := hb2.size; omega
  clear hb2 HL1b HX1b HB1b HB41b HBG1b hs1b
  have HNO := Lib.hid (show ∀ c, TreeR (fun b => w.heap.size ≤ b) c (0, 0, none, 0, 0) (.node 0 []) from fun c => TreeR.mk 0 (Sl.nil 0))
  cases hlb : loopB g with
  | true =>
    have HLB := Lib.hid hlb
    have B4 := HB42.out
    clear hlb
    have cB4 := B4.cell
    have fB4 := B4.frozen
    have lB4 := B4.lt
    go_wp2_with fail
    refine bodyPost_ret (v := .tuple #[trVal (0, 0, none, 0, 0), .int .i64 0, .int .i64 9]) (by simp [results, Tryd.results18, go_sem, trVal, cB4]) rfl ⟨_, _, _, _, rfl, HNO.out _, ((HB2.out.setCell (by simp) _).setCell (by simp) _).setCell (by simp) _, Or.inl ⟨HLB.out, rfl, rfl, rfl⟩⟩
  | false =>
    have HLB := Lib.hid hlb
    clear hlb
    have hmm := @run_makeMap Tryd.prog
    have BG := HBG2.out
    have cBG := BG.cell
    have fBG := BG.frozen
    have lBG := BG.lt
    go_upto_region 10 with fail
    clear cBG fBG lBG
    clear hmm BG
    have hal := ((Below.refl w2.heap.size w2).al (.map #[] 0)).al (.cells #[.int .i64 (g.terms : Int), .int .i64 (g.nons : Int), .int .i64 (g.start : Int), .slice Ag ng cg, .slice wA W.length wc, .map (some w2.heap.size)] 96)
    have BPx := Blk.newAt (w2.alloc (.map #[] 0)) 96 #[.int .i64 (g.terms : Int), .int .i64 (g.nons : Int), .int .i64 (g.start : Int), .slice Ag ng cg, .slice wA W.length wc, .map (some w2.heap.size)] (w2.heap.size + 1) (by simp)
    have hmp := (MapK.made w2 Tryd.prog 101 plVal).al (.cells #[.int .i64 (g.terms : Int), .int .i64 (g.nons : Int), .int .i64 (g.start : Int), .slice Ag ng cg, .slice wA W.length wc, .map (some w2.heap.size)] 96)
    have HL3 := Lib.hid (HL2.out.via hal)
    have HX3 := Lib.hid (HX2.out.keep hal (Nat.le_refl _))
    have HB3 := Lib.hid (HB2.out.trans (hal.mono HB2.out.size))
    have HB43 := Lib.hid (HB42.out.via hal)
    have HBG3 := Lib.hid (HBG2.out.via hal)
    have hs3 : w2.heap.size + 2 ≤ ((w2.alloc (.map #[] 0)).alloc (.cells #[.int .i64 (g.terms : Int), .int .i64 (g.nons : Int), .int .i64 (g.start : Int), .slice Ag ng cg, .slice wA W.length wc, .map (some w2.heap.size)] 96)).heap.size := by simp
    generalize (w2.alloc (.map #[] 0)).alloc (.cells #[.int .i64 (g.terms : Int), .int .i64 (g.nons : Int), .int .i64 (g.start : Int), .slice Ag ng cg, .slice wA W.length wc, .map (some w2.heap.size)] 96) = W3 at *
    obtain ⟨bm, hbm⟩ : ∃ bm, bm = w2.heap.size := ⟨_, rfl⟩
    rw [← hbm] at BPx hmp ⊢
    obtain ⟨bp, hbp⟩ : ∃ bp, bp = bm + 1 := ⟨_, rfl⟩
    rw [← hbp] at BPx ⊢
    have hbw : w.heap.size + 2 ≤ bm := by omega
    have HF := Lib.hid (show PaT W3 bp bm g W Ag ng cg wA wc from ⟨HGO.out, hn, BPx, HL3.out.mono fun b _ hb => by have : b < w.heap.size := hb; omega, HX3.out, hmp.lt, by obtain ⟨es, ck, hm, -⟩ := hmp; exact ⟨es, ck, hm⟩⟩)
    have HS3 := Lib.hid (show PaS W3 bm g W (fun _ => False) (fun _ => none) W3 from ⟨fun _ _ _ => rfl, Nat.le_refl _, hmp.ext fun y => rfl, fun b h => h.elim, fun k b h => by cases h⟩)
    clear hal BPx hmp HL2 HX2 HB2 HB42 HBG2 HL3 HX3 hbp
    have BG := HBG3.out
    have cBG := BG.cell
    have fBG := BG.frozen
    have lBG := BG.lt
    go_wp2_with fail
    clear cBG fBG lBG
    clear BG
    obtain ⟨d, r, hdr⟩ := pg_ex (R := g.rules) (W := W) (begD_lt HGO.out.ok) (fun i j hb => (begD_iff _ _ _).2 hb) (lefB_no (begD_lt HGO.out.ok) HLB.out) W.length 0 (Nat.zero_le _) (Nat.le_refl _) (false, g.start)
    have hst := HGO.out.ok.start
    have HDR := Lib.hid hdr
    have HPP := pparse_c W3 bp bm g W Ag ng cg wA wc HF.out d (psym_n W3 bp bm g W Ag ng cg wA wc HF.out d) g.start 0 r (fun _ => False) (fun _ => none) W3 (pg_succ d _ _ _ hdr) hst (Nat.zero_le _) HS3.out
    clear hdr
    refine HPP.mono ?_
    clear HPP
    rintro e w4 ⟨q, G', M', rfl, -, -, -, hres, hgr⟩
    have HRS := Lib.hid hres
    have HB4 := Lib.hid (HB3.out.grown hgr HB3.out.size (fun q e => by have := Option.some.inj e; omega))
    have HB44 := Lib.hid (HB43.out.grown hgr (fun e => by have := Option.some.inj e; omega))
    clear hres hgr HB3 HB43 HBG3 HS3 HF
    cases r with
    | none =>
      cases q with
      | some x => exact HRS.out.elim
      | none =>
        simp only [resV]
        have hal := (Below.refl w4.heap.size w4).al (.cells #[.pointer none, .int .i64 (-1)] 98)
        have HB5 := Lib.hid (HB4.out.trans (hal.mono HB4.out.size))
        have B4 := HB44.out.via hal
        have BY := Blk.new w4 98 #[.pointer none, .int .i64 (-1)]
        clear hal HB4 HB44
        go_upto_region 11 with fail
        generalize w4.alloc (.cells #[.pointer none, .int .i64 (-1)] 98) = W5 at *
        have cBY := BY.cell
        have fBY := BY.frozen
        have lBY := BY.lt
        have cB4 := B4.cell
        have fB4 := B4.frozen
        have lB4 := B4.lt
        go_wp2_with fail
        refine bodyPost_ret (v := .tuple #[trVal (0, 0, none, 0, 0), .int .i64 0, .int .i64 10]) (by simp [results, Tryd.results18, go_sem, trVal, cB4]) rfl ⟨_, _, _, _, rfl, HNO.out _, ((HB5.out.setCell (by simp) _).setCell (by simp) _).setCell (by simp) _, Or.inr (Or.inl ⟨HLB.out, ⟨d, HDR.out⟩, rfl, rfl, rfl⟩)⟩
    | some te =>
      obtain ⟨t, e⟩ := te
      cases q with
      | none => exact HRS.out.elim
      | some x =>
        obtain ⟨bq, e'⟩ := x
        obtain ⟨hee, hat⟩ := HRS.out
        obtain rfl : e = e' := hee.symm
        obtain ⟨⟨va, vb, vA, vn, vcc⟩, htr, -, hcv⟩ := hat
        simp only [resV]
        have hal := (Below.refl w4.heap.size w4).al (.cells #[.pointer (some ⟨bq, 0, none⟩), .int .i64 (e : Int)] 98)
        have HB5 := Lib.hid (HB4.out.trans (hal.mono HB4.out.size))
        have HB45 := Lib.hid (HB44.out.via hal)
        have HTR := Lib.hid (htr.via hal)
        have BY := Blk.new w4 98 #[.pointer (some ⟨bq, 0, none⟩), .int .i64 (e : Int)]
        have c0 := (hal.cell (World.block_lt_of_cell? _ _ (hcv 0 _ rfl))).trans (hcv 0 _ rfl)
        have c1 := (hal.cell (World.block_lt_of_cell? _ _ (hcv 1 _ rfl))).trans (hcv 1 _ rfl)
        have c2 := (hal.cell (World.block_lt_of_cell? _ _ (hcv 2 _ rfl))).trans (hcv 2 _ rfl)
        simp only [Nat.zero_add] at c0 c1 c2
        have hd0 : decide ((e : Int) < 0) = false := decide_eq_false (by omega)
        have hb10 : w.heap.size + 1 < w4.heap.size := HB44.out.lt
        clear hal HB4 HB44 htr hcv HRS hee
        go_upto_region 11 with fail
        have hs5 : w4.heap.size < (w4.alloc (.cells #[.pointer (some ⟨bq, 0, none⟩), .int .i64 (e : Int)] 98)).heap.size := by simp
        generalize w4.alloc (.cells #[.pointer (some ⟨bq, 0, none⟩), .int .i64 (e : Int)] 98) = W5 at *
        generalize w4.heap.size = b10 at *
        have HCP := Lib.hid (show ∀ w', Below W5.heap.size W5 w' → Calls Tryd.prog 27 #[.agg #[.int .i64 va, .int .i64 vb, .slice vA vn vcc]] w' (CopyP w' t) from fun w' hb =>
          copyN_n t.size G' (va, vb, vA, vn, vcc) t w' (HTR.out.via hb) (Nat.le_refl _) (pg_nrw (fun u hu => (HGO.out.ok.right u hu).1) d _ _ _ _ HDR.out))
        have B4 := HB45.out
        have cBY := BY.cell
        have fBY := BY.frozen
        have lBY := BY.lt
        go_upto_region 13 with fail
        go_region_with (go_at_call 27; refine (HCP.out _ ((Below.refl W5.heap.size W5).drew)).mono ?_; rintro ee w6 ⟨⟨ua, ub, uA, un, uc⟩, rfl, ht6, hb6⟩; have hbz := (Below.refl W5.heap.size W5).drew.trans hb6; have BY6 := BY.via hbz; have B46 := B4.via hbz; have c6Y := BY6.cell; have f6Y := BY6.frozen; have c64 := B46.cell; have f64 := B46.frozen; dsimp only [trVal])
        all_goals go_wp2_with fail
        all_goals
          refine bodyPost_ret (v := .tuple #[trVal (ua, ub, uA, un, uc), .int .i64 (e : Int), .int .i64 0]) (by simp [results, Tryd.results18, go_sem, trVal, c64]) rfl ⟨_, t, _, _, rfl, ?_, ?_, Or.inr (Or.inr ⟨HLB.out, ⟨d, e, HDR.out, rfl⟩, rfl⟩)⟩
          · refine (ht6.agr (((Agr.setCell (p := ⟨w.heap.size + 1, 0, none⟩) _ fun b hb => ?_).trans (Agr.setCell (p := ⟨w.heap.size + 1, 1, none⟩) _ fun b hb => ?_)).trans (Agr.setCell (p := ⟨w.heap.size + 1, 2, none⟩) _ fun b hb => ?_))).mono fun b _ hb => ?_
            · show b ≠ w.heap.size + 1; have hb' : W5.drew.heap.size ≤ b := hb; simp at hb'; omega
            · show b ≠ w.heap.size + 1; have hb' : W5.drew.heap.size ≤ b := hb; simp at hb'; omega
            · show b ≠ w.heap.size + 1; have hb' : W5.drew.heap.size ≤ b := hb; simp at hb'; omega
            · have hb' : W5.drew.heap.size ≤ b := hb
              simp at hb'; omega
          · exact (((HB5.out.trans (hbz.mono HB5.out.size)).setCell (by simp) _).setCell (by simp) _).setCell (by simp) _
end Go.Proofs.YtfmnmgnhanogmaaDoor



namespace Go.Proofs.YtfmnmgnhanogmaaDoor
open Go.RowKit

/-- a function that only computes a Bool -/
def BoolP (w : World) (b : Bool) (e : Ending) (w' : World) : Prop := e = .returned (.bool b) ∧ ∃ q, w' = w.drewN q
theorem BoolP.below {w w' : World} {b : Bool} {e : Ending} (h : BoolP w b e w') : e = .returned (.bool b) ∧ Below w.heap.size w w' := by
  obtain ⟨he, q, rfl⟩ := h
  exact ⟨he, below_drewN (Below.refl _ _) q⟩

/-- the first k elements agree -/
def AgreeN (xs ys : List Int) (k : Nat) : Prop := ∀ j, j < k → xs.getD j 0 = ys.getD j 0
theorem AgreeN.full {xs ys : List Int} {n : Nat} (h : AgreeN xs ys n) (hx : xs.length = n) (hy : ys.length = n) : xs = ys := by
  apply List.ext_getElem (by omega)
  intro i h1 h2
  have := h i (by omega)
  simpa [List.getD_eq_getElem?_getD, h1, h2] using this

set_option maxHeartbeats 1000000 in
theorem equal_c (A B : Option Addr) (n c m d : Nat) (xs ys : List Int) (w : World) (h1 : Ints w A n c xs) (h2 : Ints w B m d ys) (hn : n ≤ 17592186044416) :
    Calls Tryd.prog 13 #[.slice A n c, .slice B m d] w (BoolP w (decide (xs = ys))) := by
  by_cases hnm : n = m
  · subst hnm
    have k0 : ((n : Int) != (n : Int)) = false := by simp
    go_enter Tryd.func13, Tryd.ntmps13
    go_wp2_with fail
    go_loopw [13] (fun i wr => ∃ k : Nat, i = .int .i64 k ∧ k ≤ n ∧ AgreeN xs ys k ∧ ∃ q, wr = w.drewN q) (fun i _ => n - (intOf i).toNat)
    case atStart => exact ⟨0, rfl, Nat.zero_le _, fun j hj => absurd hj (by omega), 0, rfl⟩
    case round =>
      obtain ⟨k, rfl, hk, hag, q, rfl⟩ := hrel
      by_cases hlt : k < n
      · obtain ⟨b1, o1, rfl, hb1, hx⟩ := h1.at_ hlt
        obtain ⟨b2, o2, rfl, hb2, hy⟩ := h2.at_ hlt
        have i0 : (0 : Int) ≤ (k : Int) := by omega
        have i1 : (k : Int) < (n : Int) := by omega
        have H1 := Lib.hid h1.len
        have H2 := Lib.hid h2.len
        have HA := Lib.hid hag
        by_cases he : xs.getD k 0 = ys.getD k 0
        · have hag' : AgreeN xs ys (k + 1) := fun j hj => by
            rcases Nat.lt_or_ge j k with hj' | hj'
            · exact HA.out j hj'
            · obtain rfl : j = k := by omega
              exact he
          have HA' := Lib.hid hag'
          rw [he] at hx
          generalize ys.getD k 0 = y at *
          have e0 : (y != y) = false := by simp
          clear hag hag' he h1 h2
          go_wp2_with fail
          go_quiet (fail)
          go_wp2_with fail
          go_roundw
          case rel => exact ⟨k + 1, by go_num, by omega, HA'.out, _, rfl⟩
          case measure => simp [intOf]; omega
        · have hne : xs ≠ ys := fun e => he (by rw [e])
          have HN := Lib.hid hne
          generalize ys.getD k 0 = y at *
          generalize xs.getD k 0 = x at *
          have e0 : (x != y) = true := by simpa using he
          clear hag he h1 h2 hne
          go_wp2_with fail
          go_quiet (fail)
          go_wp2_with fail
          go_ret
          exact ⟨by simp [HN.out], q + nq, (World.drewN_drewN _ _ _)⟩
      · have hkn : k = n := by omega
        have hfin : xs = ys := AgreeN.full (n := n) (hkn ▸ hag) h1.len h2.len
        have HF := Lib.hid hfin
        clear hfin h1 h2 hag hkn
        go_wp2_with fail
        go_ret
        exact ⟨by simp [HF.out], _, rfl⟩
  · have k0 : ((n : Int) != (m : Int)) = true := by simp; omega
    have hne : xs ≠ ys := fun e => hnm (by rw [← h1.len, ← h2.len, e])
    have HN := Lib.hid hne
    clear hnm hne
    go_enter Tryd.func13, Tryd.ntmps13
    go_wp2_with fail
    go_ret
    exact ⟨by simp [HN.out], 0, rfl⟩
end Go.Proofs.YtfmnmgnhanogmaaDoor








namespace Go.Proofs.YtfmnmgnhanogmaaDoor
open Go.RowKit

theorem Sl.ofBlkQ {α ρ : Type} {E : Elem α ρ} {ok : Nat → Prop} {w : World} {b n : Nat} {t : TypeId} {cs : Array Value} {l : List α} (h : Blk w b t cs) (raw : List ρ) (hcs : cs.toList = flat E raw) (hl : l.length = n) (hr : raw.length = n) (hok : ok b)
    (hrel : ∀ (i : Nat) (r : ρ) (x : α), raw[i]? = some r → l[i]? = some x → E.rel ok w r x) : Sl E ok w (some ⟨b, 0, none⟩) n n l :=
  ⟨hl, Nat.le_refl _, raw, hr, fun _ => ⟨b, 0, rfl, hok, fun j u hu => by rw [Nat.zero_add, h.cell]; rw [← hcs] at hu; simpa using hu⟩, hrel⟩
theorem Ints.litQ {w : World} {b n : Nat} {t : TypeId} {cs : Array Value} {xs : List Int} (h : Blk w b t cs) (hcs : cs.toList = xs.map (Value.int .i64)) (hn : xs.length = n) : Ints w (some ⟨b, 0, none⟩) n n xs := by
  refine ⟨hn, Nat.le_refl _, fun _ => ⟨b, 0, rfl, fun i hi => ?_⟩⟩
  rw [Nat.zero_add, h.cell, ← Array.getElem?_toList, hcs, List.getElem?_map, List.getD_eq_getElem?_getD, List.getElem?_eq_getElem (by omega)]
  rfl
def gbG : Gr := ⟨1, 2, 0, gbR⟩
theorem gbG_ok : GrOk gbG := by
  refine ⟨⟨by simp [gbG], by simp [gbG], by simp [gbG], by simp [gbG, gbR], ?_, ?_⟩, by simp [gbG, gbR]⟩
  · intro r hr; simp [gbG, gbR] at hr; rcases hr with rfl | rfl | rfl <;> simp [gbG]
  · intro r hr; simp [gbG, gbR] at hr
    rcases hr with rfl | rfl | rfl
    · exact ⟨by simp, fun s hs => by simp at hs; subst hs; simp [Gr.okSy, gbG]⟩
    · exact ⟨by simp, fun s hs => by simp at hs; subst hs; simp [Gr.okSy, gbG]⟩
    · exact ⟨by simp, fun s hs => by simp at hs; subst hs; simp [Gr.okSy, gbG]⟩
theorem gb_D : begD gbR = fun i j => decide (i = 0 ∧ j = 1) := by
  funext i j
  rw [Bool.eq_iff_iff, begD_iff, gb_beg]; simp
theorem gb_loop : loopB gbG = false := by
  unfold loopB
  show lefB (begD gbR) 2 = false
  rw [gb_D]; decide
theorem gb_lef : lefW gbG = [[1], []] := by
  unfold lefW
  show (List.range 2).map (fun n => intsN (lefL (begD gbR) 2 n)) = _
  rw [gb_D]; decide
def gbT : Tr := .node 0 [.node 1 [.leaf 0], .node 2 [.leaf 0, .leaf 0]]
def gbU : Tr := .node 0 [.node 1 [.leaf 0], .node 1 [.leaf 0]]
theorem gb_best : IsBest gbR [0, 0, 0] ((false, 0), 0, 3) gbT := by
  obtain ⟨L, h1, h2⟩ := gb_en
  exact en_first h1 h2
theorem gb_tree {t : Tr} {c : Int} (h : (loopB gbG = true ∧ c = 9 ∧ t = .node 0 []) ∨ (loopB gbG = false ∧ ¬ (∃ t, DrL gbR [0, 0, 0] [(false, 0)] 0 3 [t]) ∧ c = 10 ∧ t = .node 0 []) ∨ (loopB gbG = false ∧ IsBest gbR [0, 0, 0] ((false, 0), 0, 3) t ∧ c = 0)) : t = gbT ∧ c = 0 := by
  rcases h with ⟨h, -⟩ | ⟨-, h, -⟩ | ⟨-, h, rfl⟩
  · rw [gb_loop] at h; cases h
  · exact absurd ⟨_, gb_best.1⟩ h
  · exact ⟨h.uniq gb_best, rfl⟩
theorem gb_peg {t : Tr} {m c : Int} (h : (loopB gbG = true ∧ c = 9 ∧ m = 0 ∧ t = .node 0 []) ∨ (loopB gbG = false ∧ (∃ d, pg gbR [0, 0, 0] d (false, 0) 0 = some none) ∧ c = 10 ∧ m = 0 ∧ t = .node 0 []) ∨ (loopB gbG = false ∧ (∃ d e, pg gbR [0, 0, 0] d (false, 0) 0 = some (some (t, e)) ∧ m = (e : Int)) ∧ c = 0)) : t = gbU ∧ m = 2 ∧ c = 0 := by
  rcases h with ⟨h, -⟩ | ⟨-, ⟨d, h⟩, -⟩ | ⟨-, ⟨d, e, h, rfl⟩, rfl⟩
  · rw [gb_loop] at h; cases h
  · have := pg_uniq h gb_pg; cases this
  · have := pg_uniq h gb_pg
    simp only [Option.some.injEq, Prod.mk.injEq] at this
    obtain ⟨rfl, rfl⟩ := this
    exact ⟨rfl, rfl, rfl⟩
set_option maxRecDepth 100000 in
set_option maxHeartbeats 8000000 in
theorem goes_c (w : World) (hT : TabW w) : Calls Tryd.prog 9 #[] w fun e w' => e = .returned (.bool true) ∧ Below w.heap.size w w' := by
  have HT := Lib.hid hT
  clear hT
  go_enter Tryd.func9, Tryd.ntmps9
  go_upto_region 2 with fail
  have b0 := ((((Blk.new w 54 #[.bool false, .int .i64 1, .bool false, .int .i64 1]).al (.cells #[.bool true, .int .i64 0] 54)).al (.cells #[.bool true, .int .i64 0, .bool true, .int .i64 0] 54)).al (.cells #[.int .i64 0, .slice (some ⟨w.heap.size, 0, none⟩) 2 2, .int .i64 1, .slice (some ⟨w.heap.size + 1, 0, none⟩) 1 1, .int .i64 1, .slice (some ⟨w.heap.size + 1 + 1, 0, none⟩) 2 2] 77)).al (.cells #[.int .i64 1, .int .i64 2, .int .i64 0, .slice (some ⟨w.heap.size + 1 + 1 + 1, 0, none⟩) 3 3] 24)
  have b1 := (((Blk.newAt (w.alloc (.cells #[.bool false, .int .i64 1, .bool false, .int .i64 1] 54)) 54 #[.bool true, .int .i64 0] (w.heap.size + 1) (by simp)).al (.cells #[.bool true, .int .i64 0, .bool true, .int .i64 0] 54)).al (.cells #[.int .i64 0, .slice (some ⟨w.heap.size, 0, none⟩) 2 2, .int .i64 1, .slice (some ⟨w.heap.size + 1, 0, none⟩) 1 1, .int .i64 1, .slice (some ⟨w.heap.size + 1 + 1, 0, none⟩) 2 2] 77)).al (.cells #[.int .i64 1, .int .i64 2, .int .i64 0, .slice (some ⟨w.heap.size + 1 + 1 + 1, 0, none⟩) 3 3] 24)
  have b2 := ((Blk.newAt ((w.alloc (.cells #[.bool false, .int .i64 1, .bool false, .int .i64 1] 54)).alloc (.cells #[.bool true, .int .i64 0] 54)) 54 #[.bool true, .int .i64 0, .bool true, .int .i64 0] (w.heap.size + 1 + 1) (by simp)).al (.cells #[.int .i64 0, .slice (some ⟨w.heap.size, 0, none⟩) 2 2, .int .i64 1, .slice (some ⟨w.heap.size + 1, 0, none⟩) 1 1, .int .i64 1, .slice (some ⟨w.heap.size + 1 + 1, 0, none⟩) 2 2] 77)).al (.cells #[.int .i64 1, .int .i64 2, .int .i64 0, .slice (some ⟨w.heap.size + 1 + 1 + 1, 0, none⟩) 3 3] 24)
  have b3 := (Blk.newAt (((w.alloc (.cells #[.bool false, .int .i64 1, .bool false, .int .i64 1] 54)).alloc (.cells #[.bool true, .int .i64 0] 54)).alloc (.cells #[.bool true, .int .i64 0, .bool true, .int .i64 0] 54)) 77 #[.int .i64 0, .slice (some ⟨w.heap.size, 0, none⟩) 2 2, .int .i64 1, .slice (some ⟨w.heap.size + 1, 0, none⟩) 1 1, .int .i64 1, .slice (some ⟨w.heap.size + 1 + 1, 0, none⟩) 2 2] (w.heap.size + 1 + 1 + 1) (by simp)).al (.cells #[.int .i64 1, .int .i64 2, .int .i64 0, .slice (some ⟨w.heap.size + 1 + 1 + 1, 0, none⟩) 3 3] 24)
  have BG := Blk.newAt ((((w.alloc (.cells #[.bool false, .int .i64 1, .bool false, .int .i64 1] 54)).alloc (.cells #[.bool true, .int .i64 0] 54)).alloc (.cells #[.bool true, .int .i64 0, .bool true, .int .i64 0] 54)).alloc (.cells #[.int .i64 0, .slice (some ⟨w.heap.size, 0, none⟩) 2 2, .int .i64 1, .slice (some ⟨w.heap.size + 1, 0, none⟩) 1 1, .int .i64 1, .slice (some ⟨w.heap.size + 1 + 1, 0, none⟩) 2 2] 77)) 24 #[.int .i64 1, .int .i64 2, .int .i64 0, .slice (some ⟨w.heap.size + 1 + 1 + 1, 0, none⟩) 3 3] (w.heap.size + 1 + 1 + 1 + 1) (by simp)
  have hbw := (((((Below.refl w.heap.size w).al (.cells #[.bool false, .int .i64 1, .bool false, .int .i64 1] 54)).al (.cells #[.bool true, .int .i64 0] 54)).al (.cells #[.bool true, .int .i64 0, .bool true, .int .i64 0] 54)).al (.cells #[.int .i64 0, .slice (some ⟨w.heap.size, 0, none⟩) 2 2, .int .i64 1, .slice (some ⟨w.heap.size + 1, 0, none⟩) 1 1, .int .i64 1, .slice (some ⟨w.heap.size + 1 + 1, 0, none⟩) 2 2] 77)).al (.cells #[.int .i64 1, .int .i64 2, .int .i64 0, .slice (some ⟨w.heap.size + 1 + 1 + 1, 0, none⟩) 3 3] 24)
  generalize (((((w.alloc (.cells #[.bool false, .int .i64 1, .bool false, .int .i64 1] 54)).alloc (.cells #[.bool true, .int .i64 0] 54)).alloc (.cells #[.bool true, .int .i64 0, .bool true, .int .i64 0] 54)).alloc (.cells #[.int .i64 0, .slice (some ⟨w.heap.size, 0, none⟩) 2 2, .int .i64 1, .slice (some ⟨w.heap.size + 1, 0, none⟩) 1 1, .int .i64 1, .slice (some ⟨w.heap.size + 1 + 1, 0, none⟩) 2 2] 77)).alloc (.cells #[.int .i64 1, .int .i64 2, .int .i64 0, .slice (some ⟨w.heap.size + 1 + 1 + 1, 0, none⟩) 3 3] 24)) = W1 at *
  have hsl : Sl RuE (fun _ => True) W1 (some ⟨w.heap.size + 1 + 1 + 1, 0, none⟩) 3 3 gbR := by
    refine Sl.ofBlkQ b3 [(0, some ⟨w.heap.size, 0, none⟩, 2, 2), (1, some ⟨w.heap.size + 1, 0, none⟩, 1, 1), (1, some ⟨w.heap.size + 1 + 1, 0, none⟩, 2, 2)] rfl rfl rfl trivial fun i r x hr hx => ?_
    match i, hr, hx with
    | 0, hr, hx =>
      simp [gbR] at hr hx; subst hr; subst hx
      exact ⟨rfl, Sl.ofBlkQ b0 [(false, 1), (false, 1)] rfl rfl rfl trivial fun i r x hr hx => Option.some.inj (hr.symm.trans hx)⟩
    | 1, hr, hx =>
      simp [gbR] at hr hx; subst hr; subst hx
      exact ⟨rfl, Sl.ofBlkQ b1 [(true, 0)] rfl rfl rfl trivial fun i r x hr hx => Option.some.inj (hr.symm.trans hx)⟩
    | 2, hr, hx =>
      simp [gbR] at hr hx; subst hr; subst hx
      exact ⟨rfl, Sl.ofBlkQ b2 [(true, 0), (true, 0)] rfl rfl rfl trivial fun i r x hr hx => Option.some.inj (hr.symm.trans hx)⟩
    | i + 3, hr, hx => simp at hr
  have HB := Lib.hid hbw
  have HSL := Lib.hid hsl
  have HBG := Lib.hid BG
  clear b0 b1 b2 b3 hbw hsl
  obtain ⟨a3, ha3⟩ : ∃ a, a = w.heap.size + 1 + 1 + 1 := ⟨_, rfl⟩
  rw [← ha3] at HSL HBG BG ⊢
  obtain ⟨b4, hb4⟩ : ∃ a, a = a3 + 1 := ⟨_, rfl⟩
  rw [← hb4] at HBG BG ⊢
  clear ha3 hb4
  have hal := (Below.refl W1.heap.size W1).al (.cells #[.int .i64 0, .int .i64 0, .int .i64 0] 3)
  have hw1 : Ints (W1.alloc (.cells #[.int .i64 0, .int .i64 0, .int .i64 0] 3)) (some ⟨W1.heap.size, 0, none⟩) 3 3 [0, 0, 0] := Ints.litQ (Blk.new W1 3 #[.int .i64 0, .int .i64 0, .int .i64 0]) rfl rfl
  have HC : Calls Tryd.prog 7 #[.agg #[.int .i64 1, .int .i64 2, .int .i64 0, .slice (some ⟨a3, 0, none⟩) 3 3], .slice (some ⟨W1.heap.size, 0, none⟩) 3 3] (W1.alloc (.cells #[.int .i64 0, .int .i64 0, .int .i64 0] 3)) _ := dparse_c (fun _ => True) gbG (some ⟨a3, 0, none⟩) 3 3 (some ⟨W1.heap.size, 0, none⟩) 3 [0, 0, 0] _ gbG_ok (HSL.out.via hal) hw1 (by simp [gbG]) (by simp) ((HT.out.via HB.out).via hal)
  replace HB := Lib.hid (HB.out.via hal)
  replace HSL := Lib.hid (HSL.out.via hal)
  replace HBG := Lib.hid (HBG.out.via hal)
  clear hal hw1
  have cBG := BG.cell
  have fBG := BG.frozen
  have lBG := BG.lt
  go_wp2_with fail
  clear cBG fBG lBG
  generalize W1.alloc (.cells #[.int .i64 0, .int .i64 0, .int .i64 0] 3) = W2 at *
  generalize W1.heap.size = z1 at *
  refine HC.mono ?_
  clear HC BG
  rintro e w3 ⟨⟨va, vb, vA, vn, vc⟩, t, c, rfl, ht, hb3, hq⟩
  obtain ⟨rfl, rfl⟩ := gb_tree hq
  have hal := (Below.refl w3.heap.size w3).al (.cells #[.int .i64 va, .int .i64 vb, .slice vA vn vc] 34)
  have HT1 := Lib.hid (ht.via hal)
  have BT1 := Blk.new w3 34 #[.int .i64 va, .int .i64 vb, .slice vA vn vc]
  replace HB := Lib.hid ((HB.out.via hb3).via hal)
  replace HSL := Lib.hid ((HSL.out.via hb3).via hal)
  have BG := (HBG.out.via hb3).via hal
  clear ht hq hal hb3 HBG
  simp only [trVal]
  go_upto_region 3 with fail
  generalize w3.alloc (.cells #[.int .i64 va, .int .i64 vb, .slice vA vn vc] 34) = W3 at *
  generalize w3.heap.size = b2 at *
  have HBG := Lib.hid BG
  have HBT1 := Lib.hid BT1
  have HC : Calls Tryd.prog 6 #[.agg #[.int .i64 1, .int .i64 2, .int .i64 0, .slice (some ⟨a3, 0, none⟩) 3 3]] W3 _ := Left_c (fun _ => True) gbG (some ⟨a3, 0, none⟩) 3 3 W3 gbG_ok HSL.out
  clear BT1
  have cBG := BG.cell
  have fBG := BG.frozen
  have lBG := BG.lt
  go_wp2_with fail
  clear cBG fBG lBG
  refine HC.mono ?_
  clear HC BG
  rintro e w4 ⟨lA, lc, rfl, hls, hb4⟩
  rw [gb_lef] at hls
  simp only [gbG] at hls ⊢
  replace HB := Lib.hid (HB.out.via hb4)
  replace HSL := Lib.hid (HSL.out.via hb4)
  have BG := HBG.out.via hb4
  replace HT1 := Lib.hid (HT1.out.via hb4)
  replace HBT1 := Lib.hid (HBT1.out.via hb4)
  have HLS := Lib.hid hls
  clear hls hb4 HBG
  go_upto_region 4 with fail
  have hal := (Below.refl w4.heap.size w4).al (.cells #[.int .i64 0, .int .i64 0, .int .i64 0] 3)
  have hw1 : Ints (w4.alloc (.cells #[.int .i64 0, .int .i64 0, .int .i64 0] 3)) (some ⟨w4.heap.size, 0, none⟩) 3 3 [0, 0, 0] := Ints.litQ (Blk.new w4 3 #[.int .i64 0, .int .i64 0, .int .i64 0]) rfl rfl
  have HC : Calls Tryd.prog 18 #[.agg #[.int .i64 1, .int .i64 2, .int .i64 0, .slice (some ⟨a3, 0, none⟩) 3 3], .slice (some ⟨w4.heap.size, 0, none⟩) 3 3] (w4.alloc (.cells #[.int .i64 0, .int .i64 0, .int .i64 0] 3)) _ := ppk_c (fun _ => True) gbG (some ⟨a3, 0, none⟩) 3 3 (some ⟨w4.heap.size, 0, none⟩) 3 [0, 0, 0] _ gbG_ok (HSL.out.via hal) hw1 (by simp [gbG]) (by simp)
  replace HB := Lib.hid (HB.out.via hal)
  replace HT1 := Lib.hid (HT1.out.via hal)
  replace HBT1 := Lib.hid (HBT1.out.via hal)
  replace HLS := Lib.hid (HLS.out.via hal)
  clear hal hw1 HSL
  have cBG := BG.cell
  have fBG := BG.frozen
  have lBG := BG.lt
  go_wp2_with fail
  clear cBG fBG lBG
  generalize w4.alloc (.cells #[.int .i64 0, .int .i64 0, .int .i64 0] 3) = W4 at *
  generalize w4.heap.size = z4 at *
  refine HC.mono ?_
  clear HC BG
  rintro e w5 ⟨⟨ua, ub, uA, un, uc⟩, t2, m2, c2, rfl, ht2, hb5, hq⟩
  obtain ⟨rfl, rfl, rfl⟩ := gb_peg hq
  have hal := (Below.refl w5.heap.size w5).al (.cells #[.int .i64 ua, .int .i64 ub, .slice uA un uc] 34)
  have HT2 := Lib.hid (ht2.via hal)
  have BT2 := Blk.new w5 34 #[.int .i64 ua, .int .i64 ub, .slice uA un uc]
  replace HB := Lib.hid ((HB.out.via hb5).via hal)
  replace HT1 := Lib.hid ((HT1.out.via hb5).via hal)
  replace HBT1 := Lib.hid ((HBT1.out.via hb5).via hal)
  replace HLS := Lib.hid ((HLS.out.via hb5).via hal)
  clear ht2 hq hal hb5
  simp only [trVal]
  go_upto_region 5 with fail
  generalize w5.alloc (.cells #[.int .i64 ua, .int .i64 ub, .slice uA un uc] 34) = W5 at *
  generalize w5.heap.size = b6 at *
  have HBT2 := Lib.hid BT2
  have BT1 := HBT1.out
  have HP1 := Lib.hid (show Calls Tryd.prog 34 #[.agg #[.int .i64 va, .int .i64 vb, .slice vA vn vc]] W5 _ from pre_n 6 _ (va, vb, vA, vn, vc) gbT W5 HT1.out (by decide) (by decide))
  clear BT2
  have cBT1 := BT1.cell
  have fBT1 := BT1.frozen
  have lBT1 := BT1.lt
  go_wp2_with fail
  have hz6 : gbT.size = 6 := by decide
  have hr6 : gbT.ruP = [0, 1, -1, 2, -1, -1] := by decide
  refine HP1.out.mono ?_
  rintro e w6 ⟨pA, pc, rfl, hI, hb6⟩
  rw [hz6, hr6] at hI
  rw [hz6]
  have hal := (Below.refl w6.heap.size w6).al (.cells #[.int .i64 0, .int .i64 1, .int .i64 (-1), .int .i64 2, .int .i64 (-1), .int .i64 (-1)] 3)
  have HI := Lib.hid (hI.via hal)
  have HY := Lib.hid (show Ints (w6.alloc (.cells #[.int .i64 0, .int .i64 1, .int .i64 (-1), .int .i64 2, .int .i64 (-1), .int .i64 (-1)] 3)) (some ⟨w6.heap.size, 0, none⟩) 6 6 [0, 1, -1, 2, -1, -1] from Ints.litQ (Blk.new w6 3 #[.int .i64 0, .int .i64 1, .int .i64 (-1), .int .i64 2, .int .i64 (-1), .int .i64 (-1)]) rfl rfl)
  replace HB := Lib.hid ((HB.out.via hb6).via hal)
  replace HT2 := Lib.hid ((HT2.out.via hb6).via hal)
  replace HBT2 := Lib.hid ((HBT2.out.via hb6).via hal)
  replace HLS := Lib.hid ((HLS.out.via hb6).via hal)
  clear cBT1 fBT1 lBT1
  clear BT1 HBT1 HP1 HT1 hI hb6 hal hz6 hr6
  go_wp2_with fail
  generalize w6.alloc (.cells #[.int .i64 0, .int .i64 1, .int .i64 (-1), .int .i64 2, .int .i64 (-1), .int .i64 (-1)] 3) = W6 at *
  generalize w6.heap.size = z6 at *
  refine (equal_c pA (some ⟨z6, 0, none⟩) 6 pc 6 6 [0, 1, -1, 2, -1, -1] [0, 1, -1, 2, -1, -1] W6 HI.out HY.out (by omega)).mono ?_
  rintro e w7 hbp
  obtain ⟨rfl, hb7⟩ := hbp.below
  simp only [decide_true]
  replace HB := Lib.hid (HB.out.via hb7)
  replace HT2 := Lib.hid (HT2.out.via hb7)
  replace HBT2 := Lib.hid (HBT2.out.via hb7)
  replace HLS := Lib.hid (HLS.out.via hb7)
  clear hbp hb7 HI HY
  obtain ⟨bR, oR, ⟨sA, sn, sc⟩, x, rfl, -, -, hx, hrel, hc⟩ := HLS.out.at_ (i := 0) (by omega)
  have hc0 := hc 0 _ rfl
  simp only [RwE, Nat.zero_mul, Nat.add_zero] at hc0
  obtain rfl : [1] = x := by simpa using hx
  have hI : Ints w7 sA sn sc [1] := Sl.intsIn hrel
  have hsn : sn = 1 := by have := hI.1; simpa using this.symm
  subst hsn
  have hal := (Below.refl w7.heap.size w7).al (.cells #[.int .i64 1] 3)
  have HI := Lib.hid (hI.via hal)
  have HY := Lib.hid (show Ints (w7.alloc (.cells #[.int .i64 1] 3)) (some ⟨w7.heap.size, 0, none⟩) 1 1 [1] from Ints.litQ (Blk.new w7 3 #[.int .i64 1]) rfl rfl)
  replace HB := Lib.hid (HB.out.via hal)
  replace HT2 := Lib.hid (HT2.out.via hal)
  replace HBT2 := Lib.hid (HBT2.out.via hal)
  clear hx hrel hc hI hal HLS
  go_wp2_with fail
  generalize w7.alloc (.cells #[.int .i64 1] 3) = W7 at *
  generalize w7.heap.size = z7 at *
  refine (equal_c sA (some ⟨z7, 0, none⟩) 1 sc 1 1 [1] [1] W7 HI.out HY.out (by omega)).mono ?_
  rintro e w8 hbp
  obtain ⟨rfl, hb8⟩ := hbp.below
  simp only [decide_true]
  replace HB := Lib.hid (HB.out.via hb8)
  have BT2 := HBT2.out.via hb8
  have HP2 := Lib.hid (show Calls Tryd.prog 34 #[.agg #[.int .i64 ua, .int .i64 ub, .slice uA un uc]] w8 _ from pre_n 5 _ (ua, ub, uA, un, uc) gbU w8 (HT2.out.via hb8) (by decide) (by decide))
  clear hbp hb8 HI HY hc0 HT2 HBT2
  have cBT2 := BT2.cell
  have fBT2 := BT2.frozen
  have lBT2 := BT2.lt
  go_wp2_with fail
  clear cBT2 fBT2 lBT2
  have hz6 : gbU.size = 5 := by decide
  have hr6 : gbU.ruP = [0, 1, -1, 1, -1] := by decide
  refine HP2.out.mono ?_
  rintro e w9 ⟨qA, qc, rfl, hI, hb9⟩
  rw [hz6, hr6] at hI
  rw [hz6]
  have hal := (Below.refl w9.heap.size w9).al (.cells #[.int .i64 0, .int .i64 1, .int .i64 (-1), .int .i64 1, .int .i64 (-1)] 3)
  have HI := Lib.hid (hI.via hal)
  have HY := Lib.hid (show Ints (w9.alloc (.cells #[.int .i64 0, .int .i64 1, .int .i64 (-1), .int .i64 1, .int .i64 (-1)] 3)) (some ⟨w9.heap.size, 0, none⟩) 5 5 [0, 1, -1, 1, -1] from Ints.litQ (Blk.new w9 3 #[.int .i64 0, .int .i64 1, .int .i64 (-1), .int .i64 1, .int .i64 (-1)]) rfl rfl)
  replace HB := Lib.hid ((HB.out.via hb9).via hal)
  clear HP2 hI hb9 hal hz6 hr6 BT2
  go_wp2_with fail
  generalize w9.alloc (.cells #[.int .i64 0, .int .i64 1, .int .i64 (-1), .int .i64 1, .int .i64 (-1)] 3) = W9 at *
  generalize w9.heap.size = z9 at *
  refine (equal_c qA (some ⟨z9, 0, none⟩) 5 qc 5 5 [0, 1, -1, 1, -1] [0, 1, -1, 1, -1] W9 HI.out HY.out (by omega)).mono ?_
  rintro e wA hbp
  obtain ⟨rfl, hbA⟩ := hbp.below
  simp only [decide_true]
  replace HB := Lib.hid (HB.out.via hbA)
  clear hbp hbA HI HY
  go_wp2_with fail
  go_ret
  exact ⟨rfl, HB.out⟩
end Go.Proofs.YtfmnmgnhanogmaaDoor

