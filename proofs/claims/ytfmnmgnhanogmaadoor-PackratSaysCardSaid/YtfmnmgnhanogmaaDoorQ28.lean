/- Texts OI, LJ, EK, OR, laid together. -/
import Derived.Test.YtfmnmgnhanogmaaDoorQ24
import Derived.Test.YtfmnmgnhanogmaaDoorQ26
import Derived.Test.YtfmnmgnhanogmaaDoorQ13
import Derived.Test.YtfmnmgnhanogmaaDoorQ18
import Derived.Test.YtfmnmgnhanogmaaDoorQ15
import Derived.Test.YtfmnmgnhanogmaaDoorQ3
import Derived.Test.YtfmnmgnhanogmaaDoorQ22





namespace Go.Proofs.YtfmnmgnhanogmaaDoor
open Go.RowKit

theorem gNd_c (n : Int) (w : World) : Calls Tryd.prog 29 #[.int .i64 n] w fun e w' => e = .returned (.agg #[.bool false, .int .i64 n]) ∧ Below w.heap.size w w' := by
  go_enter Tryd.func29, Tryd.ntmps29
  go_wp2_with fail
  exact bodyPost_ret (v := .agg #[.bool false, .int .i64 n]) (by simp [results, Tryd.results29, go_sem]) rfl ⟨rfl, (Below.refl _ _).al _⟩
/-- what Parse returns: the first tree, or why there is none -/
def ParP (w : World) (g : Gr) (W : List Nat) (e : Ending) (w' : World) : Prop :=
  ∃ v t c, e = .returned (.tuple #[trVal v, .int .i64 c]) ∧ TreeR (fun b => w.heap.size ≤ b) w' v t ∧ Below w.heap.size w w' ∧
    ((loopB g = true ∧ c = 9 ∧ t = .node 0 []) ∨ (loopB g = false ∧ ¬ (∃ t, DrL g.rules W [(false, g.start)] 0 W.length [t]) ∧ c = 10 ∧ t = .node 0 []) ∨ (loopB g = false ∧ IsBest g.rules W ((false, g.start), 0, W.length) t ∧ c = 0))
set_option maxRecDepth 100000 in
set_option maxHeartbeats 8000000 in
theorem dparse_c (ok : Nat → Prop) (g : Gr) (Ag : Option Addr) (ng cg : Nat) (wA : Option Addr) (wc : Nat) (W : List Nat) (w : World) (hg : GrOk g) (hl : Sl RuE ok w Ag ng cg g.rules) (hx : Ints w wA W.length wc (intsN W)) (hW : ∀ a ∈ W, a < g.terms) (hn : W.length ≤ 12) (hT : TabW w) :
    Calls Tryd.prog 7 #[grVal g Ag ng cg, .slice wA W.length wc] w (ParP w g W) := by
  have BG := (Blk.new w 24 #[.int .i64 (g.terms : Int), .int .i64 (g.nons : Int), .int .i64 (g.start : Int), .slice Ag ng cg]).al (.cells #[.int .i64 0, .int .i64 0, .slice none 0 0] 34)
  have B4 := Blk.newAt (w.alloc (.cells #[.int .i64 (g.terms : Int), .int .i64 (g.nons : Int), .int .i64 (g.start : Int), .slice Ag ng cg] 24)) 34 #[.int .i64 0, .int .i64 0, .slice none 0 0] (w.heap.size + 1) (by simp)
  have HB := Lib.hid (((Below.refl w.heap.size w).al (.cells #[.int .i64 (g.terms : Int), .int .i64 (g.nons : Int), .int .i64 (g.start : Int), .slice Ag ng cg] 24)).al (.cells #[.int .i64 0, .int .i64 0, .slice none 0 0] 34))
  have HL := Lib.hid ((hl.mono (ok' := fun b => b < w.heap.size) fun b hb _ => hb).via HB.out)
  have HX := Lib.hid (hx.keep HB.out (Nat.le_refl _))
  have HT := Lib.hid (hT.via HB.out)
  have HGO := Lib.hid hg
  have HWT := Lib.hid hW
  have HB4 := Lib.hid B4
  have HBG := Lib.hid BG
  have hxl : (intsN W).length = W.length := wd_size W
  have HXT := Lib.hid (show ∀ x ∈ intsN W, 0 ≤ x ∧ x < (g.terms : Int) from fun x hx => by
    unfold intsN at hx
    obtain ⟨a, ha, rfl⟩ := List.mem_map.1 hx
    have := hW a ha
    show 0 ≤ ((a : Nat) : Int) ∧ ((a : Nat) : Int) < _
    omega)
  simp only [grVal]
  clear hl hx hT hg hW B4 hxl
  go_enter Tryd.func7, Tryd.ntmps7
  have cBG := BG.cell
  have fBG := BG.frozen
  have lBG := BG.lt
  go_wp2_with fail
  clear cBG fBG lBG
  clear BG
  have hsz : ((w.alloc (.cells #[.int .i64 (g.terms : Int), .int .i64 (g.nons : Int), .int .i64 (g.start : Int), .slice Ag ng cg] 24)).alloc (.cells #[.int .i64 0, .int .i64 0, .slice none 0 0] 34)).heap.size = w.heap.size + 2 := by simp
  generalize (w.alloc (.cells #[.int .i64 (g.terms : Int), .int .i64 (g.nons : Int), .int .i64 (g.start : Int), .slice Ag ng cg] 24)).alloc (.cells #[.int .i64 0, .int .i64 0, .slice none 0 0] 34) = W0 at *
  have HA := accepts_c (fun b => b < w.heap.size) g Ag ng cg wA W.length wc (intsN W) W0 HGO.out HL.out HX.out hn HXT.out HT.out
  simp only [grVal] at HA
  refine HA.mono ?_
  clear HA
  rintro e w1 ⟨acc, rfl, hacc, hb1⟩
  have HAC := Lib.hid hacc
  have HL1 := Lib.hid (HL.out.via hb1)
  have HX1 := Lib.hid (HX.out.keep hb1 (Nat.le_refl _))
  have HT1 := Lib.hid (HT.out.via hb1)
  have HB1 := Lib.hid (HB.out.via hb1)
  have HB41 := Lib.hid (HB4.out.via hb1)
  have HBG1 := Lib.hid (HBG.out.via hb1)
  have hs1 : w.heap.size + 2 ≤ w1.heap.size := by have := hb1.size; omega
  clear hacc hb1 HL HX HT HB HB4 HBG hsz
  have BG := HBG1.out
  have cBG := BG.cell
  have fBG := BG.frozen
  have lBG := BG.lt
  go_wp2_with fail
  clear cBG fBG lBG
  clear BG
  have HF := loops_c (fun b => b < w.heap.size) g Ag ng cg w1 HGO.out HL1.out
  simp only [grVal] at HF
  refine HF.mono ?_
  clear HF
  rintro e w2 ⟨rfl, hb2⟩
  have HL2 := Lib.hid (HL1.out.via hb2)
  have HX2 := Lib.hid (HX1.out.keep hb2 (Nat.le_refl _))
  have HT2 := Lib.hid (HT1.out.via hb2)
  have HB2 := Lib.hid (HB1.out.via hb2)
  have HB42 := Lib.hid (HB41.out.via hb2)
  have HBG2 := Lib.hid (HBG1.out.via hb2)
  have hs2 : w.heap.size + 2 ≤ w2.heap.size := by have := hb2.size; omega
  clear hb2 HL1 HX1 HT1 HB1 HB41 HBG1 hs1
  have HNO := Lib.hid (show ∀ c, TreeR (fun b => w.heap.size ≤ b) c (0, 0, none, 0, 0) (.node 0 []) from fun c => TreeR.mk 0 (Sl.nil 0))
  cases hlb : loopB g with
  | true =>
    have HLB := Lib.hid hlb
    have B4 := HB42.out
    clear hlb
    have cB4 := B4.cell
    have fB4 := B4.frozen
    have lB4 := B4.lt
    go_wp2_with fail
    refine bodyPost_ret (v := .tuple #[trVal (0, 0, none, 0, 0), .int .i64 9]) (by simp [results, Tryd.results7, go_sem, trVal, cB4]) rfl ⟨_, _, _, rfl, HNO.out _, ((HB2.out.setCell (by simp) _).setCell (by simp) _).setCell (by simp) _, Or.inl ⟨HLB.out, rfl, rfl⟩⟩
  | false =>
    have HLB := Lib.hid hlb
    clear hlb
    have HDV := Lib.hid (show acc = true ↔ ∃ t, DrL g.rules W [(false, g.start)] 0 W.length [t] from by
      rw [HAC.out, ← dvS_tree (k := ((false, g.start), 0, W.length)) (Nat.zero_le _)]
      unfold DvS
      simp only
      have hpa := part_all (intsN W)
      rw [wd_size] at hpa ⊢
      rw [hpa]
      exact ⟨fun h => ⟨Nat.zero_le _, Nat.le_refl _, h⟩, fun h => h.2.2⟩)
    cases acc with
    | false =>
      have B4 := HB42.out
      have cB4 := B4.cell
      have fB4 := B4.frozen
      have lB4 := B4.lt
      go_wp2_with fail
      refine bodyPost_ret (v := .tuple #[trVal (0, 0, none, 0, 0), .int .i64 10]) (by simp [results, Tryd.results7, go_sem, trVal, cB4]) rfl ⟨_, _, _, rfl, HNO.out _, ((HB2.out.setCell (by simp) _).setCell (by simp) _).setCell (by simp) _, Or.inr (Or.inl ⟨HLB.out, (fun h => by have := HDV.out.2 h; cases this), rfl, rfl⟩)⟩
    | true =>
      have HFD := Lib.hid (show ∀ E, SndE g.rules (intsN W) E → FixE g.rules (intsN W) E → FinD g W (dOf (intsN W) E) from fun E hs hf =>
        ⟨HGO.out, fun k => dOf_iff hs hf (by rw [wd_size]; omega) k, lefB_no (begD_lt HGO.out.ok) HLB.out, HWT.out, hn⟩)
      have hmm := @run_makeMap Tryd.prog
      have BG := HBG2.out
      have B4 := HB42.out
      have cBG := BG.cell
      have fBG := BG.frozen
      have lBG := BG.lt
      go_upto_region 8 with fail
      clear cBG fBG lBG
      have SO := Lib.hid (show ∀ w', Below w2.heap.size w2 w' → ((∀ i, w'.cell? ⟨w.heap.size, i, none⟩ = #[.int .i64 (g.terms : Int), .int .i64 (g.nons : Int), .int .i64 (g.start : Int), .slice Ag ng cg][i]?) ∧ Below w2.heap.size w2 w') from fun w' hb => ⟨(BG.via hb).cell, hb⟩)
      have HN := Lib.hid (show ∀ w', Below w2.heap.size w2 w' → Calls Tryd.prog 26 #[.agg #[.int .i64 (g.terms : Int), .int .i64 (g.nons : Int), .int .i64 (g.start : Int), .slice Ag ng cg], .slice wA W.length wc] w' (EndsP w' g (intsN W)) from fun w' hb => ends_c (fun b => b < w.heap.size) g Ag ng cg wA W.length wc (intsN W) w' HGO.out (HL2.out.via hb) (HX2.out.keep hb (Nat.le_refl _)) hn (HT2.out.via hb))
      clear B4 BG
      go_cut [8] (fun s8 wc' => ∃ wx bf bm ob rb E, wx = wc' ∧ s8 = .pointer (some ⟨bf, 0, none⟩) ∧ Below w2.heap.size w2 wx ∧ Blk wx bf 67 #[.int .i64 (g.terms : Int), .int .i64 (g.nons : Int), .int .i64 (g.start : Int), .slice Ag ng cg, .slice wA W.length wc, .slice (some ⟨ob, 0, none⟩) g.nons g.nons, .map (some bm)] ∧
        EnR wx ob g.nons (intsN W).length rb E ∧ SndE g.rules (intsN W) E ∧ FixE g.rules (intsN W) E ∧ MapK Tryd.prog 73 kyVal wx bm (fun _ => none) ∧ w2.heap.size ≤ bm)
      case first =>
        have hb0 := (Below.refl w2.heap.size w2).drew
        go_region_held3 (fun w' => (∀ i, w'.cell? ⟨w.heap.size, i, none⟩ = #[.int .i64 (g.terms : Int), .int .i64 (g.nons : Int), .int .i64 (g.start : Int), .slice Ag ng cg][i]?) ∧ Below w2.heap.size w2 w') (exact SO.out _ (by first | assumption | exact ((Below.refl w2.heap.size w2).al _).drew | exact Below.al (by assumption) _ | exact Below.al (Below.al (by assumption) _) _)) (first
          | (go_at_call 26; (with_reducible refine (HN.out ((w2.alloc (.map #[] 0)).drew) ((Below.refl w2.heap.size w2).al _).drew).mono ?_); rintro ee wn ⟨ob, rb, E, rfl, hE, hs, hf, hbn⟩; have hbm : Below w2.heap.size w2 wn := Below.via (((Below.refl w2.heap.size w2).al _).drew) hbn; have hmp := (MapK.made w2 Tryd.prog 73 kyVal).dr.via hbn)
          | (go_at_call 26; (with_reducible refine (HN.out _ (by assumption)).mono ?_); rintro ee wn ⟨ob, rb, E, rfl, hE, hs, hf, hbn⟩; have hbm : Below w2.heap.size w2 wn := Below.via (by assumption) hbn))
        all_goals go_wp2_with fail
        all_goals go_meet
        all_goals first
          | exact ⟨_, _, _, _, _, _, rfl, rfl, hbm.al _, Blk.new _ _ _, hE.via ((Below.refl wn.heap.size wn).al _), hs, hf, hmp.al _, Nat.le_refl _⟩
          | exact ⟨_, _, _, _, _, _, rfl, rfl, (hbm.al _).al _, Blk.newAt _ _ _ _ (by simp), (hE.via ((Below.refl wn.heap.size wn).al _)).via ((Below.refl _ _).al _), hs, hf, (MapK.made wn Tryd.prog 73 kyVal).al _, hbm.size⟩
      case rest =>
        obtain ⟨wx, bf, bm, ob, rb, E, rfl, rfl, hbx, hbf, hE, hsE, hfE, hmp, hbm⟩ := hcut
        clear hmm SO HN
        have hFD := HFD.out E hsE hfE
        have hev := hE.view
        have hsup := hsE.sup
        rw [wd_size] at hev hsup
        obtain ⟨D, hD⟩ : ∃ D, D = dOf (intsN W) E := ⟨_, rfl⟩
        rw [← hD] at hFD
        have HF := Lib.hid (show FdT wx bf bm g W D Ag ng cg wA wc ob 0 g.nons rb (fun _ => 0) (fun _ => W.length + 1) E from
          ⟨hFD, hbf, (HL2.out.via hbx).mono fun b _ hb => by have := HB2.out.size; omega, HX2.out.keep hbx (Nat.le_refl _), hev, HT2.out.via hbx, hsup, hD.symm, hmp.lt, by obtain ⟨es, ck, hm, -⟩ := hmp; exact ⟨es, ck, hm⟩⟩)
        have HS0 := Lib.hid (show FdS wx bm g W (fun _ => False) (fun _ => none) wx from ⟨fun _ _ _ => rfl, Nat.le_refl _, hmp.ext fun y => rfl, fun b h => h.elim, fun k b h => by cases h⟩)
        have HDR := Lib.hid (show D ((false, g.start), 0, W.length) = true from by
          obtain ⟨t, ht⟩ := HDV.out.1 trivial
          exact hFD.has (Nat.zero_le _) ht)
        have HOK := Lib.hid (show KyOk g W.length ((false, g.start), 0, W.length) from ⟨by have := HGO.out.ok.start; simpa [Gr.okSy] using this, Nat.zero_le _, Nat.le_refl _⟩)
        have HBX := Lib.hid (HB2.out.trans (hbx.mono HB2.out.size))
        have HB4x := Lib.hid (HB42.out.via hbx)
        have HBGx := Lib.hid (HBG2.out.via hbx)
        have hsx : w.heap.size + 2 ≤ wx.heap.size := by have := hbx.size; omega
        have hbmx : bm < wx.heap.size := hmp.lt
        have hbw : w.heap.size + 2 ≤ bm := by omega
        clear hFD hev hsup hD hbx hbf hE hsE hfE hmp hbm HL2 HX2 HT2 HB2 HB42 HBG2 HFD hs2
        have BG := HBGx.out
        have cBG := BG.cell
        have fBG := BG.frozen
        have lBG := BG.lt
        go_wp2_with fail
        clear cBG fBG lBG
        clear BG
        refine (gNd_c (g.start : Int) wx).mono ?_
        rintro e w3 ⟨rfl, hb3⟩
        have HS3 := Lib.hid (HS0.out.via hb3 hbmx)
        have HB3 := Lib.hid (HBX.out.trans (hb3.mono HBX.out.size))
        have HB43 := Lib.hid (HB4x.out.via hb3)
        have hs3 : wx.heap.size ≤ w3.heap.size := hb3.size
        clear hb3 HS0 HBX HB4x HBGx
        go_wp2_with fail
        refine (find_n wx bf bm g W D Ag ng cg wA wc ob 0 g.nons rb (fun _ => 0) (fun _ => W.length + 1) E HF.out (mea g ((false, g.start), 0, W.length) + 1) ((false, g.start), 0, W.length) (fun _ => False) (fun _ => none) w3 (Nat.lt_succ_self _) HDR.out HOK.out HS3.out).mono ?_
        rintro e w4 ⟨bq, G', M', rfl, -, -, -, hat, hgr⟩
        obtain ⟨⟨va, vb, vA, vn, vcc⟩, htr, -, hcv⟩ := hat
        have HTR := Lib.hid htr
        have HB4 := Lib.hid (HB3.out.grown hgr HB3.out.size (fun q e => by have := Option.some.inj e; omega))
        have HB44 := Lib.hid (HB43.out.grown hgr (fun e => by have := Option.some.inj e; omega))
        have c0 := hcv 0 _ rfl
        have c1 := hcv 1 _ rfl
        have c2 := hcv 2 _ rfl
        simp only [Nat.zero_add] at c0 c1 c2
        have hbest := HF.out.fd.best HDR.out
        have HBE := Lib.hid hbest
        obtain ⟨t, ht⟩ : ∃ t, t = bst g.rules W ((false, g.start), 0, W.length) := ⟨_, rfl⟩
        rw [← ht] at HTR HBE
        clear hgr htr hcv hbest ht HS3 HB3 HB43
        go_wp2_with fail
        clear c0 c1 c2
        have HCP := copyN_n t.size G' (va, vb, vA, vn, vcc) t w4 HTR.out (Nat.le_refl _) ((HBE.out.1.nrw fun v hv => (HGO.out.ok.right v hv).1) t (List.mem_singleton.2 rfl))
        simp only [trVal] at HCP
        refine HCP.mono ?_
        clear HCP
        rintro e w5 ⟨⟨ua, ub, uA, un, uc⟩, rfl, ht5, hb5⟩
        simp only [trVal]
        have HB5 := Lib.hid (HB4.out.trans (hb5.mono HB4.out.size))
        have B4 := HB44.out.via hb5
        have HT5 := Lib.hid (ht5.mono (ok' := fun b => w.heap.size ≤ b ∧ b ≠ w.heap.size + 1) fun b _ hb => by
          have h1 := HB44.out.lt
          exact ⟨by omega, by omega⟩)
        clear ht5 hb5 HB4 HB44 HTR
        have cB4 := B4.cell
        have fB4 := B4.frozen
        have lB4 := B4.lt
        go_wp2_with fail
        refine bodyPost_ret (v := .tuple #[trVal (ua, ub, uA, un, uc), .int .i64 0]) (by simp [results, Tryd.results7, go_sem, trVal, cB4]) rfl ⟨_, t, _, rfl, ?_, ((HB5.out.setCell (by simp) _).setCell (by simp) _).setCell (by simp) _, Or.inr (Or.inr ⟨HLB.out, HBE.out, rfl⟩)⟩
        exact (HT5.out.agr (((Agr.setCell (p := ⟨w.heap.size + 1, 0, none⟩) _ fun b hb => hb.2).trans (Agr.setCell (p := ⟨w.heap.size + 1, 1, none⟩) _ fun b hb => hb.2)).trans (Agr.setCell (p := ⟨w.heap.size + 1, 2, none⟩) _ fun b hb => hb.2))).mono fun b _ hb => hb.1
end Go.Proofs.YtfmnmgnhanogmaaDoor



namespace Go.Proofs.YtfmnmgnhanogmaaDoor
open Go.RowKit

section
variable {R : List Ru} {W : List Nat} {f : Sy → Nat → Option (List (Tr × Nat))}
end
/-! ### the grammar of goesBack() -/
def gbR : List Ru := [(0, [(false, 1), (false, 1)]), (1, [(true, 0)]), (1, [(true, 0), (true, 0)])]
theorem gb_pg : pg gbR [0, 0, 0] 4 (false, 0) 0 = some (some (.node 0 [.node 1 [.leaf 0], .node 1 [.leaf 0]], 2)) := rfl
theorem gb_en : ∃ L, en gbR [0, 0, 0] 4 (false, 0) 0 = some L ∧ L.find? (fun p => p.2 == 3) = some (.node 0 [.node 1 [.leaf 0], .node 2 [.leaf 0, .leaf 0]], 3) := ⟨_, rfl, rfl⟩
theorem gb_null (n : Nat) : ¬ NullN gbR n := by
  intro h
  induction h with
  | mk N rhs h h1 h2 ih =>
    simp only [gbR, List.mem_cons, Prod.mk.injEq, List.not_mem_nil, or_false] at h
    rcases h with ⟨_, rfl⟩ | ⟨_, rfl⟩ | ⟨_, rfl⟩
    · exact ih (false, 1) (by simp)
    · have := h1 (true, 0) (by simp); simp at this
    · have := h1 (true, 0) (by simp); simp at this
theorem gb_beg (i j : Nat) : BegM gbR i j ↔ i = 0 ∧ j = 1 := by
  rw [← begT_iff (nul := fun _ => false) (fun n => ⟨fun h => (by cases h), fun h => (gb_null n h).elim⟩)]
  simp only [begT, gbR, List.any_cons, List.any_nil, begL, Bool.or_false, List.contains_eq_mem]
  simp
  omega
end Go.Proofs.YtfmnmgnhanogmaaDoor



namespace Go.Proofs.YtfmnmgnhanogmaaDoor
open Go.RowKit

/-- a function that only computes a Bool -/
def BoolP (w : World) (b : Bool) (e : Ending) (w' : World) : Prop := e = .returned (.bool b) ∧ ∃ q, w' = w.drewN q
theorem BoolP.below {w w' : World} {b : Bool} {e : Ending} (h : BoolP w b e w') : e = .returned (.bool b) ∧ Below w.heap.size w w' := by
  obtain ⟨he, q, rfl⟩ := h
  exact ⟨he, below_drewN (Below.refl _ _) q⟩

/-- the first k elements agree -/
def AgreeN (xs ys : List Int) (k : Nat) : Prop := ∀ j, j < k → xs.getD j 0 = ys.getD j 0
theorem AgreeN.full {xs ys : List Int} {n : Nat} (h : AgreeN xs ys n) (hx : xs.length = n) (hy : ys.length = n) : xs = ys := by
  apply List.ext_getElem (by omega)
  intro i h1 h2
  have := h i (by omega)
  simpa [List.getD_eq_getElem?_getD, h1, h2] using this

set_option maxHeartbeats 1000000 in
theorem equal_c (A B : Option Addr) (n c m d : Nat) (xs ys : List Int) (w : World) (h1 : Ints w A n c xs) (h2 : Ints w B m d ys) (hn : n ≤ 17592186044416) :
    Calls Tryd.prog 13 #[.slice A n c, .slice B m d] w (BoolP w (decide (xs = ys))) := by
  by_cases hnm : n = m
  · subst hnm
    have k0 : ((n : Int) != (n : Int)) = false := by simp
    go_enter Tryd.func13, Tryd.ntmps13
    go_wp2_with fail
    go_loopw [13] (fun i wr => ∃ k : Nat, i = .int .i64 k ∧ k ≤ n ∧ AgreeN xs ys k ∧ ∃ q, wr = w.drewN q) (fun i _ => n - (intOf i).toNat)
    case atStart => exact ⟨0, rfl, Nat.zero_le _, fun j hj => absurd hj (by omega), 0, rfl⟩
    case round =>
      obtain ⟨k, rfl, hk, hag, q, rfl⟩ := hrel
      by_cases hlt : k < n
      · obtain ⟨b1, o1, rfl, hb1, hx⟩ := h1.at_ hlt
        obtain ⟨b2, o2, rfl, hb2, hy⟩ := h2.at_ hlt
        have i0 : (0 : Int) ≤ (k : Int) := by omega
        have i1 : (k : Int) < (n : Int) := by omega
        have H1 := Lib.hid h1.len
        have H2 := Lib.hid h2.len
        have HA := Lib.hid hag
        by_cases he : xs.getD k 0 = ys.getD k 0
        · have hag' : AgreeN xs ys (k + 1) := fun j hj => by
            rcases Nat.lt_or_ge j k with hj' | hj'
            · exact HA.out j hj'
            · obtain rfl : j = k := by omega
              exact he
          have HA' := Lib.hid hag'
          rw [he] at hx
          generalize ys.getD k 0 = y at *
          have e0 : (y != y) = false := by simp
          clear hag hag' he h1 h2
          go_wp2_with fail
          go_quiet (fail)
          go_wp2_with fail
          go_roundw
          case rel => exact ⟨k + 1, by go_num, by omega, HA'.out, _, rfl⟩
          case measure => simp [intOf]; omega
        · have hne : xs ≠ ys := fun e => he (by rw [e])
          have HN := Lib.hid hne
          generalize ys.getD k 0 = y at *
          generalize xs.getD k 0 = x at *
          have e0 : (x != y) = true := by simpa using he
          clear hag he h1 h2 hne
          go_wp2_with fail
          go_quiet (fail)
          go_wp2_with fail
          go_ret
          exact ⟨by simp [HN.out], q + nq, (World.drewN_drewN _ _ _)⟩
      · have hkn : k = n := by omega
        have hfin : xs = ys := AgreeN.full (n := n) (hkn ▸ hag) h1.len h2.len
        have HF := Lib.hid hfin
        clear hfin h1 h2 hag hkn
        go_wp2_with fail
        go_ret
        exact ⟨by simp [HF.out], _, rfl⟩
  · have k0 : ((n : Int) != (m : Int)) = true := by simp; omega
    have hne : xs ≠ ys := fun e => hnm (by rw [← h1.len, ← h2.len, e])
    have HN := Lib.hid hne
    clear hnm hne
    go_enter Tryd.func13, Tryd.ntmps13
    go_wp2_with fail
    go_ret
    exact ⟨by simp [HN.out], 0, rfl⟩
end Go.Proofs.YtfmnmgnhanogmaaDoor








namespace Go.Proofs.YtfmnmgnhanogmaaDoor
open Go.RowKit

theorem Sl.ofBlkQ {α ρ : Type} {E : Elem α ρ} {ok : Nat → Prop} {w : World} {b n : Nat} {t : TypeId} {cs : Array Value} {l : List α} (h : Blk w b t cs) (raw : List ρ) (hcs : cs.toList = flat E raw) (hl : l.length = n) (hr : raw.length = n) (hok : ok b)
    (hrel : ∀ (i : Nat) (r : ρ) (x : α), raw[i]? = some r → l[i]? = some x → E.rel ok w r x) : Sl E ok w (some ⟨b, 0, none⟩) n n l :=
  ⟨hl, Nat.le_refl _, raw, hr, fun _ => ⟨b, 0, rfl, hok, fun j u hu => by rw [Nat.zero_add, h.cell]; rw [← hcs] at hu; simpa using hu⟩, hrel⟩
theorem Ints.litQ {w : World} {b n : Nat} {t : TypeId} {cs : Array Value} {xs : List Int} (h : Blk w b t cs) (hcs : cs.toList = xs.map (Value.int .i64)) (hn : xs.length = n) : Ints w (some ⟨b, 0, none⟩) n n xs := by
  refine ⟨hn, Nat.le_refl _, fun _ => ⟨b, 0, rfl, fun i hi => ?_⟩⟩
  rw [Nat.zero_add, h.cell, ← Array.getElem?_toList, hcs, List.getElem?_map, List.getD_eq_getElem?_getD, List.getElem?_eq_getElem (by omega)]
  rfl
def gbG : Gr := ⟨1, 2, 0, gbR⟩
theorem gbG_ok : GrOk gbG := by
  refine ⟨⟨by simp [gbG], by simp [gbG], by simp [gbG], by simp [gbG, gbR], ?_, ?_⟩, by simp [gbG, gbR]⟩
  · intro r hr; simp [gbG, gbR] at hr; rcases hr with rfl | rfl | rfl <;> simp [gbG]
  · intro r hr; simp [gbG, gbR] at hr
    rcases hr with rfl | rfl | rfl
    · exact ⟨by simp, fun s hs => by simp at hs; subst hs; simp [Gr.okSy, gbG]⟩
    · exact ⟨by simp, fun s hs => by simp at hs; subst hs; simp [Gr.okSy, gbG]⟩
    · exact ⟨by simp, fun s hs => by simp at hs; subst hs; simp [Gr.okSy, gbG]⟩
theorem gb_D : begD gbR = fun i j => decide (i = 0 ∧ j = 1) := by
  funext i j
  rw [Bool.eq_iff_iff, begD_iff, gb_beg]; simp
theorem gb_loop : loopB gbG = false := by
  unfold loopB
  show lefB (begD gbR) 2 = false
  rw [gb_D]; decide
theorem gb_lef : lefW gbG = [[1], []] := by
  unfold lefW
  show (List.range 2).map (fun n => intsN (lefL (begD gbR) 2 n)) = _
  rw [gb_D]; decide
def gbT : Tr := .node 0 [.node 1 [.leaf 0], .node 2 [.leaf 0, .leaf 0]]
def gbU : Tr := .node 0 [.node 1 [.leaf 0], .node 1 [.leaf 0]]
theorem gb_best : IsBest gbR [0, 0, 0] ((false, 0), 0, 3) gbT := by
  obtain ⟨L, h1, h2⟩ := gb_en
  exact en_first h1 h2
theorem gb_tree {t : Tr} {c : Int} (h : (loopB gbG = true ∧ c = 9 ∧ t = .node 0 []) ∨ (loopB gbG = false ∧ ¬ (∃ t, DrL gbR [0, 0, 0] [(false, 0)] 0 3 [t]) ∧ c = 10 ∧ t = .node 0 []) ∨ (loopB gbG = false ∧ IsBest gbR [0, 0, 0] ((false, 0), 0, 3) t ∧ c = 0)) : t = gbT ∧ c = 0 := by
  rcases h with ⟨h, -⟩ | ⟨-, h, -⟩ | ⟨-, h, rfl⟩
  · rw [gb_loop] at h; cases h
  · exact absurd ⟨_, gb_best.1⟩ h
  · exact ⟨h.uniq gb_best, rfl⟩
theorem gb_peg {t : Tr} {m c : Int} (h : (loopB gbG = true ∧ c = 9 ∧ m = 0 ∧ t = .node 0 []) ∨ (loopB gbG = false ∧ (∃ d, pg gbR [0, 0, 0] d (false, 0) 0 = some none) ∧ c = 10 ∧ m = 0 ∧ t = .node 0 []) ∨ (loopB gbG = false ∧ (∃ d e, pg gbR [0, 0, 0] d (false, 0) 0 = some (some (t, e)) ∧ m = (e : Int)) ∧ c = 0)) : t = gbU ∧ m = 2 ∧ c = 0 := by
  rcases h with ⟨h, -⟩ | ⟨-, ⟨d, h⟩, -⟩ | ⟨-, ⟨d, e, h, rfl⟩, rfl⟩
  · rw [gb_loop] at h; cases h
  · have := pg_uniq h gb_pg; cases this
  · have := pg_uniq h gb_pg
    simp only [Option.some.injEq, Prod.mk.injEq] at this
    obtain ⟨rfl, rfl⟩ := this
    exact ⟨rfl, rfl, rfl⟩
set_option maxRecDepth 100000 in
set_option maxHeartbeats 8000000 in
theorem goes_c (w : World) (hT : TabW w) : Calls Tryd.prog 9 #[] w fun e w' => e = .returned (.bool true) ∧ Below w.heap.size w w' := by
  have HT := Lib.hid hT
  clear hT
  go_enter Tryd.func9, Tryd.ntmps9
  go_upto_region 2 with fail
  have b0 := ((((Blk.new w 54 #[.bool false, .int .i64 1, .bool false, .int .i64 1]).al (.cells #[.bool true, .int .i64 0] 54)).al (.cells #[.bool true, .int .i64 0, .bool true, .int .i64 0] 54)).al (.cells #[.int .i64 0, .slice (some ⟨w.heap.size, 0, none⟩) 2 2, .int .i64 1, .slice (some ⟨w.heap.size + 1, 0, none⟩) 1 1, .int .i64 1, .slice (some ⟨w.heap.size + 1 + 1, 0, none⟩) 2 2] 77)).al (.cells #[.int .i64 1, .int .i64 2, .int .i64 0, .slice (some ⟨w.heap.size + 1 + 1 + 1, 0, none⟩) 3 3] 24)
  have b1 := (((Blk.newAt (w.alloc (.cells #[.bool false, .int .i64 1, .bool false, .int .i64 1] 54)) 54 #[.bool true, .int .i64 0] (w.heap.size + 1) (by simp)).al (.cells #[.bool true, .int .i64 0, .bool true, .int .i64 0] 54)).al (.cells #[.int .i64 0, .slice (some ⟨w.heap.size, 0, none⟩) 2 2, .int .i64 1, .slice (some ⟨w.heap.size + 1, 0, none⟩) 1 1, .int .i64 1, .slice (some ⟨w.heap.size + 1 + 1, 0, none⟩) 2 2] 77)).al (.cells #[.int .i64 1, .int .i64 2, .int .i64 0, .slice (some ⟨w.heap.size + 1 + 1 + 1, 0, none⟩) 3 3] 24)
  have b2 := ((Blk.newAt ((w.alloc (.cells #[.bool false, .int .i64 1, .bool false, .int .i64 1] 54)).alloc (.cells #[.bool true, .int .i64 0] 54)) 54 #[.bool true, .int .i64 0, .bool true, .int .i64 0] (w.heap.size + 1 + 1) (by simp)).al (.cells #[.int .i64 0, .slice (some ⟨w.heap.size, 0, none⟩) 2 2, .int .i64 1, .slice (some ⟨w.heap.size + 1, 0, none⟩) 1 1, .int .i64 1, .slice (some ⟨w.heap.size + 1 + 1, 0, none⟩) 2 2] 77)).al (.cells #[.int .i64 1, .int .i64 2, .int .i64 0, .slice (some ⟨w.heap.size + 1 + 1 + 1, 0, none⟩) 3 3] 24)
  have b3 := (Blk.newAt (((w.alloc (.cells #[.bool false, .int .i64 1, .bool false, .int .i64 1] 54)).alloc (.cells #[.bool true, .int .i64 0] 54)).alloc (.cells #[.bool true, .int .i64 0, .bool true, .int .i64 0] 54)) 77 #[.int .i64 0, .slice (some ⟨w.heap.size, 0, none⟩) 2 2, .int .i64 1, .slice (some ⟨w.heap.size + 1, 0, none⟩) 1 1, .int .i64 1, .slice (some ⟨w.heap.size + 1 + 1, 0, none⟩) 2 2] (w.heap.size + 1 + 1 + 1) (by simp)).al (.cells #[.int .i64 1, .int .i64 2, .int .i64 0, .slice (some ⟨w.heap.size + 1 + 1 + 1, 0, none⟩) 3 3] 24)
  have BG := Blk.newAt ((((w.alloc (.cells #[.bool false, .int .i64 1, .bool false, .int .i64 1] 54)).alloc (.cells #[.bool true, .int .i64 0] 54)).alloc (.cells #[.bool true, .int .i64 0, .bool true, .int .i64 0] 54)).alloc (.cells #[.int .i64 0, .slice (some ⟨w.heap.size, 0, none⟩) 2 2, .int .i64 1, .slice (some ⟨w.heap.size + 1, 0, none⟩) 1 1, .int .i64 1, .slice (some ⟨w.heap.size + 1 + 1, 0, none⟩) 2 2] 77)) 24 #[.int .i64 1, .int .i64 2, .int .i64 0, .slice (some ⟨w.heap.size + 1 + 1 + 1, 0, none⟩) 3 3] (w.heap.size + 1 + 1 + 1 + 1) (by simp)
  have hbw := (((((Below.refl w.heap.size w).al (.cells #[.bool false, .int .i64 1, .bool false, .int .i64 1] 54)).al (.cells #[.bool true, .int .i64 0] 54)).al (.cells #[.bool true, .int .i64 0, .bool true, .int .i64 0] 54)).al (.cells #[.int .i64 0, .slice (some ⟨w.heap.size, 0, none⟩) 2 2, .int .i64 1, .slice (some ⟨w.heap.size + 1, 0, none⟩) 1 1, .int .i64 1, .slice (some ⟨w.heap.size + 1 + 1, 0, none⟩) 2 2] 77)).al (.cells #[.int .i64 1, .int .i64 2, .int .i64 0, .slice (some ⟨w.heap.size + 1 + 1 + 1, 0, none⟩) 3 3] 24)
  generalize (((((w.alloc (.cells #[.bool false, .int .i64 1, .bool false, .int .i64 1] 54)).alloc (.cells #[.bool true, .int .i64 0] 54)).alloc (.cells #[.bool true, .int .i64 0, .bool true, .int .i64 0] 54)).alloc (.cells #[.int .i64 0, .slice (some ⟨w.heap.size, 0, none⟩) 2 2, .int .i64 1, .slice (some ⟨w.heap.size + 1, 0, none⟩) 1 1, .int .i64 1, .slice (some ⟨w.heap.size + 1 + 1, 0, none⟩) 2 2] 77)).alloc (.cells #[.int .i64 1, .int .i64 2, .int .i64 0, .slice (some ⟨w.heap.size + 1 + 1 + 1, 0, none⟩) 3 3] 24)) = W1 at *
  have hsl : Sl RuE (fun _ => True) W1 (some ⟨w.heap.size + 1 + 1 + 1, 0, none⟩) 3 3 gbR := by
    refine Sl.ofBlkQ b3 [(0, some ⟨w.heap.size, 0, none⟩, 2, 2), (1, some ⟨w.heap.size + 1, 0, none⟩, 1, 1), (1, some ⟨w.heap.size + 1 + 1, 0, none⟩, 2, 2)] rfl rfl rfl trivial fun i r x hr hx => ?_
    match i, hr, hx with
    | 0, hr, hx =>
      simp [gbR] at hr hx; subst hr; subst hx
      exact ⟨rfl, Sl.ofBlkQ b0 [(false, 1), (false, 1)] rfl rfl rfl trivial fun i r x hr hx => Option.some.inj (hr.symm.trans hx)⟩
    | 1, hr, hx =>
      simp [gbR] at hr hx; subst hr; subst hx
      exact ⟨rfl, Sl.ofBlkQ b1 [(true, 0)] rfl rfl rfl trivial fun i r x hr hx => Option.some.inj (hr.symm.trans hx)⟩
    | 2, hr, hx =>
      simp [gbR] at hr hx; subst hr; subst hx
      exact ⟨rfl, Sl.ofBlkQ b2 [(true, 0), (true, 0)] rfl rfl rfl trivial fun i r x hr hx => Option.some.inj (hr.symm.trans hx)⟩
    | i + 3, hr, hx => simp at hr
  have HB := Lib.hid hbw
  have HSL := Lib.hid hsl
  have HBG := Lib.hid BG
  clear b0 b1 b2 b3 hbw hsl
  obtain ⟨a3, ha3⟩ : ∃ a, a = w.heap.size + 1 + 1 + 1 := ⟨_, rfl⟩
  rw [← ha3] at HSL HBG BG ⊢
  obtain ⟨b4, hb4⟩ : ∃ a, a = a3 + 1 := ⟨_, rfl⟩
  rw [← hb4] at HBG BG ⊢
  clear ha3 hb4
  have hal := (Below.refl W1.heap.size W1).al (.cells #[.int .i64 0, .int .i64 0, .int .i64 0] 3)
  have hw1 : Ints (W1.alloc (.cells #[.int .i64 0, .int .i64 0, .int .i64 0] 3)) (some ⟨W1.heap.size, 0, none⟩) 3 3 [0, 0, 0] := Ints.litQ (Blk.new W1 3 #[.int .i64 0, .int .i64 0, .int .i64 0]) rfl rfl
  have HC : Calls Tryd.prog 7 #[.agg #[.int .i64 1, .int .i64 2, .int .i64 0, .slice (some ⟨a3, 0, none⟩) 3 3], .slice (some ⟨W1.heap.size, 0, none⟩) 3 3] (W1.alloc (.cells #[.int .i64 0, .int .i64 0, .int .i64 0] 3)) _ := dparse_c (fun _ => True) gbG (some ⟨a3, 0, none⟩) 3 3 (some ⟨W1.heap.size, 0, none⟩) 3 [0, 0, 0] _ gbG_ok (HSL.out.via hal) hw1 (by simp [gbG]) (by simp) ((HT.out.via HB.out).via hal)
  replace HB := Lib.hid (HB.out.via hal)
  replace HSL := Lib.hid (HSL.out.via hal)
  replace HBG := Lib.hid (HBG.out.via hal)
  clear hal hw1
  have cBG := BG.cell
  have fBG := BG.frozen
  have lBG := BG.lt
  go_wp2_with fail
  clear cBG fBG lBG
  generalize W1.alloc (.cells #[.int .i64 0, .int .i64 0, .int .i64 0] 3) = W2 at *
  generalize W1.heap.size = z1 at *
  refine HC.mono ?_
  clear HC BG
  rintro e w3 ⟨⟨va, vb, vA, vn, vc⟩, t, c, rfl, ht, hb3, hq⟩
  obtain ⟨rfl, rfl⟩ := gb_tree hq
  have hal := (Below.refl w3.heap.size w3).al (.cells #[.int .i64 va, .int .i64 vb, .slice vA vn vc] 34)
  have HT1 := Lib.hid (ht.via hal)
  have BT1 := Blk.new w3 34 #[.int .i64 va, .int .i64 vb, .slice vA vn vc]
  replace HB := Lib.hid ((HB.out.via hb3).via hal)
  replace HSL := Lib.hid ((HSL.out.via hb3).via hal)
  have BG := (HBG.out.via hb3).via hal
  clear ht hq hal hb3 HBG
  simp only [trVal]
  go_upto_region 3 with fail
  generalize w3.alloc (.cells #[.int .i64 va, .int .i64 vb, .slice vA vn vc] 34) = W3 at *
  generalize w3.heap.size = b2 at *
  have HBG := Lib.hid BG
  have HBT1 := Lib.hid BT1
  have HC : Calls Tryd.prog 6 #[.agg #[.int .i64 1, .int .i64 2, .int .i64 0, .slice (some ⟨a3, 0, none⟩) 3 3]] W3 _ := Left_c (fun _ => True) gbG (some ⟨a3, 0, none⟩) 3 3 W3 gbG_ok HSL.out
  clear BT1
  have cBG := BG.cell
  have fBG := BG.frozen
  have lBG := BG.lt
  go_wp2_with fail
  clear cBG fBG lBG
  refine HC.mono ?_
  clear HC BG
  rintro e w4 ⟨lA, lc, rfl, hls, hb4⟩
  rw [gb_lef] at hls
  simp only [gbG] at hls ⊢
  replace HB := Lib.hid (HB.out.via hb4)
  replace HSL := Lib.hid (HSL.out.via hb4)
  have BG := HBG.out.via hb4
  replace HT1 := Lib.hid (HT1.out.via hb4)
  replace HBT1 := Lib.hid (HBT1.out.via hb4)
  have HLS := Lib.hid hls
  clear hls hb4 HBG
  go_upto_region 4 with fail
  have hal := (Below.refl w4.heap.size w4).al (.cells #[.int .i64 0, .int .i64 0, .int .i64 0] 3)
  have hw1 : Ints (w4.alloc (.cells #[.int .i64 0, .int .i64 0, .int .i64 0] 3)) (some ⟨w4.heap.size, 0, none⟩) 3 3 [0, 0, 0] := Ints.litQ (Blk.new w4 3 #[.int .i64 0, .int .i64 0, .int .i64 0]) rfl rfl
  have HC : Calls Tryd.prog 18 #[.agg #[.int .i64 1, .int .i64 2, .int .i64 0, .slice (some ⟨a3, 0, none⟩) 3 3], .slice (some ⟨w4.heap.size, 0, none⟩) 3 3] (w4.alloc (.cells #[.int .i64 0, .int .i64 0, .int .i64 0] 3)) _ := ppk_c (fun _ => True) gbG (some ⟨a3, 0, none⟩) 3 3 (some ⟨w4.heap.size, 0, none⟩) 3 [0, 0, 0] _ gbG_ok (HSL.out.via hal) hw1 (by simp [gbG]) (by simp)
  replace HB := Lib.hid (HB.out.via hal)
  replace HT1 := Lib.hid (HT1.out.via hal)
  replace HBT1 := Lib.hid (HBT1.out.via hal)
  replace HLS := Lib.hid (HLS.out.via hal)
  clear hal hw1 HSL
  have cBG := BG.cell
  have fBG := BG.frozen
  have lBG := BG.lt
  go_wp2_with fail
  clear cBG fBG lBG
  generalize w4.alloc (.cells #[.int .i64 0, .int .i64 0, .int .i64 0] 3) = W4 at *
  generalize w4.heap.size = z4 at *
  refine HC.mono ?_
  clear HC BG
  rintro e w5 ⟨⟨ua, ub, uA, un, uc⟩, t2, m2, c2, rfl, ht2, hb5, hq⟩
  obtain ⟨rfl, rfl, rfl⟩ := gb_peg hq
  have hal := (Below.refl w5.heap.size w5).al (.cells #[.int .i64 ua, .int .i64 ub, .slice uA un uc] 34)
  have HT2 := Lib.hid (ht2.via hal)
  have BT2 := Blk.new w5 34 #[.int .i64 ua, .int .i64 ub, .slice uA un uc]
  replace HB := Lib.hid ((HB.out.via hb5).via hal)
  replace HT1 := Lib.hid ((HT1.out.via hb5).via hal)
  replace HBT1 := Lib.hid ((HBT1.out.via hb5).via hal)
  replace HLS := Lib.hid ((HLS.out.via hb5).via hal)
  clear ht2 hq hal hb5
  simp only [trVal]
  go_upto_region 5 with fail
  generalize w5.alloc (.cells #[.int .i64 ua, .int .i64 ub, .slice uA un uc] 34) = W5 at *
  generalize w5.heap.size = b6 at *
  have HBT2 := Lib.hid BT2
  have BT1 := HBT1.out
  have HP1 := Lib.hid (show Calls Tryd.prog 34 #[.agg #[.int .i64 va, .int .i64 vb, .slice vA vn vc]] W5 _ from pre_n 6 _ (va, vb, vA, vn, vc) gbT W5 HT1.out (by decide) (by decide))
  clear BT2
  have cBT1 := BT1.cell
  have fBT1 := BT1.frozen
  have lBT1 := BT1.lt
  go_wp2_with fail
  have hz6 : gbT.size = 6 := by decide
  have hr6 : gbT.ruP = [0, 1, -1, 2, -1, -1] := by decide
  refine HP1.out.mono ?_
  rintro e w6 ⟨pA, pc, rfl, hI, hb6⟩
  rw [hz6, hr6] at hI
  rw [hz6]
  have hal := (Below.refl w6.heap.size w6).al (.cells #[.int .i64 0, .int .i64 1, .int .i64 (-1), .int .i64 2, .int .i64 (-1), .int .i64 (-1)] 3)
  have HI := Lib.hid (hI.via hal)
  have HY := Lib.hid (show Ints (w6.alloc (.cells #[.int .i64 0, .int .i64 1, .int .i64 (-1), .int .i64 2, .int .i64 (-1), .int .i64 (-1)] 3)) (some ⟨w6.heap.size, 0, none⟩) 6 6 [0, 1, -1, 2, -1, -1] from Ints.litQ (Blk.new w6 3 #[.int .i64 0, .int .i64 1, .int .i64 (-1), .int .i64 2, .int .i64 (-1), .int .i64 (-1)]) rfl rfl)
  replace HB := Lib.hid ((HB.out.via hb6).via hal)
  replace HT2 := Lib.hid ((HT2.out.via hb6).via hal)
  replace HBT2 := Lib.hid ((HBT2.out.via hb6).via hal)
  replace HLS := Lib.hid ((HLS.out.via hb6).via hal)
  clear cBT1 fBT1 lBT1
  clear BT1 HBT1 HP1 HT1 hI hb6 hal hz6 hr6
  go_wp2_with fail
  generalize w6.alloc (.cells #[.int .i64 0, .int .i64 1, .int .i64 (-1), .int .i64 2, .int .i64 (-1), .int .i64 (-1)] 3) = W6 at *
  generalize w6.heap.size = z6 at *
  refine (equal_c pA (some ⟨z6, 0, none⟩) 6 pc 6 6 [0, 1, -1, 2, -1, -1] [0, 1, -1, 2, -1, -1] W6 HI.out HY.out (by omega)).mono ?_
  rintro e w7 hbp
  obtain ⟨rfl, hb7⟩ := hbp.below
  simp only [decide_true]
  replace HB := Lib.hid (HB.out.via hb7)
  replace HT2 := Lib.hid (HT2.out.via hb7)
  replace HBT2 := Lib.hid (HBT2.out.via hb7)
  replace HLS := Lib.hid (HLS.out.via hb7)
  clear hbp hb7 HI HY
  obtain ⟨bR, oR, ⟨sA, sn, sc⟩, x, rfl, -, -, hx, hrel, hc⟩ := HLS.out.at_ (i := 0) (by omega)
  have hc0 := hc 0 _ rfl
  simp only [RwE, Nat.zero_mul, Nat.add_zero] at hc0
  obtain rfl : [1] = x := by simpa using hx
  have hI : Ints w7 sA sn sc [1] := Sl.intsIn hrel
  have hsn : sn = 1 := by have := hI.1; simpa using this.symm
  subst hsn
  have hal := (Below.refl w7.heap.size w7).al (.cells #[.int .i64 1] 3)
  have HI := Lib.hid (hI.via hal)
  have HY := Lib.hid (show Ints (w7.alloc (.cells #[.int .i64 1] 3)) (some ⟨w7.heap.size, 0, none⟩) 1 1 [1] from Ints.litQ (Blk.new w7 3 #[.int .i64 1]) rfl rfl)
  replace HB := Lib.hid (HB.out.via hal)
  replace HT2 := Lib.hid (HT2.out.via hal)
  replace HBT2 := Lib.hid (HBT2.out.via hal)
  clear hx hrel hc hI hal HLS
  go_wp2_with fail
  generalize w7.alloc (.cells #[.int .i64 1] 3) = W7 at *
  generalize w7.heap.size = z7 at *
  refine (equal_c sA (some ⟨z7, 0, none⟩) 1 sc 1 1 [1] [1] W7 HI.out HY.out (by omega)).mono ?_
  rintro e w8 hbp
  obtain ⟨rfl, hb8⟩ := hbp.below
  simp only [decide_true]
  replace HB := Lib.hid (HB.out.via hb8)
  have BT2 := HBT2.out.via hb8
  have HP2 := Lib.hid (show Calls Tryd.prog 34 #[.agg #[.int .i64 ua, .int .i64 ub, .slice uA un uc]] w8 _ from pre_n 5 _ (ua, ub, uA, un, uc) gbU w8 (HT2.out.via hb8) (by decide) (by decide))
  clear hbp hb8 HI HY hc0 HT2 HBT2
  have cBT2 := BT2.cell
  have fBT2 := BT2.frozen
  have lBT2 := BT2.lt
  go_wp2_with fail
  clear cBT2 fBT2 lBT2
  have hz6 : gbU.size = 5 := by decide
  have hr6 : gbU.ruP = [0, 1, -1, 1, -1] := by decide
  refine HP2.out.mono ?_
  rintro e w9 ⟨qA, qc, rfl, hI, hb9⟩
  rw [hz6, hr6] at hI
  rw [hz6]
  have hal := (Below.refl w9.heap.size w9).al (.cells #[.int .i64 0, .int .i64 1, .int .i64 (-1), .int .i64 1, .int .i64 (-1)] 3)
  have HI := Lib.hid (hI.via hal)
  have HY := Lib.hid (show Ints (w9.alloc (.cells #[.int .i64 0, .int .i64 1, .int .i64 (-1), .int .i64 1, .int .i64 (-1)] 3)) (some ⟨w9.heap.size, 0, none⟩) 5 5 [0, 1, -1, 1, -1] from Ints.litQ (Blk.new w9 3 #[.int .i64 0, .int .i64 1, .int .i64 (-1), .int .i64 1, .int .i64 (-1)]) rfl rfl)
  replace HB := Lib.hid ((HB.out.via hb9).via hal)
  clear HP2 hI hb9 hal hz6 hr6 BT2
  go_wp2_with fail
  generalize w9.alloc (.cells #[.int .i64 0, .int .i64 1, .int .i64 (-1), .int .i64 1, .int .i64 (-1)] 3) = W9 at *
  generalize w9.heap.size = z9 at *
  refine (equal_c qA (some ⟨z9, 0, none⟩) 5 qc 5 5 [0, 1, -1, 1, -1] [0, 1, -1, 1, -1] W9 HI.out HY.out (by omega)).mono ?_
  rintro e wA hbp
  obtain ⟨rfl, hbA⟩ := hbp.below
  simp only [decide_true]
  replace HB := Lib.hid (HB.out.via hbA)
  clear hbp hbA HI HY
  go_wp2_with fail
  go_ret
  exact ⟨rfl, HB.out⟩
end Go.Proofs.YtfmnmgnhanogmaaDoor

