/- Texts IB, laid together. -/
import Derived.Test.YthkldiehokblcaaIA
import Derived.Test.YthkldiehokblcaaRG



namespace Go.Proofs.Ythkldiehokblcaa
open Go.RowKit

abbrev rejV : List PanicEntry := [{ v := .iface 64 (.agg #[]), recovered := false }]
def PzP (w : World) (bp : Nat) (cells : Nat → Array Value) (r : Option Tr) (k' : Nat) (e : Ending) (w' : World) : Prop :=
  Blk w' bp 62 (cells k') ∧ Agr (fun b => b ≠ bp) w w' ∧ w.heap.size ≤ w'.heap.size ∧ Below bp w w' ∧ match r with
   | some t => ∃ v, e = .returned (trVal v) ∧ TreeR (fun b => w.heap.size ≤ b) w' v t
   | none => e = .panicked rejV
theorem Agr.setNew {ok : Nat → Prop} {w w' : World} (h : Agr ok w w') {p : Addr} (hp : w.heap.size ≤ p.block) (u : Value) : Agr ok w (w'.setCell p u) := fun b hb hlt => (Below.heap_setCell w' p u b (by omega)).trans (h b hb hlt)
theorem gleaf_c (a : Nat) (w : World) : Calls Try.prog 43 #[.int .i64 (a : Int)] w fun e w' => e = .returned (trVal (-1, (a : Int), none, 0, 0)) ∧ Below w.heap.size w w' := by
  go_enter Try.func43, Try.ntmps43
  go_wp2_with fail
  refine bodyPost_ret (v := trVal (-1, (a : Int), none, 0, 0)) (by simp [results, Try.results43, go_sem, trVal]) rfl ⟨rfl, ?_⟩
  exact (Below.refl w.heap.size w).al _
/-- behind j kids -/
structure KidB (w : World) (bp : Nat) (cells : Nat → Array Value) (i bt j kj : Nat) (v : Value) (ks : List Tr) (wr : World) : Prop where
  pb : Blk wr bp 62 (cells kj)
  agr : Agr (fun b => b ≠ bp) w wr
  own : Own TrE 37 (fun b => bt + 1 ≤ b) wr (bt + 1) v j ks
  b2 : Blk wr (w.heap.size + 1) 37 #[.int .i64 0, .int .i64 0, .slice none 0 0]
  b3 : Blk wr bt 37 #[.int .i64 (i : Int), .int .i64 0, v]
  size : bt + 1 ≤ wr.heap.size
  hbt : w.heap.size + 2 ≤ bt
  hbp : bp < w.heap.size
  bel : Below bp w wr
section
variable {w wr wa : World} {bp : Nat} {cells : Nat → Array Value} {i bt j kj kj' : Nat} {v : Value} {ks : List Tr}
theorem KidB.call (h : KidB w bp cells i bt j kj v ks wr) (hp : Blk wa bp 62 (cells kj')) (ha : Agr (fun b => b ≠ bp) wr wa) (hz : wr.heap.size ≤ wa.heap.size) (hb : Below bp wr wa) : KidB w bp cells i bt j kj' v ks wa := by
  have h1 := h.hbt
  have h2 := h.hbp
  have h3 := h.size
  refine ⟨hp, h.agr.trans ha, h.own.agr (ha.mono fun b hb => ?_), (ha _ (by omega) (by omega)).trans h.b2, (ha _ (by omega) (by omega)).trans h.b3, Nat.le_trans h.size hz, h1, h2, h.bel.trans hb⟩
  rcases hb with hb | hb
  · omega
  · have := (h.own.lt b hb.symm).1; omega
theorem KidB.via (h : KidB w bp cells i bt j kj v ks wr) (k : Below wr.heap.size wr wa) : KidB w bp cells i bt j kj v ks wa := h.call (h.pb.via k) (Agr.below k) k.size (k.mono (by have := h.hbp; have := h.hbt; have := h.size; omega))
theorem KidB.push {v' : Value} {t : Tr} (h : KidB w bp cells i bt j kj v ks wr) (ho : Own TrE 37 (fun b => bt + 1 ≤ b) wa (bt + 1) v' (j + 1) (ks ++ [t])) (hg : wr.grownBy wa v.ownBlock) : KidB w bp cells i bt (j + 1) kj v' (ks ++ [t]) (wa.setCell ⟨bt, 2, none⟩ v') := by
  have h1 := h.hbt
  have h2 := h.hbp
  have h3 := h.size
  have hne : ∀ b, b ≤ bt → some b ≠ v.ownBlock := fun b hb e => by have := (h.own.lt b e.symm).1; omega
  refine ⟨(h.pb.grown hg (hne _ (by omega))).far (by simp; omega) _, ?_, ho.setCell _ (fun b hb => by show b ≠ bt; omega) (by show bt < _; omega), (h.b2.grown hg (hne _ (by omega))).far (by simp; omega) _, ?_, by have := hg.size; simp; omega, h1, h2, (h.bel.grown hg (by omega) (fun b e => by have := (h.own.lt b e).1; omega)).setCell (by simp; omega) _⟩
  · intro b hb hlt
    exact (Below.heap_setCell wa ⟨bt, 2, none⟩ v' b (by simp; omega)).trans ((hg.block b (by omega) (hne _ (by omega))).trans (h.agr b hb hlt))
  · have := (h.b3.grown hg (hne _ (by omega))).set_ 2 v'; simpa using this
end
set_option maxRecDepth 100000 in
set_option maxHeartbeats 4000000 in
theorem parse_n (bp : Nat) (g : Gr) (W : List Nat) (Ag : Option Addr) (ng cg : Nat) (tA : Option Addr) (tc : Nat) (vA : Option Addr) (vn vc : Nat) (wA : Option Addr) (wcp : Nat) (hg : GrOk g) (hW : ∀ x ∈ W, x < g.terms) (hWl : W.length ≤ 2000) (d : Nat) :
    ∀ (w : World) (s : Sy) (k : Nat) (r : Option Tr) (k' : Nat), g.okSy s → k ≤ W.length → prs g W d s k = some (r, k') → PzS w bp g W Ag ng cg tA tc wA wcp → Blk w bp 62 (pzC g W Ag ng cg tA tc vA vn vc wA wcp k) →
    Calls Try.prog 19 #[.pointer (some ⟨bp, 0, none⟩), .agg #[.bool s.1, .int .i64 (s.2 : Int)]] w (PzP w bp (fun k => pzC g W Ag ng cg tA tc vA vn vc wA wcp k) r k') := by
  induction d with
  | zero => intro w s k r k' _ _ h; simp [prs] at h
  | succ d ih =>
    intro w s k r k' hs hk hp hS hB
    obtain ⟨b, a⟩ := s
    have HIH := Lib.hid ih
    have hbl := hB.lt
    have hal := ((Below.refl w.heap.size w).al (.cells #[.bool b, .int .i64 (a : Int)] 68)).al (.cells #[.int .i64 0, .int .i64 0, .slice none 0 0] 37)
    have BS := (Blk.new w 68 #[.bool b, .int .i64 (a : Int)]).al (.cells #[.int .i64 0, .int .i64 0, .slice none 0 0] 37)
    have BR := Blk.newAt (w.alloc (.cells #[.bool b, .int .i64 (a : Int)] 68)) 37 #[.int .i64 0, .int .i64 0, .slice none 0 0] (w.heap.size + 1) (by simp)
    have HB := Lib.hid (hB.via hal)
    have HS0 := Lib.hid hS
    have HS := Lib.hid (hS.agr (Agr.below hal))
    have HAL := Lib.hid hal
    have HSZ := Lib.hid (show ((w.alloc (.cells #[.bool b, .int .i64 (a : Int)] 68)).alloc (.cells #[.int .i64 0, .int .i64 0, .slice none 0 0] 37)).heap.size = w.heap.size + 2 by simp)
    have HG := Lib.hid hg
    clear hal hB hS ih hg
    cases b with
    | true =>
      simp only [prs, if_true] at hp
      have ha : a < g.terms := by simpa [Gr.okSy] using hs
      obtain ⟨q, hq⟩ : ∃ q, q = laP g W k := ⟨_, rfl⟩
      rw [← hq] at hp
      have HP := Lib.hid hp
      have HQ := Lib.hid hq
      clear hp hq hs
      go_enter Try.func19, Try.ntmps19
      go_upto_region 1 with fail
      generalize (w.alloc (.cells #[.bool true, .int .i64 (a : Int)] 68)).alloc (.cells #[.int .i64 0, .int .i64 0, .slice none 0 0] 37) = Wa at *
      have hbB := HB.out
      have HBR := Lib.hid BR
      clear BR
      simp only [pzC] at hbB
      have cBS := BS.cell
      have fBS := BS.frozen
      have lBS := BS.lt
      go_upto_region 2 with fail
      clear cBS fBS lBS
      have SO := Lib.hid (show ∀ w', Below Wa.heap.size Wa w' → ((∀ i, w'.cell? ⟨w.heap.size, i, none⟩ = #[.bool true, .int .i64 (a : Int)][i]?) ∧ Below Wa.heap.size Wa w') from fun w' hb => ⟨(BS.via hb).cell, hb⟩)
      have HBS := Lib.hid BS
      have hb0 := (Below.refl Wa.heap.size Wa).drew
      clear BS hbB
      have HN := Lib.hid (show ∀ w', Below Wa.heap.size Wa w' → Calls Try.prog 42 #[.pointer (some ⟨bp, 0, none⟩)] w' fun e w'' => e = .returned (.int .i64 (q : Int)) ∧ Below w'.heap.size w' w'' from fun w' hb => by
        rw [HQ.out]
        exact pnext_c bp g W Ag ng cg tA tc vA vn vc wA wcp k w' hk (HB.out.via hb) (HS.out.word.via hb).intsIn)
      by_cases hqa : q = a
      · have e1 : ((q : Int) != (a : Int)) = false := by simp [hqa]
        have HQA := Lib.hid hqa
        clear hqa
        go_region_held3 (fun w' => (∀ i, w'.cell? ⟨w.heap.size, i, none⟩ = #[.bool true, .int .i64 (a : Int)][i]?) ∧ Below Wa.heap.size Wa w') (exact SO.out _ (by assumption)) (first
          | (go_at_call 42; (with_reducible refine (HN.out _ (by assumption)).mono ?_); rintro ee wn ⟨rfl, hbn⟩; have hbm : Below Wa.heap.size Wa wn := Below.via (by assumption) hbn))
        have BP1 := HB.out.via hbm
        have BS1 := HBS.out.via hbm
        have HBR1 := Lib.hid (HBR.out.via hbm)
        have HBM := Lib.hid hbm
        clear hb0 hbm hbn
        simp only [pzC] at BP1
        have cBP1 := BP1.cell
        have fBP1 := BP1.frozen
        have lBP1 := BP1.lt
        have cBS1 := BS1.cell
        have fBS1 := BS1.frozen
        have lBS1 := BS1.lt
        have hkl : k < W.length := by
          have h1 := HQA.out; have h2 := HQ.out
          refine Nat.lt_of_le_of_ne hk fun e => ?_
          rw [e, laP_end] at h2; omega
        go_wp2_with fail
        clear cBP1 fBP1 lBP1 cBS1 fBS1 lBS1
        have HB2 := Lib.hid (show Blk (wn.setCell ⟨bp, 7, none⟩ (.int .i64 ((k : Int) + 1))) bp 62 (pzC g W Ag ng cg tA tc vA vn vc wA wcp (k + 1)) from by
          have := BP1.set_ 7 (.int .i64 ((k : Int) + 1)); simpa [pzC] using this)
        have HR2 := Lib.hid (HBR1.out.far (p := ⟨bp, 7, none⟩) (by simp; omega) (.int .i64 ((k : Int) + 1)))
        have HA2 := Lib.hid ((Agr.below (ok := fun b => b ≠ bp) (HAL.out.trans (HBM.out.mono (by have := HSZ.out; omega)))).trans (Agr.setCell (p := ⟨bp, 7, none⟩) (.int .i64 ((k : Int) + 1)) fun b hb => hb))
        have HE2 := Lib.hid (((HAL.out.trans (HBM.out.mono (by have := HSZ.out; omega))).mono (Nat.le_of_lt hbl)).setCell (p := ⟨bp, 7, none⟩) (Nat.le_refl _) (.int .i64 ((k : Int) + 1)))
        have HZ2 := Lib.hid (show w.heap.size + 2 ≤ (wn.setCell ⟨bp, 7, none⟩ (.int .i64 ((k : Int) + 1))).heap.size by have := HBM.out.size; have := HSZ.out; simp; omega)
        clear BP1 BS1
        generalize wn.setCell ⟨bp, 7, none⟩ (.int .i64 ((k : Int) + 1)) = wq at *
        refine (gleaf_c a wq).mono ?_
        rintro e w3 ⟨rfl, hb3⟩
        have HB3 := Lib.hid (HB2.out.via hb3)
        have BR3 := HR2.out.via hb3
        have HA3 := Lib.hid (HA2.out.trans (Agr.below hb3))
        have HZ3 := Lib.hid (Nat.le_trans HZ2.out hb3.size)
        have HE3 := Lib.hid (HE2.out.trans (hb3.mono (by have := HZ2.out; omega)))
        clear hb3
        dsimp only [trVal]
        have cBR3 := BR3.cell
        have fBR3 := BR3.frozen
        have lBR3 := BR3.lt
        go_wp2_with fail
        refine bodyPost_ret (v := trVal (-1, (a : Int), none, 0, 0)) (by simp [results, Try.results19, go_sem, trVal, cBR3]) rfl ?_
        have hp := HP.out
        rw [if_pos HQA.out] at hp
        simp only [Option.some.injEq, Prod.mk.injEq] at hp
        obtain ⟨rfl, rfl⟩ := hp
        have hz := HZ3.out
        refine ⟨((HB3.out.far (by simp; omega) _).far (by simp; omega) _).far (by simp; omega) _, ((HA3.out.setNew (by simp) _).setNew (by simp) _).setNew (by simp) _, by simp; omega, ((HE3.out.setCell (by simp; omega) _).setCell (by simp; omega) _).setCell (by simp; omega) _, _, rfl, .leaf a none 0⟩
      · have e1 : ((q : Int) != (a : Int)) = true := by simp; omega
        have HQA := Lib.hid hqa
        clear hqa
        go_region_held3 (fun w' => (∀ i, w'.cell? ⟨w.heap.size, i, none⟩ = #[.bool true, .int .i64 (a : Int)][i]?) ∧ Below Wa.heap.size Wa w') (exact SO.out _ (by assumption)) (first
          | (go_at_call 42; (with_reducible refine (HN.out _ (by assumption)).mono ?_); rintro ee wn ⟨rfl, hbn⟩; have hbm : Below Wa.heap.size Wa wn := Below.via (by assumption) hbn))
        have HBM := Lib.hid hbm
        clear hb0 hbm hbn
        go_wp2_with fail
        refine ⟨rfl, ?_⟩
        have hp := HP.out
        rw [if_neg HQA.out] at hp
        simp only [Option.some.injEq, Prod.mk.injEq] at hp
        obtain ⟨rfl, rfl⟩ := hp
        exact ⟨HB.out.via HBM.out, Agr.below (HAL.out.trans (HBM.out.mono (by have := HSZ.out; omega))), by have := HSZ.out; have := HBM.out.size; omega, (HAL.out.trans (HBM.out.mono (by have := HSZ.out; omega))).mono (Nat.le_of_lt hbl), rfl⟩
    | false =>
      simp only [prs, Bool.false_eq_true, if_false] at hp
      have ha : a < g.nons := by simpa [Gr.okSy] using hs
      obtain ⟨q, hq⟩ : ∃ q, q = laP g W k := ⟨_, rfl⟩
      rw [← hq] at hp
      have hqt : q ≤ g.terms := by rw [hq]; exact laP_le hW k
      obtain ⟨hd, hhd⟩ : ∃ hd, hd = headI (posL g a q) := ⟨_, rfl⟩
      have HP := Lib.hid hp
      have HQ := Lib.hid hq
      have HHD := Lib.hid hhd
      clear hp hq hs hhd
      obtain ⟨tb, tof, ⟨rA, rn, rc⟩, row, rfl, htb, htl, hrow, hrr, hcc⟩ := HS.out.tab.at_ ha
      have hre : row = rowP g a (g.terms + 1) := by
        unfold tabT at hrow
        rw [List.getElem?_map, List.getElem?_range ha] at hrow
        exact (Option.some.inj hrow).symm
      subst hre
      have ch := hcc 0 _ rfl
      simp only [RwE, Nat.mul_one, Nat.add_zero] at ch
      have hr2 : Sl InE (fun b => b ≠ bp) _ rA rn rc (rowP g a (g.terms + 1)) := hrr
      have hrn : rn = g.terms + 1 := by rw [← hr2.len]; simp [rowP]
      subst hrn
      obtain ⟨rb, ro, rfl, hrc⟩ := hr2.intsIn.2.2 (by omega)
      have cr := hrc q (by omega)
      have e1 : (rowP g a (g.terms + 1)).getD q 0 = hd := by
        rw [HHD.out]
        unfold rowP
        rw [List.getD_eq_getElem?_getD, List.getElem?_map, List.getElem?_range (by omega)]; rfl
      rw [e1] at cr
      clear hrc hcc hrr hr2 hrow e1
      have i0 : (0 : Int) ≤ (a : Int) := by omega
      have i1 : (a : Int) < (g.nons : Int) := by omega
      have i2 : (0 : Int) ≤ (q : Int) := by omega
      have i3 : (q : Int) < (g.terms : Int) + 1 := by omega
      go_enter Try.func19, Try.ntmps19
      go_upto_region 1 with fail
      generalize (w.alloc (.cells #[.bool false, .int .i64 (a : Int)] 68)).alloc (.cells #[.int .i64 0, .int .i64 0, .slice none 0 0] 37) = Wa at *
      have HBR := Lib.hid BR
      clear BR
      have hbB := HB.out
      simp only [pzC] at hbB
      have cBS := BS.cell
      have fBS := BS.frozen
      have lBS := BS.lt
      go_upto_region 6 with fail
      clear cBS fBS lBS
      have SO := Lib.hid (show ∀ w', Below Wa.heap.size Wa w' → ((∀ i, w'.cell? ⟨bp, i, none⟩ = #[.int .i64 (g.terms : Int), .int .i64 (g.nons : Int), .int .i64 (g.start : Int), .slice Ag ng cg, .slice (some ⟨tb, tof, none⟩) g.nons tc, .slice vA vn vc, .slice wA W.length wcp, .int .i64 (k : Int)][i]?) ∧ (∀ i, w'.cell? ⟨w.heap.size, i, none⟩ = #[.bool false, .int .i64 (a : Int)][i]?) ∧ w'.cell? ⟨tb, tof + a, none⟩ = some (.slice (some ⟨rb, ro, none⟩) (g.terms + 1) rc) ∧ w'.cell? ⟨rb, ro + q, none⟩ = some (.int .i64 hd) ∧ Below Wa.heap.size Wa w') from fun w' hb => ⟨(hbB.via hb).cell, (BS.via hb).cell, (hb.cell (World.block_lt_of_cell? _ _ ch)).trans ch, (hb.cell (World.block_lt_of_cell? _ _ cr)).trans cr, hb⟩)
      have HN := Lib.hid (show ∀ w', Below Wa.heap.size Wa w' → Calls Try.prog 42 #[.pointer (some ⟨bp, 0, none⟩)] w' fun e w'' => e = .returned (.int .i64 (q : Int)) ∧ Below w'.heap.size w' w'' from fun w' hb => by
        rw [HQ.out]
        exact pnext_c bp g W Ag ng cg _ tc vA vn vc wA wcp k w' hk (HB.out.via hb) (HS.out.word.via hb).intsIn)
      have HBS := Lib.hid BS
      clear BS hbB ch cr htl
      go_cut [5] (fun s5 wx => ∃ bt, s5 = .pointer (some ⟨bt, 0, none⟩) ∧ Wa.heap.size ≤ bt ∧ Blk wx bt 37 #[.int .i64 hd, .int .i64 0, .slice none 0 0] ∧ Below Wa.heap.size Wa wx)
      case first =>
        have hb0 := (Below.refl Wa.heap.size Wa).drew
        go_region_held3 (fun w' => (∀ i, w'.cell? ⟨bp, i, none⟩ = #[.int .i64 (g.terms : Int), .int .i64 (g.nons : Int), .int .i64 (g.start : Int), .slice Ag ng cg, .slice (some ⟨tb, tof, none⟩) g.nons tc, .slice vA vn vc, .slice wA W.length wcp, .int .i64 (k : Int)][i]?) ∧ (∀ i, w'.cell? ⟨w.heap.size, i, none⟩ = #[.bool false, .int .i64 (a : Int)][i]?) ∧ w'.cell? ⟨tb, tof + a, none⟩ = some (.slice (some ⟨rb, ro, none⟩) (g.terms + 1) rc) ∧ w'.cell? ⟨rb, ro + q, none⟩ = some (.int .i64 hd) ∧ Below Wa.heap.size Wa w') (exact SO.out _ (by first | assumption | exact ((Below.refl Wa.heap.size Wa).al _).drew | exact Below.al (by assumption) _ | exact ((hbm.setCell (p := ⟨Wa.heap.size, 0, none⟩) (Nat.le_refl _) _).setCell (p := ⟨Wa.heap.size, 1, none⟩) (Nat.le_refl _) _).setCell (p := ⟨Wa.heap.size, 2, none⟩) (Nat.le_refl _) _)) (first
          | (go_at_call 42; (with_reducible refine (HN.out ((Wa.alloc (.cells #[.int .i64 0, .int .i64 0, .slice none 0 0] 37)).drew) ((Below.refl Wa.heap.size Wa).al _).drew).mono ?_); rintro ee wn ⟨rfl, hbn⟩; have hbm : Below Wa.heap.size Wa wn := Below.via (((Below.refl Wa.heap.size Wa).al _).drew) hbn; have BT := ((Blk.new Wa 37 #[.int .i64 0, .int .i64 0, .slice none 0 0]).dr).via hbn; have cBT := BT.cell; have fBT := BT.frozen; have lBT := BT.lt)
          | (go_at_call 42; (with_reducible refine (HN.out _ (by assumption)).mono ?_); rintro ee wn ⟨rfl, hbn⟩; have hbm : Below Wa.heap.size Wa wn := Below.via (by assumption) hbn))
        all_goals go_wp2_with fail
        all_goals go_meet
        all_goals first
          | exact ⟨_, rfl, hbm.size, Blk.new _ _ _, hbm.al _⟩
          | (refine ⟨_, rfl, Nat.le_refl _, ?_, ((hbm.setCell (p := ⟨Wa.heap.size, 0, none⟩) (Nat.le_refl _) _).setCell (p := ⟨Wa.heap.size, 1, none⟩) (Nat.le_refl _) _).setCell (p := ⟨Wa.heap.size, 2, none⟩) (Nat.le_refl _) _⟩
             have := ((BT.set_ 0 (.int .i64 hd)).set_ 1 (.int .i64 0)).set_ 2 (.slice none 0 0)
             simpa using this)
      case rest =>
        obtain ⟨bt, rfl, hbt, BT, hbw⟩ := hcut
        have hwa := HSZ.out
        have HB1 := Lib.hid (HB.out.via hbw)
        have HR1 := Lib.hid (HBR.out.via hbw)
        have HAW := Lib.hid (HAL.out.trans (hbw.mono (show w.heap.size ≤ Wa.heap.size by omega)))
        have HBT := Lib.hid hbt
        clear hbw HN SO HBS HB HBR HS htb
        cases hpl : posL g a q with
        | nil =>
          have e1 : hd = -1 := by rw [HHD.out, hpl]; rfl
          subst e1
          have hp := HP.out
          rw [hpl] at hp
          simp only [Option.some.injEq, Prod.mk.injEq] at hp
          obtain ⟨rfl, rfl⟩ := hp
          clear hpl HP
          have cBT := BT.cell
          have fBT := BT.frozen
          have lBT := BT.lt
          go_wp2_with fail
          refine ⟨rfl, ?_⟩
          exact ⟨HB1.out, Agr.below HAW.out, HAW.out.size, HAW.out.mono (Nat.le_of_lt hbl), rfl⟩
        | cons i is =>
          have e1 : hd = (i : Int) := by rw [HHD.out, hpl]; rfl
          subst e1
          have hp := HP.out
          rw [hpl] at hp
          simp only at hp
          obtain ⟨u, hu, hul, hup⟩ := posL_mem.1 (show i ∈ posL g a q by rw [hpl]; simp)
          rw [hu] at hp
          simp only at hp
          obtain ⟨ul, rhs⟩ := u
          simp only at hul hp
          subst hul
          have hrk := HG.out.ok.right _ (List.mem_of_getElem? hu)
          simp only at hrk
          obtain ⟨hr4, hrs⟩ := hrk
          clear hpl HP HHD
          have hin : i < g.rules.length := (List.getElem?_eq_some_iff.1 hu).1
          have hng := HS0.out.rules.len
          obtain ⟨b1, o1, ⟨sl, sA, sn, sc⟩, y, rfl, -, hbb, hy, ⟨hx1, hx2⟩, hcc⟩ := HS0.out.rules.at_ (show i < ng by omega)
          rw [hu] at hy
          obtain rfl := Option.some.inj hy
          simp only at hx1 hx2
          have d1 := (HAW.out.cell (p := ⟨b1, o1 + i * 2 + 1, none⟩) hbb).trans (hcc 1 _ rfl)
          have hsn : sn = rhs.length := hx2.len.symm
          subst hsn
          have HX2 := Lib.hid hx2
          have HP := Lib.hid hp
          have HRS := Lib.hid hrs
          have HU := Lib.hid hu
          have i4 : (0 : Int) ≤ (i : Int) := by omega
          have i5 : (i : Int) < (ng : Int) := by omega
          have hB1 := HB1.out
          clear hcc hx2 hx1 hy hp hrs hu hup hng hbb
          simp only [pzC] at hB1
          have cBT := BT.cell
          have fBT := BT.frozen
          have lBT := BT.lt
          have chB1 := hB1.cell
          have fhB1 := hB1.frozen
          have lhB1 := hB1.lt
          go_upto_region 9 with fail
          go_quiet (fail)
          clear cBT fBT lBT chB1 fhB1 lhB1
          have hdn := below_drewN (Below.refl wc.heap.size wc) nq
          have HK0 := Lib.hid (show KidB w bp (fun k => pzC g W (some ⟨b1, o1, none⟩) ng cg (some ⟨tb, tof, none⟩) tc vA vn vc wA wcp k) i bt 0 k (.slice none 0 0) [] (wc.drewN nq) from
            ⟨HB1.out.via hdn, (Agr.below HAW.out).trans (Agr.below hdn), Own.nil _ _, HR1.out.via hdn, BT.via hdn, (BT.via hdn).lt, by omega, hbl, (HAW.out.mono (Nat.le_of_lt hbl)).trans (hdn.mono (by have := BT.lt; omega))⟩)
          have HXS := HX2
          clear BT hB1 hdn HB1 HR1 HAW HX2 d1
          generalize wc.drewN nq = W2 at *
          go_wp2_with fail
          go_loopw [57] (fun x wr => ∃ (j kj : Nat) (v : Value) (ks : List Tr), x = .int .i64 j ∧ j ≤ rhs.length ∧ Hid (KidB w bp (fun k => pzC g W (some ⟨b1, o1, none⟩) ng cg (some ⟨tb, tof, none⟩) tc vA vn vc wA wcp k) i bt j kj v ks wr ∧ prsL (prs g W d) (rhs.take j) k = some (some ks, kj) ∧ kj ≤ W.length)) (fun x _ => rhs.length - (intOf x).toNat)
          case atStart => exact ⟨0, k, _, [], rfl, Nat.zero_le _, Lib.hid ⟨HK0.out, rfl, hk⟩⟩
          case round =>
            obtain ⟨j, kj, v, ks, rfl, hj, HK⟩ := hrel
            clear HK0
            obtain ⟨Av, cv, rfl, -⟩ := HK.out.1.own.form
            by_cases hjn : j < rhs.length
            · obtain ⟨b2, o2, s1, s2, rfl, hob2, hb2, hs1, hs2, hc2⟩ := HXS.out.at_ hjn
              have hs12 : s1 = s2 := hs2
              subst hs12
              have d0 := HK.out.1.agr.cell hob2 (hc2 0 _ rfl)
              have d1 := HK.out.1.agr.cell hob2 (hc2 1 _ rfl)
              obtain ⟨sb, sn⟩ := s1
              simp only [SyE, Nat.add_zero] at d0 d1
              have j0 : (0 : Int) ≤ (j : Int) := by omega
              have j1 : (j : Int) < (rhs.length : Int) := by omega
              have hsy := HRS.out _ (List.mem_of_getElem? hs1)
              have HSY := Lib.hid hsy
              have HS1 := Lib.hid hs1
              have hal := (Below.refl wr.heap.size wr).al (.cells #[.bool sb, .int .i64 (sn : Int)] 68)
              have HK4 := Lib.hid (HK.out.1.via hal)
              have HS4 := Lib.hid (HS0.out.agr (HK.out.1.agr.trans (Agr.below hal)))
              have BX := Blk.new wr 68 #[.bool sb, .int .i64 (sn : Int)]
              have HPK := Lib.hid HK.out.2
              have HOW := Lib.hid HK.out.1.own.lt
              have hrs5 := HK.out.1.size
              clear hc2 hs1 hs2 hsy hal hb2 hob2 HK
              go_upto_region 12 with fail
              clear d0 d1
              have hw4 : wr.heap.size < (wr.alloc (.cells #[.bool sb, .int .i64 (sn : Int)] 68)).heap.size := by simp
              generalize wr.alloc (.cells #[.bool sb, .int .i64 (sn : Int)] 68) = W4 at *
              have hsplit : rhs = rhs.take j ++ (sb, sn) :: rhs.drop (j + 1) := by
                have h1 := List.getElem?_eq_some_iff.1 HS1.out
                have h2 := List.take_append_drop j rhs
                rw [List.drop_eq_getElem_cons h1.1, h1.2] at h2
                exact h2.symm
              have hdr := (Below.refl W4.heap.size W4).drew
              cases hcall : prs g W d (sb, sn) kj with
              | none =>
                exfalso
                have hp := HP.out
                rw [hsplit, prsL_deep HPK.out.1 hcall] at hp
                cases hp
              | some pr =>
              obtain ⟨ro2, k2⟩ := pr
              have HCL := Lib.hid hcall
              have HSP := Lib.hid hsplit
              clear hcall hsplit
              have B3 := HK4.out.b3.via hdr
              have BX4 := BX.dr
              have HBX := Lib.hid BX
              have hsz5 := HK4.out.size
              clear hdr BX
              have hHeld : (∀ x, W4.drew.cell? ⟨bt, x, none⟩ = #[.int .i64 (i : Int), .int .i64 0, .slice Av j cv][x]?) ∧ (∀ x, W4.drew.cell? ⟨wr.heap.size, x, none⟩ = #[.bool sb, .int .i64 (sn : Int)][x]?) := ⟨B3.cell, BX4.cell⟩
              refine wp_region_L 8 (fun w' => (∀ x, w'.cell? ⟨bt, x, none⟩ = #[.int .i64 (i : Int), .int .i64 0, .slice Av j cv][x]?) ∧ (∀ x, w'.cell? ⟨wr.heap.size, x, none⟩ = #[.bool sb, .int .i64 (sn : Int)][x]?)) (by kernel_rfl) ?_
              refine wpAnyL.take (i := 0) (d := some 61) (v := ?_) rfl (by kernel_rfl) (by kernel_rfl) (by kernel_rfl) (by kernel_rfl) rfl (fun _ _ _ h => h) (Or.inl ⟨by rfl, ?_⟩) (by assumption) ?_
              rotate_left
              · intro w hSw; (try dsimp only at hSw); go_simp; try with_reducible rfl
              simp only [Act.put, List.setIfInBounds_toArray, List.set_cons_zero, List.set_cons_succ]
              refine wpAnyL.take (i := 1) (d := some 62) (v := ?_) rfl (by kernel_rfl) (by kernel_rfl) (by kernel_rfl) (by kernel_rfl) rfl (fun _ _ _ h => h) (Or.inl ⟨by rfl, ?_⟩) (by assumption) ?_
              rotate_left
              · intro w hSw; (try dsimp only at hSw); go_simp; try with_reducible rfl
              simp only [Act.put, List.setIfInBounds_toArray, List.set_cons_zero, List.set_cons_succ]
              refine wpAnyL.take (i := 2) (d := some 63) (v := ?_) rfl (by kernel_rfl) (by kernel_rfl) (by kernel_rfl) (by kernel_rfl) rfl (fun _ _ _ h => h) (Or.inl ⟨by rfl, ?_⟩) (by assumption) ?_
              rotate_left
              · intro w hSw; (try dsimp only at hSw); go_simp; try with_reducible rfl
              simp only [Act.put, List.setIfInBounds_toArray, List.set_cons_zero, List.set_cons_succ]
              refine wpAnyL.take (i := 3) (d := some 64) (v := ?_) rfl (by kernel_rfl) (by kernel_rfl) (by kernel_rfl) (by kernel_rfl) rfl (fun _ _ _ h => h) (Or.inl ⟨by rfl, ?_⟩) (by assumption) ?_
              rotate_left
              · intro w hSw; (try dsimp only at hSw); go_simp; try with_reducible rfl
              simp only [Act.put, List.setIfInBounds_toArray, List.set_cons_zero, List.set_cons_succ]
              refine wpAnyL.ready (rs := [4]) (by kernel_rfl) (by simp) ?_
              refine AllL.cons rfl (fun K hK => ?_) AllL.nil
              go_simp
              go_at_call 19
              refine (HIH.out W4.drew (sb, sn) kj ro2 k2 HSY.out HPK.out.2 HCL.out (HS4.out.agr (Agr.below (Below.refl W4.heap.size W4).drew)) (HK4.out.pb.via (Below.refl W4.heap.size W4).drew)).mono ?_
              cases ro2 with
              | none =>
                rintro e w' ⟨hb6, ha6, hz6, he6, rfl⟩
                dsimp only
                clear hK K
                go_wp2_with fail
                refine ⟨rfl, ?_⟩
                have hp := HP.out
                rw [HSP.out, prsL_stop HPK.out.1 HCL.out] at hp
                simp only [Option.some.injEq, Prod.mk.injEq] at hp
                obtain ⟨rfl, rfl⟩ := hp
                have hz4 : W4.heap.size ≤ w'.heap.size := hz6
                have hbt2 := HK4.out.hbt
                exact ⟨hb6, (HK4.out.agr.trans (Agr.below (Below.refl W4.heap.size W4).drew)).trans ha6, by omega, (HK4.out.via (Below.refl W4.heap.size W4).drew).bel.trans he6, rfl⟩
              | some t =>
                rintro e w' ⟨hb6, ha6, hz6, he6, ⟨va, vb, vA2, vn2, vc2⟩, rfl, hT6⟩
                have hdr := (Below.refl W4.heap.size W4).drew
                have hz4 : W4.heap.size ≤ w'.heap.size := hz6
                have HK6 := (HK4.out.via hdr).call hb6 ha6 hz6 he6
                have HBX6 : Blk w' wr.heap.size 68 #[.bool sb, .int .i64 (sn : Int)] := (ha6 _ (by have := HK4.out.hbp; have := HK4.out.hbt; omega) hw4).trans BX4
                dsimp only [trVal]
                go_wp2_with fail
                refine hK.out _ _ (fun _ => ⟨HK6.b3.cell, HBX6.cell⟩) ?_
                clear hK K
                try dsimp only [Act.put]
                refine wpAnyL.ready (rs := [5]) (by kernel_rfl) (by simp) ?_
                refine AllL.cons rfl (fun K hK => ?_) AllL.nil
                go_simp
                have hal := (Below.refl w'.heap.size w').al (.cells #[.int .i64 va, .int .i64 vb, .slice vA2 vn2 vc2] 37)
                have HK7 := HK6.via hal
                have HBX7 := HBX6.via hal
                refine hK.out _ _ (fun _ => ⟨HK7.b3.cell, HBX7.cell⟩) ?_
                clear hK K
                try simp only [Act.put, List.setIfInBounds_toArray, List.set_cons_zero, List.set_cons_succ]
                refine wpAnyL.ready (rs := [6]) (by kernel_rfl) (by simp) ?_
                refine AllL.cons rfl (fun K hK => ?_) AllL.nil
                have hT7 := (hT6.via hal).mono (ok' := fun b => (bt + 1 ≤ b) ∧ some b ≠ (Value.slice Av j cv).ownBlock) fun b _ hb => ⟨by simp at hb; omega, fun e => by have := (HK4.out.own.lt b e.symm).2; simp at hb; omega⟩
                refine step_append_tr _ rfl (.tmp 62) (.tmp 66) rfl (fun b => bt + 1 ≤ b) (bt + 1) (.slice Av j cv) j ks rfl HK7.own w'.heap.size (va, vb, vA2, vn2, vc2) t rfl (Blk.new w' 37 #[.int .i64 va, .int .i64 vb, .slice vA2 vn2 vc2]) hT7 (by omega) HK7.size ?_
                intro Av1 cv1 w1 ho1 hg1 hat1
                have B2g := HK7.b3.grown hg1 (fun e => by have := (HK7.own.lt _ e.symm).1; omega)
                have BXg := HBX7.grown hg1 (fun e => by have := (HOW.out _ e.symm).2; omega)
                refine hK.out _ _ (fun _ => ⟨B2g.cell, BXg.cell⟩) ?_
                clear hK K
                have hHeld3 := And.intro B2g.cell BXg.cell
                refine wpAnyL.take (i := 7) (d := some 68) (v := ?_) rfl (by kernel_rfl) (by kernel_rfl) (by kernel_rfl) (by kernel_rfl) rfl (fun _ _ _ h => h) (Or.inl ⟨by rfl, ?_⟩) (by assumption) ?_
                rotate_left
                · intro w hSw; (try dsimp only at hSw); go_simp; try with_reducible rfl
                simp only [Act.put, List.setIfInBounds_toArray]
                refine wpAnyL.ready (rs := [8]) (by kernel_rfl) (by simp) ?_
                refine AllL.cons rfl (fun K hK => ?_) AllL.nil
                have c2g := B2g.cell
                have f2g := B2g.frozen
                go_simp
                refine hK.out _ _ (fun h => absurd rfl h) ?_
                clear hK K
                refine wpAnyL.done (by kernel_rfl) ?_ _
                have HPU := Lib.hid (HK7.push ho1 hg1)
                have HK2 := Lib.hid (show k2 ≤ W.length from prs_le HG.out.ok d (sb, sn) HSY.out kj _ k2 HPK.out.2 HCL.out)
                clear ho1 hg1 hat1 HK7 HK6 HBX7 HBX6 B2g BXg c2g f2g hHeld3 hT7 hT6 hal ha6 hb6
                go_wp2_with fail
                refine ⟨⟨j + 1, k2, .slice Av1 (j + 1) cv1, ks ++ [t], by go_num, by omega, ?_⟩, by simp [intOf]; omega⟩
                refine Lib.hid ⟨HPU.out, ?_, HK2.out⟩
                have h1 := List.getElem?_eq_some_iff.1 HS1.out
                rw [List.take_succ_eq_append_getElem h1.1, h1.2]
                exact prsL_snoc HPK.out.1 HCL.out
            · obtain rfl : j = rhs.length := by omega
              have B2 := HK.out.1.b2
              have B3 := HK.out.1.b3
              have cB2 := B2.cell
              have fB2 := B2.frozen
              have lB2 := B2.lt
              have cB3 := B3.cell
              have fB3 := B3.frozen
              have lB3 := B3.lt
              go_wp2_with fail
              refine bodyPost_ret (v := trVal ((i : Int), 0, Av, rhs.length, cv)) (by simp [results, Try.results19, go_sem, trVal, cB2]) rfl ?_
              have hp := HP.out
              have h1 := HK.out.2.1
              rw [List.take_length] at h1
              rw [h1] at hp
              simp only [Option.some.injEq, Prod.mk.injEq] at hp
              obtain ⟨rfl, rfl⟩ := hp
              have hbt2 := HK.out.1.hbt
              have hsz2 := HK.out.1.size
              have hag := HK.out.1.agr
              have hown := HK.out.1.own
              have hpb := HK.out.1.pb
              have hbe := HK.out.1.bel
              refine ⟨((hpb.far (by simp; omega) _).far (by simp; omega) _).far (by simp; omega) _, ((hag.setNew (by simp) _).setNew (by simp) _).setNew (by simp) _, by simp; omega, ((hbe.setCell (by simp; omega) _).setCell (by simp; omega) _).setCell (by simp; omega) _, _, rfl, ?_⟩
              have hs := hown.toSl (ok' := fun b => w.heap.size + 2 ≤ b) (fun b _ hb => by omega) (fun b hb => by omega)
              exact ((TreeR.mk i hs).set3 (fun b hb => by omega) _ _ _).mono (fun b _ hb => by omega)
end Go.Proofs.Ythkldiehokblcaa

