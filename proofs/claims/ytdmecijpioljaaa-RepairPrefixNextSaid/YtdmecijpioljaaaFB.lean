/- Texts FB, laid together. -/
import Derived.Test.YtdmecijpioljaaaFA


namespace Go.Proofs.Ytdmecijpioljaaa
open Go.RowKit

/-- behind Put: a terminal more -/
def PutY (lo bF : Nat) (g : Gr) (B bc : Nat) (AR : Option Addr) (nR cR : Nat) (x : List Nat) (k : Nat) (w : World) (e : Ending) (w' : World) : Prop :=
  e = .returned (.int .i64 0) ∧ ∃ (s : ChSt) (L : List (List It3)) (wv : Value) (ws : List Int), FeedM w' lo bF g B bc AR nR cR s L wv ws ∧ ws.length = k + 1 ∧ InvI (genR g) g.start x (k + 1) L ∧ Below lo w w'
section
variable {w w1 : World} {lo bF : Nat} {g : Gr} {B bc : Nat} {AR : Option Addr} {nR cR : Nat} {s s' : ChSt} {L L' : List (List It3)} {wv wv' : Value} {ws ws' : List Int}
theorem FeedM.lt (h : FeedM w lo bF g B bc AR nR cR s L wv ws) : bF < w.heap.size := by obtain ⟨A, n, c, h1⟩ := h.blk; exact h1.lt
/-- the chart has gone on -/
theorem FeedM.mov (h : FeedM w lo bF g B bc AR nR cR s L wv ws) (hm : Mov (ChX bc s) (ChX bc s') w w1) (hc : ChS w1 B bc (.int .i64 (g.terms : Int)) (.int .i64 (g.nons : Int)) (.int .i64 (g.start : Int)) AR nR cR (genR g) s' L') : FeedM w1 lo bF g B bc AR nR cR s' L' wv ws := by
  obtain ⟨A, n, c, h1⟩ := h.blk
  exact ⟨⟨A, n, c, hm.blk h1 h.farF⟩, hc, h.row.agr ((hm.agr false).mono fun b hb => (h.farW b hb).1), hm.no false _ h1.lt h.farF, fun b hb => ⟨hm.no false _ (OwnI.lt h.row b hb).2 (h.farW b hb).1, (h.farW b hb).2⟩, h.loB, h.Bbc, h.loF⟩
theorem FeedM.below (h : FeedM w lo bF g B bc AR nR cR s L wv ws) (hm : Mov (ChX bc s) (ChX bc s') w w1) : Below lo w w1 :=
  hm.below (i := false) (fun b hb => ⟨ChM.no_of h.ch (Or.inl (by have := h.loB; omega)), by have := h.loB; have := h.Bbc; omega⟩) (by have := h.loB; have := ChS.bs h.ch; omega)
/-- the word has grown -/
theorem FeedM.push (h : FeedM w lo bF g B bc AR nR cR s L wv ws) (hr : OwnI w1 B wv' ws'.length ws') (hg : w.grownBy w1 wv.ownBlock) (hat : wv'.ownBlock = wv.ownBlock ∨ wv'.ownBlock = some w.heap.size) :
    FeedM (w1.setCell ⟨bF, 5, none⟩ wv') lo bF g B bc AR nR cR s L wv' ws' ∧ Below lo w (w1.setCell ⟨bF, 5, none⟩ wv') := by
  obtain ⟨A, n, c, h1⟩ := h.blk
  have hA : Agr (fun b => wv.ownBlock ≠ some b) w w1 := Agr.grown hg fun b hb e => hb e.symm
  have hsz : w.heap.size ≤ w1.heap.size := hg.size
  have hlo := h.loB
  have hB := ChS.bs h.ch
  have hch : Agr (fun b => b < B ∨ b = bc ∨ ¬ ChF (s.1, s.2.1, s.2.2.1, s.2.2.2) b) w (w1.setCell ⟨bF, 5, none⟩ wv') := by
    refine (hA.mono fun b hb e => ?_).trans (Agr.setCell _ fun b hb e => ?_)
    · have hx := (h.farW b e).1
      rcases hb with hb | hb | hb
      · have := (OwnI.lt h.row b e).1; omega
      · exact hx.2 hb
      · exact hb hx.1
    · have e' : b = bF := e
      subst e'
      rcases hb with hb | hb | hb
      · have := h.loF; omega
      · exact h.farF.2 hb
      · exact hb h.farF.1
  have hfW : ∀ b, wv'.ownBlock = some b → ChX bc s false b ∧ b ≠ bF := fun b hb => by
    rcases hat with e | e
    · exact h.farW b (e ▸ hb)
    · have e2 : some w.heap.size = some b := e ▸ hb
      have e3 := Option.some.inj e2
      have hbl : bc < w.heap.size := ChS.lt h.ch
      have := h1.lt
      exact ⟨⟨ChM.no_of h.ch (Or.inr (by omega)), by omega⟩, by omega⟩
  have hbw : some bF ≠ wv.ownBlock := fun e => (h.farW bF e.symm).2 rfl
  refine ⟨⟨⟨A, n, c, ?_⟩, ChM.agr h.ch hch (by simpa using hsz), ?_, h.farF, hfW, h.loB, h.Bbc, h.loF⟩, ?_⟩
  · have := (h1.grown hg hbw).set_ 5 wv'; simpa using this
  · exact hr.agr (Agr.setCell (p := ⟨bF, 5, none⟩) wv' fun b hb e => (hfW b hb).2 e)
  · refine Below.setCell (Below.grown (Below.refl lo w) hg (by omega) (fun b e => ?_)) ?_ _
    · have := (OwnI.lt h.row b e).1; omega
    · have := h.loF; show lo ≤ bF; omega
end
set_option maxRecDepth 100000 in
set_option maxHeartbeats 2000000 in
theorem PutY_c (lo bF : Nat) (g : Gr) (B bc : Nat) (AR : Option Addr) (nR cR : Nat) (s : ChSt) (L : List (List It3)) (wv : Value) (ws : List Int) (x : List Nat) (k t : Nat) (w : World) (h : FeedM w lo bF g B bc AR nR cR s L wv ws) (hg : GrOk g) (hI : InvI (genR g) g.start x k L) (hx : x[k]? = some t) (ht : t < g.terms) (hw : ws.length = k) (hk : k < 12) (hm : mayB (genR g) g.start x k t = true) :
    Calls Try.prog 13 #[.pointer (some ⟨bF, 0, none⟩), .int .i64 (t : Int)] w (PutY lo bF g B bc AR nR cR x k w) := by
  have h8 : g.terms ≤ 8 := hg.ok.terms.2
  have h4 : ∀ u ∈ genR g, u.2.length ≤ 4 := fun u hu => (hg.ok.right u (genR_mem hu)).1
  have h32 : (genR g).length ≤ 32 := Nat.le_trans (genR_len g) hg.ok.count
  have hT : ∀ u ∈ genR g, ∀ y ∈ u.2, y.1 = true → y.2 < g.terms := fun u hu y hy e => by
    have q := (hg.ok.right u (genR_mem hu)).2 y hy
    unfold Gr.okSy at q
    rwa [if_pos e] at q
  obtain ⟨l, hl⟩ := hI.last
  have hlen := hI.len
  have hsm := hI.small (by omega) h32 h4
  obtain ⟨A, n, c, h1⟩ := h.blk
  obtain ⟨Aw, cw, rfl, -⟩ := OwnI.form h.row
  have t0 : (0 : Int) ≤ (t : Int) := by omega
  have t1 : (t : Int) < (g.terms : Int) := by omega
  have k1 : (((k : Nat) : Int) == (12 : Int)) = false := by rw [beq_eq_false_iff_ne]; omega
  have HH := Lib.hid h
  have HM := Lib.hid (show (mayI (genR g) l g.terms l.length)[t]? = some true from by rw [hI.may hl ht, hm])
  have HI := Lib.hid hI
  have HL := Lib.hid hl
  have HX := Lib.hid hx
  have H4 := Lib.hid h4
  have HT := Lib.hid hT
  have HSM := Lib.hid hsm
  have HLEN := Lib.hid hlen
  have HW := Lib.hid hw
  rw [hw] at h1
  have B1 := h1
  clear h hI hl hx hsm h4 hT hg hlen hm h1 hw
  go_enter Try.func13, Try.ntmps13
  have cB1 := B1.cell
  have fB1 := B1.frozen
  have lB1 := B1.lt
  go_wp2_with fail
  clear cB1 fB1 lB1
  refine (may_s w B bc k g.terms _ _ AR nR cR (genR g) s L l HH.out.ch HLEN.out HL.out (by omega) (by omega) H4.out (fun y hy => (HSM.out k l HL.out).2 y hy) (HSM.out k l HL.out).1 HT.out).mono ?_
  rintro e w1 ⟨b, rfl, hb, hb1, hb2⟩
  have cT := hb.cell t
  simp only [bVals, List.getElem?_toArray, List.getElem?_map, HM.out, Option.map_some] at cT
  have HH1 := Lib.hid (HH.out.via hb2)
  have HB2 := Lib.hid hb2
  have B2 := B1.via hb2
  clear hb hb1 hb2 B1
  have cB2 := B2.cell
  have fB2 := B2.frozen
  have lB2 := B2.lt
  go_wp2_with fail
  clear cB2 fB2 lB2
  clear cT
  refine (put_s w1 B bc k _ _ _ AR nR cR (genR g) s L l t HH1.out.ch HH.out.Bbc HLEN.out HL.out (by omega) h32 H4.out (fun j m hm => (HSM.out j m hm))).mono ?_
  rintro e w2 ⟨l0, l', s', hG, hC, rfl, hCH, hM⟩
  have HH2 := Lib.hid (HH1.out.mov hM hCH)
  have HB3 := Lib.hid (HH1.out.below hM)
  have HI2 := Lib.hid (HI.out.next HL.out HX.out hG hC)
  have B3 := hM.blk (i := false) B2 HH1.out.farF
  have hlo : lo ≤ w.heap.size := by have := HH.out.loB; have := ChS.bs HH.out.ch; omega
  have HB4 := Lib.hid ((HB2.out.mono hlo).trans HB3.out)
  clear hG hC hCH hM B2 HB2 HB3 HH1
  have hal := (Below.refl w2.heap.size w2).al (.cells #[.int .i64 (t : Int)] 3)
  have HH3 := Lib.hid (HH2.out.via hal)
  have HB5 := Lib.hid (HB4.out.trans (hal.mono (by have := HB4.out.size; omega)))
  have HROW := Lib.hid (show OwnI (w2.alloc (.cells #[.int .i64 (t : Int)] 3)) B (.slice Aw k cw) k ws from by have := HH3.out.row; rwa [HW.out] at this)
  have HBW := Lib.hid (show some bF ≠ (Value.slice Aw k cw).ownBlock from fun e => (HH3.out.farW bF (by rw [HW.out]; exact e.symm)).2 rfl)
  have HB3 := Lib.hid (B3.via hal)
  have hBs : B ≤ (w2.alloc (.cells #[.int .i64 (t : Int)] 3)).heap.size := ChS.bs HH3.out.ch
  clear hal
  have cB3 := B3.cell
  have fB3 := B3.frozen
  have lB3 := B3.lt
  go_wp2_with (at_builtin; refine wpList_append_ints _ rfl (.tmp 41) (.tmp 43) rfl B (.slice Aw k cw) k ws rfl HROW.out (some ⟨w2.heap.size, 0, none⟩) 1 1 [(t : Int)] rfl (Ints.one _ _ _) (by omega) hBs ?_; intro A1 c1 w3 ho1 hg1 hat1; have B4 := HB3.out.grown hg1 HBW.out; have cB4 := B4.cell; have fB4 := B4.frozen)
  go_ret
  have hl' : (ws ++ [(t : Int)]).length = k + 1 := by rw [List.length_append, HW.out]; rfl
  have hp := FeedM.push (wv' := .slice A1 (k + 1) c1) (ws' := ws ++ [(t : Int)]) HH3.out (by rw [hl']; exact ho1) (by rw [HW.out]; exact hg1) (by rw [HW.out]; exact hat1)
  exact ⟨rfl, s', L ++ [l'], _, _, hp.1, hl', HI2.out, HB5.out.trans hp.2⟩
set_option maxRecDepth 100000 in
set_option maxHeartbeats 2000000 in
theorem PutN_c (lo bF : Nat) (g : Gr) (B bc : Nat) (AR : Option Addr) (nR cR : Nat) (s : ChSt) (L : List (List It3)) (wv : Value) (ws : List Int) (x : List Nat) (k t : Nat) (w : World) (h : FeedM w lo bF g B bc AR nR cR s L wv ws) (hg : GrOk g) (hI : InvI (genR g) g.start x k L) (ht : t < g.terms) (hw : ws.length = k) (hk : k < 12) (hm : mayB (genR g) g.start x k t = false) :
    Calls Try.prog 13 #[.pointer (some ⟨bF, 0, none⟩), .int .i64 (t : Int)] w fun e w' => e = .returned (.int .i64 10) ∧ Below w.heap.size w w' := by
  have h8 : g.terms ≤ 8 := hg.ok.terms.2
  have h4 : ∀ u ∈ genR g, u.2.length ≤ 4 := fun u hu => (hg.ok.right u (genR_mem hu)).1
  have h32 : (genR g).length ≤ 32 := Nat.le_trans (genR_len g) hg.ok.count
  have hT : ∀ u ∈ genR g, ∀ y ∈ u.2, y.1 = true → y.2 < g.terms := fun u hu y hy e => by
    have q := (hg.ok.right u (genR_mem hu)).2 y hy
    unfold Gr.okSy at q
    rwa [if_pos e] at q
  obtain ⟨l, hl⟩ := hI.last
  have hlen := hI.len
  have hsm := hI.small (by omega) h32 h4
  obtain ⟨A, n, c, h1⟩ := h.blk
  obtain ⟨Aw, cw, rfl, -⟩ := OwnI.form h.row
  have t0 : (0 : Int) ≤ (t : Int) := by omega
  have t1 : (t : Int) < (g.terms : Int) := by omega
  have k1 : (((k : Nat) : Int) == (12 : Int)) = false := by rw [beq_eq_false_iff_ne]; omega
  have HH := Lib.hid h
  have HM := Lib.hid (show (mayI (genR g) l g.terms l.length)[t]? = some false from by rw [hI.may hl ht, hm])
  have HL := Lib.hid hl
  have H4 := Lib.hid h4
  have HT := Lib.hid hT
  have HSM := Lib.hid hsm
  have HLEN := Lib.hid hlen
  rw [hw] at h1
  have B1 := h1
  clear h hI hl hsm h4 hT hg hlen hm h1 hw
  go_enter Try.func13, Try.ntmps13
  have cB1 := B1.cell
  have fB1 := B1.frozen
  have lB1 := B1.lt
  go_wp2_with fail
  clear cB1 fB1 lB1
  refine (may_s w B bc k g.terms _ _ AR nR cR (genR g) s L l HH.out.ch HLEN.out HL.out (by omega) (by omega) H4.out (fun y hy => (HSM.out k l HL.out).2 y hy) (HSM.out k l HL.out).1 HT.out).mono ?_
  rintro e w1 ⟨b, rfl, hb, hb1, hb2⟩
  have cT := hb.cell t
  simp only [bVals, List.getElem?_toArray, List.getElem?_map, HM.out, Option.map_some] at cT
  have HB2 := Lib.hid hb2
  clear hb hb1 hb2 B1
  go_wp2_with fail
  go_ret
  exact ⟨rfl, HB2.out⟩
end Go.Proofs.Ytdmecijpioljaaa

