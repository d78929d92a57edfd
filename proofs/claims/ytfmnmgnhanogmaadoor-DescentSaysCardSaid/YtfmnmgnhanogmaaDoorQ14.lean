/- Texts JL, JN, laid together. -/
import Derived.Test.YtfmnmgnhanogmaaDoorQ13
import Derived.Test.YtfmnmgnhanogmaaDoorQ6




namespace Go.Proofs.YtfmnmgnhanogmaaDoor
open Go.RowKit

def gCells (g : Gr) (A : Option Addr) (n c : Nat) : Array Value := #[.int .i64 (g.terms : Int), .int .i64 (g.nons : Int), .int .i64 (g.start : Int), .slice A n c]
/-- while the rows are being made -/
structure MkR (w : World) (g : Gr) (Ag : Option Addr) (ng cg : Nat) (k : Nat) (v : Value) (bs : Nat → Nat) (wr : World) : Prop where
  hg : Blk wr w.heap.size 24 (gCells g Ag ng cg)
  hs : Blk wr (w.heap.size + 2) 115 #[.int .i64 (g.terms : Int), .int .i64 (g.nons : Int), .int .i64 (g.start : Int), .slice Ag ng cg, .slice (some ⟨w.heap.size + 1, 0, none⟩) g.nons g.nons, v]
  em : BRow wr (w.heap.size + 1) g.nons (fun _ => false)
  bt : BT wr (w.heap.size + 3) v g.terms k bs
  bel : Below w.heap.size w wr
theorem MkR.via {w wr wa : World} {g : Gr} {Ag : Option Addr} {ng cg k : Nat} {v : Value} {bs : Nat → Nat} (h : MkR w g Ag ng cg k v bs wr) (hb : Below wr.heap.size wr wa) : MkR w g Ag ng cg k v bs wa :=
  ⟨h.hg.via hb, h.hs.via hb, h.em.via hb, h.bt.via hb, h.bel.trans (hb.mono h.bel.size)⟩
theorem MkR.done {w wr : World} {g : Gr} {Ag : Option Addr} {ng cg : Nat} {v : Value} {bs : Nat → Nat} (h : MkR w g Ag ng cg g.nons v bs wr) (hn : 0 < g.nons) :
    ∃ hb hc, w.heap.size + 3 ≤ hb ∧ v = .slice (some ⟨hb, 0, none⟩) g.nons hc ∧ FS wr g ⟨w.heap.size + 2, Ag, ng, cg, w.heap.size + 1, hb, hc, bs⟩ (fun _ => false) (fun _ _ => false) := by
  obtain ⟨hb, hc, hv, hlo, hrow, hne⟩ := h.bt.done hn
  subst hv
  refine ⟨hb, hc, hlo, rfl, ⟨h.hs, h.em, hrow, h.bt.row, h.bt.ap, fun i hi => ?_, ?_⟩⟩
  · have := h.bt.lo i hi
    exact ⟨by simp only; omega, by simp only; omega, hne i hi⟩
  · exact ⟨by simp only; omega, by simp only; omega, by simp only; omega⟩
theorem HRow.far {w : World} {b n : Nat} {t : TypeId} {v : Nat → Value} (h : HRow w b n t v) {p : Addr} (hp : b ≠ p.block) (u : Value) : HRow (w.setCell p u) b n t v := by obtain ⟨cs, h1, h2⟩ := h; exact ⟨cs, h1.far hp u, h2⟩
/-- while the loops run -/
structure MkF (w : World) (g : Gr) (L : FsL) (es : Nat → Bool) (fs : Nat → Nat → Bool) (wr : World) : Prop where
  fs : FS wr g L es fs
  hg : Blk wr w.heap.size 24 (gCells g L.Ag L.ng L.cg)
  bel : Below w.heap.size w wr
/-- where the parts lie -/
structure LoL (w : World) (g : Gr) (L : FsL) : Prop where
  s : L.bS = w.heap.size + 2
  e : w.heap.size < L.be
  r : ∀ i, i < g.nons → w.heap.size < L.bs i
theorem MkF.via {w wr wa : World} {g : Gr} {L : FsL} {es : Nat → Bool} {fs : Nat → Nat → Bool} (h : MkF w g L es fs wr) (hb : Below wr.heap.size wr wa) : MkF w g L es fs wa :=
  ⟨h.fs.via hb, h.hg.via hb, h.bel.trans (hb.mono h.bel.size)⟩
theorem MkF.union {w wr wa : World} {g : Gr} {L : FsL} {es : Nat → Bool} {fs : Nat → Nat → Bool} {n : Nat} {f : Nat → Bool} (h : MkF w g L es fs wr) (hL : LoL w g L) (hn : n < g.nons) (hf : BRow wa (L.bs n) g.terms f) (hg : wr.grownBy wa (some (L.bs n))) : MkF w g L es (putR fs n f) wa := by
  have hlo := hL.r n hn
  obtain ⟨n1, n2, n3⟩ := h.fs.f1 n hn
  have ne : ∀ b, L.bs n ≠ b → some b ≠ some (L.bs n) := fun b hb e => hb (Option.some.inj e).symm
  refine ⟨⟨h.fs.hdr.grown hg (ne _ n1), h.fs.em.grown hg (ne _ n2), h.fs.hd.grown hg (ne _ n3), fun i hi => ?_, h.fs.ap, h.fs.f1, h.fs.f2⟩, h.hg.grown hg (ne _ (by omega)), bel_grow h.bel hg (by omega) h.bel.size⟩
  unfold putR
  by_cases e : i = n
  · rw [if_pos e, e]; exact hf
  · rw [if_neg e]; exact (h.fs.row i hi).grown hg (ne _ (h.fs.ap n i hn hi (fun q => e q.symm)))
theorem MkF.setE {w wr : World} {g : Gr} {L : FsL} {es : Nat → Bool} {fs : Nat → Nat → Bool} {n : Nat} (h : MkF w g L es fs wr) (hL : LoL w g L) (hn : n < g.nons) : MkF w g L (putE es n) fs (wr.setCell ⟨L.be, n, none⟩ (.bool true)) := by
  have hlo := hL.e
  obtain ⟨n1, n2, n3⟩ := h.fs.f2
  refine ⟨⟨h.fs.hdr.far (fun e => n1 e.symm) _, h.fs.em.set hn, h.fs.hd.far (fun e => n2 e.symm) _, fun i hi => (h.fs.row i hi).far (h.fs.f1 i hi).2.1 _, h.fs.ap, h.fs.f1, h.fs.f2⟩, h.hg.far (by simp only; omega) _, h.bel.setCell (by simp only; omega) _⟩
def FMakeP (w : World) (g : Gr) (Ag : Option Addr) (ng cg : Nat) (e : Ending) (w' : World) : Prop :=
  ∃ L es fs, e = .returned (.pointer (some ⟨L.bS, 0, none⟩)) ∧ FS w' g L es fs ∧ TabOk g.rules es fs ∧ L.Ag = Ag ∧ L.ng = ng ∧ L.cg = cg ∧ Below w.heap.size w w'
set_option maxRecDepth 100000 in
set_option maxHeartbeats 8000000 in
theorem fmake_c (ok : Nat → Prop) (g : Gr) (Ag : Option Addr) (ng cg : Nat) (w : World) (hg : GrOk g) (hl : Sl RuE ok w Ag ng cg g.rules) :
    Calls Tryd.prog 55 #[grVal g Ag ng cg] w (FMakeP w g Ag ng cg) := by
  have hn1 := hg.ok.nons.1
  have hn10 := hg.ok.nons.2
  have ht8 := hg.ok.terms.2
  have hlen := hl.len
  have hng32 : ng ≤ 32 := by have := hg.ok.count; omega
  have B0 := Blk.new w 24 (gCells g Ag ng cg)
  have hB0 := (Below.refl w.heap.size w).al (.cells (gCells g Ag ng cg) 24)
  have HGO := Lib.hid hg
  have HL := Lib.hid hl
  have hmb := mk_bools g.nons (by omega)
  have hmt := mk_bools g.terms (by omega)
  simp only [grVal]
  clear hg hl hlen
  go_enter Tryd.func55, Tryd.ntmps55
  go_upto_region 1 with fail
  have e0 : (Obj.cells #[.int .i64 (g.terms : Int), .int .i64 (g.nons : Int), .int .i64 (g.start : Int), .slice Ag ng cg] 24) = .cells (gCells g Ag ng cg) 24 := rfl
  rw [e0]
  have hW0 : (w.alloc (.cells (gCells g Ag ng cg) 24)).heap.size = w.heap.size + 1 := by simp
  clear e0
  generalize w.alloc (.cells (gCells g Ag ng cg) 24) = W0 at *
  have Bd := B0.via ((Below.refl W0.heap.size W0).drew)
  have hBd := hB0.trans (((Below.refl W0.heap.size W0).drew).mono (by omega))
  have hWd : W0.drew.heap.size = w.heap.size + 1 := by simpa using hW0
  have SOF := Lib.hid (show ∀ w', Below W0.heap.size W0 w' → ((∀ i, w'.cell? ⟨w.heap.size, i, none⟩ = #[.int .i64 (g.terms : Int), .int .i64 (g.nons : Int), .int .i64 (g.start : Int), .slice Ag ng cg][i]?) ∧ Below W0.heap.size W0 w') from fun w' hb => ⟨(B0.via hb).cell, hb⟩)
  have hb0 := (Below.refl W0.heap.size W0).drew
  refine wp_region_noPanic ?_
  refine wp_region_held_drew (S := fun w' => (∀ i, w'.cell? ⟨w.heap.size, i, none⟩ = #[.int .i64 (g.terms : Int), .int .i64 (g.nons : Int), .int .i64 (g.start : Int), .slice Ag ng cg][i]?) ∧ Below W0.heap.size W0 w') (by kernel_rfl) (SOF.out _ hb0) (fun hHeld => ?_)
  refine wpAnyH_takeD (i := 0) (d := some 9) (v := ?_) rfl (by kernel_rfl) (by kernel_rfl) (by kernel_rfl) rfl (fun _ _ _ h => h) (Or.inl ⟨by rfl, ?_⟩) (by assumption) ?_
  rotate_left
  · intro w hSw; (try dsimp only at hSw); go_simp; try with_reducible rfl
  simp only [Act.put, List.setIfInBounds_toArray, List.set_cons_zero, List.set_cons_succ]
  refine wpAnyH_takeD (i := 1) (d := some 10) (v := ?_) rfl (by kernel_rfl) (by kernel_rfl) (by kernel_rfl) rfl (fun _ _ _ h => h) (Or.inl ⟨by rfl, ?_⟩) (by assumption) ?_
  rotate_left
  · intro w hSw; (try dsimp only at hSw); go_simp; try with_reducible rfl
  simp only [Act.put, List.setIfInBounds_toArray, List.set_cons_zero, List.set_cons_succ]
  refine wpAnyH_takeD (i := 2) (d := some 11) (v := ?_) rfl (by kernel_rfl) (by kernel_rfl) (by kernel_rfl) rfl (fun _ _ _ h => h) (Or.inl ⟨by rfl, ?_⟩) (by assumption) ?_
  rotate_left
  · intro w hSw; (try dsimp only at hSw); go_simp; try with_reducible rfl
  simp only [Act.put, List.setIfInBounds_toArray, List.set_cons_zero, List.set_cons_succ]
  refine wpAnyH_ready (rs := [3]) (by kernel_rfl) (by simp) ?_
  refine AllReadyH.cons rfl (fun K hK => ?_) AllReadyH.nil
  go_simp
  refine hK.out _ _ (SOF.out _ (((Below.refl W0.heap.size W0).al _).dr)) (fun hHeld2 => ?_)
  clear hK K
  try dsimp only [Act.put]
  refine wpAnyH_ready (rs := [4]) (by kernel_rfl) (by simp) ?_
  refine AllReadyH.cons rfl (fun K hK => ?_) AllReadyH.nil
  go_simp
  refine hK.out _ _ (SOF.out _ (((Below.refl W0.heap.size W0).al _).dr)) (fun hHeld3 => ?_)
  clear hK K
  try dsimp only [Act.put]
  refine wpAnyH_ready (rs := [5]) (by kernel_rfl) (by simp) ?_
  refine AllReadyH.cons rfl (fun K hK => ?_) AllReadyH.nil
  go_simp
  refine hK.out _ _ (SOF.out _ ((((Below.refl W0.heap.size W0).al _).al _).dr)) (fun hHeld4 => ?_)
  clear hK K
  try dsimp only [Act.put]
  refine wpAnyH_ready (rs := [6]) (by kernel_rfl) (by simp) ?_
  refine AllReadyH.cons rfl (fun K hK => ?_) AllReadyH.nil
  go_simp
  refine hK.out _ _ (SOF.out _ ((((Below.refl W0.heap.size W0).al _).al _).dr)) (fun hHeld5 => ?_)
  clear hK K hHeld5
  refine wpAnyH_done (by kernel_rfl) ?_ _
  refine NoPanic.normal ?_
  have HMR := Lib.hid (show MkR w g Ag ng cg 0 (.slice none 0 0) (fun _ => 0) (((W0.alloc (.cells (mkCells (.bool false) g.nons) 4)).alloc (.cells #[.int .i64 (g.terms : Int), .int .i64 (g.nons : Int), .int .i64 (g.start : Int), .slice Ag ng cg, .slice (some ⟨w.heap.size + 1, 0, none⟩) g.nons g.nons, .slice none 0 0] 115)).drew) from by
    have hb1 := ((((Below.refl W0.heap.size W0).al (.cells (mkCells (.bool false) g.nons) 4)).al (.cells #[.int .i64 (g.terms : Int), .int .i64 (g.nons : Int), .int .i64 (g.start : Int), .slice Ag ng cg, .slice (some ⟨w.heap.size + 1, 0, none⟩) g.nons g.nons, .slice none 0 0] 115)).dr)
    refine ⟨B0.via hb1, ?_, ?_, BT.nil _ _ _ _, hB0.trans (hb1.mono (by omega))⟩
    · have h := (Blk.newAt (W0.alloc (.cells (mkCells (.bool false) g.nons) 4)) 115 #[.int .i64 (g.terms : Int), .int .i64 (g.nons : Int), .int .i64 (g.start : Int), .slice Ag ng cg, .slice (some ⟨w.heap.size + 1, 0, none⟩) g.nons g.nons, .slice none 0 0] (w.heap.size + 2) (by simp [hW0])).via ((Below.refl _ _).dr)
      exact h
    · have h := BRow.new W0 g.nons
      rw [hW0] at h
      exact (h.al _).via ((Below.refl _ _).dr))
  clear hHeld hHeld2 hHeld3 hHeld4 hb0 SOF B0 hB0
  generalize hW1 : ((W0.alloc (.cells (mkCells (.bool false) g.nons) 4)).alloc (.cells #[.int .i64 (g.terms : Int), .int .i64 (g.nons : Int), .int .i64 (g.start : Int), .slice Ag ng cg, .slice (some ⟨w.heap.size + 1, 0, none⟩) g.nons g.nons, .slice none 0 0] 115)).drew = W1 at *
  have hWl : w.heap.size + 3 ≤ W1.heap.size := by rw [← hW1]; simp [hW0]
  clear hW1 hW0
  have Bg := HMR.out.hg
  simp only [gCells] at Bg
  have cBg := Bg.cell
  have fBg := Bg.frozen
  have lBg := Bg.lt
  go_wp2_with fail
  clear cBg fBg lBg
  clear Bg
  go_loopw [17] (fun a wr => ∃ (k : Nat) (v : Value) (bs : Nat → Nat), a = .int .i64 k ∧ k ≤ g.nons ∧ Hid (MkR w g Ag ng cg k v bs wr)) (fun a _ => g.nons - (intOf a).toNat)
  case atStart => exact ⟨0, _, _, rfl, Nat.zero_le _, HMR⟩
  case round =>
    obtain ⟨k, v, bs, rfl, hk, HR⟩ := hrel
    by_cases hlt : k < g.nons
    · as_aux_lemma =>
      obtain ⟨Av, cv, rfl, -⟩ := HR.out.bt.own.form
      have i0 : (0 : Int) ≤ (k : Int) := by omega
      have i1 : (k : Int) < (g.nons : Int) := by omega
      have Bg := HR.out.hg
      simp only [gCells] at Bg
      have Bs := HR.out.hs
      have cBg := Bg.cell
      have fBg := Bg.frozen
      have lBg := Bg.lt
      have cBs := Bs.cell
      have fBs := Bs.frozen
      have lBs := Bs.lt
      go_upto_region 4 with fail
      have hHeld : (∀ i, wr.drew.cell? ⟨w.heap.size + 2, i, none⟩ = #[.int .i64 (g.terms : Int), .int .i64 (g.nons : Int), .int .i64 (g.start : Int), .slice Ag ng cg, .slice (some ⟨w.heap.size + 1, 0, none⟩) g.nons g.nons, .slice Av k cv][i]?) ∧ (∀ i, wr.drew.cell? ⟨w.heap.size, i, none⟩ = #[.int .i64 (g.terms : Int), .int .i64 (g.nons : Int), .int .i64 (g.start : Int), .slice Ag ng cg][i]?) := ⟨cBs, cBg⟩
      refine wp_region_noPanic ?_
      refine wp_region_L 12 (fun w' => (∀ i, w'.cell? ⟨w.heap.size + 2, i, none⟩ = #[.int .i64 (g.terms : Int), .int .i64 (g.nons : Int), .int .i64 (g.start : Int), .slice Ag ng cg, .slice (some ⟨w.heap.size + 1, 0, none⟩) g.nons g.nons, .slice Av k cv][i]?) ∧ (∀ i, w'.cell? ⟨w.heap.size, i, none⟩ = #[.int .i64 (g.terms : Int), .int .i64 (g.nons : Int), .int .i64 (g.start : Int), .slice Ag ng cg][i]?)) (by kernel_rfl) ?_
      refine wpAnyL.take (i := 0) (d := some 19) (v := ?_) rfl (by kernel_rfl) (by kernel_rfl) (by kernel_rfl) (by kernel_rfl) rfl (fun _ _ _ h => h) (Or.inl ⟨by rfl, ?_⟩) (by assumption) ?_
      rotate_left
      · intro w hSw; (try dsimp only at hSw); go_simp; try with_reducible rfl
      simp only [Act.put, List.setIfInBounds_toArray, List.set_cons_zero, List.set_cons_succ]
      refine wpAnyL.take (i := 1) (d := some 20) (v := ?_) rfl (by kernel_rfl) (by kernel_rfl) (by kernel_rfl) (by kernel_rfl) rfl (fun _ _ _ h => h) (Or.inl ⟨by rfl, ?_⟩) (by assumption) ?_
      rotate_left
      · intro w hSw; (try dsimp only at hSw); go_simp; try with_reducible rfl
      simp only [Act.put, List.setIfInBounds_toArray, List.set_cons_zero, List.set_cons_succ]
      refine wpAnyL.take (i := 2) (d := some 21) (v := ?_) rfl (by kernel_rfl) (by kernel_rfl) (by kernel_rfl) (by kernel_rfl) rfl (fun _ _ _ h => h) (Or.inl ⟨by rfl, ?_⟩) (by assumption) ?_
      rotate_left
      · intro w hSw; (try dsimp only at hSw); go_simp; try with_reducible rfl
      simp only [Act.put, List.setIfInBounds_toArray, List.set_cons_zero, List.set_cons_succ]
      refine wpAnyL.take (i := 3) (d := some 22) (v := ?_) rfl (by kernel_rfl) (by kernel_rfl) (by kernel_rfl) (by kernel_rfl) rfl (fun _ _ _ h => h) (Or.inl ⟨by rfl, ?_⟩) (by assumption) ?_
      rotate_left
      · intro w hSw; (try dsimp only at hSw); go_simp; try with_reducible rfl
      simp only [Act.put, List.setIfInBounds_toArray, List.set_cons_zero, List.set_cons_succ]
      refine wpAnyL.take (i := 4) (d := some 23) (v := ?_) rfl (by kernel_rfl) (by kernel_rfl) (by kernel_rfl) (by kernel_rfl) rfl (fun _ _ _ h => h) (Or.inl ⟨by rfl, ?_⟩) (by assumption) ?_
      rotate_left
      · intro w hSw; (try dsimp only at hSw); go_simp; try with_reducible rfl
      simp only [Act.put, List.setIfInBounds_toArray, List.set_cons_zero, List.set_cons_succ]
      refine wpAnyL.take (i := 5) (d := some 24) (v := ?_) rfl (by kernel_rfl) (by kernel_rfl) (by kernel_rfl) (by kernel_rfl) rfl (fun _ _ _ h => h) (Or.inl ⟨by rfl, ?_⟩) (by assumption) ?_
      rotate_left
      · intro w hSw; (try dsimp only at hSw); go_simp; try with_reducible rfl
      simp only [Act.put, List.setIfInBounds_toArray, List.set_cons_zero, List.set_cons_succ]
      refine wpAnyL.take (i := 6) (d := some 25) (v := ?_) rfl (by kernel_rfl) (by kernel_rfl) (by kernel_rfl) (by kernel_rfl) rfl (fun _ _ _ h => h) (Or.inl ⟨by rfl, ?_⟩) (by assumption) ?_
      rotate_left
      · intro w hSw; (try dsimp only at hSw); go_simp; try with_reducible rfl
      simp only [Act.put, List.setIfInBounds_toArray, List.set_cons_zero, List.set_cons_succ]
      refine wpAnyL.ready (rs := [7]) (by kernel_rfl) (by simp) ?_
      refine AllL.cons rfl (fun K hK => ?_) AllL.nil
      go_simp
      have hal1 := ((Below.refl wr.heap.size wr).al (.cells (mkCells (.bool false) g.terms) 4)).dr
      have HR1 := HR.out.via hal1
      refine hK.out _ _ (fun _ => ⟨HR1.hs.cell, by have := HR1.hg.cell; exact this⟩) ?_
      clear hK K
      try dsimp only [Act.put]
      refine wpAnyL.ready (rs := [8]) (by kernel_rfl) (by simp) ?_
      refine AllL.cons rfl (fun K hK => ?_) AllL.nil
      go_simp
      have hal2 := (((Below.refl wr.heap.size wr).al (.cells (mkCells (.bool false) g.terms) 4)).al (.cells #[.slice (some ⟨wr.heap.size, 0, none⟩) g.terms g.terms] 59)).dr
      have HR2 := HR.out.via hal2
      have HRO := Lib.hid (show BRow (((wr.alloc (.cells (mkCells (.bool false) g.terms) 4)).alloc (.cells #[.slice (some ⟨wr.heap.size, 0, none⟩) g.terms g.terms] 59)).drew) wr.heap.size g.terms (fun _ => false) from ((BRow.new wr g.terms).al _).via ((Below.refl _ _).dr))
      have HBH := (Blk.newAt (wr.alloc (.cells (mkCells (.bool false) g.terms) 4)) 59 #[.slice (some ⟨wr.heap.size, 0, none⟩) g.terms g.terms] (wr.heap.size + 1) (by simp)).via ((Below.refl _ _).dr)
      have hsz : (((wr.alloc (.cells (mkCells (.bool false) g.terms) 4)).alloc (.cells #[.slice (some ⟨wr.heap.size, 0, none⟩) g.terms g.terms] 59)).drew).heap.size = wr.heap.size + 2 := by simp
      refine hK.out _ _ (fun _ => ⟨HR2.hs.cell, by have := HR2.hg.cell; exact this⟩) ?_
      clear hK K hal1 HR1
      generalize ((wr.alloc (.cells (mkCells (.bool false) g.terms) 4)).alloc (.cells #[.slice (some ⟨wr.heap.size, 0, none⟩) g.terms g.terms] 59)).drew = W4 at *
      try dsimp only [Act.put]
      refine wpAnyL.ready (rs := [9]) (by kernel_rfl) (by simp) ?_
      refine AllL.cons rfl (fun K hK => ?_) AllL.nil
      have hwl : w.heap.size + 3 ≤ wr.heap.size := by omega
      refine step_append_brow W4 rfl (.tmp 23) (.tmp 27) rfl (w.heap.size + 3) (.slice Av k cv) k (rowsL g.terms k bs) rfl HR2.bt.own (wr.heap.size + 1) (some ⟨wr.heap.size, 0, none⟩, g.terms, g.terms) rfl HBH (by omega) (by omega) ?_
      intro Av1 cv1 w1 ho1 hg1 hat1
      have hne : ∀ j, j < w.heap.size + 3 → some j ≠ (Value.slice Av k cv).ownBlock := fun j hj e => by have := (HR2.bt.own.lt j e.symm).1; omega
      have B2g := HR2.hs.grown hg1 (hne _ (by omega))
      have BXg := HR2.hg.grown hg1 (hne _ (by omega))
      have HBT := HR.out.bt.push hal2 HRO.out (Nat.le_refl _) hwl ho1 hg1 hat1
      have HEM := HR2.em.grown hg1 (hne _ (by omega))
      have HBL : Below w.heap.size w w1 := HR2.bel.grown hg1 (by omega) (fun j e => by have := (HR2.bt.own.lt j e).1; omega)
      refine hK.out _ _ (fun _ => ⟨B2g.cell, by have := BXg.cell; exact this⟩) ?_
      clear hK K
      try dsimp only [Act.put]
      refine wpAnyL.ready (rs := [10]) (by kernel_rfl) (by simp) ?_
      refine AllL.cons rfl (fun K hK => ?_) AllL.nil
      go_simp
      refine hK.out _ _ (fun _ => ⟨B2g.cell, by have := BXg.cell; exact this⟩) ?_
      clear hK K
      try dsimp only [Act.put]
      refine wpAnyL.ready (rs := [11]) (by kernel_rfl) (by simp) ?_
      refine AllL.cons rfl (fun K hK => ?_) AllL.nil
      go_simp
      refine hK.out _ _ (fun _ => ⟨B2g.cell, by have := BXg.cell; exact this⟩) ?_
      clear hK K
      try dsimp only [Act.put]
      refine wpAnyL.ready (rs := [12]) (by kernel_rfl) (by simp) ?_
      refine AllL.cons rfl (fun K hK => ?_) AllL.nil
      have c2g := B2g.cell
      have f2g := B2g.frozen
      go_simp
      refine hK.out _ _ (fun h => absurd rfl h) ?_
      clear hK K
      refine wpAnyL.done (by kernel_rfl) ?_ _
      refine NoPanic.normal ?_
      have HN := Lib.hid (show MkR w g Ag ng cg (k + 1) (.slice Av1 (k + 1) cv1) (fun i => if i = k then wr.heap.size else bs i) (w1.setCell ⟨w.heap.size + 2, 5, none⟩ (.slice Av1 (k + 1) cv1)) from
        ⟨BXg.far (by simp) _, by have := B2g.set_ 5 (.slice Av1 (k + 1) cv1); simpa using this, HEM.far (by simp) _, HBT.far_ (by simp) _, HBL.setCell (by simp) _⟩)
      clear HR2 hal2 HRO HBH B2g BXg HBT HEM HBL
      go_wp2_with fail
      exact ⟨⟨k + 1, _, _, by go_num, by omega, HN⟩, by simp [intOf]; omega⟩
    · obtain rfl : k = g.nons := by omega
      obtain ⟨hb, hc, hblo, rfl, hfs⟩ := HR.out.done (by omega)
      have HFS := Lib.hid hfs
      have HBG := Lib.hid HR.out.hg
      have HBEL := Lib.hid HR.out.bel
      have HRLO := Lib.hid HR.out.bt.lo
      clear HR hfs
      obtain ⟨L, hL⟩ : ∃ L : FsL, L = ⟨w.heap.size + 2, Ag, ng, cg, w.heap.size + 1, hb, hc, bs⟩ := ⟨_, rfl⟩
      have LL := Lib.hid (show LoL w g L from ⟨by rw [hL], by rw [hL]; simp only; omega, fun i hi => by
        have h1 := (HFS.out.f1 i hi).1; have h2 := HRLO.out i hi; rw [hL]; simp only; omega⟩)
      have HLA := Lib.hid (show L.Ag = Ag ∧ L.ng = ng ∧ L.cg = cg from by rw [hL]; exact ⟨rfl, rfl, rfl⟩)
      rw [← hL] at HFS
      have HM0 := Lib.hid (show MkF w g L (fun _ => false) (fun _ _ => false) wr from ⟨HFS.out, by rw [HLA.out.1, HLA.out.2.1, HLA.out.2.2]; exact HBG.out, HBEL.out⟩)
      clear hL HFS HBG HBEL HMR hblo HRLO
      obtain ⟨bS, hbS⟩ : ∃ b, b = w.heap.size + 1 + 1 := ⟨_, rfl⟩
      rw [← hbS]
      have HBS := Lib.hid (show L.bS = bS from by rw [LL.out.s]; omega)
      clear hbS
      go_wp2_with fail
      go_loopg [4] (2 * muT g.nons g.terms (fun _ => false) (fun _ _ => false) + 1) (fun gk a wx => ∃ es fs ag, a = .bool ag ∧ Hid (MkF w g L es fs wx) ∧ Hid (TabS g.rules es fs) ∧ Hid (ag = false → ∀ u ∈ g.rules, Shut g.terms es fs u) ∧ gk = 2 * muT g.nons g.terms es fs + (if ag then 1 else 0))
      case atStart => exact ⟨_, _, true, rfl, HM0, Lib.hid TabS.start, Lib.hid (fun h => by cases h), rfl⟩
      case round =>
        obtain ⟨es, fs, ag, rfl, HM, HT, HS, hgk⟩ := hrel
        clear HM0
        cases ag with
        | false =>
          clear hgk
          go_wp2_with fail
          go_ret
          refine ⟨L, es, fs, by rw [HBS.out]; rfl, HM.out.fs, HT.out.ok (fun u hu s hs h1 => ?_) (HS.out trivial), HLA.out.1, HLA.out.2.1, HLA.out.2.2, HM.out.bel⟩
          have := (HGO.out.ok.right u hu).2 s hs
          simpa [Gr.okSy, h1] using this
        | true =>
          have HGK := Lib.hid hgk
          clear hgk HS
          have Bg := HM.out.hg
          rw [HLA.out.1, HLA.out.2.1, HLA.out.2.2] at Bg
          simp only [gCells] at Bg
          have cBg := Bg.cell
          have fBg := Bg.frozen
          have lBg := Bg.lt
          go_wp2_with fail
          clear cBg fBg lBg
          clear Bg
          go_loopw [4, 36] (fun a q wr => ∃ (k : Nat) (es1 : Nat → Bool) (fs1 : Nat → Nat → Bool) (ag : Bool), q = .int .i64 k ∧ k ≤ ng ∧ a = .bool ag ∧ Hid (MkF w g L es1 fs1 wr) ∧ Hid (TabS g.rules es1 fs1) ∧ Hid (PassT g.nons g.terms g.rules es fs k es1 fs1 ag)) (fun _ q _ => ng - (intOf q).toNat)
          case atStart => exact ⟨0, es, fs, false, rfl, Nat.zero_le _, rfl, HM, HT, Lib.hid (Or.inl ⟨rfl, rfl, rfl, fun i u h => absurd h (Nat.not_lt_zero _)⟩)⟩
          case round =>
            obtain ⟨k, es1, fs1, ag, rfl, hk, rfl, HM1, HT1, HP1⟩ := hrel
            clear HM HT
            by_cases hkn : k < ng
            · obtain ⟨b1, o1, ⟨sl, sA, sn, sc⟩, ⟨sl', rhs⟩, hAg, -, hbb, hy, ⟨hx1, hx2⟩, hc⟩ := (HL.out.via HM1.out.bel).at_ hkn
              simp only at hx1 hx2
              obtain rfl : sl = sl' := hx1
              subst hAg
              have d0 := hc 0 _ rfl
              have d1 := hc 1 _ rfl
              simp only [RuE, Nat.add_zero] at d0 d1
              have i0 : (0 : Int) ≤ (k : Int) := by omega
              have i1 : (k : Int) < (ng : Int) := by omega
              have hmem := List.mem_of_getElem? hy
              have hsl : sl < g.nons := HGO.out.ok.left _ hmem
              have j0 : (0 : Int) ≤ (sl : Int) := by omega
              have j1 : (sl : Int) < (g.nons : Int) := by omega
              have HRT := Lib.hid (HGO.out.ok.right _ hmem)
              have hsn : sn ≤ 4 := by rw [← hx2.len]; exact HRT.out.1
              have HY := Lib.hid hy
              have HMEM := Lib.hid hmem
              have hal := (Below.refl wr.heap.size wr).al (.cells #[.int .i64 (sl : Int), .slice sA sn sc] 77)
              have HSR := Lib.hid (hx2.via hal)
              have BX := Blk.new wr 77 #[.int .i64 (sl : Int), .slice sA sn sc]
              have HM4 := Lib.hid (HM1.out.via hal)
              have hwr : w.heap.size ≤ wr.heap.size := HM1.out.bel.size
              clear hc hy hx2 hmem hbb hal
              go_upto_region 12 with fail
              clear d0 d1
              generalize wr.alloc (.cells #[.int .i64 (sl : Int), .slice sA sn sc] 77) = W4 at *
              have BX4 := Lib.hid BX
              have cBX := BX.cell
              have fBX := BX.frozen
              have lBX := BX.lt
              go_wp2_with fail
              clear cBX fBX lBX
              clear BX
              have hw4 : W4.heap.size ≤ W4.heap.size := Nat.le_refl _
              have HXL := Lib.hid BX4.out.lt
              obtain ⟨bx, hbx⟩ : ∃ b, b = wr.heap.size := ⟨_, rfl⟩
              rw [← hbx] at BX4 HXL ⊢
              have hxw : w.heap.size ≤ bx := by omega
              have HBX := Lib.hid (show ∀ i, i < g.nons → L.bs i ≠ bx from fun i hi e => by have := (HM1.out.fs.row i hi).lt; omega)
              have HBE := Lib.hid (show L.be ≠ bx from fun e => by have := HM1.out.fs.em.lt; omega)
              clear hbx
              have HOF := of_c W4 g HGO.out L es1 fs1 ok sA sn sc rhs HM4.out.fs HSR.out hsn HRT.out.2
              rw [HBS.out] at HOF
              refine HOF.mono ?_
              clear HOF
              rintro e w5 ⟨o, rfl, hro, hol, hb5⟩
              have HRO := Lib.hid hro
              have HM5 := Lib.hid (HM4.out.via hb5)
              have BX5 := Lib.hid (BX4.out.via hb5)
              have HOS := Lib.hid (show ∀ i, i < g.nons → L.bs i ≠ o from fun i hi e => by have := (HM4.out.fs.row i hi).lt; omega)
              clear hro hol hb5 HM4 BX4 hw4
              have BX := BX5.out
              have BH := HM5.out.fs.hdr
              rw [HBS.out] at BH
              simp only [FsL.cells] at BH
              have ch := HM5.out.fs.hd.cell hsl
              have fh := HM5.out.fs.hd.frozen
              have cBX := BX.cell
              have fBX := BX.frozen
              have lBX := BX.lt
              have cBH := BH.cell
              have fBH := BH.frozen
              have lBH := BH.lt
              go_upto_region 13 with fail
              go_still_tail 9, (by kernel_rfl)
              clear cBX fBX lBX cBH fBH lBH
              clear BX BH ch fh
              have HDW := Lib.hid (Below.refl w5.heap.size w5).drew
              change wpList _ _ _ _ _ w5.drew
              generalize w5.drew = w6 at *
              have HM6 := Lib.hid (HM5.out.via HDW.out)
              have BX6 := Lib.hid (BX5.out.via HDW.out)
              have HRO6 := Lib.hid (HRO.out.via HDW.out)
              clear HDW HM5 BX5 HRO
              go_wp2_with fail
              refine (union_c w6 (L.bs sl) g.terms g.terms (fs1 sl) (ofB es1 fs1 rhs) o g.terms g.terms (HM6.out.fs.row sl hsl) HRO6.out (Nat.le_refl _) (by omega) (fun e => absurd e.symm (HOS.out sl hsl))).mono ?_
              rintro e w7 ⟨rfl, hb7, hgr⟩
              have HM7 := Lib.hid (HM6.out.union LL.out hsl hb7 hgr)
              have BX7 := Lib.hid (BX6.out.grown hgr (fun e => HBX.out sl hsl (Option.some.inj e).symm))
              have HT7 := Lib.hid (show TabS g.rules es1 (putR fs1 sl (uni (fs1 sl) (ofB es1 fs1 rhs) g.terms)) from HT1.out.first HMEM.out g.terms)
              have HP7 := Lib.hid (HP1.out.union (u := (sl, rhs)) hsl)
              clear hb7 hgr HM6 BX6 HRO6 HT1 HP1
              simp only at HP7
              generalize putR fs1 sl (uni (fs1 sl) (ofB es1 fs1 rhs) g.terms) = fs2 at *
              obtain ⟨cc, hcc⟩ : ∃ cc, cc = uniC (fs1 sl) (ofB es1 fs1 rhs) g.terms := ⟨_, rfl⟩
              rw [← hcc] at HP7 ⊢
              clear hcc
              have BX := BX7.out
              have BH := HM7.out.fs.hdr
              rw [HBS.out] at BH
              simp only [FsL.cells] at BH
              have ce := HM7.out.fs.em.cell hsl
              have fe := HM7.out.fs.em.frozen
              have cBX := BX.cell
              have fBX := BX.frozen
              have lBX := BX.lt
              have cBH := BH.cell
              have fBH := BH.frozen
              have lBH := BH.lt
              cases cc with
              | true =>
                simp only [Bool.true_or] at HP7
                go_upto_region 14 with fail
                cases he : ofE es1 rhs with
                | false =>
                  go_quiet (fail)
                  clear cBX fBX lBX cBH fBH lBH
                  have HM8 := Lib.hid (HM7.out.via (below_drewN (Below.refl w7.heap.size w7) nq))
                  clear BX BH ce fe HM7
                  generalize w7.drewN nq = w8 at *
                  go_wp2_with fail
                  exact ⟨⟨k + 1, es1, fs2, true, by go_num, by omega, rfl, HM8, HT7, Lib.hid (HP7.out.keep HY.out (fun _ h => by simp only at h; rw [he] at h; cases h))⟩, by simp [intOf]; omega⟩
                | true =>
                  go_quiet (fail)
                  clear cBX fBX lBX cBH fBH lBH
                  have HDN := Lib.hid (below_drewN (Below.refl w7.heap.size w7) nq)
                  have HM8 := Lib.hid (HM7.out.via HDN.out)
                  have BX8 := Lib.hid (BX7.out.via HDN.out)
                  clear BX BH ce fe HM7 BX7 HDN
                  generalize w7.drewN nq = w8 at *
                  cases hes : es1 sl with
                  | true =>
                    go_wp2_with fail
                    exact ⟨⟨k + 1, es1, fs2, true, by go_num, by omega, rfl, HM8, HT7, Lib.hid (HP7.out.keep HY.out (fun _ _ => hes))⟩, by simp [intOf]; omega⟩
                  | false =>
                    have BX := BX8.out
                    have BH := HM8.out.fs.hdr
                    rw [HBS.out] at BH
                    simp only [FsL.cells] at BH
                    have cBX := BX.cell
                    have fBX := BX.frozen
                    have lBX := BX.lt
                    have cBH := BH.cell
                    have fBH := BH.frozen
                    have lBH := BH.lt
                    go_upto_region 15 with fail
                    go_still_tail 7, (by kernel_rfl)
                    clear cBX fBX lBX cBH fBH lBH
                    clear BX BH
                    have HDW := Lib.hid (Below.refl w8.heap.size w8).drew
                    change wpList _ _ _ _ _ w8.drew
                    generalize w8.drew = w9 at *
                    have HM9 := Lib.hid (HM8.out.via HDW.out)
                    have ce := HM9.out.fs.em.cell hsl
                    have fe := HM9.out.fs.em.frozen
                    clear HDW HM8 BX8
                    go_wp2_with fail
                    exact ⟨⟨k + 1, putE es1 sl, fs2, true, by go_num, by omega, rfl, Lib.hid (HM9.out.setE LL.out hsl), Lib.hid (HT7.out.empty HMEM.out HT7.out.nul he), Lib.hid (HP7.out.put hsl hes)⟩, by simp [intOf]; omega⟩
              | false =>
                simp only [Bool.false_or] at HP7
                go_upto_region 14 with fail
                cases he : ofE es1 rhs with
                | false =>
                  go_quiet (fail)
                  clear cBX fBX lBX cBH fBH lBH
                  have HM8 := Lib.hid (HM7.out.via (below_drewN (Below.refl w7.heap.size w7) nq))
                  clear BX BH ce fe HM7
                  generalize w7.drewN nq = w8 at *
                  go_wp2_with fail
                  exact ⟨⟨k + 1, es1, fs2, ag, by go_num, by omega, rfl, HM8, HT7, Lib.hid (HP7.out.keep HY.out (fun _ h => by simp only at h; rw [he] at h; cases h))⟩, by simp [intOf]; omega⟩
                | true =>
                  go_quiet (fail)
                  clear cBX fBX lBX cBH fBH lBH
                  have HDN := Lib.hid (below_drewN (Below.refl w7.heap.size w7) nq)
                  have HM8 := Lib.hid (HM7.out.via HDN.out)
                  have BX8 := Lib.hid (BX7.out.via HDN.out)
                  clear BX BH ce fe HM7 BX7 HDN
                  generalize w7.drewN nq = w8 at *
                  cases hes : es1 sl with
                  | true =>
                    go_wp2_with fail
                    exact ⟨⟨k + 1, es1, fs2, ag, by go_num, by omega, rfl, HM8, HT7, Lib.hid (HP7.out.keep HY.out (fun _ _ => hes))⟩, by simp [intOf]; omega⟩
                  | false =>
                    have BX := BX8.out
                    have BH := HM8.out.fs.hdr
                    rw [HBS.out] at BH
                    simp only [FsL.cells] at BH
                    have cBX := BX.cell
                    have fBX := BX.frozen
                    have lBX := BX.lt
                    have cBH := BH.cell
                    have fBH := BH.frozen
                    have lBH := BH.lt
                    go_upto_region 15 with fail
                    go_still_tail 7, (by kernel_rfl)
                    clear cBX fBX lBX cBH fBH lBH
                    clear BX BH
                    have HDW := Lib.hid (Below.refl w8.heap.size w8).drew
                    change wpList _ _ _ _ _ w8.drew
                    generalize w8.drew = w9 at *
                    have HM9 := Lib.hid (HM8.out.via HDW.out)
                    have ce := HM9.out.fs.em.cell hsl
                    have fe := HM9.out.fs.em.frozen
                    clear HDW HM8 BX8
                    go_wp2_with fail
                    exact ⟨⟨k + 1, putE es1 sl, fs2, true, by go_num, by omega, rfl, Lib.hid (HM9.out.setE LL.out hsl), Lib.hid (HT7.out.empty HMEM.out HT7.out.nul he), Lib.hid (HP7.out.put hsl hes)⟩, by simp [intOf]; omega⟩
            · obtain rfl : k = ng := by omega
              have HLN := Lib.hid HL.out.len
              go_wp2_with fail
              go_roundg (2 * muT g.nons g.terms es1 fs1 + (if ag then 1 else 0))
              case measure =>
                rw [HGK.out]
                rcases HP1.out with ⟨h1, h2, h3, -⟩ | ⟨h1, h2⟩
                · rw [h1, h2, h3]; simp
                · rw [h1]; simp; omega
              case rel =>
                refine ⟨es1, fs1, ag, rfl, HM1, HT1, Lib.hid (fun h u hu => ?_), rfl⟩
                rcases HP1.out with ⟨h1, h2, h3, h4⟩ | ⟨h1, h2⟩
                · obtain ⟨i, hi⟩ := List.mem_iff_getElem?.1 hu
                  have := (List.getElem?_eq_some_iff.1 hi).1
                  exact h4 i u (by have := HLN.out; omega) hi
                · rw [h] at h1; cases h1
end Go.Proofs.YtfmnmgnhanogmaaDoor

