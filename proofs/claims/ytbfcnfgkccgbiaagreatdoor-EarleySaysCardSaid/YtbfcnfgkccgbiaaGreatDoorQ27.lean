/- Texts PU, laid together. -/
import Derived.Test.YtbfcnfgkccgbiaaGreatDoorQ26


namespace Go.Proofs.YtbfcnfgkccgbiaaGreatDoor
open Go.RowKit

def SetP (w : World) (base bf : Nat) (c0 c1 c2 : Value) (AR : Option Addr) (nR cR : Nat) (R : List Ru) (s : ChSt) (L : List (List It3)) (e : Ending) (w' : World) : Prop :=
  e = .returned (.tuple #[]) ∧ ∃ v' vm' bm, ChS w' base bf c0 c1 c2 AR nR cR R (v', s.2.1 ++ [(none, 0, 0)], vm', s.2.2.2 ++ [bm]) (L ++ [[]]) ∧ Mov (ChX bf s) (ChX bf (v', s.2.1 ++ [(none, 0, 0)], vm', s.2.2.2 ++ [bm])) w w'
set_option maxRecDepth 100000 in
set_option maxHeartbeats 4000000 in
theorem set_c (w : World) (base bf : Nat) (c0 c1 c2 : Value) (AR : Option Addr) (nR cR : Nat) (R : List Ru) (v : Value) (hs : List SlV) (vm : Value) (ms : List Nat) (L : List (List It3)) (h : ChM w base bf c0 c1 c2 AR nR cR R v hs vm ms L) (hbf : base ≤ bf) (hk : L.length ≤ 1000) :
    Calls Tryz.prog 56 #[.pointer (some ⟨bf, 0, none⟩)] w (SetP w base bf c0 c1 c2 AR nR cR R (v, hs, vm, ms) L) := by
  have hml := h.maps.len
  have hsl := h.sets.len
  obtain ⟨vA, vc, rfl, -⟩ := h.sets.row.form
  obtain ⟨mA, mc, rfl, -⟩ := h.maps.form
  have hbase := h.base
  have HVN := Lib.hid (show ∀ b, (Value.slice mA L.length mc).ownBlock = some b → (Value.slice vA L.length vc).ownBlock ≠ some b from fun b hb => (h.vfar b hb).1)
  have HH := Lib.hid h
  have q4 := h.blk.cell 4
  have q5 := h.blk.cell 5
  have HA := Lib.hid (Agr.refl (ok := fun b => (Value.slice mA L.length mc).ownBlock ≠ some b ∧ (Value.slice vA L.length vc).ownBlock ≠ some b) (w := w))
  clear h
  go_enter Tryz.func56, Tryz.ntmps56
  have hb0 := (Below.refl w.heap.size w).drew
  replace HA := Lib.hid (HA.out.trans (Agr.below hb0))
  have HE := Lib.hid (hb0.mono (Nat.zero_le _))
  have HBK := Lib.hid (HH.out.blk.via hb0)
  have HO1 := Lib.hid (HH.out.maps.via hb0)
  have HO2 := Lib.hid (HH.out.sets.row.via hb0)
  have hHeld : w.drew.cell? ⟨bf, 4, none⟩ = some (.slice mA L.length mc) ∧ w.drew.cell? ⟨bf, 5, none⟩ = some (.slice vA L.length vc) := ⟨q4, q5⟩
  have hsz0 : w.heap.size ≤ w.drew.heap.size := hb0.size
  clear hb0 q4 q5
  refine wp_region_noPanic ?_
  refine wp_region_N 17 (fun w' => w'.cell? ⟨bf, 4, none⟩ = some (.slice mA L.length mc) ∧ w'.cell? ⟨bf, 5, none⟩ = some (.slice vA L.length vc)) (by kernel_rfl) ?_
  refine wpAnyN.take (i := 0) (d := some 2) (v := ?_) rfl (by decide) (by kernel_rfl) (by kernel_rfl) (by kernel_rfl) (by kernel_rfl) (by kernel_rfl) rfl (fun _ _ _ h => h) (Or.inl ⟨by rfl, ?_⟩) (by assumption) ?_
  rotate_left
  · intro w hSw; (try dsimp only at hSw); go_simp; try with_reducible rfl
  simp only [Act.put, List.setIfInBounds_toArray, List.set_cons_zero, List.set_cons_succ]
  refine wpAnyN.free (i := 1) (d := some 3) (v := ?_) rfl (by decide) (by kernel_rfl) (by kernel_rfl) (by kernel_rfl) rfl (fun _ _ _ h => h) (Or.inl ⟨by rfl, ?_⟩) (fun _ => by assumption) ?_
  rotate_left
  · intro w hSw; go_simp; try with_reducible rfl
  simp only [Act.put, List.setIfInBounds_toArray, List.set_cons_zero, List.set_cons_succ]
  refine wpAnyN.take (i := 2) (d := some 4) (v := ?_) rfl (by decide) (by kernel_rfl) (by kernel_rfl) (by kernel_rfl) (by kernel_rfl) (by kernel_rfl) rfl (fun _ _ _ h => h) (Or.inl ⟨by rfl, ?_⟩) (by assumption) ?_
  rotate_left
  · intro w hSw; (try dsimp only at hSw); go_simp; try with_reducible rfl
  simp only [Act.put, List.setIfInBounds_toArray, List.set_cons_zero, List.set_cons_succ]
  refine wpAnyN.take (i := 3) (d := some 5) (v := ?_) rfl (by decide) (by kernel_rfl) (by kernel_rfl) (by kernel_rfl) (by kernel_rfl) (by kernel_rfl) rfl (fun _ _ _ h => h) (Or.inl ⟨by rfl, ?_⟩) (by assumption) ?_
  rotate_left
  · intro w hSw; (try dsimp only at hSw); go_simp; try with_reducible rfl
  simp only [Act.put, List.setIfInBounds_toArray, List.set_cons_zero, List.set_cons_succ]
  refine wpAnyN.take (i := 4) (d := some 6) (v := ?_) rfl (by decide) (by kernel_rfl) (by kernel_rfl) (by kernel_rfl) (by kernel_rfl) (by kernel_rfl) rfl (fun _ _ _ h => h) (Or.inl ⟨by rfl, ?_⟩) (by assumption) ?_
  rotate_left
  · intro w hSw; (try dsimp only at hSw); go_simp; try with_reducible rfl
  simp only [Act.put, List.setIfInBounds_toArray, List.set_cons_zero, List.set_cons_succ]
  refine wpAnyN.take (i := 5) (d := some 7) (v := ?_) rfl (by decide) (by kernel_rfl) (by kernel_rfl) (by kernel_rfl) (by kernel_rfl) (by kernel_rfl) rfl (fun _ _ _ h => h) (Or.inl ⟨by rfl, ?_⟩) (by assumption) ?_
  rotate_left
  · intro w hSw; (try dsimp only at hSw); go_simp; try with_reducible rfl
  simp only [Act.put, List.setIfInBounds_toArray, List.set_cons_zero, List.set_cons_succ]
  refine wpAnyN.free (i := 9) (d := some 11) (v := ?_) rfl (by decide) (by kernel_rfl) (by kernel_rfl) (by kernel_rfl) rfl (fun _ _ _ h => h) (Or.inl ⟨by rfl, ?_⟩) (fun _ => by assumption) ?_
  rotate_left
  · intro w hSw; go_simp; try with_reducible rfl
  simp only [Act.put, List.setIfInBounds_toArray, List.set_cons_zero, List.set_cons_succ]
  refine wpAnyN.free (i := 10) (d := some 12) (v := ?_) rfl (by decide) (by kernel_rfl) (by kernel_rfl) (by kernel_rfl) rfl (fun _ _ _ h => h) (Or.inl ⟨by rfl, ?_⟩) (fun _ => by assumption) ?_
  rotate_left
  · intro w hSw; go_simp; try with_reducible rfl
  simp only [Act.put, List.setIfInBounds_toArray, List.set_cons_zero, List.set_cons_succ]
  refine wpAnyN.free (i := 11) (d := some 13) (v := ?_) rfl (by decide) (by kernel_rfl) (by kernel_rfl) (by kernel_rfl) rfl (fun _ _ _ h => h) (Or.inl ⟨by rfl, ?_⟩) (fun _ => by assumption) ?_
  rotate_left
  · intro w hSw; go_simp; try with_reducible rfl
  simp only [Act.put, List.setIfInBounds_toArray, List.set_cons_zero, List.set_cons_succ]
  refine wpAnyN.take (i := 12) (d := some 14) (v := ?_) rfl (by decide) (by kernel_rfl) (by kernel_rfl) (by kernel_rfl) (by kernel_rfl) (by kernel_rfl) rfl (fun _ _ _ h => h) (Or.inl ⟨by rfl, ?_⟩) (by assumption) ?_
  rotate_left
  · intro w hSw; (try dsimp only at hSw); go_simp; try with_reducible rfl
  simp only [Act.put, List.setIfInBounds_toArray, List.set_cons_zero, List.set_cons_succ]
  generalize w.drew = w0 at *
  refine wpAnyN.ready (rs := [6, 13]) (by kernel_rfl) (by simp) ?_
  refine AllN.cons rfl (fun K hK => ?_) (AllN.cons rfl (fun K hK => ?_) AllN.nil)
  · skip
    have HM := Lib.hid (MapK.made w0 Tryz.prog 47 itVal)
    go_simp
    have hal := (Below.refl w0.heap.size w0).al (.map #[] 0)
    replace HA := Lib.hid (HA.out.trans (Agr.below hal))
    replace HE := Lib.hid (HE.out.trans (hal.mono (Nat.zero_le _)))
    replace HBK := Lib.hid (HBK.out.via hal)
    replace HO1 := Lib.hid (HO1.out.via hal)
    replace HO2 := Lib.hid (HO2.out.via hal)
    try replace HB2 := Lib.hid (HB2.out.via hal)
    refine hK.out _ _ (fun _ => ⟨HBK.out.cell 4, HBK.out.cell 5⟩) ?_
    clear hK K hal
    try dsimp only [Act.put]
    refine show wpAnyN _ _ _ _ _ _ _ _ _ (w0.alloc (.map #[] 0)) from ?_
    have hbwX : w0.heap.size < (w0.alloc (.map #[] 0)).heap.size := by simp
    generalize w0.alloc (.map #[] 0) = wa at *
    generalize w0.heap.size = bm at *
    have hszX : w.heap.size ≤ wa.heap.size := by omega
    refine wpAnyN.ready (rs := [7, 13]) (by kernel_rfl) (by simp) ?_
    refine AllN.cons rfl (fun K hK => ?_) (AllN.cons rfl (fun K hK => ?_) AllN.nil)
    · skip
      have HB1 := Lib.hid (Blk.new wa 149 #[.map (some bm)])
      go_simp
      have hal := (Below.refl wa.heap.size wa).al (.cells #[.map (some bm)] 149)
      replace HA := Lib.hid (HA.out.trans (Agr.below hal))
      replace HE := Lib.hid (HE.out.trans (hal.mono (Nat.zero_le _)))
      replace HBK := Lib.hid (HBK.out.via hal)
      replace HO1 := Lib.hid (HO1.out.via hal)
      replace HO2 := Lib.hid (HO2.out.via hal)
      replace HM := Lib.hid (HM.out.via hal)
      try replace HB2 := Lib.hid (HB2.out.via hal)
      refine hK.out _ _ (fun _ => ⟨HBK.out.cell 4, HBK.out.cell 5⟩) ?_
      clear hK K hal
      try dsimp only [Act.put]
      have hbwX : wa.heap.size < (wa.alloc (.cells #[.map (some bm)] 149)).heap.size := by simp
      generalize wa.alloc (.cells #[.map (some bm)] 149) = wb at *
      generalize wa.heap.size = b1 at *
      have hszX : w.heap.size ≤ wb.heap.size := by omega
      refine wpAnyN.ready (rs := [8, 13]) (by kernel_rfl) (by simp) ?_
      refine AllN.cons rfl (fun K hK => ?_) (AllN.cons rfl (fun K hK => ?_) AllN.nil)
      · skip
        refine step_append_map _ rfl (.tmp 7) (.tmp 9) rfl base (.slice mA L.length mc) L.length ms rfl HO1.out b1 bm rfl HB1.out (by omega) (by omega) ?_
        intro A1 d1 wd ho1 hg1 hat1
        replace HA := Lib.hid (HA.out.trans (Agr.grown hg1 fun b hb e => hb.1 e.symm))
        replace HE := Lib.hid (HE.out.grown hg1 (Nat.zero_le _) (fun b _ => Nat.zero_le _))
        replace HBK := Lib.hid (HBK.out.grown hg1 (fun e => HH.out.far.2.1 e.symm))
        replace HO1 := Lib.hid ho1
        replace HO2 := Lib.hid (HO2.out.agr (Agr.grown hg1 fun b hb e => hb.elim (fun h => h) (fun h => HVN.out b e.symm h.symm)))
        replace HM := Lib.hid (HM.out.grown hg1 (fun e => by have := (HH.out.maps.lt bm e.symm).2; omega))
        try replace HB2 := Lib.hid (HB2.out.grown hg1 (fun e => by have := (HH.out.maps.lt b2 e.symm).2; omega))
        have HAT1 := Lib.hid (show (Value.slice A1 (L.length + 1) d1).ownBlock = (Value.slice mA L.length mc).ownBlock ∨ ∃ b, w.heap.size ≤ b ∧ (Value.slice A1 (L.length + 1) d1).ownBlock = some b from hat1.imp_right fun e => ⟨_, by omega, e⟩)
        have HN1 := Lib.hid (show (Value.slice A1 (L.length + 1) d1).ownBlock ≠ some bm from fun e => by
          rcases hat1 with h | h
          · have := (HH.out.maps.lt bm (h ▸ e)).2; omega
          · have e2 : some wb.heap.size = some bm := h ▸ e
            have := Option.some.inj e2; omega)
        have hszX : w.heap.size ≤ wd.heap.size := Nat.le_trans (by omega) hg1.size
        have hbmX : bm < wd.heap.size := Nat.lt_of_lt_of_le (by omega) hg1.size
        try have hb2X : b2 < wd.heap.size := Nat.lt_of_lt_of_le (by omega) hg1.size
        clear ho1 hg1 hat1 HB1
        refine hK.out _ _ (fun _ => ⟨HBK.out.cell 4, HBK.out.cell 5⟩) ?_
        clear hK K
        try dsimp only [Act.put]
        refine wpAnyN.ready (rs := [13]) (by kernel_rfl) (by simp) ?_
        refine AllN.cons rfl (fun K hK => ?_) AllN.nil
        have HB2 := Lib.hid (Blk.new wd 43 #[.slice none 0 0])
        go_simp
        have hal := (Below.refl wd.heap.size wd).al (.cells #[.slice none 0 0] 43)
        replace HA := Lib.hid (HA.out.trans (Agr.below hal))
        replace HE := Lib.hid (HE.out.trans (hal.mono (Nat.zero_le _)))
        replace HBK := Lib.hid (HBK.out.via hal)
        replace HO1 := Lib.hid (HO1.out.via hal)
        replace HO2 := Lib.hid (HO2.out.via hal)
        try replace HM := Lib.hid (HM.out.via hal)
        try replace HB1 := Lib.hid (HB1.out.via hal)
        refine hK.out _ _ (fun _ => ⟨HBK.out.cell 4, HBK.out.cell 5⟩) ?_
        clear hK K hal
        try dsimp only [Act.put]
        have hbwX : wd.heap.size < (wd.alloc (.cells #[.slice none 0 0] 43)).heap.size := by simp
        generalize wd.alloc (.cells #[.slice none 0 0] 43) = we at *
        generalize wd.heap.size = b2 at *
        have hszX : w.heap.size ≤ we.heap.size := by omega
        refine wpAnyN.ready (rs := [14]) (by kernel_rfl) (by simp) ?_
        refine AllN.cons rfl (fun K hK => ?_) AllN.nil
        refine step_append_erow _ rfl (.tmp 14) (.tmp 15) rfl base (.slice vA L.length vc) L.length hs rfl HO2.out b2 (none, 0, 0) rfl HB2.out (by omega) (by omega) ?_
        intro A2 d2 wf ho2 hg2 hat2
        have HNE := Lib.hid (show ∀ b, (Value.slice A1 (L.length + 1) d1).ownBlock = some b → (Value.slice A2 (L.length + 1) d2).ownBlock ≠ some b from fun b hb e => by
          have h1 := (HO1.out.lt b hb).2
          rcases hat2 with h | h
          · rcases HAT1.out with h' | ⟨b', hb', h'⟩
            · exact HVN.out b (h' ▸ hb) (h ▸ e)
            · have e1 : some b' = some b := h' ▸ hb
              have := Option.some.inj e1
              have := (HH.out.sets.row.lt b (h ▸ e)).2
              omega
          · have e2 : some we.heap.size = some b := h ▸ e
            have := Option.some.inj e2; omega)
        have HN2 := Lib.hid (show (Value.slice A2 (L.length + 1) d2).ownBlock ≠ some bm from fun e => by
          rcases hat2 with h | h
          · have := (HH.out.sets.row.lt bm (h ▸ e)).2; omega
          · have e2 : some we.heap.size = some bm := h ▸ e
            have := Option.some.inj e2; omega)
        replace HA := Lib.hid (HA.out.trans (Agr.grown hg2 fun b hb e => hb.2 e.symm))
        replace HE := Lib.hid (HE.out.grown hg2 (Nat.zero_le _) (fun b _ => Nat.zero_le _))
        replace HBK := Lib.hid (HBK.out.grown hg2 (fun e => HH.out.far.1.1 e.symm))
        replace HO1 := Lib.hid (HO1.out.agr (Agr.grown hg2 fun b hb e => hb.elim (fun h => h) (fun h => by
          rcases HAT1.out with h' | ⟨b', hb', h'⟩
          · exact HVN.out b (h' ▸ h.symm) e.symm
          · have e1 : some b' = some b := h' ▸ h.symm
            have := Option.some.inj e1
            have := (HH.out.sets.row.lt b e.symm).2
            omega)))
        replace HO2 := Lib.hid ho2
        replace HM := Lib.hid (HM.out.grown hg2 (fun e => by have := (HH.out.sets.row.lt bm e.symm).2; omega))
        have HAT2 := Lib.hid (show (Value.slice A2 (L.length + 1) d2).ownBlock = (Value.slice vA L.length vc).ownBlock ∨ ∃ b, w.heap.size ≤ b ∧ (Value.slice A2 (L.length + 1) d2).ownBlock = some b from hat2.imp_right fun e => ⟨_, by omega, e⟩)
        clear ho2 hg2 hat2 HB2
        refine hK.out _ _ (fun _ => ⟨HBK.out.cell 4, HBK.out.cell 5⟩) ?_
        clear hK K
        try dsimp only [Act.put]
        refine wpAnyN.ready (rs := [15]) (by kernel_rfl) (by simp) ?_
        refine AllN.cons rfl (fun K hK => ?_) AllN.nil
        go_simp
        refine hK.out _ _ (fun _ => ⟨HBK.out.cell 4, HBK.out.cell 5⟩) ?_
        clear hK K
        try dsimp only [Act.put]
        refine wpAnyN.ready (rs := [16]) (by kernel_rfl) (by simp) ?_
        refine AllN.cons rfl (fun K hK => ?_) AllN.nil
        go_simp
        refine hK.out _ _ (fun _ => ⟨HBK.out.cell 4, HBK.out.cell 5⟩) ?_
        clear hK K
        try dsimp only [Act.put]
        have fz := HBK.out.frozen
        have c4 := HBK.out.cell
        refine wpAnyN.ready (rs := [17]) (by kernel_rfl) (by simp) ?_
        refine AllN.cons rfl (fun K hK => ?_) AllN.nil
        go_simp
        refine hK.out _ _ (fun h => absurd h (by decide)) ?_
        clear hK K fz c4
        try dsimp only [Act.put]
        have fz := (HBK.out.set_ 4 (.slice A1 (L.length + 1) d1)).frozen
        have c4 := (HBK.out.set_ 4 (.slice A1 (L.length + 1) d1)).cell
        refine wpAnyN.ready (rs := [18]) (by kernel_rfl) (by simp) ?_
        refine AllN.cons rfl (fun K hK => ?_) AllN.nil
        go_simp
        refine hK.out _ _ (fun h => absurd h (by decide)) ?_
        clear hK K
        try dsimp only [Act.put]
        refine wpAnyN.ready (rs := [19]) (by kernel_rfl) (by simp) ?_
        refine AllN.cons rfl (fun K hK => ?_) AllN.nil
        go_simp
        refine hK.out _ _ (fun h => absurd h (by decide)) ?_
        clear hK K
        try dsimp only [Act.put]
        refine wpAnyN.ready (rs := [20]) (by kernel_rfl) (by simp) ?_
        refine AllN.cons rfl (fun K hK => ?_) AllN.nil
        go_simp
        refine hK.out _ _ (fun h => absurd h (by decide)) ?_
        clear hK K fz c4
        refine wpAnyN.done (by kernel_rfl) ?_ _
        refine NoPanic.normal ?_
        have HF := Lib.hid (HH.out.push hbf HA.out HE.out HO2.out HO1.out HM.out (by omega) HAT2.out HAT1.out HNE.out HN1.out HN2.out)
        go_wp2_with fail
        refine bodyPost_ret (v := .tuple #[]) (by simp [results, Tryz.results56, go_sem]) rfl ?_
        exact ⟨rfl, _, _, _, HF.out.1, HF.out.2⟩
      · skip
        have HB2 := Lib.hid (Blk.new wb 43 #[.slice none 0 0])
        go_simp
        have hal := (Below.refl wb.heap.size wb).al (.cells #[.slice none 0 0] 43)
        replace HA := Lib.hid (HA.out.trans (Agr.below hal))
        replace HE := Lib.hid (HE.out.trans (hal.mono (Nat.zero_le _)))
        replace HBK := Lib.hid (HBK.out.via hal)
        replace HO1 := Lib.hid (HO1.out.via hal)
        replace HO2 := Lib.hid (HO2.out.via hal)
        try replace HM := Lib.hid (HM.out.via hal)
        try replace HB1 := Lib.hid (HB1.out.via hal)
        refine hK.out _ _ (fun _ => ⟨HBK.out.cell 4, HBK.out.cell 5⟩) ?_
        clear hK K hal
        try dsimp only [Act.put]
        have hbwX : wb.heap.size < (wb.alloc (.cells #[.slice none 0 0] 43)).heap.size := by simp
        generalize wb.alloc (.cells #[.slice none 0 0] 43) = wd at *
        generalize wb.heap.size = b2 at *
        have hszX : w.heap.size ≤ wd.heap.size := by omega
        refine wpAnyN.ready (rs := [8]) (by kernel_rfl) (by simp) ?_
        refine AllN.cons rfl (fun K hK => ?_) AllN.nil
        refine step_append_map _ rfl (.tmp 7) (.tmp 9) rfl base (.slice mA L.length mc) L.length ms rfl HO1.out b1 bm rfl HB1.out (by omega) (by omega) ?_
        intro A1 d1 we ho1 hg1 hat1
        replace HA := Lib.hid (HA.out.trans (Agr.grown hg1 fun b hb e => hb.1 e.symm))
        replace HE := Lib.hid (HE.out.grown hg1 (Nat.zero_le _) (fun b _ => Nat.zero_le _))
        replace HBK := Lib.hid (HBK.out.grown hg1 (fun e => HH.out.far.2.1 e.symm))
        replace HO1 := Lib.hid ho1
        replace HO2 := Lib.hid (HO2.out.agr (Agr.grown hg1 fun b hb e => hb.elim (fun h => h) (fun h => HVN.out b e.symm h.symm)))
        replace HM := Lib.hid (HM.out.grown hg1 (fun e => by have := (HH.out.maps.lt bm e.symm).2; omega))
        try replace HB2 := Lib.hid (HB2.out.grown hg1 (fun e => by have := (HH.out.maps.lt b2 e.symm).2; omega))
        have HAT1 := Lib.hid (show (Value.slice A1 (L.length + 1) d1).ownBlock = (Value.slice mA L.length mc).ownBlock ∨ ∃ b, w.heap.size ≤ b ∧ (Value.slice A1 (L.length + 1) d1).ownBlock = some b from hat1.imp_right fun e => ⟨_, by omega, e⟩)
        have HN1 := Lib.hid (show (Value.slice A1 (L.length + 1) d1).ownBlock ≠ some bm from fun e => by
          rcases hat1 with h | h
          · have := (HH.out.maps.lt bm (h ▸ e)).2; omega
          · have e2 : some wd.heap.size = some bm := h ▸ e
            have := Option.some.inj e2; omega)
        have hszX : w.heap.size ≤ we.heap.size := Nat.le_trans (by omega) hg1.size
        have hbmX : bm < we.heap.size := Nat.lt_of_lt_of_le (by omega) hg1.size
        try have hb2X : b2 < we.heap.size := Nat.lt_of_lt_of_le (by omega) hg1.size
        clear ho1 hg1 hat1 HB1
        refine hK.out _ _ (fun _ => ⟨HBK.out.cell 4, HBK.out.cell 5⟩) ?_
        clear hK K
        try dsimp only [Act.put]
        refine wpAnyN.ready (rs := [14]) (by kernel_rfl) (by simp) ?_
        refine AllN.cons rfl (fun K hK => ?_) AllN.nil
        refine step_append_erow _ rfl (.tmp 14) (.tmp 15) rfl base (.slice vA L.length vc) L.length hs rfl HO2.out b2 (none, 0, 0) rfl HB2.out (by omega) (by omega) ?_
        intro A2 d2 wf ho2 hg2 hat2
        have HNE := Lib.hid (show ∀ b, (Value.slice A1 (L.length + 1) d1).ownBlock = some b → (Value.slice A2 (L.length + 1) d2).ownBlock ≠ some b from fun b hb e => by
          have h1 := (HO1.out.lt b hb).2
          rcases hat2 with h | h
          · rcases HAT1.out with h' | ⟨b', hb', h'⟩
            · exact HVN.out b (h' ▸ hb) (h ▸ e)
            · have e1 : some b' = some b := h' ▸ hb
              have := Option.some.inj e1
              have := (HH.out.sets.row.lt b (h ▸ e)).2
              omega
          · have e2 : some we.heap.size = some b := h ▸ e
            have := Option.some.inj e2; omega)
        have HN2 := Lib.hid (show (Value.slice A2 (L.length + 1) d2).ownBlock ≠ some bm from fun e => by
          rcases hat2 with h | h
          · have := (HH.out.sets.row.lt bm (h ▸ e)).2; omega
          · have e2 : some we.heap.size = some bm := h ▸ e
            have := Option.some.inj e2; omega)
        replace HA := Lib.hid (HA.out.trans (Agr.grown hg2 fun b hb e => hb.2 e.symm))
        replace HE := Lib.hid (HE.out.grown hg2 (Nat.zero_le _) (fun b _ => Nat.zero_le _))
        replace HBK := Lib.hid (HBK.out.grown hg2 (fun e => HH.out.far.1.1 e.symm))
        replace HO1 := Lib.hid (HO1.out.agr (Agr.grown hg2 fun b hb e => hb.elim (fun h => h) (fun h => by
          rcases HAT1.out with h' | ⟨b', hb', h'⟩
          · exact HVN.out b (h' ▸ h.symm) e.symm
          · have e1 : some b' = some b := h' ▸ h.symm
            have := Option.some.inj e1
            have := (HH.out.sets.row.lt b e.symm).2
            omega)))
        replace HO2 := Lib.hid ho2
        replace HM := Lib.hid (HM.out.grown hg2 (fun e => by have := (HH.out.sets.row.lt bm e.symm).2; omega))
        have HAT2 := Lib.hid (show (Value.slice A2 (L.length + 1) d2).ownBlock = (Value.slice vA L.length vc).ownBlock ∨ ∃ b, w.heap.size ≤ b ∧ (Value.slice A2 (L.length + 1) d2).ownBlock = some b from hat2.imp_right fun e => ⟨_, by omega, e⟩)
        clear ho2 hg2 hat2 HB2
        refine hK.out _ _ (fun _ => ⟨HBK.out.cell 4, HBK.out.cell 5⟩) ?_
        clear hK K
        try dsimp only [Act.put]
        refine wpAnyN.ready (rs := [15]) (by kernel_rfl) (by simp) ?_
        refine AllN.cons rfl (fun K hK => ?_) AllN.nil
        go_simp
        refine hK.out _ _ (fun _ => ⟨HBK.out.cell 4, HBK.out.cell 5⟩) ?_
        clear hK K
        try dsimp only [Act.put]
        refine wpAnyN.ready (rs := [16]) (by kernel_rfl) (by simp) ?_
        refine AllN.cons rfl (fun K hK => ?_) AllN.nil
        go_simp
        refine hK.out _ _ (fun _ => ⟨HBK.out.cell 4, HBK.out.cell 5⟩) ?_
        clear hK K
        try dsimp only [Act.put]
        have fz := HBK.out.frozen
        have c4 := HBK.out.cell
        refine wpAnyN.ready (rs := [17]) (by kernel_rfl) (by simp) ?_
        refine AllN.cons rfl (fun K hK => ?_) AllN.nil
        go_simp
        refine hK.out _ _ (fun h => absurd h (by decide)) ?_
        clear hK K fz c4
        try dsimp only [Act.put]
        have fz := (HBK.out.set_ 4 (.slice A1 (L.length + 1) d1)).frozen
        have c4 := (HBK.out.set_ 4 (.slice A1 (L.length + 1) d1)).cell
        refine wpAnyN.ready (rs := [18]) (by kernel_rfl) (by simp) ?_
        refine AllN.cons rfl (fun K hK => ?_) AllN.nil
        go_simp
        refine hK.out _ _ (fun h => absurd h (by decide)) ?_
        clear hK K
        try dsimp only [Act.put]
        refine wpAnyN.ready (rs := [19]) (by kernel_rfl) (by simp) ?_
        refine AllN.cons rfl (fun K hK => ?_) AllN.nil
        go_simp
        refine hK.out _ _ (fun h => absurd h (by decide)) ?_
        clear hK K
        try dsimp only [Act.put]
        refine wpAnyN.ready (rs := [20]) (by kernel_rfl) (by simp) ?_
        refine AllN.cons rfl (fun K hK => ?_) AllN.nil
        go_simp
        refine hK.out _ _ (fun h => absurd h (by decide)) ?_
        clear hK K fz c4
        refine wpAnyN.done (by kernel_rfl) ?_ _
        refine NoPanic.normal ?_
        have HF := Lib.hid (HH.out.push hbf HA.out HE.out HO2.out HO1.out HM.out (by omega) HAT2.out HAT1.out HNE.out HN1.out HN2.out)
        go_wp2_with fail
        refine bodyPost_ret (v := .tuple #[]) (by simp [results, Tryz.results56, go_sem]) rfl ?_
        exact ⟨rfl, _, _, _, HF.out.1, HF.out.2⟩
    · skip
      have HB2 := Lib.hid (Blk.new wa 43 #[.slice none 0 0])
      go_simp
      have hal := (Below.refl wa.heap.size wa).al (.cells #[.slice none 0 0] 43)
      replace HA := Lib.hid (HA.out.trans (Agr.below hal))
      replace HE := Lib.hid (HE.out.trans (hal.mono (Nat.zero_le _)))
      replace HBK := Lib.hid (HBK.out.via hal)
      replace HO1 := Lib.hid (HO1.out.via hal)
      replace HO2 := Lib.hid (HO2.out.via hal)
      try replace HM := Lib.hid (HM.out.via hal)
      try replace HB1 := Lib.hid (HB1.out.via hal)
      refine hK.out _ _ (fun _ => ⟨HBK.out.cell 4, HBK.out.cell 5⟩) ?_
      clear hK K hal
      try dsimp only [Act.put]
      have hbwX : wa.heap.size < (wa.alloc (.cells #[.slice none 0 0] 43)).heap.size := by simp
      generalize wa.alloc (.cells #[.slice none 0 0] 43) = wb at *
      generalize wa.heap.size = b2 at *
      have hszX : w.heap.size ≤ wb.heap.size := by omega
      refine wpAnyN.ready (rs := [7]) (by kernel_rfl) (by simp) ?_
      refine AllN.cons rfl (fun K hK => ?_) AllN.nil
      have HB1 := Lib.hid (Blk.new wb 149 #[.map (some bm)])
      go_simp
      have hal := (Below.refl wb.heap.size wb).al (.cells #[.map (some bm)] 149)
      replace HA := Lib.hid (HA.out.trans (Agr.below hal))
      replace HE := Lib.hid (HE.out.trans (hal.mono (Nat.zero_le _)))
      replace HBK := Lib.hid (HBK.out.via hal)
      replace HO1 := Lib.hid (HO1.out.via hal)
      replace HO2 := Lib.hid (HO2.out.via hal)
      replace HM := Lib.hid (HM.out.via hal)
      try replace HB2 := Lib.hid (HB2.out.via hal)
      refine hK.out _ _ (fun _ => ⟨HBK.out.cell 4, HBK.out.cell 5⟩) ?_
      clear hK K hal
      try dsimp only [Act.put]
      have hbwX : wb.heap.size < (wb.alloc (.cells #[.map (some bm)] 149)).heap.size := by simp
      generalize wb.alloc (.cells #[.map (some bm)] 149) = wd at *
      generalize wb.heap.size = b1 at *
      have hszX : w.heap.size ≤ wd.heap.size := by omega
      refine wpAnyN.ready (rs := [8]) (by kernel_rfl) (by simp) ?_
      refine AllN.cons rfl (fun K hK => ?_) AllN.nil
      refine step_append_map _ rfl (.tmp 7) (.tmp 9) rfl base (.slice mA L.length mc) L.length ms rfl HO1.out b1 bm rfl HB1.out (by omega) (by omega) ?_
      intro A1 d1 we ho1 hg1 hat1
      replace HA := Lib.hid (HA.out.trans (Agr.grown hg1 fun b hb e => hb.1 e.symm))
      replace HE := Lib.hid (HE.out.grown hg1 (Nat.zero_le _) (fun b _ => Nat.zero_le _))
      replace HBK := Lib.hid (HBK.out.grown hg1 (fun e => HH.out.far.2.1 e.symm))
      replace HO1 := Lib.hid ho1
      replace HO2 := Lib.hid (HO2.out.agr (Agr.grown hg1 fun b hb e => hb.elim (fun h => h) (fun h => HVN.out b e.symm h.symm)))
      replace HM := Lib.hid (HM.out.grown hg1 (fun e => by have := (HH.out.maps.lt bm e.symm).2; omega))
      try replace HB2 := Lib.hid (HB2.out.grown hg1 (fun e => by have := (HH.out.maps.lt b2 e.symm).2; omega))
      have HAT1 := Lib.hid (show (Value.slice A1 (L.length + 1) d1).ownBlock = (Value.slice mA L.length mc).ownBlock ∨ ∃ b, w.heap.size ≤ b ∧ (Value.slice A1 (L.length + 1) d1).ownBlock = some b from hat1.imp_right fun e => ⟨_, by omega, e⟩)
      have HN1 := Lib.hid (show (Value.slice A1 (L.length + 1) d1).ownBlock ≠ some bm from fun e => by
        rcases hat1 with h | h
        · have := (HH.out.maps.lt bm (h ▸ e)).2; omega
        · have e2 : some wd.heap.size = some bm := h ▸ e
          have := Option.some.inj e2; omega)
      have hszX : w.heap.size ≤ we.heap.size := Nat.le_trans (by omega) hg1.size
      have hbmX : bm < we.heap.size := Nat.lt_of_lt_of_le (by omega) hg1.size
      try have hb2X : b2 < we.heap.size := Nat.lt_of_lt_of_le (by omega) hg1.size
      clear ho1 hg1 hat1 HB1
      refine hK.out _ _ (fun _ => ⟨HBK.out.cell 4, HBK.out.cell 5⟩) ?_
      clear hK K
      try dsimp only [Act.put]
      refine wpAnyN.ready (rs := [14]) (by kernel_rfl) (by simp) ?_
      refine AllN.cons rfl (fun K hK => ?_) AllN.nil
      refine step_append_erow _ rfl (.tmp 14) (.tmp 15) rfl base (.slice vA L.length vc) L.length hs rfl HO2.out b2 (none, 0, 0) rfl HB2.out (by omega) (by omega) ?_
      intro A2 d2 wf ho2 hg2 hat2
      have HNE := Lib.hid (show ∀ b, (Value.slice A1 (L.length + 1) d1).ownBlock = some b → (Value.slice A2 (L.length + 1) d2).ownBlock ≠ some b from fun b hb e => by
        have h1 := (HO1.out.lt b hb).2
        rcases hat2 with h | h
        · rcases HAT1.out with h' | ⟨b', hb', h'⟩
          · exact HVN.out b (h' ▸ hb) (h ▸ e)
          · have e1 : some b' = some b := h' ▸ hb
            have := Option.some.inj e1
            have := (HH.out.sets.row.lt b (h ▸ e)).2
            omega
        · have e2 : some we.heap.size = some b := h ▸ e
          have := Option.some.inj e2; omega)
      have HN2 := Lib.hid (show (Value.slice A2 (L.length + 1) d2).ownBlock ≠ some bm from fun e => by
        rcases hat2 with h | h
        · have := (HH.out.sets.row.lt bm (h ▸ e)).2; omega
        · have e2 : some we.heap.size = some bm := h ▸ e
          have := Option.some.inj e2; omega)
      replace HA := Lib.hid (HA.out.trans (Agr.grown hg2 fun b hb e => hb.2 e.symm))
      replace HE := Lib.hid (HE.out.grown hg2 (Nat.zero_le _) (fun b _ => Nat.zero_le _))
      replace HBK := Lib.hid (HBK.out.grown hg2 (fun e => HH.out.far.1.1 e.symm))
      replace HO1 := Lib.hid (HO1.out.agr (Agr.grown hg2 fun b hb e => hb.elim (fun h => h) (fun h => by
        rcases HAT1.out with h' | ⟨b', hb', h'⟩
        · exact HVN.out b (h' ▸ h.symm) e.symm
        · have e1 : some b' = some b := h' ▸ h.symm
          have := Option.some.inj e1
          have := (HH.out.sets.row.lt b e.symm).2
          omega)))
      replace HO2 := Lib.hid ho2
      replace HM := Lib.hid (HM.out.grown hg2 (fun e => by have := (HH.out.sets.row.lt bm e.symm).2; omega))
      have HAT2 := Lib.hid (show (Value.slice A2 (L.length + 1) d2).ownBlock = (Value.slice vA L.length vc).ownBlock ∨ ∃ b, w.heap.size ≤ b ∧ (Value.slice A2 (L.length + 1) d2).ownBlock = some b from hat2.imp_right fun e => ⟨_, by omega, e⟩)
      clear ho2 hg2 hat2 HB2
      refine hK.out _ _ (fun _ => ⟨HBK.out.cell 4, HBK.out.cell 5⟩) ?_
      clear hK K
      try dsimp only [Act.put]
      refine wpAnyN.ready (rs := [15]) (by kernel_rfl) (by simp) ?_
      refine AllN.cons rfl (fun K hK => ?_) AllN.nil
      go_simp
      refine hK.out _ _ (fun _ => ⟨HBK.out.cell 4, HBK.out.cell 5⟩) ?_
      clear hK K
      try dsimp only [Act.put]
      refine wpAnyN.ready (rs := [16]) (by kernel_rfl) (by simp) ?_
      refine AllN.cons rfl (fun K hK => ?_) AllN.nil
      go_simp
      refine hK.out _ _ (fun _ => ⟨HBK.out.cell 4, HBK.out.cell 5⟩) ?_
      clear hK K
      try dsimp only [Act.put]
      have fz := HBK.out.frozen
      have c4 := HBK.out.cell
      refine wpAnyN.ready (rs := [17]) (by kernel_rfl) (by simp) ?_
      refine AllN.cons rfl (fun K hK => ?_) AllN.nil
      go_simp
      refine hK.out _ _ (fun h => absurd h (by decide)) ?_
      clear hK K fz c4
      try dsimp only [Act.put]
      have fz := (HBK.out.set_ 4 (.slice A1 (L.length + 1) d1)).frozen
      have c4 := (HBK.out.set_ 4 (.slice A1 (L.length + 1) d1)).cell
      refine wpAnyN.ready (rs := [18]) (by kernel_rfl) (by simp) ?_
      refine AllN.cons rfl (fun K hK => ?_) AllN.nil
      go_simp
      refine hK.out _ _ (fun h => absurd h (by decide)) ?_
      clear hK K
      try dsimp only [Act.put]
      refine wpAnyN.ready (rs := [19]) (by kernel_rfl) (by simp) ?_
      refine AllN.cons rfl (fun K hK => ?_) AllN.nil
      go_simp
      refine hK.out _ _ (fun h => absurd h (by decide)) ?_
      clear hK K
      try dsimp only [Act.put]
      refine wpAnyN.ready (rs := [20]) (by kernel_rfl) (by simp) ?_
      refine AllN.cons rfl (fun K hK => ?_) AllN.nil
      go_simp
      refine hK.out _ _ (fun h => absurd h (by decide)) ?_
      clear hK K fz c4
      refine wpAnyN.done (by kernel_rfl) ?_ _
      refine NoPanic.normal ?_
      have HF := Lib.hid (HH.out.push hbf HA.out HE.out HO2.out HO1.out HM.out (by omega) HAT2.out HAT1.out HNE.out HN1.out HN2.out)
      go_wp2_with fail
      refine bodyPost_ret (v := .tuple #[]) (by simp [results, Tryz.results56, go_sem]) rfl ?_
      exact ⟨rfl, _, _, _, HF.out.1, HF.out.2⟩
  · skip
    have HB2 := Lib.hid (Blk.new w0 43 #[.slice none 0 0])
    go_simp
    have hal := (Below.refl w0.heap.size w0).al (.cells #[.slice none 0 0] 43)
    replace HA := Lib.hid (HA.out.trans (Agr.below hal))
    replace HE := Lib.hid (HE.out.trans (hal.mono (Nat.zero_le _)))
    replace HBK := Lib.hid (HBK.out.via hal)
    replace HO1 := Lib.hid (HO1.out.via hal)
    replace HO2 := Lib.hid (HO2.out.via hal)
    try replace HM := Lib.hid (HM.out.via hal)
    try replace HB1 := Lib.hid (HB1.out.via hal)
    refine hK.out _ _ (fun _ => ⟨HBK.out.cell 4, HBK.out.cell 5⟩) ?_
    clear hK K hal
    try dsimp only [Act.put]
    have hbwX : w0.heap.size < (w0.alloc (.cells #[.slice none 0 0] 43)).heap.size := by simp
    generalize w0.alloc (.cells #[.slice none 0 0] 43) = wa at *
    generalize w0.heap.size = b2 at *
    have hszX : w.heap.size ≤ wa.heap.size := by omega
    refine wpAnyN.ready (rs := [6]) (by kernel_rfl) (by simp) ?_
    refine AllN.cons rfl (fun K hK => ?_) AllN.nil
    have HM := Lib.hid (MapK.made wa Tryz.prog 47 itVal)
    go_simp
    have hal := (Below.refl wa.heap.size wa).al (.map #[] 0)
    replace HA := Lib.hid (HA.out.trans (Agr.below hal))
    replace HE := Lib.hid (HE.out.trans (hal.mono (Nat.zero_le _)))
    replace HBK := Lib.hid (HBK.out.via hal)
    replace HO1 := Lib.hid (HO1.out.via hal)
    replace HO2 := Lib.hid (HO2.out.via hal)
    try replace HB2 := Lib.hid (HB2.out.via hal)
    refine hK.out _ _ (fun _ => ⟨HBK.out.cell 4, HBK.out.cell 5⟩) ?_
    clear hK K hal
    try dsimp only [Act.put]
    refine show wpAnyN _ _ _ _ _ _ _ _ _ (wa.alloc (.map #[] 0)) from ?_
    have hbwX : wa.heap.size < (wa.alloc (.map #[] 0)).heap.size := by simp
    generalize wa.alloc (.map #[] 0) = wb at *
    generalize wa.heap.size = bm at *
    have hszX : w.heap.size ≤ wb.heap.size := by omega
    refine wpAnyN.ready (rs := [7]) (by kernel_rfl) (by simp) ?_
    refine AllN.cons rfl (fun K hK => ?_) AllN.nil
    have HB1 := Lib.hid (Blk.new wb 149 #[.map (some bm)])
    go_simp
    have hal := (Below.refl wb.heap.size wb).al (.cells #[.map (some bm)] 149)
    replace HA := Lib.hid (HA.out.trans (Agr.below hal))
    replace HE := Lib.hid (HE.out.trans (hal.mono (Nat.zero_le _)))
    replace HBK := Lib.hid (HBK.out.via hal)
    replace HO1 := Lib.hid (HO1.out.via hal)
    replace HO2 := Lib.hid (HO2.out.via hal)
    replace HM := Lib.hid (HM.out.via hal)
    try replace HB2 := Lib.hid (HB2.out.via hal)
    refine hK.out _ _ (fun _ => ⟨HBK.out.cell 4, HBK.out.cell 5⟩) ?_
    clear hK K hal
    try dsimp only [Act.put]
    have hbwX : wb.heap.size < (wb.alloc (.cells #[.map (some bm)] 149)).heap.size := by simp
    generalize wb.alloc (.cells #[.map (some bm)] 149) = wd at *
    generalize wb.heap.size = b1 at *
    have hszX : w.heap.size ≤ wd.heap.size := by omega
    refine wpAnyN.ready (rs := [8]) (by kernel_rfl) (by simp) ?_
    refine AllN.cons rfl (fun K hK => ?_) AllN.nil
    refine step_append_map _ rfl (.tmp 7) (.tmp 9) rfl base (.slice mA L.length mc) L.length ms rfl HO1.out b1 bm rfl HB1.out (by omega) (by omega) ?_
    intro A1 d1 we ho1 hg1 hat1
    replace HA := Lib.hid (HA.out.trans (Agr.grown hg1 fun b hb e => hb.1 e.symm))
    replace HE := Lib.hid (HE.out.grown hg1 (Nat.zero_le _) (fun b _ => Nat.zero_le _))
    replace HBK := Lib.hid (HBK.out.grown hg1 (fun e => HH.out.far.2.1 e.symm))
    replace HO1 := Lib.hid ho1
    replace HO2 := Lib.hid (HO2.out.agr (Agr.grown hg1 fun b hb e => hb.elim (fun h => h) (fun h => HVN.out b e.symm h.symm)))
    replace HM := Lib.hid (HM.out.grown hg1 (fun e => by have := (HH.out.maps.lt bm e.symm).2; omega))
    try replace HB2 := Lib.hid (HB2.out.grown hg1 (fun e => by have := (HH.out.maps.lt b2 e.symm).2; omega))
    have HAT1 := Lib.hid (show (Value.slice A1 (L.length + 1) d1).ownBlock = (Value.slice mA L.length mc).ownBlock ∨ ∃ b, w.heap.size ≤ b ∧ (Value.slice A1 (L.length + 1) d1).ownBlock = some b from hat1.imp_right fun e => ⟨_, by omega, e⟩)
    have HN1 := Lib.hid (show (Value.slice A1 (L.length + 1) d1).ownBlock ≠ some bm from fun e => by
      rcases hat1 with h | h
      · have := (HH.out.maps.lt bm (h ▸ e)).2; omega
      · have e2 : some wd.heap.size = some bm := h ▸ e
        have := Option.some.inj e2; omega)
    have hszX : w.heap.size ≤ we.heap.size := Nat.le_trans (by omega) hg1.size
    have hbmX : bm < we.heap.size := Nat.lt_of_lt_of_le (by omega) hg1.size
    try have hb2X : b2 < we.heap.size := Nat.lt_of_lt_of_le (by omega) hg1.size
    clear ho1 hg1 hat1 HB1
    refine hK.out _ _ (fun _ => ⟨HBK.out.cell 4, HBK.out.cell 5⟩) ?_
    clear hK K
    try dsimp only [Act.put]
    refine wpAnyN.ready (rs := [14]) (by kernel_rfl) (by simp) ?_
    refine AllN.cons rfl (fun K hK => ?_) AllN.nil
    refine step_append_erow _ rfl (.tmp 14) (.tmp 15) rfl base (.slice vA L.length vc) L.length hs rfl HO2.out b2 (none, 0, 0) rfl HB2.out (by omega) (by omega) ?_
    intro A2 d2 wf ho2 hg2 hat2
    have HNE := Lib.hid (show ∀ b, (Value.slice A1 (L.length + 1) d1).ownBlock = some b → (Value.slice A2 (L.length + 1) d2).ownBlock ≠ some b from fun b hb e => by
      have h1 := (HO1.out.lt b hb).2
      rcases hat2 with h | h
      · rcases HAT1.out with h' | ⟨b', hb', h'⟩
        · exact HVN.out b (h' ▸ hb) (h ▸ e)
        · have e1 : some b' = some b := h' ▸ hb
          have := Option.some.inj e1
          have := (HH.out.sets.row.lt b (h ▸ e)).2
          omega
      · have e2 : some we.heap.size = some b := h ▸ e
        have := Option.some.inj e2; omega)
    have HN2 := Lib.hid (show (Value.slice A2 (L.length + 1) d2).ownBlock ≠ some bm from fun e => by
      rcases hat2 with h | h
      · have := (HH.out.sets.row.lt bm (h ▸ e)).2; omega
      · have e2 : some we.heap.size = some bm := h ▸ e
        have := Option.some.inj e2; omega)
    replace HA := Lib.hid (HA.out.trans (Agr.grown hg2 fun b hb e => hb.2 e.symm))
    replace HE := Lib.hid (HE.out.grown hg2 (Nat.zero_le _) (fun b _ => Nat.zero_le _))
    replace HBK := Lib.hid (HBK.out.grown hg2 (fun e => HH.out.far.1.1 e.symm))
    replace HO1 := Lib.hid (HO1.out.agr (Agr.grown hg2 fun b hb e => hb.elim (fun h => h) (fun h => by
      rcases HAT1.out with h' | ⟨b', hb', h'⟩
      · exact HVN.out b (h' ▸ h.symm) e.symm
      · have e1 : some b' = some b := h' ▸ h.symm
        have := Option.some.inj e1
        have := (HH.out.sets.row.lt b e.symm).2
        omega)))
    replace HO2 := Lib.hid ho2
    replace HM := Lib.hid (HM.out.grown hg2 (fun e => by have := (HH.out.sets.row.lt bm e.symm).2; omega))
    have HAT2 := Lib.hid (show (Value.slice A2 (L.length + 1) d2).ownBlock = (Value.slice vA L.length vc).ownBlock ∨ ∃ b, w.heap.size ≤ b ∧ (Value.slice A2 (L.length + 1) d2).ownBlock = some b from hat2.imp_right fun e => ⟨_, by omega, e⟩)
    clear ho2 hg2 hat2 HB2
    refine hK.out _ _ (fun _ => ⟨HBK.out.cell 4, HBK.out.cell 5⟩) ?_
    clear hK K
    try dsimp only [Act.put]
    refine wpAnyN.ready (rs := [15]) (by kernel_rfl) (by simp) ?_
    refine AllN.cons rfl (fun K hK => ?_) AllN.nil
    go_simp
    refine hK.out _ _ (fun _ => ⟨HBK.out.cell 4, HBK.out.cell 5⟩) ?_
    clear hK K
    try dsimp only [Act.put]
    refine wpAnyN.ready (rs := [16]) (by kernel_rfl) (by simp) ?_
    refine AllN.cons rfl (fun K hK => ?_) AllN.nil
    go_simp
    refine hK.out _ _ (fun _ => ⟨HBK.out.cell 4, HBK.out.cell 5⟩) ?_
    clear hK K
    try dsimp only [Act.put]
    have fz := HBK.out.frozen
    have c4 := HBK.out.cell
    refine wpAnyN.ready (rs := [17]) (by kernel_rfl) (by simp) ?_
    refine AllN.cons rfl (fun K hK => ?_) AllN.nil
    go_simp
    refine hK.out _ _ (fun h => absurd h (by decide)) ?_
    clear hK K fz c4
    try dsimp only [Act.put]
    have fz := (HBK.out.set_ 4 (.slice A1 (L.length + 1) d1)).frozen
    have c4 := (HBK.out.set_ 4 (.slice A1 (L.length + 1) d1)).cell
    refine wpAnyN.ready (rs := [18]) (by kernel_rfl) (by simp) ?_
    refine AllN.cons rfl (fun K hK => ?_) AllN.nil
    go_simp
    refine hK.out _ _ (fun h => absurd h (by decide)) ?_
    clear hK K
    try dsimp only [Act.put]
    refine wpAnyN.ready (rs := [19]) (by kernel_rfl) (by simp) ?_
    refine AllN.cons rfl (fun K hK => ?_) AllN.nil
    go_simp
    refine hK.out _ _ (fun h => absurd h (by decide)) ?_
    clear hK K
    try dsimp only [Act.put]
    refine wpAnyN.ready (rs := [20]) (by kernel_rfl) (by simp) ?_
    refine AllN.cons rfl (fun K hK => ?_) AllN.nil
    go_simp
    refine hK.out _ _ (fun h => absurd h (by decide)) ?_
    clear hK K fz c4
    refine wpAnyN.done (by kernel_rfl) ?_ _
    refine NoPanic.normal ?_
    have HF := Lib.hid (HH.out.push hbf HA.out HE.out HO2.out HO1.out HM.out (by omega) HAT2.out HAT1.out HNE.out HN1.out HN2.out)
    go_wp2_with fail
    refine bodyPost_ret (v := .tuple #[]) (by simp [results, Tryz.results56, go_sem]) rfl ?_
    exact ⟨rfl, _, _, _, HF.out.1, HF.out.2⟩
end Go.Proofs.YtbfcnfgkccgbiaaGreatDoor

