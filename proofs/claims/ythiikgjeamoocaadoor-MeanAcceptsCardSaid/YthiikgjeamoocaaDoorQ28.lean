/- Texts TZ, laid together. -/
import Derived.Test.YthiikgjeamoocaaDoorQ26
import Derived.Test.YthiikgjeamoocaaDoorQ27



namespace Go.Proofs.YthiikgjeamoocaaDoor
open Go.RowKit

theorem sl_inf1 : (Tryd.prog.info? 108).map (fun i => (i.zero, i.size, i.bytes)) = some (some (.slice none 0 0), 1, 24) := by kernel_rfl
theorem mk_lists (n : Nat) (hn : n ≤ 1000000) : ∀ w : World, (Instr.makeSlice 100 (.int .i64 (n : Int)) (.int .i64 (n : Int))).run Tryd.prog w = .ok (.slice (some ⟨w.heap.size, 0, none⟩) n n) (w.alloc (.cells (Array.replicate n (Value.slice none 0 0)) 108)) := by
  intro w
  obtain ⟨i, hi, hz, hs, hb⟩ := info_parts sl_inf1
  have h := run_make (P := Tryd.prog) w 100 108 i _ Tryd.underlying100 hi hz .i64 .i64 (n : Int) (n : Int) (by omega) (by omega) (by rw [hb]; omega) (by omega)
  rw [show ((n : Int)).toNat = n from by omega, hs, Nat.mul_one] at h
  rw [← made_one]
  exact h
theorem lstAt_nil (n v : Nat) : lstAt (List.replicate n []) v = [] := by
  unfold lstAt
  rw [List.getD_eq_getElem?_getD, List.getElem?_replicate]
  split <;> rfl
open Classical in
theorem LsM.start {w0 w : World} {bl lb bs bw : Nat} {A : Option Addr} {n c : Nat} {root most : Int} (hb : Below w0.heap.size w0 w) (hl : Blk w bl 106 #[.slice A n c, .int .i64 root, .int .i64 most, .slice (some ⟨lb, 0, none⟩) n n, .map (some bs), .map (some bw), .slice none 0 0])
    (hs : Blk w lb 108 (Array.replicate n (Value.slice none 0 0))) (hm : SeenM w bs []) (hn : MapK Tryd.prog 148 wkVal w bw fun _ => none) (ne : bl ≠ lb ∧ bl ≠ bs ∧ bl ≠ bw ∧ lb ≠ bs ∧ lb ≠ bw ∧ bs ≠ bw) (ge : w0.heap.size ≤ bl ∧ w0.heap.size ≤ lb ∧ w0.heap.size ≤ bs ∧ w0.heap.size ≤ bw) :
    LsM w0 bl lb bs bw A n c root most (fun b => if b = bl ∨ b = lb ∨ b = bs ∨ b = bw then .fix else .free) ⟨List.replicate n [], [], [], []⟩ (.slice none 0 0) (fun _ => .slice none 0 0) (fun _ => none) w := by
  refine ⟨hb, ⟨Own.nil _ _, hl, (fun e => by cases e), fun x hx => by cases hx⟩, (fun b hb => by cases hb), ⟨_, hs, by simp, fun v hv => by simp [hv]⟩, (fun v _ => by show Own _ _ _ _ _ _ (lstAt (List.replicate n []) v).length (lstAt (List.replicate n []) v); rw [lstAt_nil]; exact Own.nil _ _), (fun v _ b hb => by cases hb), hm, hn, (fun k => ⟨fun _ => rfl, fun _ => rfl⟩), (fun k V hV => by cases hV), (fun k V b hV => by cases hV), ⟨if_pos (Or.inl rfl), if_pos (Or.inr (Or.inl rfl)), if_pos (Or.inr (Or.inr (Or.inl rfl))), if_pos (Or.inr (Or.inr (Or.inr rfl)))⟩, ne, fun b hb => ?_⟩
  by_cases e : b = bl ∨ b = lb ∨ b = bs ∨ b = bw
  · rcases e with rfl | rfl | rfl | rfl
    · exact ⟨ge.1, hl.lt⟩
    · exact ⟨ge.2.1, hs.lt⟩
    · exact ⟨ge.2.2.1, hm.lt⟩
    · exact ⟨ge.2.2.2, hn.lt⟩
  · exact absurd (if_neg e) hb
open Classical in
/-- a leaf is laid as the only tree of a node -/
theorem LsM.leafed {w0 w : World} {bl lb bs bw : Nat} {A : Option Addr} {n c : Nat} {root most : Int} {tg : Nat → Tg} {st : LsS} {qv : Value} {vs : Nat → Value} {F : WtK → Option Value} {i : Nat} (h : LsM w0 bl lb bs bw A n c root most tg st qv vs F w) (hi : i < n) (hln : st.lists.length = n) (x : Int) :
    ∃ tg' vs', LsM w0 bl lb bs bw A n c root most tg' { st with lists := st.lists.set i [.mk (-1) x 1 []] } qv vs' F (((w.alloc (.cells #[.int .i64 (-1), .int .i64 x, .int .i64 1, .slice none 0 0] 110)).alloc (.cells #[.pointer (some ⟨w.heap.size, 0, none⟩)] 107)).setCell ⟨lb, i, none⟩ (.slice (some ⟨w.heap.size + 1, 0, none⟩) 1 1)) ∧ (∀ b, b < w.heap.size → tg' b = tg b) ∧
      Frq (fun b => b = lb) w (((w.alloc (.cells #[.int .i64 (-1), .int .i64 x, .int .i64 1, .slice none 0 0] 110)).alloc (.cells #[.pointer (some ⟨w.heap.size, 0, none⟩)] 107)).setCell ⟨lb, i, none⟩ (.slice (some ⟨w.heap.size + 1, 0, none⟩) 1 1)) := by
  have hal1 := (Below.refl w.heap.size w).al (.cells #[.int .i64 (-1), .int .i64 x, .int .i64 1, .slice none 0 0] 110)
  have B1 := Blk.new w 110 #[.int .i64 (-1), .int .i64 x, .int .i64 1, .slice none 0 0]
  have hz1 : (w.alloc (.cells #[.int .i64 (-1), .int .i64 x, .int .i64 1, .slice none 0 0] 110)).heap.size = w.heap.size + 1 := by simp
  have h1 := h.via hal1
  have hF0 : Frq (fun b => b = lb) w (w.alloc (.cells #[.int .i64 (-1), .int .i64 x, .int .i64 1, .slice none 0 0] 110)) := Frq.bel hal1
  generalize w.alloc (.cells #[.int .i64 (-1), .int .i64 x, .int .i64 1, .slice none 0 0] 110) = W1 at *
  have hfr : tg w.heap.size = .free := Classical.byContradiction fun hn => absurd (h.rng _ hn).2 (by omega)
  have hlb : lb < w.heap.size := (h.rng lb (by rw [h.fix.2.1]; exact fun e => by cases e)).2
  obtain ⟨tg1, htg1⟩ : ∃ tg1 : Nat → Tg, tg1 = fun b => if b = w.heap.size then Tg.tree else tg b := ⟨_, rfl⟩
  have hneg : ∀ b, b ≠ w.heap.size → tg1 b = tg b := fun b hb => by rw [htg1]; exact if_neg hb
  have hpos : tg1 w.heap.size = .tree := by rw [htg1]; exact if_pos rfl
  have h2 := h1.retag (tg' := tg1) (fun b hb => hneg b fun e => hb (by rw [e]; exact hfr)) (fun b hb => by
    by_cases e : b = w.heap.size
    · have := h.size; omega
    · rw [hneg b e] at hb
      have := h.rng b hb; omega)
  have hal2 := (Below.refl W1.heap.size W1).al (.cells #[.pointer (some ⟨w.heap.size, 0, none⟩)] 107)
  have B2 := Blk.new W1 107 #[.pointer (some ⟨w.heap.size, 0, none⟩)]
  have B1' := B1.via hal2
  obtain ⟨cs, hlbk, hcs, hcv⟩ := h2.lbk
  have hlb2 := hlbk.via hal2
  have hF1 : Frq (fun b => b = lb) W1 (W1.alloc (.cells #[.pointer (some ⟨w.heap.size, 0, none⟩)] 107)) := Frq.bel hal2
  rw [hz1] at B2
  generalize W1.alloc (.cells #[.pointer (some ⟨w.heap.size, 0, none⟩)] 107) = W2 at *
  have hF2 : Frq (fun b => b = lb) W1 (W2.setCell ⟨lb, i, none⟩ (.slice (some ⟨w.heap.size + 1, 0, none⟩) 1 1)) := hF1.trans2 (Frq.row (S := fun b => b = lb) (grownSetT W2 lb i _) fun b e _ => (Option.some.inj e).symm) fun b _ h => h
  have B1s := B1'.far (p := ⟨lb, i, none⟩) (by show w.heap.size ≠ lb; omega) (.slice (some ⟨w.heap.size + 1, 0, none⟩) 1 1)
  have B2s := B2.far (p := ⟨lb, i, none⟩) (by show w.heap.size + 1 ≠ lb; omega) (.slice (some ⟨w.heap.size + 1, 0, none⟩) 1 1)
  obtain ⟨tg2, k1, k2, -⟩ := h2.listed (v := i) (V' := .slice (some ⟨w.heap.size + 1, 0, none⟩) 1 1) (L' := [.mk (-1) x 1 []]) hi hln (hF2.mono fun b _ hb => Or.inl hb) ⟨_, hlb2.set_ i _, by simpa using hcs, fun u hu => by
    by_cases e : u = i
    · rw [if_pos e, e, Array.getElem?_setIfInBounds_self_of_lt (by omega)]
    · rw [if_neg e, Array.getElem?_setIfInBounds_ne (Ne.symm e)]; exact hcv u hu⟩ (Own.onePt B2s (by have := h.size; omega) (PtR.make ⟨hpos, by simp⟩ B1s (Sl.nil 0))) (Or.inr fun b hb => by have h9 : w.heap.size + 1 = b := Option.some.inj hb; omega)
  exact ⟨tg2, _, k1, fun b hb => (k2 b (by omega)).trans (hneg b (by omega)), hF0.trans hF2⟩
def TrsP (w : World) (q : List Tr × Bool) (e : Ending) (w' : World) : Prop := ∃ A n c, e = .returned (.tuple #[.slice A n c, .bool q.2]) ∧ Sl TrE (fun b => w.heap.size ≤ b) w' A n c q.1 ∧ Below w.heap.size w w'
set_option maxRecDepth 100000 in
set_option maxHeartbeats 8000000 in
theorem trees_c (ok : Nat → Prop) (A : Option Addr) (n c : Nat) (r : Int) (nd : List NdI) (most : Nat) (w : World) (hnd : Sl NdE ok w A n c nd) (hf : FoK nd) (hT : TmK nd) (hB : FoB nd) (hr : r < (n : Int)) (hn : n ≤ 1000000) (hm : most ≤ 1000000) (hbig : restK nd 0 + 4 * (nd.length * most) ≤ 100000000000) :
    Calls Tryd.prog 34 #[.agg #[.slice A n c, .int .i64 r], .int .i64 (most : Int)] w (TrsP w (trsV r nd most)) := by
  obtain ⟨Q, hQ⟩ : ∃ Q, Q = TrsP w (trsV r nd most) := ⟨_, rfl⟩
  rw [← hQ]
  have HQQ := Lib.hid hQ
  have HX := Lib.hid (show LsX w A n c most (restK nd 0) nd from ⟨hnd.mono fun b hb _ => hb, hf, fun x hx => (hB.2 x hx).1, hn, hm, hbig⟩)
  have HT := Lib.hid hT
  have HFB := Lib.hid hB
  have B0 := Blk.new w 80 #[.slice A n c, .int .i64 r]
  have HB := Lib.hid ((Below.refl w.heap.size w).al (.cells #[.slice A n c, .int .i64 r] 80))
  have HZ0 := Lib.hid (show (w.alloc (.cells #[.slice A n c, .int .i64 r] 80)).heap.size = w.heap.size + 1 by simp)
  clear hQ hnd hf hT hB hbig
  go_enter Tryd.func34, Tryd.ntmps34
  by_cases h0 : r < 0
  · have cB0 := B0.cell
    have fB0 := B0.frozen
    have lB0 := B0.lt
    go_wp2_with fail
    have e : trsV r nd most = ([], true) := by unfold trsV; rw [if_pos (Or.inl h0)]
    rw [HQQ.out, e]
    exact ⟨none, 0, 0, rfl, Sl.nil 0, HB.out⟩
  · by_cases hz : most = 0
    · subst hz
      have cB0 := B0.cell
      have fB0 := B0.frozen
      have lB0 := B0.lt
      go_wp2_with fail
      have e : trsV r nd 0 = ([], true) := by unfold trsV; rw [if_pos (Or.inr rfl)]
      rw [HQQ.out, e]
      exact ⟨none, 0, 0, rfl, Sl.nil 0, HB.out⟩
    · obtain ⟨v, rfl⟩ : ∃ v : Nat, r = (v : Int) := ⟨r.toNat, by omega⟩
      have hv : v < n := by omega
      have hme : ((most : Int) == 0) = false := by simp; omega
      have cB0 := B0.cell
      have fB0 := B0.frozen
      have lB0 := B0.lt
      go_upto_region 3 with fail
      clear cB0 fB0 lB0
      clear hme
      generalize w.alloc (.cells #[.slice A n c, .int .i64 (v : Int)] 80) = w1 at *
      go_cut [6] (fun s6 wx => ∃ (bl lb bs bw : Nat) (tg0 : Nat → Tg), s6 = .pointer (ptA bl) ∧ Hid (LsM w bl lb bs bw A n c (v : Int) (most : Int) tg0 ⟨List.replicate n [], [], [], []⟩ (.slice none 0 0) (fun _ => .slice none 0 0) (fun _ => none) wx) ∧ Hid (Blk wx w.heap.size 80 #[.slice A n c, .int .i64 (v : Int)] ∧ tg0 w.heap.size = .free))
      case first =>
        have hmk := mk_lists n hn
        have hdr := (Below.refl w1.heap.size w1).drew
        replace HB := Lib.hid (HB.out.via hdr)
        have HBX := Lib.hid (B0.via hdr)
        have HZ1 := Lib.hid (show w1.drew.heap.size = w.heap.size + 1 from HZ0.out)
        clear hdr B0 HZ0
        have hHeld := HBX.out.cell
        refine wp_region_noPanic ?_
        refine wp_region_N 10 (fun w' => ∀ x, w'.cell? ⟨w.heap.size, x, none⟩ = #[.slice A n c, .int .i64 (v : Int)][x]?) (by kernel_rfl) ?_
        generalize w1.drew = w2 at *
        refine wpAnyN.take (i := 0) (d := some 26) (v := ?_) rfl (by decide) (by kernel_rfl) (by kernel_rfl) (by kernel_rfl) (by kernel_rfl) (by kernel_rfl) rfl (fun _ _ _ h => h) (Or.inl ⟨by rfl, ?_⟩) (by assumption) ?_
        rotate_left
        · intro w hSw; (try dsimp only at hSw); go_simp; try with_reducible rfl
        simp only [Act.put, List.setIfInBounds_toArray, List.set_cons_zero, List.set_cons_succ]
        refine wpAnyN.take (i := 1) (d := some 27) (v := ?_) rfl (by decide) (by kernel_rfl) (by kernel_rfl) (by kernel_rfl) (by kernel_rfl) (by kernel_rfl) rfl (fun _ _ _ h => h) (Or.inl ⟨by rfl, ?_⟩) (by assumption) ?_
        rotate_left
        · intro w hSw; (try dsimp only at hSw); go_simp; try with_reducible rfl
        simp only [Act.put, List.setIfInBounds_toArray, List.set_cons_zero, List.set_cons_succ]
        refine wpAnyN.take (i := 2) (d := some 28) (v := ?_) rfl (by decide) (by kernel_rfl) (by kernel_rfl) (by kernel_rfl) (by kernel_rfl) (by kernel_rfl) rfl (fun _ _ _ h => h) (Or.inl ⟨by rfl, ?_⟩) (by assumption) ?_
        rotate_left
        · intro w hSw; (try dsimp only at hSw); go_simp; try with_reducible rfl
        simp only [Act.put, List.setIfInBounds_toArray, List.set_cons_zero, List.set_cons_succ]
        refine wpAnyN.take (i := 3) (d := some 29) (v := ?_) rfl (by decide) (by kernel_rfl) (by kernel_rfl) (by kernel_rfl) (by kernel_rfl) (by kernel_rfl) rfl (fun _ _ _ h => h) (Or.inl ⟨by rfl, ?_⟩) (by assumption) ?_
        rotate_left
        · intro w hSw; (try dsimp only at hSw); go_simp; try with_reducible rfl
        simp only [Act.put, List.setIfInBounds_toArray, List.set_cons_zero, List.set_cons_succ]
        refine wpAnyN.take (i := 4) (d := some 30) (v := ?_) rfl (by decide) (by kernel_rfl) (by kernel_rfl) (by kernel_rfl) (by kernel_rfl) (by kernel_rfl) rfl (fun _ _ _ h => h) (Or.inl ⟨by rfl, ?_⟩) (by assumption) ?_
        rotate_left
        · intro w hSw; (try dsimp only at hSw); go_simp; try with_reducible rfl
        simp only [Act.put, List.setIfInBounds_toArray, List.set_cons_zero, List.set_cons_succ]
        clear hHeld
        refine wpAnyN.ready (rs := [5, 6, 7]) (by kernel_rfl) (by simp) ?_
        refine AllN.cons rfl (fun K hK => ?_) (AllN.cons rfl (fun K hK => ?_) (AllN.cons rfl (fun K hK => ?_) AllN.nil))
        · skip
          go_simp
          refine hK.out _ _ (fun _ => (HBX.out.al _).cell) ?_
          clear hK K
          try simp only [Act.put, List.setIfInBounds_toArray, List.set_cons_zero, List.set_cons_succ]
          have HS := Lib.hid (Blk.new w2 108 (Array.replicate n (Value.slice none 0 0)))
          replace HBX := Lib.hid (HBX.out.al (.cells (Array.replicate n (Value.slice none 0 0)) 108))
          replace HB := Lib.hid (HB.out.al (.cells (Array.replicate n (Value.slice none 0 0)) 108))
          try replace HM := Lib.hid (HM.out.agr_ (Below.heap_alloc w2 (.cells (Array.replicate n (Value.slice none 0 0)) 108) _ HM.out.lt))
          try replace HN := Lib.hid (HN.out.al (.cells (Array.replicate n (Value.slice none 0 0)) 108))
          generalize hW : w2.alloc (.cells (Array.replicate n (Value.slice none 0 0)) 108) = w3 at *
          have HZ3 := Lib.hid (show w3.heap.size = w2.heap.size + 1 by rw [← hW]; simp)
          clear hW
          refine wpAnyN.ready (rs := [6, 7]) (by kernel_rfl) (by simp) ?_
          refine AllN.cons rfl (fun K hK => ?_) (AllN.cons rfl (fun K hK => ?_) AllN.nil)
          · skip
            go_simp
            refine hK.out _ (w3.alloc (.map #[] 0)) (fun _ => (HBX.out.al _).cell) ?_
            clear hK K
            try simp only [Act.put, List.setIfInBounds_toArray, List.set_cons_zero, List.set_cons_succ]
            have HM := Lib.hid (SeenM.made w3)
            replace HBX := Lib.hid (HBX.out.al (.map #[] 0))
            replace HB := Lib.hid (HB.out.al (.map #[] 0))
            try replace HS := Lib.hid (HS.out.al (.map #[] 0))
            try replace HN := Lib.hid (HN.out.al (.map #[] 0))
            generalize hW : w3.alloc (.map #[] 0) = w4 at *
            have HZ4 := Lib.hid (show w4.heap.size = w3.heap.size + 1 by rw [← hW]; simp)
            clear hW
            refine wpAnyN.ready (rs := [7]) (by kernel_rfl) (by simp) ?_
            refine AllN.cons rfl (fun K hK => ?_) AllN.nil
            go_simp
            refine hK.out _ (w4.alloc (.map #[] 0)) (fun _ => (HBX.out.al _).cell) ?_
            clear hK K
            try simp only [Act.put, List.setIfInBounds_toArray, List.set_cons_zero, List.set_cons_succ]
            have HN := Lib.hid (MapK.made w4 Tryd.prog 148 wkVal)
            replace HBX := Lib.hid (HBX.out.al (.map #[] 0))
            replace HB := Lib.hid (HB.out.al (.map #[] 0))
            try replace HS := Lib.hid (HS.out.al (.map #[] 0))
            try replace HM := Lib.hid (HM.out.agr_ (Below.heap_alloc w4 (.map #[] 0) _ HM.out.lt))
            generalize hW : w4.alloc (.map #[] 0) = w5 at *
            have HZ5 := Lib.hid (show w5.heap.size = w4.heap.size + 1 by rw [← hW]; simp)
            clear hW
            refine wpAnyN.ready (rs := [8]) (by kernel_rfl) (by simp) ?_
            refine AllN.cons rfl (fun K hK => ?_) AllN.nil
            go_simp
            refine hK.out _ _ (fun _ => HBX.out.cell) ?_
            clear hK K
            try simp only [Act.put, List.setIfInBounds_toArray, List.set_cons_zero, List.set_cons_succ]
            refine wpAnyN.ready (rs := [9]) (by kernel_rfl) (by simp) ?_
            refine AllN.cons rfl (fun K hK => ?_) AllN.nil
            go_simp
            refine hK.out _ _ (fun _ => (HBX.out.al _).cell) ?_
            clear hK K
            try simp only [Act.put, List.setIfInBounds_toArray, List.set_cons_zero, List.set_cons_succ]
            have HL := Lib.hid (Blk.new w5 106 #[.slice A n c, .int .i64 (v : Int), .int .i64 (most : Int), .slice (some ⟨w2.heap.size, 0, none⟩) n n, .map (some w3.heap.size), .map (some w4.heap.size), .slice none 0 0])
            have hal := (Below.refl w5.heap.size w5).al (.cells #[.slice A n c, .int .i64 (v : Int), .int .i64 (most : Int), .slice (some ⟨w2.heap.size, 0, none⟩) n n, .map (some w3.heap.size), .map (some w4.heap.size), .slice none 0 0] 106)
            replace HBX := Lib.hid (HBX.out.via hal)
            replace HB := Lib.hid (HB.out.via hal)
            replace HS := Lib.hid (HS.out.via hal)
            replace HM := Lib.hid (HM.out.agr_ (hal.block _ HM.out.lt))
            replace HN := Lib.hid (HN.out.via hal)
            clear hal
            generalize w5.alloc (.cells #[.slice A n c, .int .i64 (v : Int), .int .i64 (most : Int), .slice (some ⟨w2.heap.size, 0, none⟩) n n, .map (some w3.heap.size), .map (some w4.heap.size), .slice none 0 0] 106) = w6 at *
            refine wpAnyN.ready (rs := [10]) (by kernel_rfl) (by simp) ?_
            refine AllN.cons rfl (fun K hK => ?_) AllN.nil
            go_simp
            refine hK.out _ _ (fun h => absurd h (by decide)) ?_
            clear hK K
            refine wpAnyN.done (by kernel_rfl) ?_ _
            refine NoPanic.normal ?_
            have HZA := Lib.hid (And.intro HZ1.out (And.intro HZ3.out (And.intro HZ4.out HZ5.out)))
            clear HZ1 HZ3 HZ4 HZ5
            go_wp2_with fail
            go_meet
            have hz := HZA.out
            refine ⟨w5.heap.size, w2.heap.size, w3.heap.size, w4.heap.size, _, rfl, Lib.hid (LsM.start HB.out HL.out HS.out HM.out HN.out (by omega) (by omega)), Lib.hid ⟨HBX.out, if_neg (by omega)⟩⟩
          · skip
            go_simp
            refine hK.out _ (w3.alloc (.map #[] 0)) (fun _ => (HBX.out.al _).cell) ?_
            clear hK K
            try simp only [Act.put, List.setIfInBounds_toArray, List.set_cons_zero, List.set_cons_succ]
            have HN := Lib.hid (MapK.made w3 Tryd.prog 148 wkVal)
            replace HBX := Lib.hid (HBX.out.al (.map #[] 0))
            replace HB := Lib.hid (HB.out.al (.map #[] 0))
            try replace HS := Lib.hid (HS.out.al (.map #[] 0))
            try replace HM := Lib.hid (HM.out.agr_ (Below.heap_alloc w3 (.map #[] 0) _ HM.out.lt))
            generalize hW : w3.alloc (.map #[] 0) = w4 at *
            have HZ4 := Lib.hid (show w4.heap.size = w3.heap.size + 1 by rw [← hW]; simp)
            clear hW
            refine wpAnyN.ready (rs := [6]) (by kernel_rfl) (by simp) ?_
            refine AllN.cons rfl (fun K hK => ?_) AllN.nil
            go_simp
            refine hK.out _ (w4.alloc (.map #[] 0)) (fun _ => (HBX.out.al _).cell) ?_
            clear hK K
            try simp only [Act.put, List.setIfInBounds_toArray, List.set_cons_zero, List.set_cons_succ]
            have HM := Lib.hid (SeenM.made w4)
            replace HBX := Lib.hid (HBX.out.al (.map #[] 0))
            replace HB := Lib.hid (HB.out.al (.map #[] 0))
            try replace HS := Lib.hid (HS.out.al (.map #[] 0))
            try replace HN := Lib.hid (HN.out.al (.map #[] 0))
            generalize hW : w4.alloc (.map #[] 0) = w5 at *
            have HZ5 := Lib.hid (show w5.heap.size = w4.heap.size + 1 by rw [← hW]; simp)
            clear hW
            refine wpAnyN.ready (rs := [8]) (by kernel_rfl) (by simp) ?_
            refine AllN.cons rfl (fun K hK => ?_) AllN.nil
            go_simp
            refine hK.out _ _ (fun _ => HBX.out.cell) ?_
            clear hK K
            try simp only [Act.put, List.setIfInBounds_toArray, List.set_cons_zero, List.set_cons_succ]
            refine wpAnyN.ready (rs := [9]) (by kernel_rfl) (by simp) ?_
            refine AllN.cons rfl (fun K hK => ?_) AllN.nil
            go_simp
            refine hK.out _ _ (fun _ => (HBX.out.al _).cell) ?_
            clear hK K
            try simp only [Act.put, List.setIfInBounds_toArray, List.set_cons_zero, List.set_cons_succ]
            have HL := Lib.hid (Blk.new w5 106 #[.slice A n c, .int .i64 (v : Int), .int .i64 (most : Int), .slice (some ⟨w2.heap.size, 0, none⟩) n n, .map (some w4.heap.size), .map (some w3.heap.size), .slice none 0 0])
            have hal := (Below.refl w5.heap.size w5).al (.cells #[.slice A n c, .int .i64 (v : Int), .int .i64 (most : Int), .slice (some ⟨w2.heap.size, 0, none⟩) n n, .map (some w4.heap.size), .map (some w3.heap.size), .slice none 0 0] 106)
            replace HBX := Lib.hid (HBX.out.via hal)
            replace HB := Lib.hid (HB.out.via hal)
            replace HS := Lib.hid (HS.out.via hal)
            replace HM := Lib.hid (HM.out.agr_ (hal.block _ HM.out.lt))
            replace HN := Lib.hid (HN.out.via hal)
            clear hal
            generalize w5.alloc (.cells #[.slice A n c, .int .i64 (v : Int), .int .i64 (most : Int), .slice (some ⟨w2.heap.size, 0, none⟩) n n, .map (some w4.heap.size), .map (some w3.heap.size), .slice none 0 0] 106) = w6 at *
            refine wpAnyN.ready (rs := [10]) (by kernel_rfl) (by simp) ?_
            refine AllN.cons rfl (fun K hK => ?_) AllN.nil
            go_simp
            refine hK.out _ _ (fun h => absurd h (by decide)) ?_
            clear hK K
            refine wpAnyN.done (by kernel_rfl) ?_ _
            refine NoPanic.normal ?_
            have HZA := Lib.hid (And.intro HZ1.out (And.intro HZ3.out (And.intro HZ4.out HZ5.out)))
            clear HZ1 HZ3 HZ4 HZ5
            go_wp2_with fail
            go_meet
            have hz := HZA.out
            refine ⟨w5.heap.size, w2.heap.size, w4.heap.size, w3.heap.size, _, rfl, Lib.hid (LsM.start HB.out HL.out HS.out HM.out HN.out (by omega) (by omega)), Lib.hid ⟨HBX.out, if_neg (by omega)⟩⟩
        · skip
          go_simp
          refine hK.out _ (w2.alloc (.map #[] 0)) (fun _ => (HBX.out.al _).cell) ?_
          clear hK K
          try simp only [Act.put, List.setIfInBounds_toArray, List.set_cons_zero, List.set_cons_succ]
          have HM := Lib.hid (SeenM.made w2)
          replace HBX := Lib.hid (HBX.out.al (.map #[] 0))
          replace HB := Lib.hid (HB.out.al (.map #[] 0))
          try replace HS := Lib.hid (HS.out.al (.map #[] 0))
          try replace HN := Lib.hid (HN.out.al (.map #[] 0))
          generalize hW : w2.alloc (.map #[] 0) = w3 at *
          have HZ3 := Lib.hid (show w3.heap.size = w2.heap.size + 1 by rw [← hW]; simp)
          clear hW
          refine wpAnyN.ready (rs := [5, 7]) (by kernel_rfl) (by simp) ?_
          refine AllN.cons rfl (fun K hK => ?_) (AllN.cons rfl (fun K hK => ?_) AllN.nil)
          · skip
            go_simp
            refine hK.out _ _ (fun _ => (HBX.out.al _).cell) ?_
            clear hK K
            try simp only [Act.put, List.setIfInBounds_toArray, List.set_cons_zero, List.set_cons_succ]
            have HS := Lib.hid (Blk.new w3 108 (Array.replicate n (Value.slice none 0 0)))
            replace HBX := Lib.hid (HBX.out.al (.cells (Array.replicate n (Value.slice none 0 0)) 108))
            replace HB := Lib.hid (HB.out.al (.cells (Array.replicate n (Value.slice none 0 0)) 108))
            try replace HM := Lib.hid (HM.out.agr_ (Below.heap_alloc w3 (.cells (Array.replicate n (Value.slice none 0 0)) 108) _ HM.out.lt))
            try replace HN := Lib.hid (HN.out.al (.cells (Array.replicate n (Value.slice none 0 0)) 108))
            generalize hW : w3.alloc (.cells (Array.replicate n (Value.slice none 0 0)) 108) = w4 at *
            have HZ4 := Lib.hid (show w4.heap.size = w3.heap.size + 1 by rw [← hW]; simp)
            clear hW
            refine wpAnyN.ready (rs := [7]) (by kernel_rfl) (by simp) ?_
            refine AllN.cons rfl (fun K hK => ?_) AllN.nil
            go_simp
            refine hK.out _ (w4.alloc (.map #[] 0)) (fun _ => (HBX.out.al _).cell) ?_
            clear hK K
            try simp only [Act.put, List.setIfInBounds_toArray, List.set_cons_zero, List.set_cons_succ]
            have HN := Lib.hid (MapK.made w4 Tryd.prog 148 wkVal)
            replace HBX := Lib.hid (HBX.out.al (.map #[] 0))
            replace HB := Lib.hid (HB.out.al (.map #[] 0))
            try replace HS := Lib.hid (HS.out.al (.map #[] 0))
            try replace HM := Lib.hid (HM.out.agr_ (Below.heap_alloc w4 (.map #[] 0) _ HM.out.lt))
            generalize hW : w4.alloc (.map #[] 0) = w5 at *
            have HZ5 := Lib.hid (show w5.heap.size = w4.heap.size + 1 by rw [← hW]; simp)
            clear hW
            refine wpAnyN.ready (rs := [8]) (by kernel_rfl) (by simp) ?_
            refine AllN.cons rfl (fun K hK => ?_) AllN.nil
            go_simp
            refine hK.out _ _ (fun _ => HBX.out.cell) ?_
            clear hK K
            try simp only [Act.put, List.setIfInBounds_toArray, List.set_cons_zero, List.set_cons_succ]
            refine wpAnyN.ready (rs := [9]) (by kernel_rfl) (by simp) ?_
            refine AllN.cons rfl (fun K hK => ?_) AllN.nil
            go_simp
            refine hK.out _ _ (fun _ => (HBX.out.al _).cell) ?_
            clear hK K
            try simp only [Act.put, List.setIfInBounds_toArray, List.set_cons_zero, List.set_cons_succ]
            have HL := Lib.hid (Blk.new w5 106 #[.slice A n c, .int .i64 (v : Int), .int .i64 (most : Int), .slice (some ⟨w3.heap.size, 0, none⟩) n n, .map (some w2.heap.size), .map (some w4.heap.size), .slice none 0 0])
            have hal := (Below.refl w5.heap.size w5).al (.cells #[.slice A n c, .int .i64 (v : Int), .int .i64 (most : Int), .slice (some ⟨w3.heap.size, 0, none⟩) n n, .map (some w2.heap.size), .map (some w4.heap.size), .slice none 0 0] 106)
            replace HBX := Lib.hid (HBX.out.via hal)
            replace HB := Lib.hid (HB.out.via hal)
            replace HS := Lib.hid (HS.out.via hal)
            replace HM := Lib.hid (HM.out.agr_ (hal.block _ HM.out.lt))
            replace HN := Lib.hid (HN.out.via hal)
            clear hal
            generalize w5.alloc (.cells #[.slice A n c, .int .i64 (v : Int), .int .i64 (most : Int), .slice (some ⟨w3.heap.size, 0, none⟩) n n, .map (some w2.heap.size), .map (some w4.heap.size), .slice none 0 0] 106) = w6 at *
            refine wpAnyN.ready (rs := [10]) (by kernel_rfl) (by simp) ?_
            refine AllN.cons rfl (fun K hK => ?_) AllN.nil
            go_simp
            refine hK.out _ _ (fun h => absurd h (by decide)) ?_
            clear hK K
            refine wpAnyN.done (by kernel_rfl) ?_ _
            refine NoPanic.normal ?_
            have HZA := Lib.hid (And.intro HZ1.out (And.intro HZ3.out (And.intro HZ4.out HZ5.out)))
            clear HZ1 HZ3 HZ4 HZ5
            go_wp2_with fail
            go_meet
            have hz := HZA.out
            refine ⟨w5.heap.size, w3.heap.size, w2.heap.size, w4.heap.size, _, rfl, Lib.hid (LsM.start HB.out HL.out HS.out HM.out HN.out (by omega) (by omega)), Lib.hid ⟨HBX.out, if_neg (by omega)⟩⟩
          · skip
            go_simp
            refine hK.out _ (w3.alloc (.map #[] 0)) (fun _ => (HBX.out.al _).cell) ?_
            clear hK K
            try simp only [Act.put, List.setIfInBounds_toArray, List.set_cons_zero, List.set_cons_succ]
            have HN := Lib.hid (MapK.made w3 Tryd.prog 148 wkVal)
            replace HBX := Lib.hid (HBX.out.al (.map #[] 0))
            replace HB := Lib.hid (HB.out.al (.map #[] 0))
            try replace HS := Lib.hid (HS.out.al (.map #[] 0))
            try replace HM := Lib.hid (HM.out.agr_ (Below.heap_alloc w3 (.map #[] 0) _ HM.out.lt))
            generalize hW : w3.alloc (.map #[] 0) = w4 at *
            have HZ4 := Lib.hid (show w4.heap.size = w3.heap.size + 1 by rw [← hW]; simp)
            clear hW
            refine wpAnyN.ready (rs := [5]) (by kernel_rfl) (by simp) ?_
            refine AllN.cons rfl (fun K hK => ?_) AllN.nil
            go_simp
            refine hK.out _ _ (fun _ => (HBX.out.al _).cell) ?_
            clear hK K
            try simp only [Act.put, List.setIfInBounds_toArray, List.set_cons_zero, List.set_cons_succ]
            have HS := Lib.hid (Blk.new w4 108 (Array.replicate n (Value.slice none 0 0)))
            replace HBX := Lib.hid (HBX.out.al (.cells (Array.replicate n (Value.slice none 0 0)) 108))
            replace HB := Lib.hid (HB.out.al (.cells (Array.replicate n (Value.slice none 0 0)) 108))
            try replace HM := Lib.hid (HM.out.agr_ (Below.heap_alloc w4 (.cells (Array.replicate n (Value.slice none 0 0)) 108) _ HM.out.lt))
            try replace HN := Lib.hid (HN.out.al (.cells (Array.replicate n (Value.slice none 0 0)) 108))
            generalize hW : w4.alloc (.cells (Array.replicate n (Value.slice none 0 0)) 108) = w5 at *
            have HZ5 := Lib.hid (show w5.heap.size = w4.heap.size + 1 by rw [← hW]; simp)
            clear hW
            refine wpAnyN.ready (rs := [8]) (by kernel_rfl) (by simp) ?_
            refine AllN.cons rfl (fun K hK => ?_) AllN.nil
            go_simp
            refine hK.out _ _ (fun _ => HBX.out.cell) ?_
            clear hK K
            try simp only [Act.put, List.setIfInBounds_toArray, List.set_cons_zero, List.set_cons_succ]
            refine wpAnyN.ready (rs := [9]) (by kernel_rfl) (by simp) ?_
            refine AllN.cons rfl (fun K hK => ?_) AllN.nil
            go_simp
            refine hK.out _ _ (fun _ => (HBX.out.al _).cell) ?_
            clear hK K
            try simp only [Act.put, List.setIfInBounds_toArray, List.set_cons_zero, List.set_cons_succ]
            have HL := Lib.hid (Blk.new w5 106 #[.slice A n c, .int .i64 (v : Int), .int .i64 (most : Int), .slice (some ⟨w4.heap.size, 0, none⟩) n n, .map (some w2.heap.size), .map (some w3.heap.size), .slice none 0 0])
            have hal := (Below.refl w5.heap.size w5).al (.cells #[.slice A n c, .int .i64 (v : Int), .int .i64 (most : Int), .slice (some ⟨w4.heap.size, 0, none⟩) n n, .map (some w2.heap.size), .map (some w3.heap.size), .slice none 0 0] 106)
            replace HBX := Lib.hid (HBX.out.via hal)
            replace HB := Lib.hid (HB.out.via hal)
            replace HS := Lib.hid (HS.out.via hal)
            replace HM := Lib.hid (HM.out.agr_ (hal.block _ HM.out.lt))
            replace HN := Lib.hid (HN.out.via hal)
            clear hal
            generalize w5.alloc (.cells #[.slice A n c, .int .i64 (v : Int), .int .i64 (most : Int), .slice (some ⟨w4.heap.size, 0, none⟩) n n, .map (some w2.heap.size), .map (some w3.heap.size), .slice none 0 0] 106) = w6 at *
            refine wpAnyN.ready (rs := [10]) (by kernel_rfl) (by simp) ?_
            refine AllN.cons rfl (fun K hK => ?_) AllN.nil
            go_simp
            refine hK.out _ _ (fun h => absurd h (by decide)) ?_
            clear hK K
            refine wpAnyN.done (by kernel_rfl) ?_ _
            refine NoPanic.normal ?_
            have HZA := Lib.hid (And.intro HZ1.out (And.intro HZ3.out (And.intro HZ4.out HZ5.out)))
            clear HZ1 HZ3 HZ4 HZ5
            go_wp2_with fail
            go_meet
            have hz := HZA.out
            refine ⟨w5.heap.size, w4.heap.size, w2.heap.size, w3.heap.size, _, rfl, Lib.hid (LsM.start HB.out HL.out HS.out HM.out HN.out (by omega) (by omega)), Lib.hid ⟨HBX.out, if_neg (by omega)⟩⟩
        · skip
          go_simp
          refine hK.out _ (w2.alloc (.map #[] 0)) (fun _ => (HBX.out.al _).cell) ?_
          clear hK K
          try simp only [Act.put, List.setIfInBounds_toArray, List.set_cons_zero, List.set_cons_succ]
          have HN := Lib.hid (MapK.made w2 Tryd.prog 148 wkVal)
          replace HBX := Lib.hid (HBX.out.al (.map #[] 0))
          replace HB := Lib.hid (HB.out.al (.map #[] 0))
          try replace HS := Lib.hid (HS.out.al (.map #[] 0))
          try replace HM := Lib.hid (HM.out.agr_ (Below.heap_alloc w2 (.map #[] 0) _ HM.out.lt))
          generalize hW : w2.alloc (.map #[] 0) = w3 at *
          have HZ3 := Lib.hid (show w3.heap.size = w2.heap.size + 1 by rw [← hW]; simp)
          clear hW
          refine wpAnyN.ready (rs := [5, 6]) (by kernel_rfl) (by simp) ?_
          refine AllN.cons rfl (fun K hK => ?_) (AllN.cons rfl (fun K hK => ?_) AllN.nil)
          · skip
            go_simp
            refine hK.out _ _ (fun _ => (HBX.out.al _).cell) ?_
            clear hK K
            try simp only [Act.put, List.setIfInBounds_toArray, List.set_cons_zero, List.set_cons_succ]
            have HS := Lib.hid (Blk.new w3 108 (Array.replicate n (Value.slice none 0 0)))
            replace HBX := Lib.hid (HBX.out.al (.cells (Array.replicate n (Value.slice none 0 0)) 108))
            replace HB := Lib.hid (HB.out.al (.cells (Array.replicate n (Value.slice none 0 0)) 108))
            try replace HM := Lib.hid (HM.out.agr_ (Below.heap_alloc w3 (.cells (Array.replicate n (Value.slice none 0 0)) 108) _ HM.out.lt))
            try replace HN := Lib.hid (HN.out.al (.cells (Array.replicate n (Value.slice none 0 0)) 108))
            generalize hW : w3.alloc (.cells (Array.replicate n (Value.slice none 0 0)) 108) = w4 at *
            have HZ4 := Lib.hid (show w4.heap.size = w3.heap.size + 1 by rw [← hW]; simp)
            clear hW
            refine wpAnyN.ready (rs := [6]) (by kernel_rfl) (by simp) ?_
            refine AllN.cons rfl (fun K hK => ?_) AllN.nil
            go_simp
            refine hK.out _ (w4.alloc (.map #[] 0)) (fun _ => (HBX.out.al _).cell) ?_
            clear hK K
            try simp only [Act.put, List.setIfInBounds_toArray, List.set_cons_zero, List.set_cons_succ]
            have HM := Lib.hid (SeenM.made w4)
            replace HBX := Lib.hid (HBX.out.al (.map #[] 0))
            replace HB := Lib.hid (HB.out.al (.map #[] 0))
            try replace HS := Lib.hid (HS.out.al (.map #[] 0))
            try replace HN := Lib.hid (HN.out.al (.map #[] 0))
            generalize hW : w4.alloc (.map #[] 0) = w5 at *
            have HZ5 := Lib.hid (show w5.heap.size = w4.heap.size + 1 by rw [← hW]; simp)
            clear hW
            refine wpAnyN.ready (rs := [8]) (by kernel_rfl) (by simp) ?_
            refine AllN.cons rfl (fun K hK => ?_) AllN.nil
            go_simp
            refine hK.out _ _ (fun _ => HBX.out.cell) ?_
            clear hK K
            try simp only [Act.put, List.setIfInBounds_toArray, List.set_cons_zero, List.set_cons_succ]
            refine wpAnyN.ready (rs := [9]) (by kernel_rfl) (by simp) ?_
            refine AllN.cons rfl (fun K hK => ?_) AllN.nil
            go_simp
            refine hK.out _ _ (fun _ => (HBX.out.al _).cell) ?_
            clear hK K
            try simp only [Act.put, List.setIfInBounds_toArray, List.set_cons_zero, List.set_cons_succ]
            have HL := Lib.hid (Blk.new w5 106 #[.slice A n c, .int .i64 (v : Int), .int .i64 (most : Int), .slice (some ⟨w3.heap.size, 0, none⟩) n n, .map (some w4.heap.size), .map (some w2.heap.size), .slice none 0 0])
            have hal := (Below.refl w5.heap.size w5).al (.cells #[.slice A n c, .int .i64 (v : Int), .int .i64 (most : Int), .slice (some ⟨w3.heap.size, 0, none⟩) n n, .map (some w4.heap.size), .map (some w2.heap.size), .slice none 0 0] 106)
            replace HBX := Lib.hid (HBX.out.via hal)
            replace HB := Lib.hid (HB.out.via hal)
            replace HS := Lib.hid (HS.out.via hal)
            replace HM := Lib.hid (HM.out.agr_ (hal.block _ HM.out.lt))
            replace HN := Lib.hid (HN.out.via hal)
            clear hal
            generalize w5.alloc (.cells #[.slice A n c, .int .i64 (v : Int), .int .i64 (most : Int), .slice (some ⟨w3.heap.size, 0, none⟩) n n, .map (some w4.heap.size), .map (some w2.heap.size), .slice none 0 0] 106) = w6 at *
            refine wpAnyN.ready (rs := [10]) (by kernel_rfl) (by simp) ?_
            refine AllN.cons rfl (fun K hK => ?_) AllN.nil
            go_simp
            refine hK.out _ _ (fun h => absurd h (by decide)) ?_
            clear hK K
            refine wpAnyN.done (by kernel_rfl) ?_ _
            refine NoPanic.normal ?_
            have HZA := Lib.hid (And.intro HZ1.out (And.intro HZ3.out (And.intro HZ4.out HZ5.out)))
            clear HZ1 HZ3 HZ4 HZ5
            go_wp2_with fail
            go_meet
            have hz := HZA.out
            refine ⟨w5.heap.size, w3.heap.size, w4.heap.size, w2.heap.size, _, rfl, Lib.hid (LsM.start HB.out HL.out HS.out HM.out HN.out (by omega) (by omega)), Lib.hid ⟨HBX.out, if_neg (by omega)⟩⟩
          · skip
            go_simp
            refine hK.out _ (w3.alloc (.map #[] 0)) (fun _ => (HBX.out.al _).cell) ?_
            clear hK K
            try simp only [Act.put, List.setIfInBounds_toArray, List.set_cons_zero, List.set_cons_succ]
            have HM := Lib.hid (SeenM.made w3)
            replace HBX := Lib.hid (HBX.out.al (.map #[] 0))
            replace HB := Lib.hid (HB.out.al (.map #[] 0))
            try replace HS := Lib.hid (HS.out.al (.map #[] 0))
            try replace HN := Lib.hid (HN.out.al (.map #[] 0))
            generalize hW : w3.alloc (.map #[] 0) = w4 at *
            have HZ4 := Lib.hid (show w4.heap.size = w3.heap.size + 1 by rw [← hW]; simp)
            clear hW
            refine wpAnyN.ready (rs := [5]) (by kernel_rfl) (by simp) ?_
            refine AllN.cons rfl (fun K hK => ?_) AllN.nil
            go_simp
            refine hK.out _ _ (fun _ => (HBX.out.al _).cell) ?_
            clear hK K
            try simp only [Act.put, List.setIfInBounds_toArray, List.set_cons_zero, List.set_cons_succ]
            have HS := Lib.hid (Blk.new w4 108 (Array.replicate n (Value.slice none 0 0)))
            replace HBX := Lib.hid (HBX.out.al (.cells (Array.replicate n (Value.slice none 0 0)) 108))
            replace HB := Lib.hid (HB.out.al (.cells (Array.replicate n (Value.slice none 0 0)) 108))
            try replace HM := Lib.hid (HM.out.agr_ (Below.heap_alloc w4 (.cells (Array.replicate n (Value.slice none 0 0)) 108) _ HM.out.lt))
            try replace HN := Lib.hid (HN.out.al (.cells (Array.replicate n (Value.slice none 0 0)) 108))
            generalize hW : w4.alloc (.cells (Array.replicate n (Value.slice none 0 0)) 108) = w5 at *
            have HZ5 := Lib.hid (show w5.heap.size = w4.heap.size + 1 by rw [← hW]; simp)
            clear hW
            refine wpAnyN.ready (rs := [8]) (by kernel_rfl) (by simp) ?_
            refine AllN.cons rfl (fun K hK => ?_) AllN.nil
            go_simp
            refine hK.out _ _ (fun _ => HBX.out.cell) ?_
            clear hK K
            try simp only [Act.put, List.setIfInBounds_toArray, List.set_cons_zero, List.set_cons_succ]
            refine wpAnyN.ready (rs := [9]) (by kernel_rfl) (by simp) ?_
            refine AllN.cons rfl (fun K hK => ?_) AllN.nil
            go_simp
            refine hK.out _ _ (fun _ => (HBX.out.al _).cell) ?_
            clear hK K
            try simp only [Act.put, List.setIfInBounds_toArray, List.set_cons_zero, List.set_cons_succ]
            have HL := Lib.hid (Blk.new w5 106 #[.slice A n c, .int .i64 (v : Int), .int .i64 (most : Int), .slice (some ⟨w4.heap.size, 0, none⟩) n n, .map (some w3.heap.size), .map (some w2.heap.size), .slice none 0 0])
            have hal := (Below.refl w5.heap.size w5).al (.cells #[.slice A n c, .int .i64 (v : Int), .int .i64 (most : Int), .slice (some ⟨w4.heap.size, 0, none⟩) n n, .map (some w3.heap.size), .map (some w2.heap.size), .slice none 0 0] 106)
            replace HBX := Lib.hid (HBX.out.via hal)
            replace HB := Lib.hid (HB.out.via hal)
            replace HS := Lib.hid (HS.out.via hal)
            replace HM := Lib.hid (HM.out.agr_ (hal.block _ HM.out.lt))
            replace HN := Lib.hid (HN.out.via hal)
            clear hal
            generalize w5.alloc (.cells #[.slice A n c, .int .i64 (v : Int), .int .i64 (most : Int), .slice (some ⟨w4.heap.size, 0, none⟩) n n, .map (some w3.heap.size), .map (some w2.heap.size), .slice none 0 0] 106) = w6 at *
            refine wpAnyN.ready (rs := [10]) (by kernel_rfl) (by simp) ?_
            refine AllN.cons rfl (fun K hK => ?_) AllN.nil
            go_simp
            refine hK.out _ _ (fun h => absurd h (by decide)) ?_
            clear hK K
            refine wpAnyN.done (by kernel_rfl) ?_ _
            refine NoPanic.normal ?_
            have HZA := Lib.hid (And.intro HZ1.out (And.intro HZ3.out (And.intro HZ4.out HZ5.out)))
            clear HZ1 HZ3 HZ4 HZ5
            go_wp2_with fail
            go_meet
            have hz := HZA.out
            refine ⟨w5.heap.size, w4.heap.size, w3.heap.size, w2.heap.size, _, rfl, Lib.hid (LsM.start HB.out HL.out HS.out HM.out HN.out (by omega) (by omega)), Lib.hid ⟨HBX.out, if_neg (by omega)⟩⟩
      case rest =>
        obtain ⟨bl, lb, bs, bw, tg0, rfl, HM, HBX⟩ := hcut
        clear B0 HB HZ0
        obtain ⟨fo, hfo⟩ : ∃ fo : Array Value, fo = #[.slice A n c, .int .i64 (v : Int)] := ⟨_, rfl⟩
        have HFO := Lib.hid hfo
        have BX := HBX.out.1
        rw [← hfo] at HBX
        clear hfo
        have cBX := BX.cell
        have fBX := BX.frozen
        have lBX := BX.lt
        go_wp2_with fail
        clear cBX fBX lBX
        clear BX
        have HLN := Lib.hid HX.out.len
        go_loopw [39] (fun q wr => ∃ (i : Nat) (L : List (List CT)) (tg : Nat → Tg) (vs : Nat → Value), q = .int .i64 (i : Int) ∧ i ≤ n ∧ Hid (LsM w bl lb bs bw A n c (v : Int) (most : Int) tg ⟨L, [], [], []⟩ (.slice none 0 0) vs (fun _ => none) wr) ∧ Hid (L.length = n ∧ ∀ u, u < n → lstAt L u = if u < i then initT (ndAt nd u) else []) ∧ Hid (Blk wr w.heap.size 80 fo ∧ tg w.heap.size = .free)) (fun q _ => n - (intOf q).toNat)
        case atStart => exact ⟨0, _, _, _, rfl, Nat.zero_le _, HM, Lib.hid ⟨by simp, fun u hu => by rw [lstAt_nil]; rfl⟩, HBX⟩
        case round =>
          obtain ⟨i, L, tg, vs, rfl, hi, HM1, HL, HB1⟩ := hrel
          clear HM HBX
          by_cases hin : i < n
          · obtain ⟨b1, o1, ⟨⟨xb, xm, xi, xj⟩, PA, pl, pc⟩, ⟨⟨xb', xm', xi', xj'⟩, ps⟩, hAa, -, hb1, hx, ⟨hx1, hx2⟩, hcx⟩ := (HX.out.sl.via HM1.out.bel).at_ hin
            simp only at hx1 hx2
            obtain ⟨rfl, rfl, rfl, rfl⟩ : xb = xb' ∧ xm = xm' ∧ xi = xi' ∧ xj = xj' := by simpa using hx1
            subst hAa
            have c0 := hcx 0 _ rfl
            have c1 := hcx 1 _ rfl
            have c2 := hcx 2 _ rfl
            have c3 := hcx 3 _ rfl
            have c4 := hcx 4 _ rfl
            simp only [NdE, Nat.add_zero] at c0 c1 c2 c3 c4
            have HND := Lib.hid (show ndAt nd i = ((xb, xm, xi, xj), ps) by unfold ndAt; rw [hx]; rfl)
            have HTM := Lib.hid (show xb = true → 0 ≤ xm from HT.out _ (List.mem_of_getElem? hx))
            have i0 : (0 : Int) ≤ (i : Int) := by omega
            have i1 : (i : Int) < (n : Int) := by omega
            have hw2 : IntKind.i64.wrap ((i : Int) + 1) = (i : Int) + 1 := IntWalk.i64_in _ (by omega)
            have hal := (Below.refl wr.heap.size wr).al (.cells #[.bool xb, .int .i64 xm, .int .i64 xi, .int .i64 xj, .slice PA pl pc] 94)
            have BN := Blk.new wr 94 #[.bool xb, .int .i64 xm, .int .i64 xi, .int .i64 xj, .slice PA pl pc]
            have HM2 := Lib.hid (HM1.out.via hal)
            have HB2 := Lib.hid (And.intro (HB1.out.1.via hal) HB1.out.2)
            clear hcx hx hx1 hx2 hal hb1
            cases xb with
            | false =>
              have cBN := BN.cell
              have fBN := BN.frozen
              have lBN := BN.lt
              go_wp2_with fail
              refine ⟨⟨i + 1, L, tg, vs, by go_num, by omega, HM2, Lib.hid ⟨HL.out.1, fun u hu => ?_⟩, HB2⟩, by simp [intOf]; omega⟩
              rw [HL.out.2 u hu]
              by_cases e : u = i
              · subst e
                rw [if_neg (Nat.lt_irrefl _), if_pos (Nat.lt_succ_self _), HND.out]; rfl
              · by_cases h : u < i
                · rw [if_pos h, if_pos (by omega)]
                · rw [if_neg h, if_neg (by omega)]
            | true =>
              have cBN := BN.cell
              have fBN := BN.frozen
              have lBN := BN.lt
              go_upto_region 8 with fail
              clear cBN fBN lBN
              clear c0 c1 c2 c3 c4
              generalize wr.alloc (.cells #[.bool true, .int .i64 xm, .int .i64 xi, .int .i64 xj, .slice PA pl pc] 94) = w2 at *
              have hdr := (Below.refl w2.heap.size w2).drew
              have HM3 := Lib.hid (HM2.out.via hdr)
              have HB3 := Lib.hid (And.intro (HB2.out.1.via hdr) HB2.out.2)
              have BN3 := BN.via hdr
              clear hdr HM1 HM2 HB1 HB2 BN
              have g3 := HM3.out.que.blk.cell 3
              simp only [List.getElem?_toArray, List.getElem?_cons_succ, List.getElem?_cons_zero] at g3
              have hHeld := And.intro g3 BN3.cell
              refine wp_region_noPanic ?_
              refine wp_region_N 12 (fun w' => w'.cell? ⟨bl, 3, none⟩ = some (.slice (some ⟨lb, 0, none⟩) n n) ∧ ∀ x, w'.cell? ⟨wr.heap.size, x, none⟩ = #[.bool true, .int .i64 xm, .int .i64 xi, .int .i64 xj, .slice PA pl pc][x]?) (by kernel_rfl) ?_
              clear g3
              generalize w2.drew = w3 at *
              refine wpAnyN.take (i := 0) (d := some 47) (v := ?_) rfl (by decide) (by kernel_rfl) (by kernel_rfl) (by kernel_rfl) (by kernel_rfl) (by kernel_rfl) rfl (fun _ _ _ h => h) (Or.inl ⟨by rfl, ?_⟩) (by assumption) ?_
              rotate_left
              · intro w hSw; (try dsimp only at hSw); go_simp; try with_reducible rfl
              simp only [Act.put, List.setIfInBounds_toArray, List.set_cons_zero, List.set_cons_succ]
              refine wpAnyN.take (i := 1) (d := some 48) (v := ?_) rfl (by decide) (by kernel_rfl) (by kernel_rfl) (by kernel_rfl) (by kernel_rfl) (by kernel_rfl) rfl (fun _ _ _ h => h) (Or.inl ⟨by rfl, ?_⟩) (by assumption) ?_
              rotate_left
              · intro w hSw; (try dsimp only at hSw); go_simp; try with_reducible rfl
              simp only [Act.put, List.setIfInBounds_toArray, List.set_cons_zero, List.set_cons_succ]
              refine wpAnyN.take (i := 2) (d := some 49) (v := ?_) rfl (by decide) (by kernel_rfl) (by kernel_rfl) (by kernel_rfl) (by kernel_rfl) (by kernel_rfl) rfl (fun _ _ _ h => h) (Or.inl ⟨by rfl, ?_⟩) (by assumption) ?_
              rotate_left
              · intro w hSw; (try dsimp only at hSw); go_simp; try with_reducible rfl
              simp only [Act.put, List.setIfInBounds_toArray, List.set_cons_zero, List.set_cons_succ]
              refine wpAnyN.take (i := 3) (d := some 50) (v := ?_) rfl (by decide) (by kernel_rfl) (by kernel_rfl) (by kernel_rfl) (by kernel_rfl) (by kernel_rfl) rfl (fun _ _ _ h => h) (Or.inl ⟨by rfl, ?_⟩) (by assumption) ?_
              rotate_left
              · intro w hSw; (try dsimp only at hSw); go_simp; try with_reducible rfl
              simp only [Act.put, List.setIfInBounds_toArray, List.set_cons_zero, List.set_cons_succ]
              refine wpAnyN.take (i := 4) (d := some 51) (v := ?_) rfl (by decide) (by kernel_rfl) (by kernel_rfl) (by kernel_rfl) (by kernel_rfl) (by kernel_rfl) rfl (fun _ _ _ h => h) (Or.inl ⟨by rfl, ?_⟩) (by assumption) ?_
              rotate_left
              · intro w hSw; (try dsimp only at hSw); go_simp; try with_reducible rfl
              simp only [Act.put, List.setIfInBounds_toArray, List.set_cons_zero, List.set_cons_succ]
              refine wpAnyN.take (i := 5) (d := some 52) (v := ?_) rfl (by decide) (by kernel_rfl) (by kernel_rfl) (by kernel_rfl) (by kernel_rfl) (by kernel_rfl) rfl (fun _ _ _ h => h) (Or.inl ⟨by rfl, ?_⟩) (by assumption) ?_
              rotate_left
              · intro w hSw; (try dsimp only at hSw); go_simp; try with_reducible rfl
              simp only [Act.put, List.setIfInBounds_toArray, List.set_cons_zero, List.set_cons_succ]
              refine wpAnyN.take (i := 6) (d := some 53) (v := ?_) rfl (by decide) (by kernel_rfl) (by kernel_rfl) (by kernel_rfl) (by kernel_rfl) (by kernel_rfl) rfl (fun _ _ _ h => h) (Or.inl ⟨by rfl, ?_⟩) (by assumption) ?_
              rotate_left
              · intro w hSw; (try dsimp only at hSw); go_simp; try with_reducible rfl
              simp only [Act.put, List.setIfInBounds_toArray, List.set_cons_zero, List.set_cons_succ]
              refine wpAnyN.take (i := 7) (d := some 54) (v := ?_) rfl (by decide) (by kernel_rfl) (by kernel_rfl) (by kernel_rfl) (by kernel_rfl) (by kernel_rfl) rfl (fun _ _ _ h => h) (Or.inl ⟨by rfl, ?_⟩) (by assumption) ?_
              rotate_left
              · intro w hSw; (try dsimp only at hSw); go_simp; try with_reducible rfl
              simp only [Act.put, List.setIfInBounds_toArray, List.set_cons_zero, List.set_cons_succ]
              refine wpAnyN.take (i := 8) (d := some 55) (v := ?_) rfl (by decide) (by kernel_rfl) (by kernel_rfl) (by kernel_rfl) (by kernel_rfl) (by kernel_rfl) rfl (fun _ _ _ h => h) (Or.inl ⟨by rfl, ?_⟩) (by assumption) ?_
              rotate_left
              · intro w hSw; (try dsimp only at hSw); go_simp; try with_reducible rfl
              simp only [Act.put, List.setIfInBounds_toArray, List.set_cons_zero, List.set_cons_succ]
              clear hHeld
              obtain ⟨cs, hlb, hcs, hcv⟩ := HM3.out.lbk
              have hal4 := (Below.refl w3.heap.size w3).al (.cells #[.int .i64 (-1), .int .i64 xm, .int .i64 1, .slice none 0 0] 110)
              have hal5 := (Below.refl _ _).al (.cells #[.pointer (ptA w3.heap.size)] 107) (w := w3.alloc (.cells #[.int .i64 (-1), .int .i64 xm, .int .i64 1, .slice none 0 0] 110))
              have g4 := (HM3.out.que.blk.via hal4).cell 3
              have g5 := ((HM3.out.que.blk.via hal4).via hal5).cell 3
              simp only [List.getElem?_toArray, List.getElem?_cons_succ, List.getElem?_cons_zero] at g4 g5
              have l5 := ((hlb.via hal4).via hal5).cell i
              have f5 := ((hlb.via hal4).via hal5).frozen
              rw [hcv i hin] at l5
              have hsz4 : (w3.alloc (.cells #[.int .i64 (-1), .int .i64 xm, .int .i64 1, .slice none 0 0] 110)).heap.size = w3.heap.size + 1 := by simp
              have hH4 := And.intro g4 (BN3.via hal4).cell
              have hH5 := And.intro g5 ((BN3.via hal4).via hal5).cell
              clear g4 g5
              obtain ⟨tg5, vs5, k1, k2, k3⟩ := HM3.out.leafed hin HL.out.1 xm
              have HK := Lib.hid (And.intro k1 (And.intro k2 k3))
              clear k1 k2 k3 hal4 hal5 BN3
              refine wpAnyN.ready (rs := [9]) (by kernel_rfl) (by simp) ?_
              refine AllN.cons rfl (fun K hK => ?_) AllN.nil
              go_simp
              refine hK.out _ _ (fun _ => hH4) ?_
              clear hK K hH4
              try simp only [Act.put, List.setIfInBounds_toArray, List.set_cons_zero, List.set_cons_succ]
              refine wpAnyN.ready (rs := [10]) (by kernel_rfl) (by simp) ?_
              refine AllN.cons rfl (fun K hK => ?_) AllN.nil
              go_simp
              refine hK.out _ _ (fun _ => hH5) ?_
              clear hK K
              try simp only [Act.put, List.setIfInBounds_toArray, List.set_cons_zero, List.set_cons_succ]
              refine wpAnyN.ready (rs := [11]) (by kernel_rfl) (by simp) ?_
              refine AllN.cons rfl (fun K hK => ?_) AllN.nil
              go_simp
              refine hK.out _ _ (fun _ => hH5) ?_
              clear hK K hH5
              try simp only [Act.put, List.setIfInBounds_toArray, List.set_cons_zero, List.set_cons_succ]
              refine wpAnyN.ready (rs := [12]) (by kernel_rfl) (by simp) ?_
              refine AllN.cons rfl (fun K hK => ?_) AllN.nil
              go_simp
              refine hK.out _ _ (fun h => absurd h (by decide)) ?_
              clear hK K l5 f5 hlb
              refine wpAnyN.done (by kernel_rfl) ?_ _
              refine NoPanic.normal ?_
              go_wp2_with fail
              have hbx : w.heap.size < w3.heap.size := HB3.out.1.lt
              refine ⟨⟨i + 1, _, tg5, vs5, by go_num, by omega, Lib.hid HK.out.1, Lib.hid ⟨by simpa using HL.out.1, fun u hu => ?_⟩, Lib.hid ⟨(HK.out.2.2.block w.heap.size hbx (fun e => ?_)).trans HB3.out.1, (HK.out.2.1 _ hbx).trans HB3.out.2⟩⟩, by simp [intOf]; omega⟩
              · rw [lstAt_set (by rw [HL.out.1]; exact hin), HL.out.2 u hu]
                by_cases e : u = i
                · subst e
                  rw [if_pos rfl, if_pos (Nat.lt_succ_self _), HND.out]; rfl
                · rw [if_neg e]
                  by_cases h : u < i
                  · rw [if_pos h, if_pos (by omega)]
                  · rw [if_neg h, if_neg (by omega)]
              · have h1 := HB3.out.2
                rw [e, HM3.out.fix.2.1] at h1; cases h1
          · obtain rfl : n = i := by omega
            have hL : L = nd.map initT := by
              apply List.ext_getElem (by rw [HL.out.1, List.length_map]; exact HLN.out.symm)
              intro u h1 h2
              have h3 := HL.out.2 u (by rw [← HL.out.1]; exact h1)
              rw [if_pos (by rw [← HL.out.1]; exact h1)] at h3
              unfold lstAt at h3
              rw [List.getD_eq_getElem?_getD, List.getElem?_eq_getElem h1] at h3
              rw [List.getElem_map]
              have h4 : u < nd.length := by simpa using h2
              have h5 : ndAt nd u = nd[u] := by unfold ndAt; rw [List.getElem?_eq_getElem h4]; rfl
              rw [← h5]; exact h3
            subst hL
            have HMS : Hid (LsM w bl lb bs bw A n c (v : Int) (most : Int) tg (seedTo nd 0) (.slice none 0 0) vs (fun _ => none) wr) := HM1
            clear HL HM1
            have BX := HB1.out.1
            rw [HFO.out] at BX
            have cBX := BX.cell
            have fBX := BX.frozen
            have lBX := BX.lt
            go_wp2_with fail
            clear cBX fBX lBX
            clear BX hi hin
            have HMG := Lib.hid (show 1 ≤ most by omega)
            go_loopw [63] (fun q wr => ∃ (i : Nat) (tg : Nat → Tg) (qv : Value) (F : WtK → Option Value), q = .int .i64 (i : Int) ∧ i ≤ n ∧ Hid (LsM w bl lb bs bw A n c (v : Int) (most : Int) tg (seedTo nd i) qv vs F wr) ∧ Hid (Blk wr w.heap.size 80 fo ∧ tg w.heap.size = .free)) (fun q _ => n - (intOf q).toNat)
            case atStart => exact ⟨0, tg, _, _, rfl, Nat.zero_le _, HMS, HB1⟩
            case round =>
              obtain ⟨i, tg1, qv1, F1, rfl, hi, HM1, HBB⟩ := hrel
              clear HMS HB1
              by_cases hin : i < n
              · obtain ⟨b1, o1, ⟨⟨xb, xm, xi, xj⟩, PA, pl, pc⟩, ⟨⟨xb', xm', xi', xj'⟩, ps⟩, hAa, -, hb1, hx, ⟨hx1, hx2⟩, hcx⟩ := (HX.out.sl.via HM1.out.bel).at_ hin
                simp only at hx1 hx2
                obtain ⟨rfl, rfl, rfl, rfl⟩ : xb = xb' ∧ xm = xm' ∧ xi = xi' ∧ xj = xj' := by simpa using hx1
                subst hAa
                have c0 := hcx 0 _ rfl
                have c1 := hcx 1 _ rfl
                have c2 := hcx 2 _ rfl
                have c3 := hcx 3 _ rfl
                have c4 := hcx 4 _ rfl
                simp only [NdE, Nat.add_zero] at c0 c1 c2 c3 c4
                have HPL := Lib.hid (show pl = (ndAt nd i).2.length from by unfold ndAt; rw [hx]; exact hx2.len.symm)
                have hpl : pl ≤ 17592186044416 := by have h1 := HX.out.fob _ (List.mem_of_getElem? hx); have h2 := hx2.len; simp only at h1 h2; omega
                have i0 : (0 : Int) ≤ (i : Int) := by omega
                have i1 : (i : Int) < (n : Int) := by omega
                have hw2 : IntKind.i64.wrap ((i : Int) + 1) = (i : Int) + 1 := IntWalk.i64_in _ (by omega)
                have hal := (Below.refl wr.heap.size wr).al (.cells #[.bool xb, .int .i64 xm, .int .i64 xi, .int .i64 xj, .slice PA pl pc] 94)
                have BN := Blk.new wr 94 #[.bool xb, .int .i64 xm, .int .i64 xi, .int .i64 xj, .slice PA pl pc]
                have HM2 := Lib.hid (HM1.out.via hal)
                have HB2 := Lib.hid (And.intro (HBB.out.1.via hal) HBB.out.2)
                clear hcx hx hx1 hx2 hal hb1 HM1 HBB
                have cBN := BN.cell
                have fBN := BN.frozen
                have lBN := BN.lt
                go_wp2_with fail
                clear cBN fBN lBN
                clear BN c0 c1 c2 c3 c4
                go_loopw [71] (fun q wr => ∃ (k : Nat) (tg : Nat → Tg) (qv : Value) (F : WtK → Option Value), q = .int .i64 (k : Int) ∧ k ≤ pl ∧ Hid (LsM w bl lb bs bw (some ⟨b1, o1, none⟩) n c (v : Int) (most : Int) tg (feedTo nd i k (seedTo nd i)) qv vs F wr) ∧ Hid (Blk wr w.heap.size 80 fo ∧ tg w.heap.size = .free)) (fun q _ => pl - (intOf q).toNat)
                case atStart => exact ⟨0, tg1, _, _, rfl, Nat.zero_le _, Lib.hid HM2.out, HB2⟩
                case round =>
                  obtain ⟨k, tg2, qv2, F2, rfl, hk, HM3, HB3⟩ := hrel
                  clear HM2 HB2
                  by_cases hkp : k < pl
                  · have HCK := Lib.hid (c00_ok (nd := nd) (most := most) (v := i) (p := k) (by rw [HLN.out]; exact hin) (by rw [← HPL.out]; exact hkp))
                    have hinv := (feedTo_inv HX.out.fok (show i < nd.length by rw [HLN.out]; exact hin) k (seedTo nd i) ((pl - (k + 1)) + restK nd (i + 1) + 1) (by rw [← HPL.out]; omega) (by
                      have h1 := (seedTo_inv HX.out.fok HT.out HMG.out i (by rw [HLN.out]; exact hi)).1
                      rw [restK_step (show i < nd.length by rw [HLN.out]; exact hin), ← HPL.out] at h1
                      rwa [show k + (pl - (k + 1) + restK nd (i + 1) + 1) = pl + restK nd (i + 1) by omega])).1
                    have k0 : (0 : Int) ≤ (k : Int) := by omega
                    have k1 : (k : Int) < (pl : Int) := by omega
                    have hw3 : IntKind.i64.wrap ((k : Int) + 1) = (k : Int) + 1 := IntWalk.i64_in _ (by omega)
                    have HCA := Lib.hid (first_c w bl lb bs bw _ n c v most (restK nd 0) nd HX.out (c00 i k) none 0 _ tg2 (feedTo nd i k (seedTo nd i)) qv2 vs F2 wr HM3.out HCK.out hinv)
                    have HST := Lib.hid (feedTo_succ nd i k (seedTo nd i)).symm
                    have hbx : w.heap.size < wr.heap.size := HB3.out.1.lt
                    unfold cdVal at HCA
                    clear hinv HCK
                    go_wp2_with fail
                    refine HCA.out.mono ?_
                    clear HCA
                    rintro e w4 ⟨rfl, tg4, qv4, F4, hm4, ht4, hf4⟩
                    rw [HST.out] at hm4
                    have HM4 := Lib.hid hm4
                    have HB4 := Lib.hid (show Blk w4 w.heap.size 80 fo ∧ tg4 w.heap.size = .free from ⟨(hf4.block w.heap.size hbx fun e => e.ne.1 HB3.out.2).trans HB3.out.1, (ht4 _ hbx).trans HB3.out.2⟩)
                    clear hm4 ht4 hf4 HM3 HB3 HST
                    go_wp2_with fail
                    exact ⟨⟨k + 1, tg4, qv4, F4, by go_num, by omega, HM4, HB4⟩, by simp [intOf]; omega⟩
                  · obtain rfl : k = pl := by omega
                    have HM4 : Hid (LsM w bl lb bs bw (some ⟨b1, o1, none⟩) n c (v : Int) (most : Int) tg2 (seedTo nd (i + 1)) qv2 vs F2 wr) := by
                      rw [seedTo_succ, ← HPL.out]; exact HM3
                    clear HM3
                    go_wp2_with fail
                    exact ⟨⟨i + 1, tg2, qv2, F2, by go_num, by omega, HM4, HB3⟩, by simp [intOf]; omega⟩
              · obtain rfl : n = i := by omega
                have hse := (seedTo_inv HX.out.fok HT.out HMG.out nd.length (Nat.le_refl _)).1
                rw [restK_end (Nat.le_refl _)] at hse
                obtain ⟨d, hd⟩ := endL_run (root := v) HX.out.fok HT.out HMG.out
                rw [HLN.out] at hse hd
                obtain ⟨stE, hE⟩ : ∃ stE, stE = endL nd v most := ⟨_, rfl⟩
                rw [← hE] at hd
                have HIE := Lib.hid hse
                have HRUN := Lib.hid hd
                have HEE := Lib.hid hE
                clear hse hd hE
                go_wp2_with fail
                go_loopg [] (d) (fun gk wr => ∃ (st : LsS) (tg : Nat → Tg) (qv : Value) (vs : Nat → Value) (F : WtK → Option Value), Hid (LsM w bl lb bs bw A n c (v : Int) (most : Int) tg st qv vs F wr) ∧ Hid (LInv nd most (restK nd 0) st 0 0) ∧ Hid (runL nd v most gk st = some stE) ∧ Hid (Blk wr w.heap.size 80 fo ∧ tg w.heap.size = .free))
                case atStart => exact ⟨_, tg1, qv1, vs, F1, HM1, HIE, HRUN, HBB⟩
                case round =>
                  obtain ⟨st, tgR, qvR, vsR, FR, HMR, HIR, HRR, HBB2⟩ := hrel
                  clear HM1 HIE HRUN HBB
                  obtain ⟨QA, qc, rfl, hqc⟩ := HMR.out.que.own.form
                  have g6 := HMR.out.que.blk.cell 6
                  have g3 := HMR.out.que.blk.cell 3
                  simp only [List.getElem?_toArray, List.getElem?_cons_succ, List.getElem?_cons_zero] at g3 g6
                  obtain ⟨cs, hlb, hcs, hcv⟩ := HMR.out.lbk
                  have l0 := hlb.cell v
                  obtain ⟨RA, rc, hvsr, hrc⟩ := (HMR.out.lst v hv).form
                  rw [hcv v hv, hvsr] at l0
                  have BX := HBB2.out.1
                  rw [HFO.out] at BX
                  clear hlb hcs hcv cs hvsr
                  rcases gk with _ | d1
                  · exact absurd HRR.out (by simp [runL])
                  · have hrun := HRR.out
                    unfold runL at hrun
                    obtain ⟨qn, hqn⟩ : ∃ qn, qn = st.q.length := ⟨_, rfl⟩
                    obtain ⟨ln, hln⟩ : ∃ ln, ln = (lstAt st.lists v).length := ⟨_, rfl⟩
                    have HQN := Lib.hid hqn
                    have HLL := Lib.hid hln
                    rw [← hqn] at g6 hqc
                    rw [← hln] at l0 hrc hrun
                    clear hqn hln
                    have v0 : (0 : Int) ≤ (v : Int) := by omega
                    by_cases hq0 : qn = 0
                    · subst hq0
                      obtain rfl : stE = st := by
                        rw [if_pos (Or.inl (List.eq_nil_of_length_eq_zero HQN.out.symm))] at hrun
                        exact (Option.some.inj hrun).symm
                      clear hrun hqc hrc
                      have cBX := BX.cell
                      have fBX := BX.frozen
                      have lBX := BX.lt
                      go_upto_region 19 with fail
                      go_quiet (fail)
                      clear cBX fBX lBX
                      have HDQ := below_drewN (Below.refl wr.heap.size wr) nq
                      replace HMR := Lib.hid (HMR.out.via HDQ)
                      have HBR := Lib.hid (HBB2.out.1.via HDQ)
                      have HLE := Lib.hid (HIR.out.lst v)
                      clear HDQ HBB2 HIR HRR g3 g6 l0 BX HQN HLL
                      generalize wr.drewN nq = wR at *
                      go_upto_region 23 with fail
                      have HLV := Lib.hid (HMR.out.lst v hv)
                      obtain ⟨RA, rc, hvsr, hrc⟩ := HLV.out.form
                      obtain ⟨rl, hrl⟩ : ∃ rl, rl = (lstAt stE.lists v).length := ⟨_, rfl⟩
                      rw [← hrl] at hvsr hrc
                      have HRL := Lib.hid hrl
                      have HVS := Lib.hid hvsr
                      have hrm : rl ≤ 1000000 := by have h1 := HLE.out.1; rw [← HRL.out] at h1; omega
                      obtain ⟨cs, hlb, hcs, hcv⟩ := HMR.out.lbk
                      have l0 := hlb.cell v
                      rw [hcv v hv, hvsr] at l0
                      have g3 := HMR.out.que.blk.cell 3
                      simp only [List.getElem?_toArray, List.getElem?_cons_succ, List.getElem?_cons_zero] at g3
                      have BX := HBR.out
                      rw [HFO.out] at BX
                      clear hrl hvsr hlb hcs hcv cs
                      have cBX := BX.cell
                      have fBX := BX.frozen
                      have lBX := BX.lt
                      go_still_tail 9, (by kernel_rfl)
                      clear cBX fBX lBX
                      clear g3 l0
                      change wpList _ _ _ _ _ wR.drew
                      have hdr := (Below.refl wR.heap.size wR).drew
                      have HM5 := Lib.hid (HMR.out.via hdr)
                      have BX5 := BX.via hdr
                      clear hdr BX HMR HBR HLV
                      generalize wR.drew = wd at *
                      have HCT := Lib.hid (count_c (fun b => b < w.heap.size) A n c (v : Int) nd wd (HX.out.sl.via HM5.out.bel) HX.out.fok.1 HFB.out (by omega) hn)
                      have HB6 := Lib.hid BX5
                      have cBX5 := BX5.cell
                      have fBX5 := BX5.frozen
                      have lBX5 := BX5.lt
                      go_wp2_with fail
                      clear cBX5 fBX5 lBX5
                      refine HCT.out.mono ?_
                      clear HCT BX5
                      rintro e we ⟨rfl, hbe⟩
                      have HM6 := Lib.hid (HM5.out.via hbe)
                      have HB7 := Lib.hid (HB6.out.via hbe)
                      clear hbe HM5 HB6
                      obtain ⟨cv, hcv⟩ : ∃ cv, cv = cntV ((v : Int), nd) := ⟨_, rfl⟩
                      have HCV := Lib.hid hcv
                      rw [← hcv]
                      clear hcv
                      go_upto_region 25 with fail
                      obtain ⟨bb, hbb⟩ : ∃ bb : Bool, bb = decide (rl < most ∧ (cv = -1 ∨ (rl : Int) < cv)) := ⟨_, rfl⟩
                      have HBQ := Lib.hid hbb
                      clear hbb
                      go_cut [140] (fun s wc => ∃ wx, wx = wc ∧ s = .bool bb ∧ wx = we)
                      case first =>
                        by_cases h1 : rl < most
                        · have h1' : (rl : Int) < (most : Int) := by omega
                          by_cases h2 : cv = -1
                          · have hb : bb = true := by rw [HBQ.out]; simp [h1, h2]
                            subst h2
                            go_wp2_with fail
                            go_meet
                            exact ⟨_, rfl, congrArg Value.bool hb.symm, rfl⟩
                          · have h2' : (cv == -1) = false := by simpa using h2
                            by_cases h3 : (rl : Int) < cv
                            · have hb : bb = true := by rw [HBQ.out]; simp [h1, h3]
                              go_wp2_with fail
                              go_meet
                              exact ⟨_, rfl, congrArg Value.bool hb.symm, rfl⟩
                            · have hb : bb = false := by rw [HBQ.out]; simp [h2, h3]
                              go_wp2_with fail
                              go_meet
                              exact ⟨_, rfl, congrArg Value.bool hb.symm, rfl⟩
                        · have h1' : ¬ (rl : Int) < (most : Int) := by omega
                          have hb : bb = false := by rw [HBQ.out]; simp [h1]
                          go_wp2_with fail
                          go_meet
                          exact ⟨_, rfl, congrArg Value.bool hb.symm, rfl⟩
                      case rest =>
                        obtain ⟨wx, rfl, rfl, rfl⟩ := hcut
                        cases bb with
                        | true =>
                          have hq : trsV (v : Int) nd most = ([], false) := by
                            have h1 := of_decide_eq_true HBQ.out.symm
                            unfold trsV
                            rw [if_neg (by omega), Int.toNat_natCast, ← HEE.out, ← HRL.out, ← HCV.out, if_pos h1]
                          go_wp2_with fail
                          rw [HQQ.out, hq]
                          exact ⟨none, 0, 0, rfl, Sl.nil 0, HM6.out.bel⟩
                        | false =>
                          have HTQ := Lib.hid (show trsV (v : Int) nd most = ((lstAt stE.lists v).map CT.tr, true) by
                            have h1 := of_decide_eq_false HBQ.out.symm
                            unfold trsV
                            rw [if_neg (by omega), Int.toNat_natCast, ← HEE.out, ← HRL.out, ← HCV.out, if_neg h1])
                          obtain ⟨cs, hlb, hcs, hcv⟩ := HM6.out.lbk
                          have l0 := hlb.cell v
                          rw [hcv v hv, HVS.out] at l0
                          have g3 := HM6.out.que.blk.cell 3
                          simp only [List.getElem?_toArray, List.getElem?_cons_succ, List.getElem?_cons_zero] at g3
                          have BX7 := HB7.out
                          clear hlb hcs hcv cs
                          have cBX7 := BX7.cell
                          have fBX7 := BX7.frozen
                          have lBX7 := BX7.lt
                          go_upto_region 28 with fail
                          go_quiet (fail)
                          clear cBX7 fBX7 lBX7
                          have HM7 := Lib.hid (HM6.out.via (below_drewN (Below.refl wx.heap.size wx) nq))
                          clear l0 g3 BX7 HM6 HB7
                          generalize wx.drewN nq = wl at *
                          have HLL := Lib.hid (show ((lstAt stE.lists v).map CT.tr).length = rl by rw [List.length_map]; exact HRL.out.symm)
                          obtain ⟨lt, hlt⟩ : ∃ lt, lt = (lstAt stE.lists v).map CT.tr := ⟨_, rfl⟩
                          rw [← hlt] at HLL HTQ
                          have HLT := Lib.hid hlt
                          clear hlt
                          go_wp2_with fail
                          go_loopw [16, 150] (fun ov q wz => ∃ (k : Nat), q = .int .i64 (k : Int) ∧ k ≤ rl ∧ Hid (Below wl.heap.size wl wz ∧ Own TrE 59 (fun b => wl.heap.size ≤ b) wz wl.heap.size ov k (lt.take k))) (fun _ q _ => rl - (intOf q).toNat)
                          case atStart => exact ⟨0, rfl, Nat.zero_le _, Lib.hid ⟨Below.refl _ _, Own.nil _ _⟩⟩
                          case round =>
                            obtain ⟨k, rfl, hk, HQ⟩ := hrel
                            by_cases hkr : k < rl
                            · have hown := (HM7.out.via HQ.out.1).lst v hv
                              rw [HVS.out, ← HRL.out] at hown
                              obtain ⟨g, rfl⟩ := hown.addrT (by omega)
                              obtain ⟨p3, x3, hx3, ht3, hc3, -, -, -⟩ := hown.elt hkr
                              have f0 := hc3 0 _ rfl
                              simp only [PtE, Nat.mul_one, Nat.add_zero] at f0
                              have hok := HLE.out.2 x3 (List.mem_of_getElem? hx3)
                              have HPL := Lib.hid (plain_n 5000 _ p3 x3 _ (show PtR _ _ p3 x3 from ht3) hok.1 hok.2)
                              have HX3 := Lib.hid (show lt[k]? = some x3.tr by rw [HLT.out, List.getElem?_map, hx3]; rfl)
                              have k0 : (0 : Int) ≤ (k : Int) := by omega
                              have k1 : (k : Int) < (rl : Int) := by omega
                              have hw3 : IntKind.i64.wrap ((k : Int) + 1) = (k : Int) + 1 := IntWalk.i64_in _ (by omega)
                              obtain ⟨VA, vc, rfl, -⟩ := HQ.out.2.form
                              clear hown hx3 ht3 hc3 hok
                              go_wp2_with fail
                              clear f0
                              refine HPL.out.mono ?_
                              clear HPL
                              rintro e w9 ⟨⟨va, vb, vA2, vn2, vc2⟩, rfl, hT9, hb9⟩
                              have hal := (Below.refl w9.heap.size w9).al (.cells #[.int .i64 va, .int .i64 vb, .slice vA2 vn2 vc2] 59)
                              have HQ9 := Lib.hid (And.intro ((HQ.out.1.via hb9).via hal) ((HQ.out.2.via hb9).via hal))
                              have HT9 := Lib.hid (hT9.via hal)
                              have HZ9 := Lib.hid HQ.out.1.size
                              have HOL := Lib.hid HQ.out.2.lt
                              clear hal hb9 hT9 HQ
                              simp only [trVal]
                              go_wp2_with (at_builtin; refine wpList_append_tr _ rfl (.tmp 154) (.tmp 157) rfl (fun b => wl.heap.size ≤ b) wl.heap.size (.slice VA k vc) k (lt.take k) rfl HQ9.out.2 w9.heap.size (va, vb, vA2, vn2, vc2) x3.tr rfl (Blk.new w9 59 #[.int .i64 va, .int .i64 vb, .slice vA2 vn2 vc2]) (TreeR.mono HT9.out fun b _ hb => ⟨Nat.le_trans HZ9.out hb, fun e => by have := (HOL.out b e.symm).2; omega⟩) (by omega) HQ9.out.1.size ?_; intro A' c' w10 ho hg hat)
                              refine ⟨⟨k + 1, by go_num, by omega, Lib.hid ⟨HQ9.out.1.grown hg HQ9.out.1.size fun b hb => (HQ9.out.2.lt b hb).1, ?_⟩⟩, by simp [intOf]; omega⟩
                              have e : lt.take (k + 1) = lt.take k ++ [x3.tr] := by
                                have hl := List.getElem?_eq_some_iff.1 HX3.out
                                rw [List.take_succ_eq_append_getElem hl.1, hl.2]
                              rw [e]; exact ho
                            · obtain rfl : k = rl := by omega
                              obtain ⟨VA, vc, rfl, -⟩ := HQ.out.2.form
                              go_wp2_with fail
                              rw [HQQ.out, HTQ.out]
                              have h1 := HM7.out.bel
                              have h2 := HQ.out.2
                              rw [List.take_of_length_le (by rw [HLL.out]; exact Nat.le_refl _)] at h2
                              have h3 := h1.size
                              exact ⟨_, _, _, rfl, h2.toSl (ok' := fun b => w.heap.size ≤ b) (fun b _ hb => by omega) (fun b hb => by omega), h1.via HQ.out.1⟩
                    · have q0 : (0 : Int) < (qn : Int) := by omega
                      have qp : 0 < qn := by omega
                      have qd : decide ((0 : Int) < (qn : Int)) = true := decide_eq_true q0
                      have qe : decide (0 < qn) = true := decide_eq_true qp
                      by_cases hfull : most ≤ ln
                      · obtain rfl : stE = st := by
                          rw [if_pos (Or.inr hfull)] at hrun
                          exact (Option.some.inj hrun).symm
                        have hfull' : (most : Int) ≤ (ln : Int) := by omega
                        clear hrun hqc hrc
                        have cBX := BX.cell
                        have fBX := BX.frozen
                        have lBX := BX.lt
                        go_upto_region 19 with fail
                        go_quiet (fail)
                        clear cBX fBX lBX
                        have HDQ := below_drewN (Below.refl wr.heap.size wr) nq
                        replace HMR := Lib.hid (HMR.out.via HDQ)
                        have HBR := Lib.hid (HBB2.out.1.via HDQ)
                        have HLE := Lib.hid (HIR.out.lst v)
                        clear HDQ HBB2 HIR HRR g3 g6 l0 BX HQN HLL
                        generalize wr.drewN nq = wR at *
                        go_upto_region 23 with fail
                        have HLV := Lib.hid (HMR.out.lst v hv)
                        obtain ⟨RA, rc, hvsr, hrc⟩ := HLV.out.form
                        obtain ⟨rl, hrl⟩ : ∃ rl, rl = (lstAt stE.lists v).length := ⟨_, rfl⟩
                        rw [← hrl] at hvsr hrc
                        have HRL := Lib.hid hrl
                        have HVS := Lib.hid hvsr
                        have hrm : rl ≤ 1000000 := by have h1 := HLE.out.1; rw [← HRL.out] at h1; omega
                        obtain ⟨cs, hlb, hcs, hcv⟩ := HMR.out.lbk
                        have l0 := hlb.cell v
                        rw [hcv v hv, hvsr] at l0
                        have g3 := HMR.out.que.blk.cell 3
                        simp only [List.getElem?_toArray, List.getElem?_cons_succ, List.getElem?_cons_zero] at g3
                        have BX := HBR.out
                        rw [HFO.out] at BX
                        clear hrl hvsr hlb hcs hcv cs
                        have cBX := BX.cell
                        have fBX := BX.frozen
                        have lBX := BX.lt
                        go_still_tail 9, (by kernel_rfl)
                        clear cBX fBX lBX
                        clear g3 l0
                        change wpList _ _ _ _ _ wR.drew
                        have hdr := (Below.refl wR.heap.size wR).drew
                        have HM5 := Lib.hid (HMR.out.via hdr)
                        have BX5 := BX.via hdr
                        clear hdr BX HMR HBR HLV
                        generalize wR.drew = wd at *
                        have HCT := Lib.hid (count_c (fun b => b < w.heap.size) A n c (v : Int) nd wd (HX.out.sl.via HM5.out.bel) HX.out.fok.1 HFB.out (by omega) hn)
                        have HB6 := Lib.hid BX5
                        have cBX5 := BX5.cell
                        have fBX5 := BX5.frozen
                        have lBX5 := BX5.lt
                        go_wp2_with fail
                        clear cBX5 fBX5 lBX5
                        refine HCT.out.mono ?_
                        clear HCT BX5
                        rintro e we ⟨rfl, hbe⟩
                        have HM6 := Lib.hid (HM5.out.via hbe)
                        have HB7 := Lib.hid (HB6.out.via hbe)
                        clear hbe HM5 HB6
                        obtain ⟨cv, hcv⟩ : ∃ cv, cv = cntV ((v : Int), nd) := ⟨_, rfl⟩
                        have HCV := Lib.hid hcv
                        rw [← hcv]
                        clear hcv
                        go_upto_region 25 with fail
                        obtain ⟨bb, hbb⟩ : ∃ bb : Bool, bb = decide (rl < most ∧ (cv = -1 ∨ (rl : Int) < cv)) := ⟨_, rfl⟩
                        have HBQ := Lib.hid hbb
                        clear hbb
                        go_cut [140] (fun s wc => ∃ wx, wx = wc ∧ s = .bool bb ∧ wx = we)
                        case first =>
                          by_cases h1 : rl < most
                          · have h1' : (rl : Int) < (most : Int) := by omega
                            by_cases h2 : cv = -1
                            · have hb : bb = true := by rw [HBQ.out]; simp [h1, h2]
                              subst h2
                              go_wp2_with fail
                              go_meet
                              exact ⟨_, rfl, congrArg Value.bool hb.symm, rfl⟩
                            · have h2' : (cv == -1) = false := by simpa using h2
                              by_cases h3 : (rl : Int) < cv
                              · have hb : bb = true := by rw [HBQ.out]; simp [h1, h3]
                                go_wp2_with fail
                                go_meet
                                exact ⟨_, rfl, congrArg Value.bool hb.symm, rfl⟩
                              · have hb : bb = false := by rw [HBQ.out]; simp [h2, h3]
                                go_wp2_with fail
                                go_meet
                                exact ⟨_, rfl, congrArg Value.bool hb.symm, rfl⟩
                          · have h1' : ¬ (rl : Int) < (most : Int) := by omega
                            have hb : bb = false := by rw [HBQ.out]; simp [h1]
                            go_wp2_with fail
                            go_meet
                            exact ⟨_, rfl, congrArg Value.bool hb.symm, rfl⟩
                        case rest =>
                          obtain ⟨wx, rfl, rfl, rfl⟩ := hcut
                          cases bb with
                          | true =>
                            have hq : trsV (v : Int) nd most = ([], false) := by
                              have h1 := of_decide_eq_true HBQ.out.symm
                              unfold trsV
                              rw [if_neg (by omega), Int.toNat_natCast, ← HEE.out, ← HRL.out, ← HCV.out, if_pos h1]
                            go_wp2_with fail
                            rw [HQQ.out, hq]
                            exact ⟨none, 0, 0, rfl, Sl.nil 0, HM6.out.bel⟩
                          | false =>
                            have HTQ := Lib.hid (show trsV (v : Int) nd most = ((lstAt stE.lists v).map CT.tr, true) by
                              have h1 := of_decide_eq_false HBQ.out.symm
                              unfold trsV
                              rw [if_neg (by omega), Int.toNat_natCast, ← HEE.out, ← HRL.out, ← HCV.out, if_neg h1])
                            obtain ⟨cs, hlb, hcs, hcv⟩ := HM6.out.lbk
                            have l0 := hlb.cell v
                            rw [hcv v hv, HVS.out] at l0
                            have g3 := HM6.out.que.blk.cell 3
                            simp only [List.getElem?_toArray, List.getElem?_cons_succ, List.getElem?_cons_zero] at g3
                            have BX7 := HB7.out
                            clear hlb hcs hcv cs
                            have cBX7 := BX7.cell
                            have fBX7 := BX7.frozen
                            have lBX7 := BX7.lt
                            go_upto_region 28 with fail
                            go_quiet (fail)
                            clear cBX7 fBX7 lBX7
                            have HM7 := Lib.hid (HM6.out.via (below_drewN (Below.refl wx.heap.size wx) nq))
                            clear l0 g3 BX7 HM6 HB7
                            generalize wx.drewN nq = wl at *
                            have HLL := Lib.hid (show ((lstAt stE.lists v).map CT.tr).length = rl by rw [List.length_map]; exact HRL.out.symm)
                            obtain ⟨lt, hlt⟩ : ∃ lt, lt = (lstAt stE.lists v).map CT.tr := ⟨_, rfl⟩
                            rw [← hlt] at HLL HTQ
                            have HLT := Lib.hid hlt
                            clear hlt
                            go_wp2_with fail
                            go_loopw [16, 150] (fun ov q wz => ∃ (k : Nat), q = .int .i64 (k : Int) ∧ k ≤ rl ∧ Hid (Below wl.heap.size wl wz ∧ Own TrE 59 (fun b => wl.heap.size ≤ b) wz wl.heap.size ov k (lt.take k))) (fun _ q _ => rl - (intOf q).toNat)
                            case atStart => exact ⟨0, rfl, Nat.zero_le _, Lib.hid ⟨Below.refl _ _, Own.nil _ _⟩⟩
                            case round =>
                              obtain ⟨k, rfl, hk, HQ⟩ := hrel
                              by_cases hkr : k < rl
                              · have hown := (HM7.out.via HQ.out.1).lst v hv
                                rw [HVS.out, ← HRL.out] at hown
                                obtain ⟨g, rfl⟩ := hown.addrT (by omega)
                                obtain ⟨p3, x3, hx3, ht3, hc3, -, -, -⟩ := hown.elt hkr
                                have f0 := hc3 0 _ rfl
                                simp only [PtE, Nat.mul_one, Nat.add_zero] at f0
                                have hok := HLE.out.2 x3 (List.mem_of_getElem? hx3)
                                have HPL := Lib.hid (plain_n 5000 _ p3 x3 _ (show PtR _ _ p3 x3 from ht3) hok.1 hok.2)
                                have HX3 := Lib.hid (show lt[k]? = some x3.tr by rw [HLT.out, List.getElem?_map, hx3]; rfl)
                                have k0 : (0 : Int) ≤ (k : Int) := by omega
                                have k1 : (k : Int) < (rl : Int) := by omega
                                have hw3 : IntKind.i64.wrap ((k : Int) + 1) = (k : Int) + 1 := IntWalk.i64_in _ (by omega)
                                obtain ⟨VA, vc, rfl, -⟩ := HQ.out.2.form
                                clear hown hx3 ht3 hc3 hok
                                go_wp2_with fail
                                clear f0
                                refine HPL.out.mono ?_
                                clear HPL
                                rintro e w9 ⟨⟨va, vb, vA2, vn2, vc2⟩, rfl, hT9, hb9⟩
                                have hal := (Below.refl w9.heap.size w9).al (.cells #[.int .i64 va, .int .i64 vb, .slice vA2 vn2 vc2] 59)
                                have HQ9 := Lib.hid (And.intro ((HQ.out.1.via hb9).via hal) ((HQ.out.2.via hb9).via hal))
                                have HT9 := Lib.hid (hT9.via hal)
                                have HZ9 := Lib.hid HQ.out.1.size
                                have HOL := Lib.hid HQ.out.2.lt
                                clear hal hb9 hT9 HQ
                                simp only [trVal]
                                go_wp2_with (at_builtin; refine wpList_append_tr _ rfl (.tmp 154) (.tmp 157) rfl (fun b => wl.heap.size ≤ b) wl.heap.size (.slice VA k vc) k (lt.take k) rfl HQ9.out.2 w9.heap.size (va, vb, vA2, vn2, vc2) x3.tr rfl (Blk.new w9 59 #[.int .i64 va, .int .i64 vb, .slice vA2 vn2 vc2]) (TreeR.mono HT9.out fun b _ hb => ⟨Nat.le_trans HZ9.out hb, fun e => by have := (HOL.out b e.symm).2; omega⟩) (by omega) HQ9.out.1.size ?_; intro A' c' w10 ho hg hat)
                                refine ⟨⟨k + 1, by go_num, by omega, Lib.hid ⟨HQ9.out.1.grown hg HQ9.out.1.size fun b hb => (HQ9.out.2.lt b hb).1, ?_⟩⟩, by simp [intOf]; omega⟩
                                have e : lt.take (k + 1) = lt.take k ++ [x3.tr] := by
                                  have hl := List.getElem?_eq_some_iff.1 HX3.out
                                  rw [List.take_succ_eq_append_getElem hl.1, hl.2]
                                rw [e]; exact ho
                              · obtain rfl : k = rl := by omega
                                obtain ⟨VA, vc, rfl, -⟩ := HQ.out.2.form
                                go_wp2_with fail
                                rw [HQQ.out, HTQ.out]
                                have h1 := HM7.out.bel
                                have h2 := HQ.out.2
                                rw [List.take_of_length_le (by rw [HLL.out]; exact Nat.le_refl _)] at h2
                                have h3 := h1.size
                                exact ⟨_, _, _, rfl, h2.toSl (ok' := fun b => w.heap.size ≤ b) (fun b _ hb => by omega) (fun b hb => by omega), h1.via HQ.out.1⟩
                      · have hfull' : (ln : Int) < (most : Int) := by omega
                        have hne : ¬ (st.q = [] ∨ most ≤ ln) := fun e => by
                          rcases e with e | e
                          · have h1 := HQN.out; rw [e] at h1; exact hq0 h1
                          · exact hfull e
                        rw [if_neg hne] at hrun
                        have HRN := Lib.hid hrun
                        clear hrun hne hrc
                        have cBX := BX.cell
                        have fBX := BX.frozen
                        have lBX := BX.lt
                        go_upto_region 19 with fail
                        go_quiet (fail)
                        clear cBX fBX lBX
                        have HDQ := below_drewN (Below.refl wr.heap.size wr) nq
                        replace HMR := Lib.hid (HMR.out.via HDQ)
                        have HBR := Lib.hid (And.intro (HBB2.out.1.via HDQ) HBB2.out.2)
                        clear HDQ HBB2 HRR g3 g6 l0 BX HLL
                        generalize wr.drewN nq = wR at *
                        go_upto_region 20 with fail
                        obtain ⟨k1, hk1⟩ : ∃ k1, st.q.length = k1 + 1 := ⟨st.q.length - 1, by have := HQN.out; omega⟩
                        have hqu := HMR.out.que
                        rw [hk1] at hqu
                        obtain ⟨g, rfl⟩ := hqu.own.addrT (by omega)
                        have hsm := (HIR.out.small HX.out.big).1
                        have hgq : tgR g = .que := HMR.out.qtg g rfl
                        have hpo := pop_c w.heap.size bl (.slice A n c) (.int .i64 (v : Int)) (.int .i64 (most : Int)) (.slice (some ⟨lb, 0, none⟩) n n) (.map (some bs)) (.map (some bw)) (OkT tgR) k1 g qc st.q wR hqu (by omega) (by have := HQN.out; omega) (fun b hb e => by
                          have h1 : tgR b = .tree := hb
                          rw [e, HMR.out.fix.1] at h1; cases h1)
                        have HPO := Lib.hid hpo
                        have HGQ := Lib.hid hgq
                        have hta : ∀ (v : Value) (w : World), (Instr.typeAssert (.iface 114 v) 20 114 true).run Tryd.prog w = .ok (.tuple #[v, .bool true]) w := fun _ _ => by kernel_rfl
                        clear hqu hpo hgq hsm qd qe qp q0
                        go_wp2_with fail
                        refine HPO.out.mono ?_
                        clear HPO
                        rintro e w4 ⟨p, x, q', hpq, rfl, hpt, hqv, hf⟩
                        have hql := hqv.own.len
                        subst hql
                        have hbx : w.heap.size < wR.heap.size := HBR.out.1.lt
                        have hM4 := HMR.out.setQ (S := fun b => b = bl ∨ b = g) hf (fun b hb _ => by
                          rcases hb with hb | hb
                          · exact Or.inl hb
                          · rw [hb]; exact Or.inr HGQ.out) (fun _ _ => rfl) (fun b hb => ⟨(HMR.out.rng b hb).1, Nat.lt_of_lt_of_le (HMR.out.rng b hb).2 hf.size⟩) hqv (fun b hb => by rw [← Option.some.inj hb]; exact HGQ.out)
                        have hB4 : Blk w4 w.heap.size 80 fo := (hf.block _ hbx fun e => by
                          have h1 := HBR.out.2
                          rcases e with e | e
                          · rw [e, HMR.out.fix.1] at h1; cases h1
                          · rw [e, HGQ.out] at h1; cases h1).trans HBR.out.1
                        have hrun := HRN.out
                        rw [hpq, List.getLast?_concat, List.dropLast_concat] at hrun
                        simp only at hrun
                        have hqk := HIR.out.qok x (popQ_mem x (by rw [hpq]; simp))
                        have HI4 := Lib.hid (HIR.out.pop (q := q') (by omega) fun y hy => popQ_mem y (by rw [hpq]; exact List.mem_append_left _ hy))
                        have HRN4 := Lib.hid hrun
                        have HQK := Lib.hid hqk
                        have hal := (Below.refl w4.heap.size w4).al (.cells #[.int .i64 (x.1.1 : Int), .int .i64 (x.1.2.1 : Int), .int .i64 (x.1.2.2.1 : Int), .int .i64 (x.1.2.2.2.1 : Int), .int .i64 (x.1.2.2.2.2.1 : Int), .int .i64 (x.1.2.2.2.2.2 : Int), .pointer (ptA p)] 114)
                        have BY := Blk.new w4 114 #[.int .i64 (x.1.1 : Int), .int .i64 (x.1.2.1 : Int), .int .i64 (x.1.2.2.1 : Int), .int .i64 (x.1.2.2.2.1 : Int), .int .i64 (x.1.2.2.2.2.1 : Int), .int .i64 (x.1.2.2.2.2.2 : Int), .pointer (ptA p)]
                        have HM5 := Lib.hid (hM4.via hal)
                        have HB5 := Lib.hid (And.intro (hB4.via hal) HBR.out.2)
                        have HPT := Lib.hid (PtR.via (show PtR (OkT tgR) w4 p x.2 from PtR.mono hpt fun b _ hb => hb.1) hal)
                        clear hpt hqv hf hM4 hB4 hrun hqk hal hpq HMR HBR HIR HRN
                        simp only [cdVal]
                        have cBY := BY.cell
                        have fBY := BY.frozen
                        have lBY := BY.lt
                        go_upto_region 21 with fail
                        clear cBY fBY lBY
                        generalize w4.alloc (.cells #[.int .i64 (x.1.1 : Int), .int .i64 (x.1.2.1 : Int), .int .i64 (x.1.2.2.1 : Int), .int .i64 (x.1.2.2.2.1 : Int), .int .i64 (x.1.2.2.2.2.1 : Int), .int .i64 (x.1.2.2.2.2.2 : Int), .pointer (ptA p)] 114) = w5 at *
                        obtain ⟨SA, sc, -, hBx, -⟩ := HPT.out.open
                        by_cases hbig : 5000 < x.2.size
                        · have hst : { st with q := q' } = stE := by
                            have h1 := HRN4.out
                            rw [if_pos hbig] at h1
                            exact Option.some.inj h1
                          have HMR := HM5
                          rw [hst] at HMR
                          have HLE := Lib.hid (HI4.out.lst v)
                          rw [hst] at HLE
                          have HBR := Lib.hid HB5.out.1
                          clear hst HM5 HI4 HB5 HRN4 HQN
                          have cBY := BY.cell
                          have fBY := BY.frozen
                          have lBY := BY.lt
                          have chBx := hBx.cell
                          have fhBx := hBx.frozen
                          have lhBx := hBx.lt
                          go_upto_region 23 with fail
                          clear cBY fBY lBY chBx fhBx lhBx
                          clear BY hBx HPT HQK
                          have HLV := Lib.hid (HMR.out.lst v hv)
                          obtain ⟨RA, rc, hvsr, hrc⟩ := HLV.out.form
                          obtain ⟨rl, hrl⟩ : ∃ rl, rl = (lstAt stE.lists v).length := ⟨_, rfl⟩
                          rw [← hrl] at hvsr hrc
                          have HRL := Lib.hid hrl
                          have HVS := Lib.hid hvsr
                          have hrm : rl ≤ 1000000 := by have h1 := HLE.out.1; rw [← HRL.out] at h1; omega
                          obtain ⟨cs, hlb, hcs, hcv⟩ := HMR.out.lbk
                          have l0 := hlb.cell v
                          rw [hcv v hv, hvsr] at l0
                          have g3 := HMR.out.que.blk.cell 3
                          simp only [List.getElem?_toArray, List.getElem?_cons_succ, List.getElem?_cons_zero] at g3
                          have BX := HBR.out
                          rw [HFO.out] at BX
                          clear hrl hvsr hlb hcs hcv cs
                          have cBX := BX.cell
                          have fBX := BX.frozen
                          have lBX := BX.lt
                          go_still_tail 9, (by kernel_rfl)
                          clear cBX fBX lBX
                          clear g3 l0
                          change wpList _ _ _ _ _ w5.drew
                          have hdr := (Below.refl w5.heap.size w5).drew
                          have HM5 := Lib.hid (HMR.out.via hdr)
                          have BX5 := BX.via hdr
                          clear hdr BX HMR HBR HLV
                          generalize w5.drew = wd at *
                          have HCT := Lib.hid (count_c (fun b => b < w.heap.size) A n c (v : Int) nd wd (HX.out.sl.via HM5.out.bel) HX.out.fok.1 HFB.out (by omega) hn)
                          have HB6 := Lib.hid BX5
                          have cBX5 := BX5.cell
                          have fBX5 := BX5.frozen
                          have lBX5 := BX5.lt
                          go_wp2_with fail
                          clear cBX5 fBX5 lBX5
                          refine HCT.out.mono ?_
                          clear HCT BX5
                          rintro e we ⟨rfl, hbe⟩
                          have HM6 := Lib.hid (HM5.out.via hbe)
                          have HB7 := Lib.hid (HB6.out.via hbe)
                          clear hbe HM5 HB6
                          obtain ⟨cv, hcv⟩ : ∃ cv, cv = cntV ((v : Int), nd) := ⟨_, rfl⟩
                          have HCV := Lib.hid hcv
                          rw [← hcv]
                          clear hcv
                          go_upto_region 25 with fail
                          obtain ⟨bb, hbb⟩ : ∃ bb : Bool, bb = decide (rl < most ∧ (cv = -1 ∨ (rl : Int) < cv)) := ⟨_, rfl⟩
                          have HBQ := Lib.hid hbb
                          clear hbb
                          go_cut [140] (fun s wc => ∃ wx, wx = wc ∧ s = .bool bb ∧ wx = we)
                          case first =>
                            by_cases h1 : rl < most
                            · have h1' : (rl : Int) < (most : Int) := by omega
                              by_cases h2 : cv = -1
                              · have hb : bb = true := by rw [HBQ.out]; simp [h1, h2]
                                subst h2
                                go_wp2_with fail
                                go_meet
                                exact ⟨_, rfl, congrArg Value.bool hb.symm, rfl⟩
                              · have h2' : (cv == -1) = false := by simpa using h2
                                by_cases h3 : (rl : Int) < cv
                                · have hb : bb = true := by rw [HBQ.out]; simp [h1, h3]
                                  go_wp2_with fail
                                  go_meet
                                  exact ⟨_, rfl, congrArg Value.bool hb.symm, rfl⟩
                                · have hb : bb = false := by rw [HBQ.out]; simp [h2, h3]
                                  go_wp2_with fail
                                  go_meet
                                  exact ⟨_, rfl, congrArg Value.bool hb.symm, rfl⟩
                            · have h1' : ¬ (rl : Int) < (most : Int) := by omega
                              have hb : bb = false := by rw [HBQ.out]; simp [h1]
                              go_wp2_with fail
                              go_meet
                              exact ⟨_, rfl, congrArg Value.bool hb.symm, rfl⟩
                          case rest =>
                            obtain ⟨wx, rfl, rfl, rfl⟩ := hcut
                            cases bb with
                            | true =>
                              have hq : trsV (v : Int) nd most = ([], false) := by
                                have h1 := of_decide_eq_true HBQ.out.symm
                                unfold trsV
                                rw [if_neg (by omega), Int.toNat_natCast, ← HEE.out, ← HRL.out, ← HCV.out, if_pos h1]
                              go_wp2_with fail
                              rw [HQQ.out, hq]
                              exact ⟨none, 0, 0, rfl, Sl.nil 0, HM6.out.bel⟩
                            | false =>
                              have HTQ := Lib.hid (show trsV (v : Int) nd most = ((lstAt stE.lists v).map CT.tr, true) by
                                have h1 := of_decide_eq_false HBQ.out.symm
                                unfold trsV
                                rw [if_neg (by omega), Int.toNat_natCast, ← HEE.out, ← HRL.out, ← HCV.out, if_neg h1])
                              obtain ⟨cs, hlb, hcs, hcv⟩ := HM6.out.lbk
                              have l0 := hlb.cell v
                              rw [hcv v hv, HVS.out] at l0
                              have g3 := HM6.out.que.blk.cell 3
                              simp only [List.getElem?_toArray, List.getElem?_cons_succ, List.getElem?_cons_zero] at g3
                              have BX7 := HB7.out
                              clear hlb hcs hcv cs
                              have cBX7 := BX7.cell
                              have fBX7 := BX7.frozen
                              have lBX7 := BX7.lt
                              go_upto_region 28 with fail
                              go_quiet (fail)
                              clear cBX7 fBX7 lBX7
                              have HM7 := Lib.hid (HM6.out.via (below_drewN (Below.refl wx.heap.size wx) nq))
                              clear l0 g3 BX7 HM6 HB7
                              generalize wx.drewN nq = wl at *
                              have HLL := Lib.hid (show ((lstAt stE.lists v).map CT.tr).length = rl by rw [List.length_map]; exact HRL.out.symm)
                              obtain ⟨lt, hlt⟩ : ∃ lt, lt = (lstAt stE.lists v).map CT.tr := ⟨_, rfl⟩
                              rw [← hlt] at HLL HTQ
                              have HLT := Lib.hid hlt
                              clear hlt
                              go_wp2_with fail
                              go_loopw [16, 150] (fun ov q wz => ∃ (k : Nat), q = .int .i64 (k : Int) ∧ k ≤ rl ∧ Hid (Below wl.heap.size wl wz ∧ Own TrE 59 (fun b => wl.heap.size ≤ b) wz wl.heap.size ov k (lt.take k))) (fun _ q _ => rl - (intOf q).toNat)
                              case atStart => exact ⟨0, rfl, Nat.zero_le _, Lib.hid ⟨Below.refl _ _, Own.nil _ _⟩⟩
                              case round =>
                                obtain ⟨k, rfl, hk, HQ⟩ := hrel
                                by_cases hkr : k < rl
                                · have hown := (HM7.out.via HQ.out.1).lst v hv
                                  rw [HVS.out, ← HRL.out] at hown
                                  obtain ⟨g, rfl⟩ := hown.addrT (by omega)
                                  obtain ⟨p3, x3, hx3, ht3, hc3, -, -, -⟩ := hown.elt hkr
                                  have f0 := hc3 0 _ rfl
                                  simp only [PtE, Nat.mul_one, Nat.add_zero] at f0
                                  have hok := HLE.out.2 x3 (List.mem_of_getElem? hx3)
                                  have HPL := Lib.hid (plain_n 5000 _ p3 x3 _ (show PtR _ _ p3 x3 from ht3) hok.1 hok.2)
                                  have HX3 := Lib.hid (show lt[k]? = some x3.tr by rw [HLT.out, List.getElem?_map, hx3]; rfl)
                                  have k0 : (0 : Int) ≤ (k : Int) := by omega
                                  have k1 : (k : Int) < (rl : Int) := by omega
                                  have hw3 : IntKind.i64.wrap ((k : Int) + 1) = (k : Int) + 1 := IntWalk.i64_in _ (by omega)
                                  obtain ⟨VA, vc, rfl, -⟩ := HQ.out.2.form
                                  clear hown hx3 ht3 hc3 hok
                                  go_wp2_with fail
                                  clear f0
                                  refine HPL.out.mono ?_
                                  clear HPL
                                  rintro e w9 ⟨⟨va, vb, vA2, vn2, vc2⟩, rfl, hT9, hb9⟩
                                  have hal := (Below.refl w9.heap.size w9).al (.cells #[.int .i64 va, .int .i64 vb, .slice vA2 vn2 vc2] 59)
                                  have HQ9 := Lib.hid (And.intro ((HQ.out.1.via hb9).via hal) ((HQ.out.2.via hb9).via hal))
                                  have HT9 := Lib.hid (hT9.via hal)
                                  have HZ9 := Lib.hid HQ.out.1.size
                                  have HOL := Lib.hid HQ.out.2.lt
                                  clear hal hb9 hT9 HQ
                                  simp only [trVal]
                                  go_wp2_with (at_builtin; refine wpList_append_tr _ rfl (.tmp 154) (.tmp 157) rfl (fun b => wl.heap.size ≤ b) wl.heap.size (.slice VA k vc) k (lt.take k) rfl HQ9.out.2 w9.heap.size (va, vb, vA2, vn2, vc2) x3.tr rfl (Blk.new w9 59 #[.int .i64 va, .int .i64 vb, .slice vA2 vn2 vc2]) (TreeR.mono HT9.out fun b _ hb => ⟨Nat.le_trans HZ9.out hb, fun e => by have := (HOL.out b e.symm).2; omega⟩) (by omega) HQ9.out.1.size ?_; intro A' c' w10 ho hg hat)
                                  refine ⟨⟨k + 1, by go_num, by omega, Lib.hid ⟨HQ9.out.1.grown hg HQ9.out.1.size fun b hb => (HQ9.out.2.lt b hb).1, ?_⟩⟩, by simp [intOf]; omega⟩
                                  have e : lt.take (k + 1) = lt.take k ++ [x3.tr] := by
                                    have hl := List.getElem?_eq_some_iff.1 HX3.out
                                    rw [List.take_succ_eq_append_getElem hl.1, hl.2]
                                  rw [e]; exact ho
                                · obtain rfl : k = rl := by omega
                                  obtain ⟨VA, vc, rfl, -⟩ := HQ.out.2.form
                                  go_wp2_with fail
                                  rw [HQQ.out, HTQ.out]
                                  have h1 := HM7.out.bel
                                  have h2 := HQ.out.2
                                  rw [List.take_of_length_le (by rw [HLL.out]; exact Nat.le_refl _)] at h2
                                  have h3 := h1.size
                                  exact ⟨_, _, _, rfl, h2.toSl (ok' := fun b => w.heap.size ≤ b) (fun b _ hb => by omega) (fun b hb => by omega), h1.via HQ.out.1⟩
                        · have hbig' : x.2.size ≤ 5000 := by omega
                          have hrun := HRN4.out
                          rw [if_neg hbig] at hrun
                          have HRN5 := Lib.hid hrun
                          have HTK := Lib.hid (take_c w bl lb bs bw A n c v most (restK nd 0) nd HX.out x p tgR { st with q := q' } _ vsR FR w5 HM5.out HQK.out.1 HQK.out.2.1 HQK.out.2.2.1 hbig' HPT.out HI4.out)
                          have HI6 := Lib.hid (takeL_inv HX.out.fok (x := x) HQK.out.1 HQK.out.2.1 HQK.out.2.2.1 hbig' HI4.out).1
                          have hbx5 : w.heap.size < w5.heap.size := HB5.out.1.lt
                          unfold cdVal at HTK
                          clear hrun HRN4 HQK HPT HI4
                          have cBY := BY.cell
                          have fBY := BY.frozen
                          have lBY := BY.lt
                          have chBx := hBx.cell
                          have fhBx := hBx.frozen
                          have lhBx := hBx.lt
                          go_wp2_with fail
                          clear cBY fBY lBY chBx fhBx lhBx
                          clear BY hBx
                          refine HTK.out.mono ?_
                          clear HTK
                          rintro e w6 ⟨rfl, tg6, qv6, vs6, F6, hm6, ht6, hf6⟩
                          have HM6 := Lib.hid hm6
                          have HB6 := Lib.hid (show Blk w6 w.heap.size 80 fo ∧ tg6 w.heap.size = .free from ⟨(hf6.block _ hbx5 fun e => e.1 HB5.out.2).trans HB5.out.1, (ht6 _ hbx5).trans HB5.out.2⟩)
                          clear hm6 ht6 hf6 HM5 HB5
                          go_wp2_with fail
                          go_roundg (d1)
                          case measure => omega
                          case rel => exact ⟨_, tg6, qv6, vs6, F6, HM6, HI6, HRN5, HB6⟩
end Go.Proofs.YthiikgjeamoocaaDoor

