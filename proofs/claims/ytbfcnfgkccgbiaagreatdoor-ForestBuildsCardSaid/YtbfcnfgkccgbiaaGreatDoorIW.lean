/- Texts IW, laid together. -/
import Derived.Test.YtbfcnfgkccgbiaaGreatDoorJ3
import Derived.Test.YtbfcnfgkccgbiaaGreatDoorBI
import Derived.Test.YtbfcnfgkccgbiaaGreatDoorC2




namespace Go.Proofs.YtbfcnfgkccgbiaaGreatDoor
open Go.RowKit

theorem Sl.upS {ok : Nat → Prop} {w : World} {A : Option Addr} {n c : Nat} {l : List Sy} (h : Sl SyE ok w A n c l) : Sl SiE ok w A n c (l.map embS) := by
  obtain ⟨h1, h2, raw, h3, h4, h5⟩ := h
  have e : raw = l := List.ext_getElem (by omega) fun i a b => h5 i _ _ (List.getElem?_eq_getElem a) (List.getElem?_eq_getElem b)
  have ef : ∀ l : List Sy, flat SiE (l.map embS) = flat SyE l := fun l => by
    induction l with
    | nil => rfl
    | cons x l ih => simp only [flat, List.map_cons, List.flatMap_cons] at ih ⊢; rw [ih]; rfl
  refine ⟨by rw [List.length_map]; exact h1, h2, l.map embS, by rw [List.length_map]; exact h1, ?_, fun i r x hr hx => by rw [hr] at hx; exact Option.some.inj hx⟩
  rw [e, ← ef] at h4; exact h4
theorem Sl.upR {ok : Nat → Prop} {w : World} {A : Option Addr} {n c : Nat} {l : List Ru} (h : Sl RuE ok w A n c l) : Sl RiE ok w A n c (l.map embR) := by
  obtain ⟨h1, h2, raw, h3, h4, h5⟩ := h
  have ef : ∀ raw : List (Nat × SlV), flat RiE (raw.map fun r => ((r.1 : Int), r.2)) = flat RuE raw := fun raw => by
    induction raw with
    | nil => rfl
    | cons x l ih => simp only [flat, List.map_cons, List.flatMap_cons] at ih ⊢; rw [ih]; rfl
  refine ⟨by rw [List.length_map]; exact h1, h2, raw.map fun r => ((r.1 : Int), r.2), by rw [List.length_map]; exact h3, by rw [ef]; exact h4, fun i r x hr hx => ?_⟩
  rw [List.getElem?_map] at hr hx
  obtain ⟨r0, hr0, rfl⟩ := Option.map_eq_some_iff.1 hr
  obtain ⟨x0, hx0, rfl⟩ := Option.map_eq_some_iff.1 hx
  obtain ⟨k1, k2⟩ := h5 i r0 x0 hr0 hx0
  exact ⟨by simp only [embR]; rw [k1], Sl.upS k2⟩
theorem Ints.slLt {w : World} {A : Option Addr} {n c : Nat} {xs : List Int} (h : Ints w A n c xs) : Sl InE (fun b => b < w.heap.size) w A n c xs := by
  rcases Nat.eq_zero_or_pos n with h0 | h0
  · have hx : xs = [] := List.eq_nil_of_length_eq_zero (by rw [h.1, h0])
    subst hx
    exact ⟨h.1, h.2.1, [], h.1, fun hne => absurd rfl hne, fun i r x hr => by simp at hr⟩
  · obtain ⟨b, off, e, hc⟩ := h.2.2 h0
    refine h.slE.mono fun b' _ hb => ?_
    obtain ⟨o, ho⟩ := hb
    rw [e] at ho
    have e1 : b = b' := by injection ho with ho; injection ho
    rw [← e1]
    exact World.block_lt_of_cell? _ _ (hc 0 h0)
def PickP (ok : Nat → Prop) (w : World) (e : Ending) (w' : World) : Prop :=
  ∃ (T N S : Int) (A : Option Addr) (n c : Nat) (rs : List Ri) (wA : Option Addr) (wn wc : Nat) (xs : List Int), e = .returned (.tuple #[.agg #[.int .i64 T, .int .i64 N, .int .i64 S, .slice A n c], .slice wA wn wc]) ∧
    Sl RiE (fun b => ok b ∨ w.heap.size ≤ b) w' A n c rs ∧ Sl InE (fun b => ok b ∨ w.heap.size ≤ b) w' wA wn wc xs ∧ Below w.heap.size w w'
/-- .. and where there are numbers, the grammar is a valid one and the word is of its terminals -/
def PickP2 (ok : Nat → Prop) (ln most : Nat) (w : World) (e : Ending) (w' : World) : Prop :=
  ∃ (T N S : Int) (A : Option Addr) (n c : Nat) (rs : List Ri) (wA : Option Addr) (wn wc : Nat) (xs : List Int), e = .returned (.tuple #[.agg #[.int .i64 T, .int .i64 N, .int .i64 S, .slice A n c], .slice wA wn wc]) ∧
    Sl RiE (fun b => ok b ∨ w.heap.size ≤ b) w' A n c rs ∧ Sl InE (fun b => ok b ∨ w.heap.size ≤ b) w' wA wn wc xs ∧ Below w.heap.size w w' ∧
    (ln ≠ 0 → ∃ g : Gr, GrOk g ∧ T = (g.terms : Int) ∧ N = (g.nons : Int) ∧ S = (g.start : Int) ∧ rs = g.rules.map embR ∧ (∀ x ∈ xs, 0 ≤ x ∧ x < T) ∧ xs.length ≤ most)
theorem MadeG.grOk9 {g : Gr} (h : MadeG g) : GrOk g :=
  ⟨⟨⟨h.terms.1, by have := h.terms.2; omega⟩, ⟨h.nons.1, by have := h.nons.2; omega⟩, h.start, by have := h.count; omega, fun r hr => (h.ok r hr).1, fun r hr => ⟨by have := (h.ok r hr).2.1; omega, fun s hs => (h.ok r hr).2.2 s hs⟩⟩, h.nodup⟩
set_option maxRecDepth 100000 in
set_option maxHeartbeats 4000000 in
theorem pick2_c (ok : Nat → Prop) (T N S : Int) (A : Option Addr) (n c : Nat) (rs : List Ri) (wA : Option Addr) (wn wcp : Nat) (xs : List Int) (lA : Option Addr) (ln lc : Nat) (ls : List Int) (most : Nat) (w : World) (hl : Sl RiE ok w A n c rs) (hx : Sl InE ok w wA wn wcp xs) (hls : Ints w lA ln lc ls) (hm : most ≤ 1000000) :
    Calls Tryz.prog 5 #[.agg #[.int .i64 T, .int .i64 N, .int .i64 S, .slice A n c], .slice wA wn wcp, .slice lA ln lc, .int .i64 (most : Int)] w (PickP2 ok ln most w) := by
  have hal := ((Below.refl w.heap.size w).al (.cells #[.int .i64 T, .int .i64 N, .int .i64 S, .slice A n c] 24)).al (.cells #[.int .i64 0, .int .i64 0, .int .i64 0, .slice none 0 0] 24)
  have BG := (Blk.new w 24 #[.int .i64 T, .int .i64 N, .int .i64 S, .slice A n c]).al (.cells #[.int .i64 0, .int .i64 0, .int .i64 0, .slice none 0 0] 24)
  have BR := Blk.newAt (w.alloc (.cells #[.int .i64 T, .int .i64 N, .int .i64 S, .slice A n c] 24)) 24 #[.int .i64 0, .int .i64 0, .int .i64 0, .slice none 0 0] (w.heap.size + 1) (by simp)
  have HL := Lib.hid ((hl.mono (ok' := fun b => (ok b ∨ w.heap.size ≤ b) ∧ b ≠ w.heap.size + 1 ∧ b ≠ w.heap.size) (fun b hb h => ⟨Or.inl h, by omega, by omega⟩)).via hal)
  have HX := Lib.hid ((hx.mono (ok' := fun b => (ok b ∨ w.heap.size ≤ b) ∧ b ≠ w.heap.size + 1 ∧ b ≠ w.heap.size) (fun b hb h => ⟨Or.inl h, by omega, by omega⟩)).via hal)
  have HLS := Lib.hid (hls.via hal)
  have HAL := Lib.hid hal
  have HSZ := Lib.hid (show ((w.alloc (.cells #[.int .i64 T, .int .i64 N, .int .i64 S, .slice A n c] 24)).alloc (.cells #[.int .i64 0, .int .i64 0, .int .i64 0, .slice none 0 0] 24)).heap.size = w.heap.size + 2 by simp)
  clear hl hx hal
  clear hls
  go_enter Tryz.func5, Tryz.ntmps5
  go_upto_region 1 with fail
  generalize (w.alloc (.cells #[.int .i64 T, .int .i64 N, .int .i64 S, .slice A n c] 24)).alloc (.cells #[.int .i64 0, .int .i64 0, .int .i64 0, .slice none 0 0] 24) = W2 at *
  have HBG := Lib.hid BG
  have HBR := Lib.hid BR
  by_cases hn : ln = 0
  · have e1 : ((ln : Int) == 0) = true := by simp [hn]
    have cBG := BG.cell
    have fBG := BG.frozen
    have lBG := BG.lt
    have cBR := BR.cell
    have fBR := BR.frozen
    have lBR := BR.lt
    go_wp2_with fail
    refine bodyPost_ret (v := .tuple #[.agg #[.int .i64 T, .int .i64 N, .int .i64 S, .slice A n c], .slice wA wn wcp]) (by simp [results, Tryz.results5, go_sem, cBR]) rfl ⟨T, N, S, A, n, c, rs, wA, wn, wcp, xs, rfl, ?_, ?_, ?_, fun h => absurd hn h⟩
    · exact (HL.out.agr ((((Agr.setCell (p := ⟨w.heap.size + 1, 0, none⟩) _ fun b hb => hb.2.1).trans (Agr.setCell (p := ⟨w.heap.size + 1, 1, none⟩) _ fun b hb => hb.2.1)).trans (Agr.setCell (p := ⟨w.heap.size + 1, 2, none⟩) _ fun b hb => hb.2.1)).trans (Agr.setCell (p := ⟨w.heap.size + 1, 3, none⟩) _ fun b hb => hb.2.1))).mono fun _ _ h => h.1
    · exact (HX.out.agr ((((Agr.setCell (p := ⟨w.heap.size + 1, 0, none⟩) _ fun b hb => hb.2.1).trans (Agr.setCell (p := ⟨w.heap.size + 1, 1, none⟩) _ fun b hb => hb.2.1)).trans (Agr.setCell (p := ⟨w.heap.size + 1, 2, none⟩) _ fun b hb => hb.2.1)).trans (Agr.setCell (p := ⟨w.heap.size + 1, 3, none⟩) _ fun b hb => hb.2.1))).mono fun _ _ h => h.1
    · exact (((HAL.out.setCell (by simp) _).setCell (by simp) _).setCell (by simp) _).setCell (by simp) _
  · have e1 : ((ln : Int) == 0) = false := by simp [hn]
    have cBG := BG.cell
    have fBG := BG.frozen
    have lBG := BG.lt
    go_wp2_with fail
    clear cBG fBG lBG
    refine (grammar_c lA ln lc ls W2 HLS.out).mono ?_
    rintro e w3 ⟨g, gA, gn, gc, rfl, hmg, hgl, hb3⟩
    have HG3 := Lib.hid (HBG.out.via hb3)
    have HR3 := Lib.hid (HBR.out.via hb3)
    have HA3 := Lib.hid (HAL.out.trans (hb3.mono HAL.out.size))
    have HX3 := Lib.hid (HX.out.via hb3)
    have HGL := Lib.hid (hgl.mono (ok' := fun b => (ok b ∨ w.heap.size ≤ b) ∧ b ≠ w.heap.size + 1 ∧ b ≠ w.heap.size) fun b _ hb => by have h : W2.heap.size ≤ b := hb; have := HSZ.out; exact ⟨Or.inr (by omega), by omega, by omega⟩)
    have HMG := Lib.hid hmg
    have BG3 := HG3.out
    clear hgl hb3 HL HX HLS HAL HBG HBR BG BR hmg
    simp only [grVal]
    have cBG3 := BG3.cell
    have fBG3 := BG3.frozen
    have lBG3 := BG3.lt
    go_upto_region 4 with fail
    clear cBG3 fBG3 lBG3
    have HG4 := Lib.hid (show Blk ((((w3.setCell ⟨w.heap.size, 0, none⟩ (.int .i64 (g.terms : Int))).setCell ⟨w.heap.size, 1, none⟩ (.int .i64 (g.nons : Int))).setCell ⟨w.heap.size, 2, none⟩ (.int .i64 (g.start : Int))).setCell ⟨w.heap.size, 3, none⟩ (.slice gA gn gc)) w.heap.size 24 #[.int .i64 (g.terms : Int), .int .i64 (g.nons : Int), .int .i64 (g.start : Int), .slice gA gn gc] from by
      have := (((BG3.set_ 0 (.int .i64 (g.terms : Int))).set_ 1 (.int .i64 (g.nons : Int))).set_ 2 (.int .i64 (g.start : Int))).set_ 3 (.slice gA gn gc); simpa using this)
    have hag : Agr (fun b => (ok b ∨ w.heap.size ≤ b) ∧ b ≠ w.heap.size + 1 ∧ b ≠ w.heap.size) w3 ((((w3.setCell ⟨w.heap.size, 0, none⟩ (.int .i64 (g.terms : Int))).setCell ⟨w.heap.size, 1, none⟩ (.int .i64 (g.nons : Int))).setCell ⟨w.heap.size, 2, none⟩ (.int .i64 (g.start : Int))).setCell ⟨w.heap.size, 3, none⟩ (.slice gA gn gc)) := ((((Agr.setCell (p := ⟨w.heap.size, 0, none⟩) _ fun b hb => hb.2.2).trans (Agr.setCell (p := ⟨w.heap.size, 1, none⟩) _ fun b hb => hb.2.2)).trans (Agr.setCell (p := ⟨w.heap.size, 2, none⟩) _ fun b hb => hb.2.2)).trans (Agr.setCell (p := ⟨w.heap.size, 3, none⟩) _ fun b hb => hb.2.2))
    have HR4 := Lib.hid ((((HR3.out.far (p := ⟨w.heap.size, 0, none⟩) (by simp) (.int .i64 (g.terms : Int))).far (p := ⟨w.heap.size, 1, none⟩) (by simp) (.int .i64 (g.nons : Int))).far (p := ⟨w.heap.size, 2, none⟩) (by simp) (.int .i64 (g.start : Int))).far (p := ⟨w.heap.size, 3, none⟩) (by simp) (.slice gA gn gc))
    have HA4 := Lib.hid ((((HA3.out.setCell (p := ⟨w.heap.size, 0, none⟩) (by simp) (.int .i64 (g.terms : Int))).setCell (p := ⟨w.heap.size, 1, none⟩) (by simp) (.int .i64 (g.nons : Int))).setCell (p := ⟨w.heap.size, 2, none⟩) (by simp) (.int .i64 (g.start : Int))).setCell (p := ⟨w.heap.size, 3, none⟩) (by simp) (.slice gA gn gc))
    have HX4 := Lib.hid (HX3.out.agr hag)
    have HL4 := Lib.hid ((Sl.upR HGL.out).agr hag)
    clear hag BG3 HG3 HR3 HA3 HX3 HGL
    generalize (((w3.setCell ⟨w.heap.size, 0, none⟩ (.int .i64 (g.terms : Int))).setCell ⟨w.heap.size, 1, none⟩ (.int .i64 (g.nons : Int))).setCell ⟨w.heap.size, 2, none⟩ (.int .i64 (g.start : Int))).setCell ⟨w.heap.size, 3, none⟩ (.slice gA gn gc) = w4 at *
    have BG4 := HG4.out
    have BR4 := HR4.out
    have SO := Lib.hid (show ∀ w', Agr (fun b => b ≠ w.heap.size + 1) w4 w' → ((∀ i, w'.cell? ⟨w.heap.size, i, none⟩ = #[.int .i64 (g.terms : Int), .int .i64 (g.nons : Int), .int .i64 (g.start : Int), .slice gA gn gc][i]?) ∧ Agr (fun b => b ≠ w.heap.size + 1) w4 w') from fun w' hb => ⟨(show Blk w' w.heap.size 24 _ from (hb _ (by omega) HG4.out.lt).trans HG4.out).cell, hb⟩)
    have HN := Lib.hid (show ∀ w', Agr (fun b => b ≠ w.heap.size + 1) w4 w' → Calls Tryz.prog 23 #[.int .i64 (g.terms : Int), .int .i64 (most : Int), .slice wA wn wcp] w' (WordPost w' (g.terms : Int) most xs) from fun w' hb => word_c _ most wA wn wcp xs w' (HX4.out.agr (hb.mono fun b hb => hb.2.1)).intsIn (by have := HMG.out.terms.1; omega) (by have := HMG.out.terms.2; omega) hm)
    have hb0 : Agr (fun b => b ≠ w.heap.size + 1) w4 w4.drew := Agr.below ((Below.refl w4.heap.size w4).drew)
    have BD4 := BR4.dr
    have hst : ∀ w', Agr (fun b => b ≠ w.heap.size + 1) w4 w' → Agr (fun b => b ≠ w.heap.size + 1) w4 ((((w'.setCell ⟨w.heap.size + 1, 0, none⟩ (.int .i64 (g.terms : Int))).setCell ⟨w.heap.size + 1, 1, none⟩ (.int .i64 (g.nons : Int))).setCell ⟨w.heap.size + 1, 2, none⟩ (.int .i64 (g.start : Int))).setCell ⟨w.heap.size + 1, 3, none⟩ (.slice gA gn gc)) := fun w' h => (((h.trans (Agr.setCell (p := ⟨w.heap.size + 1, 0, none⟩) _ fun b hb => hb)).trans (Agr.setCell (p := ⟨w.heap.size + 1, 1, none⟩) _ fun b hb => hb)).trans (Agr.setCell (p := ⟨w.heap.size + 1, 2, none⟩) _ fun b hb => hb)).trans (Agr.setCell (p := ⟨w.heap.size + 1, 3, none⟩) _ fun b hb => hb)
    have HST := Lib.hid hst
    have HBD := Lib.hid BD4
    clear hst BR4 BG4
    have cBD4 := BD4.cell
    have fBD4 := BD4.frozen
    have lBD4 := BD4.lt
    go_region_held3 (fun w' => (∀ i, w'.cell? ⟨w.heap.size, i, none⟩ = #[.int .i64 (g.terms : Int), .int .i64 (g.nons : Int), .int .i64 (g.start : Int), .slice gA gn gc][i]?) ∧ Agr (fun b => b ≠ w.heap.size + 1) w4 w') (exact SO.out _ (by first | assumption | exact HST.out _ hb0 | exact HST.out _ hbm)) (first
      | (go_at_call 23; (with_reducible refine (HN.out w4.drew hb0).mono ?_); rintro ee wn ⟨vW, kW, rfl, how, hbn⟩; have hbm : Agr (fun b => b ≠ w.heap.size + 1) w4 wn := Agr.trans hb0 (Agr.below hbn); have BDn := HBD.out.via hbn; have cBDn := BDn.cell; have fBDn := BDn.frozen; have lBDn := BDn.lt)
      | (go_at_call 23; (with_reducible refine (HN.out _ (HST.out _ hb0)).mono ?_); rintro ee wn ⟨vW, kW, rfl, how, hbn⟩; have hbm : Agr (fun b => b ≠ w.heap.size + 1) w4 wn := Agr.trans (HST.out _ hb0) (Agr.below hbn)))
    obtain ⟨vA, vc, rfl, -⟩ := how.form
    have HA9 := Lib.hid (HA4.out.trans (((Below.refl w4.heap.size w4).drew.via hbn).mono HA4.out.size))
    have how2 := (((how.setCell (p := ⟨w.heap.size + 1, 0, none⟩) lBD4 (.int .i64 (g.terms : Int))).setCell (p := ⟨w.heap.size + 1, 1, none⟩) lBD4 (.int .i64 (g.nons : Int))).setCell (p := ⟨w.heap.size + 1, 2, none⟩) lBD4 (.int .i64 (g.start : Int))).setCell (p := ⟨w.heap.size + 1, 3, none⟩) lBD4 (.slice gA gn gc)
    have HW9 := Lib.hid (how2.toInts.slE.mono (ok' := fun b => ok b ∨ w.heap.size ≤ b) fun b _ hb => by
      obtain ⟨o, ho⟩ := hb
      have h1 := (how2.block _ ho).1
      have h2 := HA4.out.size
      simp at h1
      exact Or.inr (by omega))
    have hagN := HST.out wn hbm
    have HL9 := Lib.hid (HL4.out.agr (hagN.mono fun b hb => hb.2.1))
    clear how how2 hbn hbm hagN fBD4 lBD4 cBD4 BD4 HBD HST SO HN
    go_wp2_with fail
    refine bodyPost_ret (v := .tuple #[.agg #[.int .i64 (g.terms : Int), .int .i64 (g.nons : Int), .int .i64 (g.start : Int), .slice gA gn gc], .slice vA kW vc]) (by simp [results, Tryz.results5, go_sem, cBDn]) rfl ⟨_, _, _, gA, gn, gc, g.rules.map embR, vA, kW, vc, wordI (g.terms : Int) most xs, rfl, HL9.out.mono fun _ _ h => h.1, HW9.out, ?_, fun _ => ⟨g, HMG.out.grOk9, rfl, rfl, rfl, rfl, wordI_mem _ _ _ (by have := HMG.out.terms.1; omega), wordI_len _ _ _⟩⟩
    exact (((HA9.out.setCell (by simp) _).setCell (by simp) _).setCell (by simp) _).setCell (by simp) _
theorem pick_c (ok : Nat → Prop) (T N S : Int) (A : Option Addr) (n c : Nat) (rs : List Ri) (wA : Option Addr) (wn wcp : Nat) (xs : List Int) (lA : Option Addr) (ln lc : Nat) (ls : List Int) (most : Nat) (w : World) (hl : Sl RiE ok w A n c rs) (hx : Sl InE ok w wA wn wcp xs) (hls : Ints w lA ln lc ls) (hm : most ≤ 1000000) :
    Calls Tryz.prog 5 #[.agg #[.int .i64 T, .int .i64 N, .int .i64 S, .slice A n c], .slice wA wn wcp, .slice lA ln lc, .int .i64 (most : Int)] w (PickP ok w) :=
  (pick2_c ok T N S A n c rs wA wn wcp xs lA ln lc ls most w hl hx hls hm).mono fun _ _ ⟨T, N, S, A, n, c, rs, wA, wn, wc, xs, h1, h2, h3, h4, _⟩ => ⟨T, N, S, A, n, c, rs, wA, wn, wc, xs, h1, h2, h3, h4⟩
end Go.Proofs.YtbfcnfgkccgbiaaGreatDoor

