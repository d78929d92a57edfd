/- Texts IW, OX, laid together. -/
import Derived.Test.YtfmnmgnhanogmaaDoorQ10
import Derived.Test.YtfmnmgnhanogmaaDoorQ17
import Derived.Test.YtfmnmgnhanogmaaDoorQ3
import Derived.Test.YtfmnmgnhanogmaaDoorQ25
import Derived.Test.YtfmnmgnhanogmaaDoorQ30
import Derived.Test.YtfmnmgnhanogmaaDoorQ22
import Derived.Test.YtfmnmgnhanogmaaDoorQ9




namespace Go.Proofs.YtfmnmgnhanogmaaDoor
open Go.RowKit

theorem Sl.upSw {ok : Nat → Prop} {w : World} {A : Option Addr} {n c : Nat} {l : List Sy} (h : Sl SyE ok w A n c l) : Sl SiE ok w A n c (l.map embS) := by
  obtain ⟨h1, h2, raw, h3, h4, h5⟩ := h
  have e : raw = l := List.ext_getElem (by omega) fun i a b => h5 i _ _ (List.getElem?_eq_getElem a) (List.getElem?_eq_getElem b)
  have ef : ∀ l : List Sy, flat SiE (l.map embS) = flat SyE l := fun l => by
    induction l with
    | nil => rfl
    | cons x l ih => simp only [flat, List.map_cons, List.flatMap_cons] at ih ⊢; rw [ih]; rfl
  refine ⟨by rw [List.length_map]; exact h1, h2, l.map embS, by rw [List.length_map]; exact h1, ?_, fun i r x hr hx => by rw [hr] at hx; exact Option.some.inj hx⟩
  rw [e, ← ef] at h4; exact h4
theorem Sl.upR {ok : Nat → Prop} {w : World} {A : Option Addr} {n c : Nat} {l : List Ru} (h : Sl RuE ok w A n c l) : Sl RiE ok w A n c (l.map embR) := by
  obtain ⟨h1, h2, raw, h3, h4, h5⟩ := h
  have ef : ∀ raw : List (Nat × SlV), flat RiE (raw.map fun r => ((r.1 : Int), r.2)) = flat RuE raw := fun raw => by
    induction raw with
    | nil => rfl
    | cons x l ih => simp only [flat, List.map_cons, List.flatMap_cons] at ih ⊢; rw [ih]; rfl
  refine ⟨by rw [List.length_map]; exact h1, h2, raw.map fun r => ((r.1 : Int), r.2), by rw [List.length_map]; exact h3, by rw [ef]; exact h4, fun i r x hr hx => ?_⟩
  rw [List.getElem?_map] at hr hx
  obtain ⟨r0, hr0, rfl⟩ := Option.map_eq_some_iff.1 hr
  obtain ⟨x0, hx0, rfl⟩ := Option.map_eq_some_iff.1 hx
  obtain ⟨k1, k2⟩ := h5 i r0 x0 hr0 hx0
  exact ⟨by simp only [embR]; rw [k1], Sl.upSw k2⟩
theorem Ints.slLt {w : World} {A : Option Addr} {n c : Nat} {xs : List Int} (h : Ints w A n c xs) : Sl InE (fun b => b < w.heap.size) w A n c xs := by
  rcases Nat.eq_zero_or_pos n with h0 | h0
  · have hx : xs = [] := List.eq_nil_of_length_eq_zero (by rw [h.1, h0])
    subst hx
    exact ⟨h.1, h.2.1, [], h.1, fun hne => absurd rfl hne, fun i r x hr => by simp at hr⟩
  · obtain ⟨b, off, e, hc⟩ := h.2.2 h0
    refine h.slE.mono fun b' _ hb => ?_
    obtain ⟨o, ho⟩ := hb
    rw [e] at ho
    have e1 : b = b' := by injection ho with ho; injection ho
    rw [← e1]
    exact World.block_lt_of_cell? _ _ (hc 0 h0)
def PickP (ok : Nat → Prop) (w : World) (e : Ending) (w' : World) : Prop :=
  ∃ (T N S : Int) (A : Option Addr) (n c : Nat) (rs : List Ri) (wA : Option Addr) (wn wc : Nat) (xs : List Int), e = .returned (.tuple #[.agg #[.int .i64 T, .int .i64 N, .int .i64 S, .slice A n c], .slice wA wn wc]) ∧
    Sl RiE (fun b => ok b ∨ w.heap.size ≤ b) w' A n c rs ∧ Sl InE (fun b => ok b ∨ w.heap.size ≤ b) w' wA wn wc xs ∧ Below w.heap.size w w'
/-- .. and where there are numbers, the grammar is a valid one and the word is of its terminals -/
def PickP2 (ok : Nat → Prop) (ln most : Nat) (w : World) (e : Ending) (w' : World) : Prop :=
  ∃ (T N S : Int) (A : Option Addr) (n c : Nat) (rs : List Ri) (wA : Option Addr) (wn wc : Nat) (xs : List Int), e = .returned (.tuple #[.agg #[.int .i64 T, .int .i64 N, .int .i64 S, .slice A n c], .slice wA wn wc]) ∧
    Sl RiE (fun b => ok b ∨ w.heap.size ≤ b) w' A n c rs ∧ Sl InE (fun b => ok b ∨ w.heap.size ≤ b) w' wA wn wc xs ∧ Below w.heap.size w w' ∧
    (ln ≠ 0 → ∃ g : Gr, GrOk g ∧ T = (g.terms : Int) ∧ N = (g.nons : Int) ∧ S = (g.start : Int) ∧ rs = g.rules.map embR ∧ (∀ x ∈ xs, 0 ≤ x ∧ x < T) ∧ xs.length ≤ most)
theorem MadeG.grOk9 {g : Gr} (h : MadeG g) : GrOk g :=
  ⟨⟨⟨h.terms.1, by have := h.terms.2; omega⟩, ⟨h.nons.1, by have := h.nons.2; omega⟩, h.start, by have := h.count; omega, fun r hr => (h.ok r hr).1, fun r hr => ⟨by have := (h.ok r hr).2.1; omega, fun s hs => (h.ok r hr).2.2 s hs⟩⟩, h.nodup⟩
set_option maxRecDepth 100000 in
set_option maxHeartbeats 4000000 in
theorem pick2_c (ok : Nat → Prop) (T N S : Int) (A : Option Addr) (n c : Nat) (rs : List Ri) (wA : Option Addr) (wn wcp : Nat) (xs : List Int) (lA : Option Addr) (ln lc : Nat) (ls : List Int) (most : Nat) (w : World) (hl : Sl RiE ok w A n c rs) (hx : Sl InE ok w wA wn wcp xs) (hls : Ints w lA ln lc ls) (hm : most ≤ 1000000) :
    Calls Tryd.prog 5 #[.agg #[.int .i64 T, .int .i64 N, .int .i64 S, .slice A n c], .slice wA wn wcp, .slice lA ln lc, .int .i64 (most : Int)] w (PickP2 ok ln most w) := by
  have hal := ((Below.refl w.heap.size w).al (.cells #[.int .i64 T, .int .i64 N, .int .i64 S, .slice A n c] 24)).al (.cells #[.int .i64 0, .int .i64 0, .int .i64 0, .slice none 0 0] 24)
  have BG := (Blk.new w 24 #[.int .i64 T, .int .i64 N, .int .i64 S, .slice A n c]).al (.cells #[.int .i64 0, .int .i64 0, .int .i64 0, .slice none 0 0] 24)
  have BR := Blk.newAt (w.alloc (.cells #[.int .i64 T, .int .i64 N, .int .i64 S, .slice A n c] 24)) 24 #[.int .i64 0, .int .i64 0, .int .i64 0, .slice none 0 0] (w.heap.size + 1) (by simp)
  have HL := Lib.hid ((hl.mono (ok' := fun b => (ok b ∨ w.heap.size ≤ b) ∧ b ≠ w.heap.size + 1 ∧ b ≠ w.heap.size) (fun b hb h => ⟨Or.inl h, by omega, by omega⟩)).via hal)
  have HX := Lib.hid ((hx.mono (ok' := fun b => (ok b ∨ w.heap.size ≤ b) ∧ b ≠ w.heap.size + 1 ∧ b ≠ w.heap.size) (fun b hb h => ⟨Or.inl h, by omega, by omega⟩)).via hal)
  have HLS := Lib.hid (hls.via hal)
  have HAL := Lib.hid hal
  have HSZ := Lib.hid (show ((w.alloc (.cells #[.int .i64 T, .int .i64 N, .int .i64 S, .slice A n c] 24)).alloc (.cells #[.int .i64 0, .int .i64 0, .int .i64 0, .slice none 0 0] 24)).heap.size = w.heap.size + 2 by simp)
  clear hl hx hal
  clear hls
  go_enter Tryd.func5, Tryd.ntmps5
  go_upto_region 1 with fail
  generalize (w.alloc (.cells #[.int .i64 T, .int .i64 N, .int .i64 S, .slice A n c] 24)).alloc (.cells #[.int .i64 0, .int .i64 0, .int .i64 0, .slice none 0 0] 24) = W2 at *
  have HBG := Lib.hid BG
  have HBR := Lib.hid BR
  by_cases hn : ln = 0
  · have e1 : ((ln : Int) == 0) = true := by simp [hn]
    have cBG := BG.cell
    have fBG := BG.frozen
    have lBG := BG.lt
    have cBR := BR.cell
    have fBR := BR.frozen
    have lBR := BR.lt
    go_wp2_with fail
    refine bodyPost_ret (v := .tuple #[.agg #[.int .i64 T, .int .i64 N, .int .i64 S, .slice A n c], .slice wA wn wcp]) (by simp [results, Tryd.results5, go_sem, cBR]) rfl ⟨T, N, S, A, n, c, rs, wA, wn, wcp, xs, rfl, ?_, ?_, ?_, fun h => absurd hn h⟩
    · exact (HL.out.agr ((((Agr.setCell (p := ⟨w.heap.size + 1, 0, none⟩) _ fun b hb => hb.2.1).trans (Agr.setCell (p := ⟨w.heap.size + 1, 1, none⟩) _ fun b hb => hb.2.1)).trans (Agr.setCell (p := ⟨w.heap.size + 1, 2, none⟩) _ fun b hb => hb.2.1)).trans (Agr.setCell (p := ⟨w.heap.size + 1, 3, none⟩) _ fun b hb => hb.2.1))).mono fun _ _ h => h.1
    · exact (HX.out.agr ((((Agr.setCell (p := ⟨w.heap.size + 1, 0, none⟩) _ fun b hb => hb.2.1).trans (Agr.setCell (p := ⟨w.heap.size + 1, 1, none⟩) _ fun b hb => hb.2.1)).trans (Agr.setCell (p := ⟨w.heap.size + 1, 2, none⟩) _ fun b hb => hb.2.1)).trans (Agr.setCell (p := ⟨w.heap.size + 1, 3, none⟩) _ fun b hb => hb.2.1))).mono fun _ _ h => h.1
    · exact (((HAL.out.setCell (by simp) _).setCell (by simp) _).setCell (by simp) _).setCell (by simp) _
  · have e1 : ((ln : Int) == 0) = false := by simp [hn]
    have cBG := BG.cell
    have fBG := BG.frozen
    have lBG := BG.lt
    go_wp2_with fail
    clear cBG fBG lBG
    refine (grammar_c lA ln lc ls W2 HLS.out).mono ?_
    rintro e w3 ⟨g, gA, gn, gc, rfl, hmg, hgl, hb3⟩
    have HG3 := Lib.hid (HBG.out.via hb3)
    have HR3 := Lib.hid (HBR.out.via hb3)
    have HA3 := Lib.hid (HAL.out.trans (hb3.mono HAL.out.size))
    have HX3 := Lib.hid (HX.out.via hb3)
    have HGL := Lib.hid (hgl.mono (ok' := fun b => (ok b ∨ w.heap.size ≤ b) ∧ b ≠ w.heap.size + 1 ∧ b ≠ w.heap.size) fun b _ hb => by have h : W2.heap.size ≤ b := hb; have := HSZ.out; exact ⟨Or.inr (by omega), by omega, by omega⟩)
    have HMG := Lib.hid hmg
    have BG3 := HG3.out
    clear hgl hb3 HL HX HLS HAL HBG HBR BG BR hmg
    simp only [grVal]
    have cBG3 := BG3.cell
    have fBG3 := BG3.frozen
    have lBG3 := BG3.lt
    go_upto_region 4 with fail
    clear cBG3 fBG3 lBG3
    have HG4 := Lib.hid (show Blk ((((w3.setCell ⟨w.heap.size, 0, none⟩ (.int .i64 (g.terms : Int))).setCell ⟨w.heap.size, 1, none⟩ (.int .i64 (g.nons : Int))).setCell ⟨w.heap.size, 2, none⟩ (.int .i64 (g.start : Int))).setCell ⟨w.heap.size, 3, none⟩ (.slice gA gn gc)) w.heap.size 24 #[.int .i64 (g.terms : Int), .int .i64 (g.nons : Int), .int .i64 (g.start : Int), .slice gA gn gc] from by
      have := (((BG3.set_ 0 (.int .i64 (g.terms : Int))).set_ 1 (.int .i64 (g.nons : Int))).set_ 2 (.int .i64 (g.start : Int))).set_ 3 (.slice gA gn gc); simpa using this)
    have hag : Agr (fun b => (ok b ∨ w.heap.size ≤ b) ∧ b ≠ w.heap.size + 1 ∧ b ≠ w.heap.size) w3 ((((w3.setCell ⟨w.heap.size, 0, none⟩ (.int .i64 (g.terms : Int))).setCell ⟨w.heap.size, 1, none⟩ (.int .i64 (g.nons : Int))).setCell ⟨w.heap.size, 2, none⟩ (.int .i64 (g.start : Int))).setCell ⟨w.heap.size, 3, none⟩ (.slice gA gn gc)) := ((((Agr.setCell (p := ⟨w.heap.size, 0, none⟩) _ fun b hb => hb.2.2).trans (Agr.setCell (p := ⟨w.heap.size, 1, none⟩) _ fun b hb => hb.2.2)).trans (Agr.setCell (p := ⟨w.heap.size, 2, none⟩) _ fun b hb => hb.2.2)).trans (Agr.setCell (p := ⟨w.heap.size, 3, none⟩) _ fun b hb => hb.2.2))
    have HR4 := Lib.hid ((((HR3.out.far (p := ⟨w.heap.size, 0, none⟩) (by simp) (.int .i64 (g.terms : Int))).far (p := ⟨w.heap.size, 1, none⟩) (by simp) (.int .i64 (g.nons : Int))).far (p := ⟨w.heap.size, 2, none⟩) (by simp) (.int .i64 (g.start : Int))).far (p := ⟨w.heap.size, 3, none⟩) (by simp) (.slice gA gn gc))
    have HA4 := Lib.hid ((((HA3.out.setCell (p := ⟨w.heap.size, 0, none⟩) (by simp) (.int .i64 (g.terms : Int))).setCell (p := ⟨w.heap.size, 1, none⟩) (by simp) (.int .i64 (g.nons : Int))).setCell (p := ⟨w.heap.size, 2, none⟩) (by simp) (.int .i64 (g.start : Int))).setCell (p := ⟨w.heap.size, 3, none⟩) (by simp) (.slice gA gn gc))
    have HX4 := Lib.hid (HX3.out.agr hag)
    have HL4 := Lib.hid ((Sl.upR HGL.out).agr hag)
    clear hag BG3 HG3 HR3 HA3 HX3 HGL
    generalize (((w3.setCell ⟨w.heap.size, 0, none⟩ (.int .i64 (g.terms : Int))).setCell ⟨w.heap.size, 1, none⟩ (.int .i64 (g.nons : Int))).setCell ⟨w.heap.size, 2, none⟩ (.int .i64 (g.start : Int))).setCell ⟨w.heap.size, 3, none⟩ (.slice gA gn gc) = w4 at *
    have BG4 := HG4.out
    have BR4 := HR4.out
    have SO := Lib.hid (show ∀ w', Agr (fun b => b ≠ w.heap.size + 1) w4 w' → ((∀ i, w'.cell? ⟨w.heap.size, i, none⟩ = #[.int .i64 (g.terms : Int), .int .i64 (g.nons : Int), .int .i64 (g.start : Int), .slice gA gn gc][i]?) ∧ Agr (fun b => b ≠ w.heap.size + 1) w4 w') from fun w' hb => ⟨(show Blk w' w.heap.size 24 _ from (hb _ (by omega) HG4.out.lt).trans HG4.out).cell, hb⟩)
    have HN := Lib.hid (show ∀ w', Agr (fun b => b ≠ w.heap.size + 1) w4 w' → Calls Tryd.prog 21 #[.int .i64 (g.terms : Int), .int .i64 (most : Int), .slice wA wn wcp] w' (WordPost w' (g.terms : Int) most xs) from fun w' hb => word_c _ most wA wn wcp xs w' (HX4.out.agr (hb.mono fun b hb => hb.2.1)).intsIn (by have := HMG.out.terms.1; omega) (by have := HMG.out.terms.2; omega) hm)
    have hb0 : Agr (fun b => b ≠ w.heap.size + 1) w4 w4.drew := Agr.below ((Below.refl w4.heap.size w4).drew)
    have BD4 := BR4.dr
    have hst : ∀ w', Agr (fun b => b ≠ w.heap.size + 1) w4 w' → Agr (fun b => b ≠ w.heap.size + 1) w4 ((((w'.setCell ⟨w.heap.size + 1, 0, none⟩ (.int .i64 (g.terms : Int))).setCell ⟨w.heap.size + 1, 1, none⟩ (.int .i64 (g.nons : Int))).setCell ⟨w.heap.size + 1, 2, none⟩ (.int .i64 (g.start : Int))).setCell ⟨w.heap.size + 1, 3, none⟩ (.slice gA gn gc)) := fun w' h => (((h.trans (Agr.setCell (p := ⟨w.heap.size + 1, 0, none⟩) _ fun b hb => hb)).trans (Agr.setCell (p := ⟨w.heap.size + 1, 1, none⟩) _ fun b hb => hb)).trans (Agr.setCell (p := ⟨w.heap.size + 1, 2, none⟩) _ fun b hb => hb)).trans (Agr.setCell (p := ⟨w.heap.size + 1, 3, none⟩) _ fun b hb => hb)
    have HST := Lib.hid hst
    have HBD := Lib.hid BD4
    clear hst BR4 BG4
    have cBD4 := BD4.cell
    have fBD4 := BD4.frozen
    have lBD4 := BD4.lt
    go_region_held3 (fun w' => (∀ i, w'.cell? ⟨w.heap.size, i, none⟩ = #[.int .i64 (g.terms : Int), .int .i64 (g.nons : Int), .int .i64 (g.start : Int), .slice gA gn gc][i]?) ∧ Agr (fun b => b ≠ w.heap.size + 1) w4 w') (exact SO.out _ (by first | assumption | exact HST.out _ hb0 | exact HST.out _ hbm)) (first
      | (go_at_call 21; (with_reducible refine (HN.out w4.drew hb0).mono ?_); rintro ee wn ⟨vW, kW, rfl, how, hbn⟩; have hbm : Agr (fun b => b ≠ w.heap.size + 1) w4 wn := Agr.trans hb0 (Agr.below hbn); have BDn := HBD.out.via hbn; have cBDn := BDn.cell; have fBDn := BDn.frozen; have lBDn := BDn.lt)
      | (go_at_call 21; (with_reducible refine (HN.out _ (HST.out _ hb0)).mono ?_); rintro ee wn ⟨vW, kW, rfl, how, hbn⟩; have hbm : Agr (fun b => b ≠ w.heap.size + 1) w4 wn := Agr.trans (HST.out _ hb0) (Agr.below hbn)))
    obtain ⟨vA, vc, rfl, -⟩ := how.form
    have HA9 := Lib.hid (HA4.out.trans (((Below.refl w4.heap.size w4).drew.via hbn).mono HA4.out.size))
    have how2 := (((how.setCell (p := ⟨w.heap.size + 1, 0, none⟩) lBD4 (.int .i64 (g.terms : Int))).setCell (p := ⟨w.heap.size + 1, 1, none⟩) lBD4 (.int .i64 (g.nons : Int))).setCell (p := ⟨w.heap.size + 1, 2, none⟩) lBD4 (.int .i64 (g.start : Int))).setCell (p := ⟨w.heap.size + 1, 3, none⟩) lBD4 (.slice gA gn gc)
    have HW9 := Lib.hid (how2.toInts.slE.mono (ok' := fun b => ok b ∨ w.heap.size ≤ b) fun b _ hb => by
      obtain ⟨o, ho⟩ := hb
      have h1 := (how2.block _ ho).1
      have h2 := HA4.out.size
      simp at h1
      exact Or.inr (by omega))
    have hagN := HST.out wn hbm
    have HL9 := Lib.hid (HL4.out.agr (hagN.mono fun b hb => hb.2.1))
    clear how how2 hbn hbm hagN fBD4 lBD4 cBD4 BD4 HBD HST SO HN
    go_wp2_with fail
    refine bodyPost_ret (v := .tuple #[.agg #[.int .i64 (g.terms : Int), .int .i64 (g.nons : Int), .int .i64 (g.start : Int), .slice gA gn gc], .slice vA kW vc]) (by simp [results, Tryd.results5, go_sem, cBDn]) rfl ⟨_, _, _, gA, gn, gc, g.rules.map embR, vA, kW, vc, wordI (g.terms : Int) most xs, rfl, HL9.out.mono fun _ _ h => h.1, HW9.out, ?_, fun _ => ⟨g, HMG.out.grOk9, rfl, rfl, rfl, rfl, wordI_mem _ _ _ (by have := HMG.out.terms.1; omega), wordI_len _ _ _⟩⟩
    exact (((HA9.out.setCell (by simp) _).setCell (by simp) _).setCell (by simp) _).setCell (by simp) _
theorem pick_c (ok : Nat → Prop) (T N S : Int) (A : Option Addr) (n c : Nat) (rs : List Ri) (wA : Option Addr) (wn wcp : Nat) (xs : List Int) (lA : Option Addr) (ln lc : Nat) (ls : List Int) (most : Nat) (w : World) (hl : Sl RiE ok w A n c rs) (hx : Sl InE ok w wA wn wcp xs) (hls : Ints w lA ln lc ls) (hm : most ≤ 1000000) :
    Calls Tryd.prog 5 #[.agg #[.int .i64 T, .int .i64 N, .int .i64 S, .slice A n c], .slice wA wn wcp, .slice lA ln lc, .int .i64 (most : Int)] w (PickP ok w) :=
  (pick2_c ok T N S A n c rs wA wn wcp xs lA ln lc ls most w hl hx hls hm).mono fun _ _ ⟨T, N, S, A, n, c, rs, wA, wn, wc, xs, h1, h2, h3, h4, _⟩ => ⟨T, N, S, A, n, c, rs, wA, wn, wc, xs, h1, h2, h3, h4⟩
end Go.Proofs.YtfmnmgnhanogmaaDoor







namespace Go.Proofs.YtfmnmgnhanogmaaDoor
open Go.RowKit

set_option maxRecDepth 100000 in
set_option maxHeartbeats 2000000 in
theorem eqI_c (A B : Option Addr) (n c m d : Nat) (xs : List Int) (w : World) (h1 : Ints w A n c xs) (h2 : Ints w B m d xs) (hn : n ≤ 1000000) :
    Calls Tryd.prog 12 #[.slice A n c, .slice B m d] w (YesT w) := by
  have HE := Lib.hid (equal_c A B n c m d xs xs w h1 h2 (by omega))
  clear h1 h2
  go_enter Tryd.func12, Tryd.ntmps12
  go_wp2_with fail
  refine HE.out.mono ?_
  clear HE
  rintro e w1 h
  obtain ⟨rfl, hb⟩ := h.below
  have HB := Lib.hid hb
  simp only [decide_true]
  clear hb h
  go_wp2_with fail
  go_ret
  exact ⟨rfl, HB.out⟩
set_option maxRecDepth 100000 in
set_option maxHeartbeats 2000000 in
theorem eqRw_c (fid : Nat) (he : ∀ (args : Array Value) (w : World), (callFunc fid args).run Tryd.prog w = .ok (.enter fid args) w) (ok ok' : Nat → Prop) (A B : Option Addr) (n c d : Nat) (ks : List (List Int)) (w : World) (h1 : Sl RwE ok w A n c ks) (h2 : Sl RwE ok' w B n d ks) (hn : n ≤ 1000000)
    (hf : ∀ (v1 v2 : SlV) x w', x ∈ ks → Sl InE ok w' v1.1 v1.2.1 v1.2.2 x → Sl InE ok' w' v2.1 v2.2.1 v2.2.2 x → Calls Tryd.prog fid #[.slice v1.1 v1.2.1 v1.2.2, .slice v2.1 v2.2.1 v2.2.2] w' (YesT w')) :
    Calls Tryd.prog 10 #[.slice A n c, .slice B n d, .func (.func fid) #[] #[]] w (YesT w) := by
  have H1 := Lib.hid h1
  have H2 := Lib.hid h2
  have HF := Lib.hid hf
  clear h1 h2 hf
  have k0 : ((n : Int) != (n : Int)) = false := by simp
  go_enter Tryd.func10, Tryd.ntmps10
  go_wp2_with fail
  clear k0
  go_loopw [17] (fun i wr => ∃ k : Nat, i = .int .i64 k ∧ k ≤ n ∧ Hid (Below w.heap.size w wr)) (fun i _ => n - (intOf i).toNat)
  case atStart => exact ⟨0, rfl, Nat.zero_le _, Lib.hid (Below.refl _ _)⟩
  case round =>
    obtain ⟨k, rfl, hk, HB⟩ := hrel
    by_cases hlt : k < n
    · obtain ⟨b1, o1, X1, x, rfl, -, hb1, hx, hx1, hc1⟩ := (H1.out.via HB.out).at_ hlt
      obtain ⟨b2, o2, Y1, y, rfl, -, hb2, hy, hy1, hc2⟩ := (H2.out.via HB.out).at_ hlt
      obtain rfl : x = y := by rw [hx] at hy; exact Option.some.inj hy
      have i0 : (0 : Int) ≤ (k : Int) := by omega
      have i1 : (k : Int) < (n : Int) := by omega
      have hxm := List.mem_of_getElem? hx
      obtain ⟨xA, xn, xc⟩ := X1
      obtain ⟨yA, yn, yc⟩ := Y1
      have c0 := hc1 0 _ rfl
      have d0 := hc2 0 _ rfl
      simp only [RwE, Nat.mul_one, Nat.add_zero] at c0 d0 hx1 hy1
      have HC := Lib.hid (HF.out (xA, xn, xc) (yA, yn, yc) x wr hxm hx1 hy1)
      clear hx hy hx1 hy1 hc1 hc2 hb1 hb2 hxm
      go_wp2_with fail
      refine HC.out.mono ?_
      rintro e w3 ⟨rfl, hb3⟩
      have HB3 := Lib.hid (HB.out.via hb3)
      clear hb3 HB c0 d0 HC
      go_wp2_with fail
      exact ⟨⟨k + 1, by go_num, by omega, HB3⟩, by simp [intOf]; omega⟩
    · go_wp2_with fail
      go_ret
      exact ⟨rfl, HB.out⟩
theorem chkD_ok {T : Nat} {most : Nat} {xs : List Int} (h : chkW T most xs = 0) : ∃ W : List Nat, xs = intsN W ∧ (∀ x ∈ W, x < T) ∧ W.length ≤ most := by
  unfold chkW at h
  by_cases h1 : most < xs.length
  · rw [if_pos h1] at h; cases h
  · rw [if_neg h1] at h
    by_cases h2 : (xs.any fun t => !okT T t) = true
    · rw [if_pos h2] at h; cases h
    · have h3 : ∀ x ∈ xs, 0 ≤ x ∧ x < (T : Int) := fun x hx => by
        have := h2
        simp only [Bool.not_eq_true, List.any_eq_false] at this
        have := this x hx
        simpa [okT] using this
      refine ⟨xs.map Int.toNat, ?_, fun x hx => ?_, by rw [List.length_map]; omega⟩
      · unfold intsN
        rw [List.map_map]
        conv => lhs; rw [← List.map_id xs]
        refine List.map_congr_left fun x hx => ?_
        have := h3 x hx
        simp; omega
      · obtain ⟨y, hy, rfl⟩ := List.mem_map.1 hx
        have := h3 y hy; omega
/-- what descent.Parse gives of a word that is checked -/
def ParZ (g : Gr) (xs : List Int) (q : Int) (t : Tr) (c : Int) : Prop :=
  (q ≠ 0 ∧ c = q ∧ t = .node 0 []) ∨ (q = 0 ∧ ∃ W : List Nat, xs = intsN W ∧ W.length ≤ 12 ∧ ((loopB g = true ∧ c = 9 ∧ t = .node 0 []) ∨ (loopB g = false ∧ ¬ (∃ t, DrL g.rules W [(false, g.start)] 0 W.length [t]) ∧ c = 10 ∧ t = .node 0 []) ∨ (loopB g = false ∧ IsBest g.rules W ((false, g.start), 0, W.length) t ∧ c = 0)))
set_option maxRecDepth 100000 in
theorem dparse_z (ok : Nat → Prop) (g : Gr) (A : Option Addr) (n c : Nat) (wA : Option Addr) (wn wcp : Nat) (xs : List Int) (w : World) (hg : GrOk g) (hbad : chkG g.terms g.nons g.start (g.rules.map embR) = 0) (hl : Sl RiE ok w A n c (g.rules.map embR)) (hx : Ints w wA wn wcp xs) (hT : TabW w) :
    Calls Tryd.prog 7 #[.agg #[.int .i64 (g.terms : Int), .int .i64 (g.nons : Int), .int .i64 (g.start : Int), .slice A n c], .slice wA wn wcp] w fun e w' =>
      ∃ v t cc, e = .returned (.tuple #[trVal v, .int .i64 cc]) ∧ TreeR (fun b => w.heap.size ≤ b) w' v t ∧ Below w.heap.size w w' ∧ ParZ g xs (chkW g.terms 12 xs) t cc := by
  by_cases hq : chkW g.terms 12 xs = 0
  · obtain ⟨W, rfl, hW, hWl⟩ := chkD_ok hq
    have hwn : wn = W.length := by have := hx.len; simp only [intsN, List.length_map] at this; omega
    subst hwn
    have h := dparse_c ok g A n c wA wcp W w hg hl.lowR hx hW hWl hT
    simp only [grVal] at h
    refine h.mono ?_
    rintro e w' ⟨v, t, cc, rfl, h1, h2, h3⟩
    exact ⟨v, t, cc, rfl, h1, h2, Or.inr ⟨hq, W, rfl, hWl, h3⟩⟩
  · refine (dparse_e ok g.terms g.nons g.start A n c (g.rules.map embR) wA wn wcp xs w hl hx (chkW g.terms 12 xs) (by unfold chkB; rw [if_pos hbad]) hq).mono ?_
    rintro e w' ⟨rfl, h2⟩
    exact ⟨_, _, _, rfl, TreeR.mk 0 (Sl.nil 0), h2, Or.inl ⟨hq, rfl, rfl⟩⟩
set_option maxRecDepth 100000 in
set_option maxHeartbeats 8000000 in
theorem descentSays_walk (ok : Nat → Prop) (T0 N0 S0 : Int) (A0 : Option Addr) (n0 c0 : Nat) (rs0 : List Ri) (wA0 : Option Addr) (wn0 wc0 : Nat) (xs0 : List Int) (lA : Option Addr) (ln lc : Nat) (ls : List Int) (w : World) (hl : Sl RiE ok w A0 n0 c0 rs0) (hx : Ints w wA0 wn0 wc0 xs0) (hok : ∀ b, ok b → b < w.heap.size) (hls : Ints w lA ln lc ls) (hT : TabW w) :
    Calls Tryd.prog 3 #[.agg #[.int .i64 T0, .int .i64 N0, .int .i64 S0, .slice A0 n0 c0], .slice wA0 wn0 wc0, .slice lA ln lc] w fun e w' => e = .returned (.bool true) ∧ Below w.heap.size w w' := by
  have hal := (Below.refl w.heap.size w).al (.cells #[.int .i64 T0, .int .i64 N0, .int .i64 S0, .slice A0 n0 c0] 24)
  have HPI := Lib.hid (pick_c (fun b => b < w.heap.size) T0 N0 S0 A0 n0 c0 rs0 wA0 wn0 wc0 xs0 lA ln lc ls 7 (w.alloc (.cells #[.int .i64 T0, .int .i64 N0, .int .i64 S0, .slice A0 n0 c0] 24)) ((hl.mono fun b _ h => hok b h).via hal) (hx.slLt.via hal) (hls.via hal) (by omega))
  have BG := Blk.new w 24 #[.int .i64 T0, .int .i64 N0, .int .i64 S0, .slice A0 n0 c0]
  have HAL := Lib.hid hal
  have HT := Lib.hid hT
  have HSZ := Lib.hid (show (w.alloc (.cells #[.int .i64 T0, .int .i64 N0, .int .i64 S0, .slice A0 n0 c0] 24)).heap.size = w.heap.size + 1 by simp)
  clear hl hx hls hal hok hT
  have cBG := BG.cell
  have fBG := BG.frozen
  have lBG := BG.lt
  go_enter Tryd.func3, Tryd.ntmps3
  go_wp2_with fail
  clear cBG fBG lBG
  generalize w.alloc (.cells #[.int .i64 T0, .int .i64 N0, .int .i64 S0, .slice A0 n0 c0] 24) = W0 at *
  refine HPI.out.mono ?_
  rintro e w1 ⟨T, N, S, A, n, c, rs, wA, wn, wcp, xs, rfl, hl1, hx1, hb1⟩
  have BG1 := BG.via hb1
  have hne : ∀ b, (b < w.heap.size ∨ W0.heap.size ≤ b) → b ≠ w.heap.size := fun b h => by have := HSZ.out; omega
  have HL1 := Lib.hid (hl1.mono (ok' := fun b => b ≠ w.heap.size) fun b _ h => hne b h)
  have HX1 := Lib.hid (hx1.mono (ok' := fun b => b ≠ w.heap.size) fun b _ h => hne b h)
  have HA1 := Lib.hid (HAL.out.trans (hb1.mono (by have := HSZ.out; omega)))
  clear HPI BG hl1 hx1 hb1 hne HAL HSZ
  have cBG1 := BG1.cell
  have fBG1 := BG1.frozen
  have lBG1 := BG1.lt
  go_upto_region 2 with fail
  clear cBG1 fBG1 lBG1
  have BG2 : Blk ((((w1.setCell ⟨w.heap.size, 0, none⟩ (.int .i64 T)).setCell ⟨w.heap.size, 1, none⟩ (.int .i64 N)).setCell ⟨w.heap.size, 2, none⟩ (.int .i64 S)).setCell ⟨w.heap.size, 3, none⟩ (.slice A n c)) w.heap.size 24 #[.int .i64 T, .int .i64 N, .int .i64 S, .slice A n c] := by
    have := (((BG1.set_ 0 (.int .i64 T)).set_ 1 (.int .i64 N)).set_ 2 (.int .i64 S)).set_ 3 (.slice A n c); simpa using this
  have hag : Agr (fun b => b ≠ w.heap.size) w1 ((((w1.setCell ⟨w.heap.size, 0, none⟩ (.int .i64 T)).setCell ⟨w.heap.size, 1, none⟩ (.int .i64 N)).setCell ⟨w.heap.size, 2, none⟩ (.int .i64 S)).setCell ⟨w.heap.size, 3, none⟩ (.slice A n c)) := ((((Agr.setCell (p := ⟨w.heap.size, 0, none⟩) _ fun b hb => hb).trans (Agr.setCell (p := ⟨w.heap.size, 1, none⟩) _ fun b hb => hb)).trans (Agr.setCell (p := ⟨w.heap.size, 2, none⟩) _ fun b hb => hb)).trans (Agr.setCell (p := ⟨w.heap.size, 3, none⟩) _ fun b hb => hb))
  have HA2 := Lib.hid ((((HA1.out.setCell (p := ⟨w.heap.size, 0, none⟩) (by simp) (.int .i64 T)).setCell (p := ⟨w.heap.size, 1, none⟩) (by simp) (.int .i64 N)).setCell (p := ⟨w.heap.size, 2, none⟩) (by simp) (.int .i64 S)).setCell (p := ⟨w.heap.size, 3, none⟩) (by simp) (.slice A n c))
  have HL2 := Lib.hid (HL1.out.agr hag)
  have HX2 := Lib.hid (HX1.out.agr hag)
  have HBG2 := Lib.hid BG2
  clear hag BG1 HA1 HL1 HX1
  generalize (((w1.setCell ⟨w.heap.size, 0, none⟩ (.int .i64 T)).setCell ⟨w.heap.size, 1, none⟩ (.int .i64 N)).setCell ⟨w.heap.size, 2, none⟩ (.int .i64 S)).setCell ⟨w.heap.size, 3, none⟩ (.slice A n c) = w2 at *
  by_cases hbad : chkG T N S rs = 0
  · obtain ⟨g, hg, rfl, rfl, rfl, rfl⟩ := chkG_ok hbad
    have HG := Lib.hid hg
    have HBAD := Lib.hid hbad
    clear hg hbad
    have hle := Left_c (fun b => b ≠ w.heap.size) g A n c w2 HG.out HL2.out.lowR
    simp only [grVal] at hle
    have cBG2 := BG2.cell
    have fBG2 := BG2.frozen
    have lBG2 := BG2.lt
    go_wp2_with fail
    clear cBG2 fBG2 lBG2
    refine hle.mono ?_
    clear hle BG2
    rintro e w3 ⟨xA, xc, rfl, hX3, hb3⟩
    have HB3 := Lib.hid hb3
    have HX3 := Lib.hid hX3
    have BG3 := HBG2.out.via hb3
    have HBG3 := Lib.hid BG3
    have hpz := dparse_z (fun b => b ≠ w.heap.size) g A n c wA wn wcp xs w3 HG.out HBAD.out (HL2.out.via hb3) (HX2.out.via hb3).intsIn (HT.out.via (HA2.out.via hb3))
    clear hb3 hX3 HBG2
    have cBG3 := BG3.cell
    have fBG3 := BG3.frozen
    have lBG3 := BG3.lt
    go_wp2_with fail
    clear cBG3 fBG3 lBG3
    refine hpz.mono ?_
    clear hpz BG3
    rintro e w4 ⟨⟨va, vb, vA, vn, vc⟩, t, cc, rfl, ht, hb4, hP⟩
    have HP := Lib.hid hP
    have hal4 := (Below.refl w4.heap.size w4).al (.cells #[.int .i64 va, .int .i64 vb, .slice vA vn vc] 34)
    have HTR := Lib.hid (ht.via hal4)
    have HB4 := Lib.hid (HB3.out.via (hb4.via hal4))
    have HX4 := Lib.hid (HX3.out.via (hb4.via hal4))
    have HBT := Lib.hid (Blk.new w4 34 #[.int .i64 va, .int .i64 vb, .slice vA vn vc])
    have BG4 := (HBG3.out.via hb4).via hal4
    clear ht hb4 hal4 hP HB3 HX3 HBG3
    simp only [trVal]
    go_upto_region 4 with fail
    generalize w4.alloc (.cells #[.int .i64 va, .int .i64 vb, .slice vA vn vc] 34) = W4 at *
    generalize w4.heap.size = bt at *
    have HBG4 := Lib.hid BG4
    have hck := refcheck_c (fun b => b ≠ w.heap.size) g.terms g.nons g.start A n c (g.rules.map embR) W4 (HL2.out.via HB4.out)
    rw [HBAD.out] at hck
    have cBG4 := BG4.cell
    have fBG4 := BG4.frozen
    have lBG4 := BG4.lt
    go_wp2_with fail
    clear cBG4 fBG4 lBG4
    refine hck.mono ?_
    clear hck BG4
    rintro e w5 ⟨rfl, hb5⟩
    have HB5 := Lib.hid (HB4.out.via hb5)
    have HX5 := Lib.hid (HX4.out.via hb5)
    have HTR5 := Lib.hid (HTR.out.via hb5)
    have HBT5 := Lib.hid (HBT.out.via hb5)
    have HBG5 := Lib.hid (HBG4.out.via hb5)
    clear hb5 HB4 HX4 HTR HBT HBG4
    go_wp2_with fail
    refine (goes_c w5 (HT.out.via (HA2.out.via HB5.out))).mono ?_
    rintro e w6 ⟨rfl, hb6⟩
    have HB6 := Lib.hid (HB5.out.via hb6)
    have HX6 := Lib.hid (HX5.out.via hb6)
    have HTR6 := Lib.hid (HTR5.out.via hb6)
    have HBT6 := Lib.hid (HBT5.out.via hb6)
    have BG6 := HBG5.out.via hb6
    have HBG6 := Lib.hid BG6
    have hlf := leftof_c (fun b => b ≠ w.heap.size) g A n c w6 HG.out (HL2.out.lowR.via HB6.out)
    simp only [grVal] at hlf
    clear hb6 HB5 HX5 HTR5 HBT5 HBG5
    have cBG6 := BG6.cell
    have fBG6 := BG6.frozen
    have lBG6 := BG6.lt
    go_wp2_with fail
    clear cBG6 fBG6 lBG6
    refine hlf.mono ?_
    clear hlf BG6
    rintro e w7 ⟨yA, yc, rfl, hY7, hb7⟩
    have HB7 := Lib.hid (HB6.out.via hb7)
    have heq := eqRw_c 12 (fun args w => by kernel_rfl) _ _ xA yA g.nons xc yc (lefW g) w7 (HX6.out.via hb7) hY7 (by have := HG.out.ok.nons; omega) (fun v1 v2 x w' hx h1 h2 => eqI_c v1.1 v2.1 v1.2.1 v1.2.2 v2.2.1 v2.2.2 x w' h1.intsIn h2.intsIn (by
      have hn : x.length = v1.2.1 := h1.len
      obtain ⟨m, -, rfl⟩ := List.mem_map.1 hx
      have := HG.out.ok.nons
      have hle : (intsN (lefL (begD g.rules) g.nons m)).length ≤ g.nons := by
        rw [intsN, List.length_map]; unfold lefL
        exact Nat.le_trans (List.length_filter_le _ _) (by simp)
      omega))
    have HTR7 := Lib.hid (HTR6.out.via hb7)
    have HBT7 := Lib.hid (HBT6.out.via hb7)
    have HBG7 := Lib.hid (HBG6.out.via hb7)
    clear hb7 hY7 HB6 HX6 HTR6 HBT6 HBG6
    go_wp2_with fail
    refine heq.mono ?_
    clear heq
    rintro e w8 ⟨rfl, hb8⟩
    have HB8 := Lib.hid (HB7.out.via hb8)
    have HTR8 := Lib.hid (HTR7.out.via hb8)
    have HBT8 := Lib.hid (HBT7.out.via hb8)
    have BG8 := HBG7.out.via hb8
    have HBG8 := Lib.hid BG8
    clear hb8 HB7 HTR7 HBT7 HBG7
    obtain ⟨q, hq⟩ : ∃ q, q = chkW g.terms 12 xs := ⟨_, rfl⟩
    have hcw := refword_c (g.terms : Int) (g.nons : Int) (g.start : Int) (by have := HG.out.ok.terms; omega) A n c wA wn wcp 12 xs w8 (HX2.out.intsIn.via HB8.out) (by omega)
    rw [← hq] at hcw HP
    clear hq
    have cBG8 := BG8.cell
    have fBG8 := BG8.frozen
    have lBG8 := BG8.lt
    go_wp2_with fail
    clear cBG8 fBG8 lBG8
    refine hcw.mono ?_
    clear hcw BG8
    rintro e w9 ⟨rfl, hb9⟩
    have HB9 := Lib.hid (HB8.out.via hb9)
    have HTR9 := Lib.hid (HTR8.out.via hb9)
    have HBT9 := Lib.hid (HBT8.out.via hb9)
    have BG9 := HBG8.out.via hb9
    have HBG9 := Lib.hid BG9
    clear hb9 HB8 HTR8 HBT8 HBG8
    by_cases hq0 : q = 0
    · subst hq0
      obtain ⟨W, rfl, hWl, HD⟩ : ∃ W : List Nat, xs = intsN W ∧ W.length ≤ 12 ∧ Hid ((loopB g = true ∧ cc = 9 ∧ t = .node 0 []) ∨ (loopB g = false ∧ ¬ (∃ t, DrL g.rules W [(false, g.start)] 0 W.length [t]) ∧ cc = 10 ∧ t = .node 0 []) ∨ (loopB g = false ∧ IsBest g.rules W ((false, g.start), 0, W.length) t ∧ cc = 0)) := by
        rcases HP.out with h | h
        · exact absurd rfl h.1
        · obtain ⟨W, h1, h2, h3⟩ := h.2
          exact ⟨W, h1, h2, Lib.hid h3⟩
      have hwn : wn = W.length := by have := HX2.out.len; simp only [intsN, List.length_map] at this; omega
      subst hwn
      have hlo := rloops_c (fun b => b ≠ w.heap.size) g A n c w9 HG.out (HL2.out.lowR.via HB9.out)
      simp only [grVal] at hlo
      clear HP
      have cBG9 := BG9.cell
      have fBG9 := BG9.frozen
      have lBG9 := BG9.lt
      go_wp2_with fail
      clear cBG9 fBG9 lBG9
      refine hlo.mono ?_
      clear hlo BG9
      rintro e w10 ⟨rfl, hb10⟩
      have HB10 := Lib.hid (HB9.out.via hb10)
      have HTR10 := Lib.hid (HTR9.out.via hb10)
      have BT10 := HBT9.out.via hb10
      have HBT10 := Lib.hid BT10
      have HBG10 := Lib.hid (HBG9.out.via hb10)
      clear hb10 HB9 HTR9 HBT9 HBG9
      by_cases hlb : loopB g = true
      · have hv : cc = 9 ∧ t = .node 0 [] := by
          rcases HD.out with h | h | h
          · exact h.2
          · rw [hlb] at h; cases h.1
          · rw [hlb] at h; cases h.1
        obtain ⟨rfl, rfl⟩ := hv
        rw [hlb]
        clear hlb HD
        have cBT10 := BT10.cell
        have fBT10 := BT10.frozen
        have lBT10 := BT10.lt
        go_wp2_with fail
        clear cBT10 fBT10 lBT10
        refine (same3_c (v1 := (va, vb, vA, vn, vc)) (v2 := (0, 0, none, 0, 0)) HTR10.out (TreeR.mk (ok := fun _ => True) 0 (Sl.nil 0)) (.node 0 [] (by simp) (fun x hx => by simp at hx))).mono ?_
        rintro e wC ⟨rfl, hbC⟩
        have HBG := Lib.hid ((HA2.out.via HB10.out).via hbC)
        clear hbC
        go_wp2_with fail
        go_ret
        exact ⟨rfl, HBG.out⟩
      · have hlb : loopB g = false := by simpa using hlb
        rw [hlb]
        have HLB := Lib.hid hlb
        have HP2 := Lib.hid (show (¬ (∃ t, DrL g.rules W [(false, g.start)] 0 W.length [t]) ∧ cc = 10 ∧ t = .node 0 []) ∨ (IsBest g.rules W ((false, g.start), 0, W.length) t ∧ cc = 0) from by
          rcases HD.out with h | h | h
          · rw [hlb] at h; cases h.1
          · exact Or.inl h.2
          · exact Or.inr h.2)
        clear HD hlb
        go_upto_region 15 with fail
        have hal11 := (Below.refl w10.heap.size w10).al (.cells #[.int .i64 100000] 3)
        have HBB := Lib.hid (HA2.out.via (HB10.out.via hal11))
        have HL11 := Lib.hid (((HL2.out.lowR.via HB10.out).mono (ok' := fun b => b ≠ w10.heap.size) fun b hlt _ => by omega).via hal11)
        have HX11 := Lib.hid (((HX2.out.via HB10.out).mono (ok' := fun b => b ≠ w10.heap.size) fun b hlt _ => by omega).via hal11)
        have HBT11 := Lib.hid (BT10.via hal11)
        have HTR11 := Lib.hid ((HTR10.out.mono (ok' := fun b => b ≠ w10.heap.size) fun b hlt _ => by omega).via hal11)
        have BG11 := HBG10.out.via hal11
        have BST := Blk.new w10 3 #[.int .i64 100000]
        have HLT := Lib.hid (show bt < w10.heap.size ∧ w.heap.size < w10.heap.size from ⟨BT10.lt, HBG10.out.lt⟩)
        have HSV := Lib.hid (show w10.heap.size < (w10.alloc (.cells #[.int .i64 100000] 3)).heap.size by simp)
        clear hal11 BT10 HBG10 HB10 HTR10 HBT10
        generalize w10.alloc (.cells #[.int .i64 100000] 3) = w11 at *
        generalize w10.heap.size = bs at *
        have HBK : Calls Tryd.prog 17 #[.agg #[.int .i64 (g.terms : Int), .int .i64 (g.nons : Int), .int .i64 (g.start : Int), .slice A n c], .slice wA W.length wcp, .pointer (some ⟨bs, 0, none⟩)] w11 (BackP w11 g W bs 100000) :=
          back_c g HG.out W (by omega) A n c wA wcp bs 100000 w11 (by omega) (by omega) HLB.out HL11.out HX11.out BST
        have cBG11 := BG11.cell
        have fBG11 := BG11.frozen
        have lBG11 := BG11.lt
        go_wp2_with fail
        clear cBG11 fBG11 lBG11
        refine HBK.mono ?_
        clear HBK BST BG11 HL11 HX11
        rintro e w12 ⟨⟨ua, ub, uA, un, uc⟩, u, okb, s9, rfl, hU, hs9, hg9, -, hok9, hno9⟩
        have hne : ∀ b, b ≠ bs → some b ≠ some bs := fun b h e => h (Option.some.inj e)
        have hal13 := (Below.refl w12.heap.size w12).al (.cells #[.int .i64 ua, .int .i64 ub, .slice uA un uc] 34)
        have HBA := Lib.hid ((HBB.out.grown hg9 (by have := HLT.out; have := HSV.out; omega) (fun b e => by have := Option.some.inj e; have := HLT.out; omega)).via hal13)
        have HTA := Lib.hid ((HTR11.out.agr (Agr.grown hg9 fun b hb => hne b hb)).via hal13)
        have HBTA := Lib.hid ((HBT11.out.grown hg9 (hne _ (by have := HLT.out; omega))).via hal13)
        have HUA := Lib.hid (hU.via hal13)
        have HBU := Lib.hid (Blk.new w12 34 #[.int .i64 ua, .int .i64 ub, .slice uA un uc])
        have BST := hs9.via hal13
        clear hU hs9 hg9 hal13 hne HBB HTR11 HBT11 HLT HSV
        simp only [trVal]
        go_upto_region 16 with fail
        generalize w12.alloc (.cells #[.int .i64 ua, .int .i64 ub, .slice uA un uc] 34) = w13 at *
        generalize w12.heap.size = bu at *
        cases okb with
        | true =>
          obtain ⟨-, hbest⟩ := hok9 rfl
          have hcc : cc = 0 ∧ u = t := by
            rcases HP2.out with ⟨h, -⟩ | ⟨h, h2⟩
            · exact absurd ⟨_, hbest.1⟩ h
            · exact ⟨h2, hbest.uniq h⟩
          obtain ⟨rfl, rfl⟩ := hcc
          have HN := Lib.hid (DrL.nrw (fun v hv => (HG.out.ok.right v hv).1) hbest.1 u (by simp))
          have BT := HBTA.out
          have BU := HBU.out
          clear HP2 hok9 hno9 hbest
          have cBST := BST.cell
          have fBST := BST.frozen
          have lBST := BST.lt
          have cBT := BT.cell
          have fBT := BT.frozen
          have lBT := BT.lt
          have cBU := BU.cell
          have fBU := BU.frozen
          have lBU := BU.lt
          go_wp2_with fail
          clear cBST fBST lBST cBT fBT lBT cBU fBU lBU
          refine (same3_c (v1 := (va, vb, vA, vn, vc)) (v2 := (ua, ub, uA, un, uc)) HTA.out HUA.out HN.out).mono ?_
          rintro e w14 ⟨rfl, hb14⟩
          have HBZ := Lib.hid (HBA.out.via hb14)
          clear hb14
          go_wp2_with fail
          go_ret
          exact ⟨rfl, HBZ.out⟩
        | false =>
          obtain ⟨-, hno⟩ := hno9 rfl
          have HNO := Lib.hid hno
          by_cases hs0 : s9 < 0
          · have hd : decide (s9 < 0) = true := decide_eq_true hs0
            have hcc : cc = 10 ∨ cc = 0 := by
              rcases HP2.out with h | h
              · exact Or.inl h.2.1
              · exact Or.inr h.2
            clear hs0 HP2 hok9 hno9 hno
            have cBST := BST.cell
            have fBST := BST.frozen
            have lBST := BST.lt
            rcases hcc with rfl | rfl
            · go_wp2_with fail
              go_ret
              exact ⟨rfl, HBA.out⟩
            · go_wp2_with fail
              go_ret
              exact ⟨rfl, HBA.out⟩
          · have hd : decide (s9 < 0) = false := decide_eq_false hs0
            have hcc : cc = 10 ∧ t = .node 0 [] := by
              rcases HP2.out with h | ⟨h, -⟩
              · exact h.2
              · exact absurd ⟨_, h.1⟩ (hno (by omega))
            obtain ⟨rfl, rfl⟩ := hcc
            have BT := HBTA.out
            clear hs0 HP2 hok9 hno9 hno
            have cBST := BST.cell
            have fBST := BST.frozen
            have lBST := BST.lt
            have cBT := BT.cell
            have fBT := BT.frozen
            have lBT := BT.lt
            go_wp2_with fail
            clear cBST fBST lBST cBT fBT lBT
            refine (same3_c (v1 := (va, vb, vA, vn, vc)) (v2 := (0, 0, none, 0, 0)) HTA.out (TreeR.mk (ok := fun _ => True) 0 (Sl.nil 0)) (.node 0 [] (by simp) (fun x hx => by simp at hx))).mono ?_
            rintro e wC ⟨rfl, hbC⟩
            have HBG := Lib.hid (HBA.out.via hbC)
            clear hbC
            go_wp2_with fail
            go_ret
            exact ⟨rfl, HBG.out⟩
    · have hv : cc = q ∧ t = .node 0 [] := by
        rcases HP.out with h | h
        · exact h.2
        · exact absurd h.1 hq0
      obtain ⟨rfl, rfl⟩ := hv
      have g1 : (cc == 0) = false := by simpa using hq0
      have g2 : (cc != 0) = true := by simpa using hq0
      have g3 : (cc == cc) = true := by simp
      have BT9 := HBT9.out
      clear HP hq0
      have cBT9 := BT9.cell
      have fBT9 := BT9.frozen
      have lBT9 := BT9.lt
      go_wp2_with fail
      clear cBT9 fBT9 lBT9
      refine (same3_c (v1 := (va, vb, vA, vn, vc)) (v2 := (0, 0, none, 0, 0)) HTR9.out (TreeR.mk (ok := fun _ => True) 0 (Sl.nil 0)) (.node 0 [] (by simp) (fun x hx => by simp at hx))).mono ?_
      rintro e wC ⟨rfl, hbC⟩
      have HBG := Lib.hid ((HA2.out.via HB9.out).via hbC)
      clear hbC
      go_wp2_with fail
      go_ret
      exact ⟨rfl, HBG.out⟩
  · obtain ⟨q, hq⟩ : ∃ q, q = chkG T N S rs := ⟨_, rfl⟩
    have hq0 : q ≠ 0 := by rw [hq]; exact hbad
    have HQ := Lib.hid hq
    have HBAD := Lib.hid hbad
    have HQ0 := Lib.hid hq0
    have hle := Left_e (fun b => b ≠ w.heap.size) T N S A n c rs w2 HL2.out hbad
    rw [← hq] at hle
    have g1 : (q == 0) = false := by simpa using hq0
    have g2 : (q != 0) = true := by simpa using hq0
    have g3 : (q == q) = true := by simp
    clear hq hq0 hbad
    have cBG2 := BG2.cell
    have fBG2 := BG2.frozen
    have lBG2 := BG2.lt
    go_wp2_with fail
    clear cBG2 fBG2 lBG2
    refine hle.mono ?_
    clear hle
    rintro e w3 ⟨rfl, hb3⟩
    have HB3 := Lib.hid hb3
    have BG3 := HBG2.out.via hb3
    have HBG3 := Lib.hid BG3
    have hdp := dparse_e (fun b => b ≠ w.heap.size) T N S A n c rs wA wn wcp xs w3 (HL2.out.via hb3) (HX2.out.via hb3).intsIn q (by unfold chkB; rw [if_neg HBAD.out]; exact HQ.out.symm) HQ0.out
    clear hb3 HBG2
    have cBG3 := BG3.cell
    have fBG3 := BG3.frozen
    have lBG3 := BG3.lt
    go_wp2_with fail
    clear cBG3 fBG3 lBG3
    refine hdp.mono ?_
    clear hdp BG3
    rintro e w4 ⟨rfl, hb4⟩
    have hal4 := (Below.refl w4.heap.size w4).al (.cells #[.int .i64 0, .int .i64 0, .slice none 0 0] 34)
    have HB4 := Lib.hid (HB3.out.via (hb4.via hal4))
    have BG4 := (HBG3.out.via hb4).via hal4
    clear hb4 hal4 HB3 HBG3
    simp only [trVal]
    go_upto_region 4 with fail
    generalize w4.alloc (.cells #[.int .i64 0, .int .i64 0, .slice none 0 0] 34) = W4 at *
    generalize w4.heap.size = bt at *
    have hck := refcheck_c (fun b => b ≠ w.heap.size) T N S A n c rs W4 (HL2.out.via HB4.out)
    rw [← HQ.out] at hck
    have cBG4 := BG4.cell
    have fBG4 := BG4.frozen
    have lBG4 := BG4.lt
    go_wp2_with fail
    clear cBG4 fBG4 lBG4
    refine hck.mono ?_
    clear hck BG4
    rintro e w5 ⟨rfl, hb5⟩
    have HB5 := Lib.hid (HB4.out.via hb5)
    clear hb5 HB4
    go_wp2_with fail
    refine (goes_c w5 (HT.out.via (HA2.out.via HB5.out))).mono ?_
    rintro e w6 ⟨rfl, hb6⟩
    have HB6 := Lib.hid (HB5.out.via hb6)
    clear hb6 HB5
    go_wp2_with fail
    go_ret
    exact ⟨rfl, HA2.out.via HB6.out⟩
end Go.Proofs.YtfmnmgnhanogmaaDoor

