/- Texts TB, laid together. -/
import Derived.Test.YtpjafhaajcklmaaGreatDoorSZ
import Derived.Test.YtpjafhaajcklmaaGreatDoorTA



namespace Go.Proofs.YtpjafhaajcklmaaGreatDoor
open Go.RowKit

theorem fo_bound2 {g : Gr} {D : Ky → Bool} {n most : Nat} {f : FoI} {b : Bool} (hg : g.Ok) (hn : n ≤ 12) (hD : ∀ k, D k = true → k.2.1 ≤ k.2.2 ∧ k.2.2 ≤ n) (h : IsFo D g.rules ((false, g.start), 0, n) most f b) : f.2.length ≤ 1000000 ∧ ∀ x ∈ f.2, x.2.length ≤ 913952 := by
  cases h with
  | none => exact ⟨by simp, by simp⟩
  | large => exact ⟨by simp, by simp⟩
  | @fits L h1 h2 h3 =>
    have hk : ∀ k ∈ L, KyOk g n k := fun k hk => RchK.ok hg hD ⟨by simpa [Gr.okSy] using hg.start, Nat.zero_le _, Nat.le_refl _⟩ ((h2.mem k).1 hk)
    have hl := nodup_len h2.nodup hk hg hn
    refine ⟨by simp [foI]; omega, fun x hx => ?_⟩
    obtain ⟨k, hkL, rfl⟩ := List.mem_map.1 hx
    have hp := packs_len (D := D) (k := k) (fun u hu => (hg.right u hu).1) hg.count (Nat.le_trans (hk k hkL).2.2 hn)
    rw [ndI_eq]
    simp only [List.length_map]; omega
set_option maxRecDepth 100000 in
set_option maxHeartbeats 8000000 in
theorem forestChecks_walk (ok : Nat → Prop) (T0 N0 S0 : Int) (A0 : Option Addr) (n0 c0 : Nat) (rs0 : List Ri) (wA0 : Option Addr) (wn0 wc0 : Nat) (xs0 : List Int) (lA : Option Addr) (ln lc : Nat) (ls : List Int) (fA0 : Option Addr) (fn0 fc0 : Nat) (fr0 : Int) (nd0 : List NdI) (tr : Int) (w : World) (hl : Sl RiE ok w A0 n0 c0 rs0) (hx : Ints w wA0 wn0 wc0 xs0) (hok : ∀ b, ok b → b < w.heap.size) (hls : Ints w lA ln lc ls) (hfo : Sl NdE ok w fA0 fn0 fc0 nd0) (hT : TabW w) :
    Calls Tryz.prog 6 #[.agg #[.int .i64 T0, .int .i64 N0, .int .i64 S0, .slice A0 n0 c0], .slice wA0 wn0 wc0, .slice lA ln lc, .agg #[.slice fA0 fn0 fc0, .int .i64 fr0], .int .i64 tr] w fun e w' => e = .returned (.bool true) ∧ Below w.heap.size w w' := by
  have hal := ((Below.refl w.heap.size w).al (.cells #[.int .i64 T0, .int .i64 N0, .int .i64 S0, .slice A0 n0 c0] 24)).al (.cells #[.slice fA0 fn0 fc0, .int .i64 fr0] 30)
  have HPI := Lib.hid (pick2_c (fun b => b < w.heap.size) T0 N0 S0 A0 n0 c0 rs0 wA0 wn0 wc0 xs0 lA ln lc ls 6 ((w.alloc (.cells #[.int .i64 T0, .int .i64 N0, .int .i64 S0, .slice A0 n0 c0] 24)).alloc (.cells #[.slice fA0 fn0 fc0, .int .i64 fr0] 30)) ((hl.mono fun b _ h => hok b h).via hal) (hx.slLt.via hal) (hls.via hal) (by omega))
  have BG := (Blk.new w 24 #[.int .i64 T0, .int .i64 N0, .int .i64 S0, .slice A0 n0 c0]).al (.cells #[.slice fA0 fn0 fc0, .int .i64 fr0] 30)
  have BX := Blk.newAt (w.alloc (.cells #[.int .i64 T0, .int .i64 N0, .int .i64 S0, .slice A0 n0 c0] 24)) 30 #[.slice fA0 fn0 fc0, .int .i64 fr0] (w.heap.size + 1) (by simp)
  have HNF := Lib.hid ((hfo.mono (ok' := fun b => b < w.heap.size) fun b _ h => hok b h).via hal)
  have HAL := Lib.hid hal
  have HT := Lib.hid hT
  have HSZ := Lib.hid (show ((w.alloc (.cells #[.int .i64 T0, .int .i64 N0, .int .i64 S0, .slice A0 n0 c0] 24)).alloc (.cells #[.slice fA0 fn0 fc0, .int .i64 fr0] 30)).heap.size = w.heap.size + 2 by simp)
  clear hl hx hls hal hok hT hfo
  have cBG := BG.cell
  have fBG := BG.frozen
  have lBG := BG.lt
  go_enter Tryz.func6, Tryz.ntmps6
  go_wp2_with fail
  clear cBG fBG lBG
  generalize ((w.alloc (.cells #[.int .i64 T0, .int .i64 N0, .int .i64 S0, .slice A0 n0 c0] 24)).alloc (.cells #[.slice fA0 fn0 fc0, .int .i64 fr0] 30)) = W0 at *
  refine HPI.out.mono ?_
  rintro e w1 ⟨T, N, S, A, n, c, rs, wA, wn, wcp, xs, rfl, hl1, hx1, hb1, hpk⟩
  have HPK := Lib.hid hpk
  have BX1 := BX.via hb1
  have HNF1 := Lib.hid ((HNF.out.via hb1).mono (ok' := fun b => b ≠ w.heap.size ∧ b ≠ w.heap.size + 1) fun b _ h => ⟨by omega, by omega⟩)
  have BG1 := BG.via hb1
  have hne : ∀ b, (b < w.heap.size ∨ W0.heap.size ≤ b) → b ≠ w.heap.size ∧ b ≠ w.heap.size + 1 := fun b h => by have := HSZ.out; omega
  have HL1 := Lib.hid (hl1.mono (ok' := fun b => b ≠ w.heap.size ∧ b ≠ w.heap.size + 1) fun b _ h => hne b h)
  have HX1 := Lib.hid (hx1.mono (ok' := fun b => b ≠ w.heap.size ∧ b ≠ w.heap.size + 1) fun b _ h => hne b h)
  have HA1 := Lib.hid (HAL.out.trans (hb1.mono (by have := HSZ.out; omega)))
  clear HPI BG BX HNF hpk hl1 hx1 hb1 hne HAL HSZ
  have cBG1 := BG1.cell
  have fBG1 := BG1.frozen
  have lBG1 := BG1.lt
  go_upto_region 2 with fail
  clear cBG1 fBG1 lBG1
  have BG2 : Blk ((((w1.setCell ⟨w.heap.size, 0, none⟩ (.int .i64 T)).setCell ⟨w.heap.size, 1, none⟩ (.int .i64 N)).setCell ⟨w.heap.size, 2, none⟩ (.int .i64 S)).setCell ⟨w.heap.size, 3, none⟩ (.slice A n c)) w.heap.size 24 #[.int .i64 T, .int .i64 N, .int .i64 S, .slice A n c] := by
    have := (((BG1.set_ 0 (.int .i64 T)).set_ 1 (.int .i64 N)).set_ 2 (.int .i64 S)).set_ 3 (.slice A n c); simpa using this
  have hag : Agr (fun b => b ≠ w.heap.size ∧ b ≠ w.heap.size + 1) w1 ((((w1.setCell ⟨w.heap.size, 0, none⟩ (.int .i64 T)).setCell ⟨w.heap.size, 1, none⟩ (.int .i64 N)).setCell ⟨w.heap.size, 2, none⟩ (.int .i64 S)).setCell ⟨w.heap.size, 3, none⟩ (.slice A n c)) := ((((Agr.setCell (p := ⟨w.heap.size, 0, none⟩) _ fun b hb => hb.1).trans (Agr.setCell (p := ⟨w.heap.size, 1, none⟩) _ fun b hb => hb.1)).trans (Agr.setCell (p := ⟨w.heap.size, 2, none⟩) _ fun b hb => hb.1)).trans (Agr.setCell (p := ⟨w.heap.size, 3, none⟩) _ fun b hb => hb.1))
  have HA2 := Lib.hid ((((HA1.out.setCell (p := ⟨w.heap.size, 0, none⟩) (by simp) (.int .i64 T)).setCell (p := ⟨w.heap.size, 1, none⟩) (by simp) (.int .i64 N)).setCell (p := ⟨w.heap.size, 2, none⟩) (by simp) (.int .i64 S)).setCell (p := ⟨w.heap.size, 3, none⟩) (by simp) (.slice A n c))
  have HL2 := Lib.hid (HL1.out.agr hag)
  have HX2 := Lib.hid (HX1.out.agr hag)
  have HBG2 := Lib.hid BG2
  have HNF2 := Lib.hid (HNF1.out.agr hag)
  have HBX2 := Lib.hid ((((BX1.far (p := ⟨w.heap.size, 0, none⟩) (by show w.heap.size + 1 ≠ w.heap.size; omega) (.int .i64 T)).far (p := ⟨w.heap.size, 1, none⟩) (by show w.heap.size + 1 ≠ w.heap.size; omega) (.int .i64 N)).far (p := ⟨w.heap.size, 2, none⟩) (by show w.heap.size + 1 ≠ w.heap.size; omega) (.int .i64 S)).far (p := ⟨w.heap.size, 3, none⟩) (by show w.heap.size + 1 ≠ w.heap.size; omega) (.slice A n c))
  clear hag BG1 HA1 HL1 HX1 BX1 HNF1
  generalize (((w1.setCell ⟨w.heap.size, 0, none⟩ (.int .i64 T)).setCell ⟨w.heap.size, 1, none⟩ (.int .i64 N)).setCell ⟨w.heap.size, 2, none⟩ (.int .i64 S)).setCell ⟨w.heap.size, 3, none⟩ (.slice A n c) = w2 at *
  go_upto_if 25 with fail
  go_cut [] (fun wc => ∃ (fA : Option Addr) (fn fc : Nat) (fr : Int) (nd : List NdI), Hid (Blk wc (w.heap.size + 1) 30 #[.slice fA fn fc, .int .i64 fr]) ∧ Hid (Sl NdE (fun b => b ≠ w.heap.size ∧ b ≠ w.heap.size + 1) wc fA fn fc nd) ∧ Hid (Agr (fun b => b ≠ w.heap.size + 1) w2 wc) ∧ Hid (Below w.heap.size w wc))
  case first =>
    by_cases h0 : ln = 0
    · subst h0
      go_wp2_with fail
      go_meet
      exact ⟨fA0, fn0, fc0, fr0, nd0, HBX2, HNF2, Lib.hid (fun _ _ _ => rfl), HA2⟩
    · have hlp : 0 < ln := Nat.pos_of_ne_zero h0
      obtain ⟨g, hg, rfl, rfl, rfl, rfl, hxt, hxl⟩ := HPK.out h0
      have hwn : wn ≤ 12 := by have := HX2.out.len; omega
      have HG := Lib.hid hg
      have HXT := Lib.hid hxt
      have HXL := Lib.hid (show xs.length = wn from HX2.out.len)
      have has := allspans_c (fun b => b ≠ w.heap.size ∧ b ≠ w.heap.size + 1) g A n c wA wn wcp xs w2 HG.out HL2.out.lowR HX2.out.intsIn hwn HXT.out
      simp only [grVal] at has
      clear hg hxt hxl h0
      have cBG2 := BG2.cell
      have fBG2 := BG2.frozen
      have lBG2 := BG2.lt
      go_wp2_with fail
      clear cBG2 fBG2 lBG2
      refine has.mono ?_
      clear has
      rintro e w3 ⟨bs, bm, rfl, hR, -, -, hb3⟩
      have HB3 := Lib.hid hb3
      have HD := Lib.hid (show ∀ k, dvD g.rules xs k = true → k.2.1 ≤ k.2.2 ∧ k.2.2 ≤ wn from fun k h => by rw [← HXL.out]; exact dv_le h)
      have hsf := spforest_c (fun b => b ≠ w.heap.size ∧ b ≠ w.heap.size + 1) g A n c wA wn wcp bs bm (dvD g.rules xs) w3 HG.out.ok (HL2.out.lowR.via hb3) hR hwn
      clear hR hb3
      dsimp only
      go_wp2_with fail
      refine hsf.mono ?_
      clear hsf
      rintro e w4 ⟨f, v, bb, rfl, hf, ⟨fA, fn, fc, rfl, hS⟩, hb4⟩
      have hb24 := HB3.out.via hb4
      have hlt2 := HBX2.out.lt
      have hs3 := HB3.out.size
      have HBN := Lib.hid (fo_bound2 HG.out.ok hwn HD.out hf)
      have HS4 := Lib.hid (hS.mono (ok' := fun b => b ≠ w.heap.size ∧ b ≠ w.heap.size + 1) fun b _ hb => ⟨by omega, by omega⟩)
      have BX4 := HBX2.out.via hb24
      have HB24 := Lib.hid hb24
      have hfl := hS.len
      clear hf hS hb4 hs3
      dsimp only
      have cBX4 := BX4.cell
      have fBX4 := BX4.frozen
      have lBX4 := BX4.lt
      go_upto_region 4 with fail
      clear cBX4 fBX4 lBX4
      have HBX5 : Hid (Blk ((w4.setCell ⟨w.heap.size + 1, 0, none⟩ (.slice fA fn fc)).setCell ⟨w.heap.size + 1, 1, none⟩ (.int .i64 f.1)) (w.heap.size + 1) 30 #[.slice fA fn fc, .int .i64 f.1]) := Lib.hid (by
        have := (BX4.set_ 0 (.slice fA fn fc)).set_ 1 (.int .i64 f.1); simpa using this)
      have hag5 : Agr (fun b => b ≠ w.heap.size + 1) w4 ((w4.setCell ⟨w.heap.size + 1, 0, none⟩ (.slice fA fn fc)).setCell ⟨w.heap.size + 1, 1, none⟩ (.int .i64 f.1)) := (Agr.setCell (p := ⟨w.heap.size + 1, 0, none⟩) _ fun b hb => hb).trans (Agr.setCell (p := ⟨w.heap.size + 1, 1, none⟩) _ fun b hb => hb)
      have HS5 := Lib.hid (HS4.out.agr fun b hb h => hag5 b hb.2 h)
      have HAG5 := Lib.hid ((Agr.below HB24.out).trans hag5)
      have HB5 := Lib.hid (((HA2.out.via HB24.out).setCell (p := ⟨w.heap.size + 1, 0, none⟩) (Nat.le_succ _) (.slice fA fn fc)).setCell (p := ⟨w.heap.size + 1, 1, none⟩) (Nat.le_succ _) (.int .i64 f.1))
      clear hag5 BX4 HS4
      generalize (w4.setCell ⟨w.heap.size + 1, 0, none⟩ (.slice fA fn fc)).setCell ⟨w.heap.size + 1, 1, none⟩ (.int .i64 f.1) = w5 at *
      have BX5 := HBX5.out
      have hlt5 := BX5.lt
      have HTU := Lib.hid (turned_c (fun b => b ≠ w.heap.size ∧ b ≠ w.heap.size + 1) fA fn fc f.1 f.2 tr w5 HS5.out (by have := HBN.out.1; omega) HBN.out.2)
      have cBX5 := BX5.cell
      have fBX5 := BX5.frozen
      have lBX5 := BX5.lt
      go_wp2_with fail
      clear cBX5 fBX5 lBX5
      refine HTU.out.mono ?_
      clear HTU BX5
      rintro e w6 ⟨gA, gn, gc, gr, gd, rfl, hS6, hb6⟩
      have BX6 := HBX5.out.via hb6
      have HS6 := Lib.hid (hS6.mono (ok' := fun b => b ≠ w.heap.size ∧ b ≠ w.heap.size + 1) fun b _ hb => by omega)
      have HB6 := Lib.hid hb6
      clear hS6 hb6
      dsimp only
      have cBX6 := BX6.cell
      have fBX6 := BX6.frozen
      have lBX6 := BX6.lt
      go_wp2_with fail
      clear cBX6 fBX6 lBX6
      have hag7 : Agr (fun b => b ≠ w.heap.size + 1) w6 ((w6.setCell ⟨w.heap.size + 1, 0, none⟩ (.slice gA gn gc)).setCell ⟨w.heap.size + 1, 1, none⟩ (.int .i64 gr)) := (Agr.setCell (p := ⟨w.heap.size + 1, 0, none⟩) _ fun b hb => hb).trans (Agr.setCell (p := ⟨w.heap.size + 1, 1, none⟩) _ fun b hb => hb)
      go_meet
      refine ⟨gA, gn, gc, gr, gd, Lib.hid ?_, Lib.hid (HS6.out.agr fun b hb h => hag7 b hb.2 h), Lib.hid ((HAG5.out.trans (Agr.below HB6.out)).trans hag7), Lib.hid (((HB5.out.via HB6.out).setCell (p := ⟨w.heap.size + 1, 0, none⟩) (Nat.le_succ _) _).setCell (p := ⟨w.heap.size + 1, 1, none⟩) (Nat.le_succ _) _)⟩
      have := (BX6.set_ 0 (.slice gA gn gc)).set_ 1 (.int .i64 gr); simpa using this
  case rest =>
    obtain ⟨fA, fn, fc, fr, nd, HBX, HFS, HAG, HBC⟩ := hcut
    have HLc := Lib.hid (HL2.out.agr fun b hb h => HAG.out b hb.2 h)
    have HXc := Lib.hid (HX2.out.agr fun b hb h => HAG.out b hb.2 h)
    have BGc : Blk wc w.heap.size 24 #[.int .i64 T, .int .i64 N, .int .i64 S, .slice A n c] := (HAG.out w.heap.size (by omega) HBG2.out.lt).trans HBG2.out
    have HBGc := Lib.hid BGc
    have BXc := HBX.out
    clear HL2 HX2 BG2 HBG2 HNF2 HBX2 HAG HA2 HPK
    by_cases hbad : chkB T N S rs xs = 0
    · obtain ⟨hG0, hxl, hxt⟩ := chkB_ok hbad
      obtain ⟨g, hg, rfl, rfl, rfl, rfl⟩ := chkG_ok hG0
      have HG := Lib.hid hg
      have HBAD := Lib.hid hbad
      have HXT := Lib.hid hxt
      have hwn : wn ≤ 12 := by have := HXc.out.len; omega
      have HXL := Lib.hid (show xs.length = wn from HXc.out.len)
      clear hg hbad hG0 hxl hxt
      have hcy := fcheck_c (fun b => b ≠ w.heap.size ∧ b ≠ w.heap.size + 1) (fun b => b ≠ w.heap.size ∧ b ≠ w.heap.size + 1) g A n c wA wn wcp xs fA fn fc (fr, nd) wc HG.out HLc.out.lowR HXc.out.intsIn hwn HXT.out (HT.out.via HBC.out) HFS.out
      simp only [grVal] at hcy
      have cBGc := BGc.cell
      have fBGc := BGc.frozen
      have lBGc := BGc.lt
      have cBXc := BXc.cell
      have fBXc := BXc.frozen
      have lBXc := BXc.lt
      go_wp2_with fail
      clear cBGc fBGc lBGc cBXc fBXc lBXc
      refine hcy.mono ?_
      clear hcy
      rintro e w3 ⟨⟨q, rfl, hq⟩, hb3⟩
      have HQ := Lib.hid hq
      have HB3 := Lib.hid hb3
      have BG3 := BGc.via hb3
      have HBG3 := Lib.hid BG3
      have hcb := refboth_c (fun b => b ≠ w.heap.size ∧ b ≠ w.heap.size + 1) g.terms g.nons g.start A n c (g.rules.map embR) wA wn wcp xs w3 (HLc.out.via hb3) (HXc.out.intsIn.via hb3)
      rw [HBAD.out] at hcb
      clear hq hb3 BGc BXc HBGc
      dsimp only
      have cBG3 := BG3.cell
      have fBG3 := BG3.frozen
      have lBG3 := BG3.lt
      go_wp2_with fail
      clear cBG3 fBG3 lBG3
      refine hcb.mono ?_
      clear hcb BG3
      rintro e w5 ⟨rfl, hb5⟩
      have HB5 := Lib.hid (HB3.out.via hb5)
      have HBG5 := Lib.hid (HBG3.out.via hb5)
      clear hb5 HB3 HBG3
      dsimp only
      go_wp2_with fail
      refine (woods_c w5 (HT.out.via (HBC.out.via HB5.out))).mono ?_
      rintro e w6 ⟨rfl, hb6⟩
      have HB6 := Lib.hid (HB5.out.via hb6)
      have BG6 := HBG5.out.via hb6
      have has := allspans_c (fun b => b ≠ w.heap.size ∧ b ≠ w.heap.size + 1) g A n c wA wn wcp xs w6 HG.out (HLc.out.lowR.via HB6.out) (HXc.out.intsIn.via HB6.out) hwn HXT.out
      simp only [grVal] at has
      clear hb6 HB5 HBG5
      dsimp only
      have cBG6 := BG6.cell
      have fBG6 := BG6.frozen
      have lBG6 := BG6.lt
      go_wp2_with fail
      clear cBG6 fBG6 lBG6
      refine has.mono ?_
      clear has BG6
      rintro e w7 ⟨bs, bm, rfl, hR, -, -, hb7⟩
      have HB7 := Lib.hid (HB6.out.via hb7)
      have HD := Lib.hid (show ∀ k, dvD g.rules xs k = true → k.2.1 ≤ k.2.2 ∧ k.2.2 ≤ wn from fun k h => by rw [← HXL.out]; exact dv_le h)
      have hsf := spforest_c (fun b => b ≠ w.heap.size ∧ b ≠ w.heap.size + 1) g A n c wA wn wcp bs bm (dvD g.rules xs) w7 HG.out.ok (HLc.out.lowR.via HB7.out) hR hwn
      clear hR hb7 HB6
      dsimp only
      go_wp2_with fail
      refine hsf.mono ?_
      clear hsf
      rintro e w8 ⟨f, v, bb, rfl, hf, ⟨gA, gn, gc, rfl, hS⟩, hb8⟩
      obtain ⟨fo, b', hfo, hq⟩ := HQ.out
      obtain ⟨rfl, rfl⟩ := hfo.uniq hf
      have HFB := Lib.hid (fo_bound HG.out.ok hwn HD.out hf)
      have hal8 := (Below.refl w8.heap.size w8).al (.cells #[.slice gA gn gc, .int .i64 fo.1] 30)
      have hb88 := (HB7.out.via hb8).via hal8
      have HB8 := Lib.hid hb88
      have BX8 := HBX.out.via hb88
      have HS8 := Lib.hid (HFS.out.via hb88)
      have HS28 := Lib.hid (hS.via hal8)
      have BF2 := Blk.new w8 30 #[.slice gA gn gc, .int .i64 fo.1]
      clear hb8 hal8 hfo hf hS hb88 HB7 HQ HD
      dsimp only
      rcases hq with ⟨rfl, rfl⟩ | ⟨rfl, hfe, rfl⟩ | ⟨rfl, hfe, rfl⟩
      · go_wp2_with fail
        go_ret
        exact ⟨rfl, (HBC.out.via HB8.out)⟩
      · obtain ⟨fo1, fo2⟩ := fo
        simp only at hfe HS28 BF2 HFB
        go_upto_region 12 with fail
        generalize w8.alloc (.cells #[.slice gA gn gc, .int .i64 fo1] 30) = W8 at *
        generalize w8.heap.size = bf2 at *
        have HSM := Lib.hid (same_c (fun b => b ≠ w.heap.size ∧ b ≠ w.heap.size + 1) (fun b => w7.heap.size ≤ b) fA gA fn fc gn gc fr fo1 nd fo2 W8 HS8.out HS28.out HFB.out)
        have HBX8 := Lib.hid BX8
        have HBF2 := Lib.hid BF2
        have cBX8 := BX8.cell
        have fBX8 := BX8.frozen
        have lBX8 := BX8.lt
        have cBF2 := BF2.cell
        have fBF2 := BF2.frozen
        have lBF2 := BF2.lt
        go_wp2_with fail
        clear cBX8 fBX8 lBX8 cBF2 fBF2 lBF2
        refine HSM.out.mono ?_
        clear HSM BX8 BF2
        rintro e w9 ⟨b9, rfl, hb9, hbe⟩
        obtain rfl : b9 = true := hb9.2 ⟨by simpa using congrArg Prod.fst hfe, by simpa using congrArg Prod.snd hfe⟩
        have HB9 := Lib.hid hbe
        have BX9 := HBX8.out.via hbe
        have BF9 := HBF2.out.via hbe
        have HSM := Lib.hid (fsame_c (fun b => b ≠ w.heap.size ∧ b ≠ w.heap.size + 1) (fun b => w7.heap.size ≤ b) fA gA fn fc gn gc fr fo1 nd fo2 w9 (HS8.out.via hbe) (HS28.out.via hbe) HFB.out)
        clear hb9 hbe
        dsimp only
        have cBX9 := BX9.cell
        have fBX9 := BX9.frozen
        have lBX9 := BX9.lt
        have cBF9 := BF9.cell
        have fBF9 := BF9.frozen
        have lBF9 := BF9.lt
        go_wp2_with fail
        clear cBX9 fBX9 lBX9 cBF9 fBF9 lBF9
        refine HSM.out.mono ?_
        clear HSM BX9 BF9
        rintro e w10 ⟨b9, rfl, hb9, hbe⟩
        obtain rfl : b9 = true := hb9.2 ⟨by simpa using congrArg Prod.fst hfe, by simpa using congrArg Prod.snd hfe⟩
        have HBE := Lib.hid ((HB8.out.via HB9.out).via hbe)
        clear hb9 hbe
        dsimp only
        go_wp2_with fail
        go_ret
        exact ⟨rfl, HBC.out.via HBE.out⟩
      · obtain ⟨fo1, fo2⟩ := fo
        simp only at hfe HS28 BF2 HFB
        go_upto_region 12 with fail
        generalize w8.alloc (.cells #[.slice gA gn gc, .int .i64 fo1] 30) = W8 at *
        generalize w8.heap.size = bf2 at *
        have HSM := Lib.hid (same_c (fun b => b ≠ w.heap.size ∧ b ≠ w.heap.size + 1) (fun b => w7.heap.size ≤ b) fA gA fn fc gn gc fr fo1 nd fo2 W8 HS8.out HS28.out HFB.out)
        have HBX8 := Lib.hid BX8
        have HBF2 := Lib.hid BF2
        have cBX8 := BX8.cell
        have fBX8 := BX8.frozen
        have lBX8 := BX8.lt
        have cBF2 := BF2.cell
        have fBF2 := BF2.frozen
        have lBF2 := BF2.lt
        go_wp2_with fail
        clear cBX8 fBX8 lBX8 cBF2 fBF2 lBF2
        refine HSM.out.mono ?_
        clear HSM BX8 BF2
        rintro e w9 ⟨b9, rfl, hb9, hbe⟩
        obtain rfl : b9 = false := by cases b9 with | false => rfl | true => exact absurd (Prod.ext (hb9.1 rfl).1 (hb9.1 rfl).2) hfe
        have HB9 := Lib.hid hbe
        have BX9 := HBX8.out.via hbe
        have BF9 := HBF2.out.via hbe
        have HSM := Lib.hid (fsame_c (fun b => b ≠ w.heap.size ∧ b ≠ w.heap.size + 1) (fun b => w7.heap.size ≤ b) fA gA fn fc gn gc fr fo1 nd fo2 w9 (HS8.out.via hbe) (HS28.out.via hbe) HFB.out)
        clear hb9 hbe
        dsimp only
        have cBX9 := BX9.cell
        have fBX9 := BX9.frozen
        have lBX9 := BX9.lt
        have cBF9 := BF9.cell
        have fBF9 := BF9.frozen
        have lBF9 := BF9.lt
        go_wp2_with fail
        clear cBX9 fBX9 lBX9 cBF9 fBF9 lBF9
        refine HSM.out.mono ?_
        clear HSM BX9 BF9
        rintro e w10 ⟨b9, rfl, hb9, hbe⟩
        obtain rfl : b9 = false := by cases b9 with | false => rfl | true => exact absurd (Prod.ext (hb9.1 rfl).1 (hb9.1 rfl).2) hfe
        have HBE := Lib.hid ((HB8.out.via HB9.out).via hbe)
        clear hb9 hbe
        dsimp only
        go_wp2_with fail
        go_ret
        exact ⟨rfl, HBC.out.via HBE.out⟩
    · obtain ⟨q, hq⟩ : ∃ q, chkB T N S rs xs = q := ⟨_, rfl⟩
      have hq0 : q ≠ 0 := by rw [← hq]; exact hbad
      have HQ := Lib.hid hq
      have hq1 : (q != 0) = true := by simpa using hq0
      have hq2 : (q == q) = true := by simp
      clear hbad hq
      have hcy := fcheck_e (fun b => b ≠ w.heap.size ∧ b ≠ w.heap.size + 1) T N S A n c rs wA wn wcp xs (.agg #[.slice fA fn fc, .int .i64 fr]) fA fn fc fr wc HLc.out HXc.out.intsIn q HQ.out hq0 rfl
      have cBGc := BGc.cell
      have fBGc := BGc.frozen
      have lBGc := BGc.lt
      have cBXc := BXc.cell
      have fBXc := BXc.frozen
      have lBXc := BXc.lt
      go_wp2_with fail
      clear cBGc fBGc lBGc cBXc fBXc lBXc
      refine hcy.mono ?_
      clear hcy
      rintro e w3 ⟨rfl, hb3⟩
      have HB3 := Lib.hid hb3
      have BG3 := BGc.via hb3
      have hcb := refboth_c (fun b => b ≠ w.heap.size ∧ b ≠ w.heap.size + 1) T N S A n c rs wA wn wcp xs w3 (HLc.out.via hb3) (HXc.out.intsIn.via hb3)
      rw [HQ.out] at hcb
      clear hb3 BGc BXc HBGc
      dsimp only
      have cBG3 := BG3.cell
      have fBG3 := BG3.frozen
      have lBG3 := BG3.lt
      go_wp2_with fail
      clear cBG3 fBG3 lBG3
      refine hcb.mono ?_
      clear hcb BG3
      rintro e w5 ⟨rfl, hb5⟩
      have HB5 := Lib.hid (HB3.out.via hb5)
      clear hb5 HB3
      dsimp only
      go_wp2_with fail
      refine (woods_c w5 (HT.out.via (HBC.out.via HB5.out))).mono ?_
      rintro e w6 ⟨rfl, hb6⟩
      have HB6 := Lib.hid (HB5.out.via hb6)
      clear hb6 HB5
      dsimp only
      go_wp2_with fail
      go_ret
      exact ⟨rfl, HBC.out.via HB6.out⟩
end Go.Proofs.YtpjafhaajcklmaaGreatDoor

