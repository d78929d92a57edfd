/- Texts SP, laid together. -/
import Derived.Test.YtpjafhaajcklmaaGreatDoorSM


namespace Go.Proofs.YtpjafhaajcklmaaGreatDoor
open Go.RowKit

set_option maxRecDepth 100000 in
set_option maxHeartbeats 8000000 in
theorem cykSays_walk (ok : Nat → Prop) (T0 N0 S0 : Int) (A0 : Option Addr) (n0 c0 : Nat) (rs0 : List Ri) (wA0 : Option Addr) (wn0 wc0 : Nat) (xs0 : List Int) (lA : Option Addr) (ln lc : Nat) (ls : List Int) (i j : Int) (w : World) (hl : Sl RiE ok w A0 n0 c0 rs0) (hx : Ints w wA0 wn0 wc0 xs0) (hok : ∀ b, ok b → b < w.heap.size) (hls : Ints w lA ln lc ls) (hT : TabW w) :
    Calls Tryz.prog 3 #[.agg #[.int .i64 T0, .int .i64 N0, .int .i64 S0, .slice A0 n0 c0], .slice wA0 wn0 wc0, .slice lA ln lc, .int .i64 i, .int .i64 j] w fun e w' => e = .returned (.bool true) ∧ Below w.heap.size w w' := by
  have hal := (Below.refl w.heap.size w).al (.cells #[.int .i64 T0, .int .i64 N0, .int .i64 S0, .slice A0 n0 c0] 24)
  have HPI := Lib.hid (pick_c (fun b => b < w.heap.size) T0 N0 S0 A0 n0 c0 rs0 wA0 wn0 wc0 xs0 lA ln lc ls 7 (w.alloc (.cells #[.int .i64 T0, .int .i64 N0, .int .i64 S0, .slice A0 n0 c0] 24)) ((hl.mono fun b _ h => hok b h).via hal) (hx.slLt.via hal) (hls.via hal) (by omega))
  have BG := Blk.new w 24 #[.int .i64 T0, .int .i64 N0, .int .i64 S0, .slice A0 n0 c0]
  have HAL := Lib.hid hal
  have HT := Lib.hid hT
  have HSZ := Lib.hid (show (w.alloc (.cells #[.int .i64 T0, .int .i64 N0, .int .i64 S0, .slice A0 n0 c0] 24)).heap.size = w.heap.size + 1 by simp)
  clear hl hx hls hal hok hT
  have cBG := BG.cell
  have fBG := BG.frozen
  have lBG := BG.lt
  go_enter Tryz.func3, Tryz.ntmps3
  go_wp2_with fail
  clear cBG fBG lBG
  generalize w.alloc (.cells #[.int .i64 T0, .int .i64 N0, .int .i64 S0, .slice A0 n0 c0] 24) = W0 at *
  refine HPI.out.mono ?_
  rintro e w1 ⟨T, N, S, A, n, c, rs, wA, wn, wcp, xs, rfl, hl1, hx1, hb1⟩
  have BG1 := BG.via hb1
  have hne : ∀ b, (b < w.heap.size ∨ W0.heap.size ≤ b) → b ≠ w.heap.size := fun b h => by have := HSZ.out; omega
  have HL1 := Lib.hid (hl1.mono (ok' := fun b => b ≠ w.heap.size) fun b _ h => hne b h)
  have HX1 := Lib.hid (hx1.mono (ok' := fun b => b ≠ w.heap.size) fun b _ h => hne b h)
  have HA1 := Lib.hid (HAL.out.trans (hb1.mono (by have := HSZ.out; omega)))
  clear HPI BG hl1 hx1 hb1 hne HAL HSZ
  have cBG1 := BG1.cell
  have fBG1 := BG1.frozen
  have lBG1 := BG1.lt
  go_upto_region 2 with fail
  clear cBG1 fBG1 lBG1
  have BG2 : Blk ((((w1.setCell ⟨w.heap.size, 0, none⟩ (.int .i64 T)).setCell ⟨w.heap.size, 1, none⟩ (.int .i64 N)).setCell ⟨w.heap.size, 2, none⟩ (.int .i64 S)).setCell ⟨w.heap.size, 3, none⟩ (.slice A n c)) w.heap.size 24 #[.int .i64 T, .int .i64 N, .int .i64 S, .slice A n c] := by
    have := (((BG1.set_ 0 (.int .i64 T)).set_ 1 (.int .i64 N)).set_ 2 (.int .i64 S)).set_ 3 (.slice A n c); simpa using this
  have hag : Agr (fun b => b ≠ w.heap.size) w1 ((((w1.setCell ⟨w.heap.size, 0, none⟩ (.int .i64 T)).setCell ⟨w.heap.size, 1, none⟩ (.int .i64 N)).setCell ⟨w.heap.size, 2, none⟩ (.int .i64 S)).setCell ⟨w.heap.size, 3, none⟩ (.slice A n c)) := ((((Agr.setCell (p := ⟨w.heap.size, 0, none⟩) _ fun b hb => hb).trans (Agr.setCell (p := ⟨w.heap.size, 1, none⟩) _ fun b hb => hb)).trans (Agr.setCell (p := ⟨w.heap.size, 2, none⟩) _ fun b hb => hb)).trans (Agr.setCell (p := ⟨w.heap.size, 3, none⟩) _ fun b hb => hb))
  have HA2 := Lib.hid ((((HA1.out.setCell (p := ⟨w.heap.size, 0, none⟩) (by simp) (.int .i64 T)).setCell (p := ⟨w.heap.size, 1, none⟩) (by simp) (.int .i64 N)).setCell (p := ⟨w.heap.size, 2, none⟩) (by simp) (.int .i64 S)).setCell (p := ⟨w.heap.size, 3, none⟩) (by simp) (.slice A n c))
  have HL2 := Lib.hid (HL1.out.agr hag)
  have HX2 := Lib.hid (HX1.out.agr hag)
  have HBG2 := Lib.hid BG2
  clear hag BG1 HA1 HL1 HX1
  generalize (((w1.setCell ⟨w.heap.size, 0, none⟩ (.int .i64 T)).setCell ⟨w.heap.size, 1, none⟩ (.int .i64 N)).setCell ⟨w.heap.size, 2, none⟩ (.int .i64 S)).setCell ⟨w.heap.size, 3, none⟩ (.slice A n c) = w2 at *
  by_cases hbad : chkB T N S rs xs = 0
  · obtain ⟨hG0, hxl, hxt⟩ := chkB_ok hbad
    obtain ⟨g, hg, rfl, rfl, rfl, rfl⟩ := chkG_ok hG0
    have HG := Lib.hid hg
    have HBAD := Lib.hid hbad
    have HXT := Lib.hid hxt
    have hwn : wn ≤ 12 := by have := HX2.out.len; omega
    have HXL := Lib.hid (show xs.length = wn from HX2.out.len)
    clear hg hbad hG0 hxl hxt
    have hcy := cyk_c (fun b => b ≠ w.heap.size) g A n c wA wn wcp xs w2 HG.out HL2.out.lowR HX2.out.intsIn hwn HXT.out (HT.out.via HA2.out)
    simp only [grVal] at hcy
    have cBG2 := BG2.cell
    have fBG2 := BG2.frozen
    have lBG2 := BG2.lt
    go_wp2_with fail
    clear cBG2 fBG2 lBG2
    refine hcy.mono ?_
    clear hcy
    rintro e w3 ⟨f, v, bb, rfl, hf, ⟨fA, fn, fc, rfl, hS⟩, hb3⟩
    obtain ⟨eq, heq⟩ : ∃ eq : Int, eq = if bb then 0 else 2 := ⟨_, rfl⟩
    rw [← heq]
    have HEQ := Lib.hid heq
    have HF := Lib.hid hf
    have hal3 := (Below.refl w3.heap.size w3).al (.cells #[.slice fA fn fc, .int .i64 f.1] 30)
    have HS3 := Lib.hid (hS.via hal3)
    have HB3 := Lib.hid (hb3.via hal3)
    have HBF := Lib.hid (Blk.new w3 30 #[.slice fA fn fc, .int .i64 f.1])
    have BG3 := (HBG2.out.via hb3).via hal3
    clear heq hf hS hb3 hal3 BG2
    go_upto_region 3 with fail
    generalize w3.alloc (.cells #[.slice fA fn fc, .int .i64 f.1] 30) = W3 at *
    generalize w3.heap.size = bf at *
    have hpa := parts_w (fun b => b ≠ w.heap.size) g A n c wA wn wcp xs i j W3 HG.out (HL2.out.lowR.via HB3.out) (HX2.out.intsIn.via HB3.out) hwn HXT.out (HT.out.via (HA2.out.via HB3.out))
    simp only [grVal] at hpa
    have cBG3 := BG3.cell
    have fBG3 := BG3.frozen
    have lBG3 := BG3.lt
    go_wp2_with fail
    clear cBG3 fBG3 lBG3
    refine hpa.mono ?_
    clear hpa
    rintro e w4 ⟨pA, pn, pc, rfl, hpI, hb4⟩
    obtain ⟨pl, hpl⟩ : ∃ pl, pl = prtL (dvD g.rules xs) g.nons wn i j := ⟨_, rfl⟩
    obtain ⟨pq, hpq⟩ : ∃ pq, pq = prtQ wn i j := ⟨_, rfl⟩
    rw [← hpl] at hpI
    rw [← hpq]
    have HPL := Lib.hid hpl
    have HPQ := Lib.hid hpq
    have HPI := Lib.hid hpI
    have HB4 := Lib.hid (HB3.out.via hb4)
    have HBF4 := Lib.hid (HBF.out.via hb4)
    have HS4 := Lib.hid (HS3.out.via hb4)
    have BG4 := BG3.via hb4
    have HBG4 := Lib.hid BG4
    have hcb := refboth_c (fun b => b ≠ w.heap.size) g.terms g.nons g.start A n c (g.rules.map embR) wA wn wcp xs w4 (HL2.out.via HB4.out) (HX2.out.intsIn.via HB4.out)
    rw [HBAD.out] at hcb
    clear hpl hpq hpI hb4 BG3 HB3 HBF HS3
    dsimp only
    have cBG4 := BG4.cell
    have fBG4 := BG4.frozen
    have lBG4 := BG4.lt
    go_wp2_with fail
    clear cBG4 fBG4 lBG4
    refine hcb.mono ?_
    clear hcb
    rintro e w5 ⟨rfl, hb5⟩
    have HB5 := Lib.hid (HB4.out.via hb5)
    have HBF5 := Lib.hid (HBF4.out.via hb5)
    have HS5 := Lib.hid (HS4.out.via hb5)
    have HPI5 := Lib.hid (HPI.out.via hb5)
    have HBG5 := Lib.hid (BG4.via hb5)
    clear hb5 BG4 HB4 HBF4 HS4 HPI HBG4
    dsimp only
    go_wp2_with fail
    refine (charts_c w5 (HT.out.via (HA2.out.via HB5.out))).mono ?_
    rintro e w6 ⟨rfl, hb6⟩
    have HB6 := Lib.hid (HB5.out.via hb6)
    have HBF6 := Lib.hid (HBF5.out.via hb6)
    have HS6 := Lib.hid (HS5.out.via hb6)
    have HPI6 := Lib.hid (HPI5.out.via hb6)
    have BG6 := HBG5.out.via hb6
    have has := allspans_c (fun b => b ≠ w.heap.size) g A n c wA wn wcp xs w6 HG.out (HL2.out.lowR.via HB6.out) (HX2.out.intsIn.via HB6.out) hwn HXT.out
    simp only [grVal] at has
    have HBG6 := Lib.hid BG6
    clear hb6 HB5 HBF5 HS5 HPI5 HBG5
    dsimp only
    have cBG6 := BG6.cell
    have fBG6 := BG6.frozen
    have lBG6 := BG6.lt
    go_wp2_with fail
    clear cBG6 fBG6 lBG6
    refine has.mono ?_
    clear has BG6
    rintro e w7 ⟨bs, bm, rfl, hR, -, -, hb7⟩
    have HR7 := Lib.hid hR
    have HB7 := Lib.hid (HB6.out.via hb7)
    have HBF7 := Lib.hid (HBF6.out.via hb7)
    have HS7 := Lib.hid (HS6.out.via hb7)
    have HPI7 := Lib.hid (HPI6.out.via hb7)
    have HBG7 := Lib.hid (HBG6.out.via hb7)
    have HD := Lib.hid (show ∀ k, dvD g.rules xs k = true → k.2.1 ≤ k.2.2 ∧ k.2.2 ≤ wn from fun k h => by rw [← HXL.out]; exact dv_le h)
    have hsf := spforest_c (fun b => b ≠ w.heap.size) g A n c wA wn wcp bs bm (dvD g.rules xs) w7 HG.out.ok (HL2.out.lowR.via HB7.out) hR hwn
    clear hR hb7 HB6 HBF6 HS6 HPI6 HBG6
    dsimp only
    go_wp2_with fail
    refine hsf.mono ?_
    clear hsf
    rintro e w8 ⟨f2, v2, b2, rfl, hf2, ⟨f2A, f2n, f2c, rfl, hS2⟩, hb8⟩
    obtain ⟨rfl, rfl⟩ := HF.out.uniq hf2
    have hal8 := (Below.refl w8.heap.size w8).al (.cells #[.slice f2A f2n f2c, .int .i64 f.1] 30)
    have hb88 := hb8.via hal8
    have HR8 := Lib.hid (HR7.out.via hb88)
    have HB8 := Lib.hid (HB7.out.via hb88)
    have BF8 := HBF7.out.via hb88
    have HS8 := Lib.hid (HS7.out.via hb88)
    have HPI8 := Lib.hid (HPI7.out.via hb88)
    have HBG8 := Lib.hid (HBG7.out.via hb88)
    have HS28 := Lib.hid (hS2.via hal8)
    have BF2 := Blk.new w8 30 #[.slice f2A f2n f2c, .int .i64 f.1]
    clear hb8 hal8 hf2 hS2 hb88 HR7 HB7 HBF7 HS7 HPI7 HBG7
    dsimp only
    go_upto_region 9 with fail
    generalize w8.alloc (.cells #[.slice f2A f2n f2c, .int .i64 f.1] 30) = W8 at *
    generalize w8.heap.size = bf2 at *
    have hsame := same_c (fun b => w2.heap.size ≤ b) (fun _ => True) fA f2A fn fc f2n f2c f.1 f.1 f.2 f.2 W8 HS8.out (HS28.out.mono fun _ _ _ => trivial) (fo_bound HG.out.ok hwn HD.out HF.out)
    have HSM := Lib.hid hsame
    clear hsame
    go_cut [98] (fun s wc => s = .bool false ∧ Below W8.heap.size W8 wc)
    case first =>
      have he := HEQ.out
      cases bb with
      | true =>
        simp only [if_true] at he
        subst he
        have cBF8 := BF8.cell
        have fBF8 := BF8.frozen
        have lBF8 := BF8.lt
        have cBF2 := BF2.cell
        have fBF2 := BF2.frozen
        have lBF2 := BF2.lt
        go_wp2_with fail
        refine HSM.out.mono ?_
        rintro e w9 ⟨b9, rfl, hb9, hbe⟩
        obtain rfl : b9 = true := hb9.2 (by simp)
        have HBE := Lib.hid hbe
        clear hb9 hbe
        go_wp2_with fail
        go_meet
        exact ⟨rfl, HBE.out⟩
      | false =>
        simp only [Bool.false_eq_true, if_false] at he
        subst he
        go_wp2_with fail
        go_meet
        exact ⟨rfl, Below.refl _ _⟩
    case rest =>
      obtain ⟨rfl, hbc⟩ := hcut
      have HR9 := Lib.hid (HR8.out.via hbc)
      have HB9 := Lib.hid (HB8.out.via hbc)
      have HPI9 := Lib.hid (HPI8.out.via hbc)
      have BG9 := HBG8.out.via hbc
      clear hbc HR8 HB8 HPI8 HBG8 BF8 BF2 HSM HS8 HS28
      have hpl := HPI9.out.1
      by_cases hv : 0 ≤ i ∧ i ≤ j ∧ j ≤ (wn : Int)
      · have HV := Lib.hid hv
        obtain ⟨v1, v2, v3⟩ := hv
        obtain ⟨a, rfl⟩ := Int.eq_ofNat_of_zero_le v1
        obtain ⟨b, rfl⟩ := Int.eq_ofNat_of_zero_le (show 0 ≤ j by omega)
        have HPL2 := Lib.hid (show pl = partsL (dvD g.rules xs) g.nons a b by rw [HPL.out]; unfold prtL; rw [if_pos HV.out]; rfl)
        have hpq : pq = 0 := by rw [HPQ.out]; unfold prtQ; rw [if_pos HV.out]
        subst hpq
        clear hpl
        have c1 : ¬ (b : Int) < (a : Int) := by omega
        have c2 : ¬ (wn : Int) < (b : Int) := by omega
        have hgn := HG.out.ok.nons.2
        have cBG9 := BG9.cell
        have fBG9 := BG9.frozen
        have lBG9 := BG9.lt
        go_wp2_with fail
        clear cBG9 fBG9 lBG9
        have HBG9 := Lib.hid BG9
        clear BG9 v1 v2 v3
        go_loopw [19, 121] (fun v q wr => ∃ m : Nat, q = .int .i64 (m : Int) ∧ m ≤ g.nons ∧ Hid (Own InE 3 (fun _ => False) wr wc.heap.size v (partsL (dvD g.rules xs) m a b).length (intsN (partsL (dvD g.rules xs) m a b)) ∧ Below wc.heap.size wc wr)) (fun _ q _ => g.nons - (intOf q).toNat)
        case atStart => exact ⟨0, rfl, Nat.zero_le _, Lib.hid ⟨Own.nil _ _, Below.refl _ _⟩⟩
        case round =>
          obtain ⟨m, rfl, hm, HQ⟩ := hrel
          by_cases hmN : m < g.nons
          · have hR := HR9.out.via HQ.out.2
            have BS := hR.blk
            obtain ⟨kl, hkl⟩ := span_k (false, m) a b (by show m ≤ 1000; omega) (by omega) (by omega)
            have hlk := spm_look hR.map ((false, m), a, b) hkl
            simp only [kyVal] at hlk
            have i0 : (0 : Int) ≤ (m : Int) := by omega
            have i1 : (m : Int) < (g.nons : Int) := by omega
            have HNX := Lib.hid (partsL_next (dvD g.rules xs) m a b)
            clear hR hkl
            cases hdd : dvD g.rules xs ((false, m), a, b) with
            | true =>
              rw [hdd] at hlk
              have HDD := Lib.hid hdd
              have HPN := Lib.hid (show (partsL (dvD g.rules xs) m a b).length ≤ 10 from by
                have h1 := List.length_filter_le (fun z => dvD g.rules xs ((false, z), a, b)) (List.range m)
                rw [List.length_range] at h1
                unfold partsL; omega)
              clear hdd
              have cBS := BS.cell
              have fBS := BS.frozen
              have lBS := BS.lt
              go_upto_region 18 with fail
              clear cBS fBS lBS
              clear BS hlk
              have HO := Lib.hid (HQ.out.1.al (.cells #[.int .i64 (m : Int)] 3))
              have HY := Lib.hid (Blk.new wr 3 #[.int .i64 (m : Int)])
              have HSZ := Lib.hid (show wc.heap.size ≤ (wr.alloc (.cells #[.int .i64 (m : Int)] 3)).heap.size from by have := HQ.out.2.size; simp; omega)
              have hpl := HPN.out
              obtain ⟨ql, hql⟩ : ∃ ql, ql = (partsL (dvD g.rules xs) m a b).length := ⟨_, rfl⟩
              rw [← hql] at HO hpl
              have HQL := Lib.hid hql
              clear hql
              go_wp2_with (at_builtin; refine wpList_append_in _ rfl (.tmp 134) (.tmp 136) rfl (fun _ => False) wc.heap.size u19 ql (intsN (partsL (dvD g.rules xs) m a b)) rfl HO.out wr.heap.size (m : Int) (m : Int) rfl HY.out rfl (by omega) HSZ.out ?_; intro A5 c5 w5 ho5 hg5 hat5)
              refine ⟨⟨m + 1, by go_num, by omega, Lib.hid ⟨?_, (HQ.out.2.al (.cells #[.int .i64 (m : Int)] 3)).grown hg5 HSZ.out (fun b e => (HO.out.lt b e).1)⟩⟩, by simp [intOf]; omega⟩
              have e : partsL (dvD g.rules xs) (m + 1) a b = partsL (dvD g.rules xs) m a b ++ [m] := by rw [HNX.out, HDD.out]; rfl
              have e2 : intsN (partsL (dvD g.rules xs) m a b ++ [m]) = intsN (partsL (dvD g.rules xs) m a b) ++ [(m : Int)] := by simp [intsN]
              rw [e, e2, List.length_append, ← HQL.out]
              exact ho5
            | false =>
              rw [hdd] at hlk
              have HDD := Lib.hid hdd
              clear hdd
              have cBS := BS.cell
              have fBS := BS.frozen
              have lBS := BS.lt
              go_wp2_with fail
              refine ⟨⟨m + 1, by go_num, by omega, Lib.hid ⟨?_, HQ.out.2⟩⟩, by simp [intOf]; omega⟩
              rw [HNX.out, HDD.out]
              exact HQ.out.1
          · obtain rfl : g.nons = m := by omega
            obtain ⟨A9, c9, rfl, hc9⟩ := HQ.out.1.form
            have HFI := Lib.hid (HQ.out.1.toSl (ok' := fun _ => True) (fun _ _ h => h.elim) (fun _ _ => trivial)).intsIn
            have HPI10 := Lib.hid (HPI9.out.via HQ.out.2)
            have HB10 := Lib.hid (HB9.out.via HQ.out.2)
            have hpn : pn ≤ 100 := by
              have h1 := HPI9.out.1
              have h2 := List.length_filter_le (fun z => dvD g.rules xs ((false, z), a, b)) (List.range g.nons)
              rw [List.length_range] at h2
              rw [HPL2.out] at h1
              simp only [intsN, List.length_map, partsL] at h1
              omega
            have HEQL := Lib.hid (show intsN pl = intsN (partsL (dvD g.rules xs) g.nons a b) by rw [HPL2.out])
            clear hc9 HQ
            go_wp2_with fail
            refine (equal_c pA A9 pn pc _ c9 (intsN pl) (intsN (partsL (dvD g.rules xs) g.nons a b)) wr HPI10.out HFI.out (by omega)).mono ?_
            rintro e w11 hP
            obtain ⟨rfl, hb11⟩ := hP.below
            have HB11 := Lib.hid (HB10.out.via hb11)
            have e1 : decide (intsN pl = intsN (partsL (dvD g.rules xs) g.nons a b)) = true := decide_eq_true HEQL.out
            rw [e1]
            clear hP hb11 e1
            go_wp2_with fail
            go_ret
            exact ⟨rfl, HA2.out.via HB11.out⟩
      · have HV := Lib.hid hv
        have hp0 : pl = [] := by rw [HPL.out]; unfold prtL; rw [if_neg HV.out]
        have hpq : pq = 1 := by rw [HPQ.out]; unfold prtQ; rw [if_neg HV.out]
        have hpn : pn = 0 := by rw [hp0] at hpl; simpa [intsN] using hpl.symm
        subst hpq hpn
        clear hpl hp0 hv
        by_cases h1 : i < 0
        · go_wp2_with fail
          go_ret
          exact ⟨rfl, HA2.out.via HB9.out⟩
        · by_cases h2 : j < i
          · go_wp2_with fail
            go_ret
            exact ⟨rfl, HA2.out.via HB9.out⟩
          · have h3 : (wn : Int) < j := by have := HV.out; omega
            go_wp2_with fail
            go_ret
            exact ⟨rfl, HA2.out.via HB9.out⟩
  · obtain ⟨q, hq⟩ : ∃ q, chkB T N S rs xs = q := ⟨_, rfl⟩
    have hq0 : q ≠ 0 := by rw [← hq]; exact hbad
    have HQ := Lib.hid hq
    have hq1 : (q != 0) = true := by simpa using hq0
    have hq2 : (q == q) = true := by simp
    clear hbad hq
    have hcy := cyk_e (fun b => b ≠ w.heap.size) T N S A n c rs wA wn wcp xs w2 HL2.out HX2.out.intsIn q HQ.out hq0
    have cBG2 := BG2.cell
    have fBG2 := BG2.frozen
    have lBG2 := BG2.lt
    go_wp2_with fail
    clear cBG2 fBG2 lBG2
    refine hcy.mono ?_
    clear hcy
    rintro e w3 ⟨rfl, hb3⟩
    have hal3 := (Below.refl w3.heap.size w3).al (.cells #[.slice none 0 0, .int .i64 0] 30)
    have HB3 := Lib.hid (hb3.via hal3)
    have HBF := Lib.hid (Blk.new w3 30 #[.slice none 0 0, .int .i64 0])
    have BG3 := (HBG2.out.via hb3).via hal3
    clear hb3 hal3 BG2
    dsimp only
    go_upto_region 3 with fail
    generalize w3.alloc (.cells #[.slice none 0 0, .int .i64 0] 30) = W3 at *
    generalize w3.heap.size = bf at *
    have hpa := parts_e (fun b => b ≠ w.heap.size) T N S A n c rs wA wn wcp xs i j W3 (HL2.out.via HB3.out) (HX2.out.intsIn.via HB3.out) q HQ.out hq0
    have cBG3 := BG3.cell
    have fBG3 := BG3.frozen
    have lBG3 := BG3.lt
    go_wp2_with fail
    clear cBG3 fBG3 lBG3
    refine hpa.mono ?_
    clear hpa
    rintro e w4 ⟨rfl, hb4⟩
    have HB4 := Lib.hid (HB3.out.via hb4)
    have HBF4 := Lib.hid (HBF.out.via hb4)
    have BG4 := BG3.via hb4
    have hcb := refboth_c (fun b => b ≠ w.heap.size) T N S A n c rs wA wn wcp xs w4 (HL2.out.via HB4.out) (HX2.out.intsIn.via HB4.out)
    rw [HQ.out] at hcb
    clear hb4 BG3 HB3 HBF
    dsimp only
    have cBG4 := BG4.cell
    have fBG4 := BG4.frozen
    have lBG4 := BG4.lt
    go_wp2_with fail
    clear cBG4 fBG4 lBG4
    refine hcb.mono ?_
    clear hcb
    rintro e w5 ⟨rfl, hb5⟩
    have HB5 := Lib.hid (HB4.out.via hb5)
    have HBF5 := Lib.hid (HBF4.out.via hb5)
    clear hb5 BG4 HB4 HBF4
    dsimp only
    go_wp2_with fail
    refine (charts_c w5 (HT.out.via (HA2.out.via HB5.out))).mono ?_
    rintro e w6 ⟨rfl, hb6⟩
    have HB6 := Lib.hid (HB5.out.via hb6)
    have BF6 := HBF5.out.via hb6
    clear hb6 HB5 HBF5
    dsimp only
    have cBF6 := BF6.cell
    have fBF6 := BF6.frozen
    have lBF6 := BF6.lt
    go_wp2_with fail
    clear cBF6 fBF6 lBF6
    refine (same_c (fun _ => True) (fun _ => True) none none 0 0 0 0 0 0 [] [] w6 (Sl.nil 0) (Sl.nil 0) ⟨by simp, by simp⟩).mono ?_
    rintro e w7 ⟨b7, rfl, hb7, hbe7⟩
    obtain rfl : b7 = true := hb7.2 ⟨rfl, rfl⟩
    have HB7 := Lib.hid (HA2.out.via (HB6.out.via hbe7))
    clear hb7 hbe7 BF6
    go_wp2_with fail
    go_ret
    exact ⟨rfl, HB7.out⟩
end Go.Proofs.YtpjafhaajcklmaaGreatDoor

