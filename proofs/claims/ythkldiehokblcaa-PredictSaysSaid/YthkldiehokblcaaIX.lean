/- Texts IX, laid together. -/
import Derived.Test.YthkldiehokblcaaIV
import Derived.Test.YthkldiehokblcaaIW
import Derived.Test.YthkldiehokblcaaJX




namespace Go.Proofs.Ythkldiehokblcaa
open Go.RowKit

theorem clN_pre (g : Gr) {a b : Nat} (h : a ≤ b) : clN g a <+: clN g b := by
  induction h with
  | refl => exact List.prefix_refl _
  | step _ ih => exact ih.trans (by rw [clN_next]; exact List.prefix_append _ _)
theorem clK_pre (g : Gr) (n : Nat) {a b : Nat} (h : a ≤ b) : clK g n a <+: clK g n b := by
  induction h with
  | refl => exact List.prefix_refl _
  | @step m _ ih =>
    refine ih.trans ?_
    by_cases hm : 1 < (posL g n m).length
    · rw [clK_hit hm]; exact List.prefix_append _ _
    · rw [clK_miss hm]; exact List.prefix_refl _
/-- where the clash of n at c stands -/
theorem clN_at {g : Gr} {n c m : Nat} (hn : n < m) (hc : c < g.terms + 1) (h : 1 < (posL g n c).length) : (clN g m)[(clN g n).length + (clK g n c).length]? = some (n, c, posL g n c) := by
  obtain ⟨t, ht⟩ := clN_pre g (Nat.succ_le_of_lt hn)
  obtain ⟨s, hs⟩ := clK_pre g n (Nat.succ_le_of_lt hc)
  rw [← ht, Nat.succ_eq_add_one, clN_next, ← hs, Nat.succ_eq_add_one, clK_hit h]
  simp
theorem clN_end (g : Gr) (n : Nat) : (clN g (n + 1)).length = (clN g n).length + (clK g n (g.terms + 1)).length := by rw [clN_next, List.length_append]
set_option maxRecDepth 100000 in
set_option maxHeartbeats 8000000 in
theorem predictSays_walk (ok : Nat → Prop) (T0 N0 S0 : Int) (A0 : Option Addr) (n0 c0 : Nat) (rs0 : List Ri) (wA0 : Option Addr) (wn0 wc0 : Nat) (xs0 : List Int) (lA : Option Addr) (ln lc : Nat) (ls : List Int) (w : World) (hl : Sl RiE ok w A0 n0 c0 rs0) (hx : Ints w wA0 wn0 wc0 xs0) (hok : ∀ b, ok b → b < w.heap.size) (hls : Ints w lA ln lc ls) :
    Calls Try.prog 3 #[.agg #[.int .i64 T0, .int .i64 N0, .int .i64 S0, .slice A0 n0 c0], .slice wA0 wn0 wc0, .slice lA ln lc] w fun e w' => e = .returned (.bool true) ∧ Below w.heap.size w w' := by
  have hal := (Below.refl w.heap.size w).al (.cells #[.int .i64 T0, .int .i64 N0, .int .i64 S0, .slice A0 n0 c0] 24)
  have HPI := Lib.hid (pick_c (fun b => b < w.heap.size) T0 N0 S0 A0 n0 c0 rs0 wA0 wn0 wc0 xs0 lA ln lc ls 20 (w.alloc (.cells #[.int .i64 T0, .int .i64 N0, .int .i64 S0, .slice A0 n0 c0] 24)) ((hl.mono fun b _ h => hok b h).via hal) (hx.slLt.via hal) (hls.via hal) (by omega))
  have BG := Blk.new w 24 #[.int .i64 T0, .int .i64 N0, .int .i64 S0, .slice A0 n0 c0]
  have HAL := Lib.hid hal
  have HSZ := Lib.hid (show (w.alloc (.cells #[.int .i64 T0, .int .i64 N0, .int .i64 S0, .slice A0 n0 c0] 24)).heap.size = w.heap.size + 1 by simp)
  clear hl hx hls hal hok
  have cBG := BG.cell
  have fBG := BG.frozen
  have lBG := BG.lt
  go_enter Try.func3, Try.ntmps3
  go_wp2_with fail
  clear cBG fBG lBG
  generalize w.alloc (.cells #[.int .i64 T0, .int .i64 N0, .int .i64 S0, .slice A0 n0 c0] 24) = W0 at *
  refine HPI.out.mono ?_
  rintro e w1 ⟨T, N, S, A, n, c, rs, wA, wn, wcp, xs, rfl, hl1, hx1, hb1⟩
  have BG1 := BG.via hb1
  have hne : ∀ b, (b < w.heap.size ∨ W0.heap.size ≤ b) → b ≠ w.heap.size := fun b h => by have := HSZ.out; omega
  have HL1 := Lib.hid (hl1.mono (ok' := fun b => b ≠ w.heap.size) fun b _ h => hne b h)
  have HX1 := Lib.hid (hx1.mono (ok' := fun b => b ≠ w.heap.size) fun b _ h => hne b h)
  have HA1 := Lib.hid (HAL.out.trans (hb1.mono (by have := HSZ.out; omega)))
  clear HPI BG hl1 hx1 hb1 hne HAL HSZ
  have cBG1 := BG1.cell
  have fBG1 := BG1.frozen
  have lBG1 := BG1.lt
  go_upto_region 2 with fail
  clear cBG1 fBG1 lBG1
  have BG2 : Blk ((((w1.setCell ⟨w.heap.size, 0, none⟩ (.int .i64 T)).setCell ⟨w.heap.size, 1, none⟩ (.int .i64 N)).setCell ⟨w.heap.size, 2, none⟩ (.int .i64 S)).setCell ⟨w.heap.size, 3, none⟩ (.slice A n c)) w.heap.size 24 #[.int .i64 T, .int .i64 N, .int .i64 S, .slice A n c] := by
    have := (((BG1.set_ 0 (.int .i64 T)).set_ 1 (.int .i64 N)).set_ 2 (.int .i64 S)).set_ 3 (.slice A n c); simpa using this
  have hag : Agr (fun b => b ≠ w.heap.size) w1 ((((w1.setCell ⟨w.heap.size, 0, none⟩ (.int .i64 T)).setCell ⟨w.heap.size, 1, none⟩ (.int .i64 N)).setCell ⟨w.heap.size, 2, none⟩ (.int .i64 S)).setCell ⟨w.heap.size, 3, none⟩ (.slice A n c)) := ((((Agr.setCell (p := ⟨w.heap.size, 0, none⟩) _ fun b hb => hb).trans (Agr.setCell (p := ⟨w.heap.size, 1, none⟩) _ fun b hb => hb)).trans (Agr.setCell (p := ⟨w.heap.size, 2, none⟩) _ fun b hb => hb)).trans (Agr.setCell (p := ⟨w.heap.size, 3, none⟩) _ fun b hb => hb))
  have HA2 := Lib.hid ((((HA1.out.setCell (p := ⟨w.heap.size, 0, none⟩) (by simp) (.int .i64 T)).setCell (p := ⟨w.heap.size, 1, none⟩) (by simp) (.int .i64 N)).setCell (p := ⟨w.heap.size, 2, none⟩) (by simp) (.int .i64 S)).setCell (p := ⟨w.heap.size, 3, none⟩) (by simp) (.slice A n c))
  have HL2 := Lib.hid (HL1.out.agr hag)
  have HX2 := Lib.hid (HX1.out.agr hag)
  have HBG2 := Lib.hid BG2
  clear hag BG1 HA1 HL1 HX1
  generalize (((w1.setCell ⟨w.heap.size, 0, none⟩ (.int .i64 T)).setCell ⟨w.heap.size, 1, none⟩ (.int .i64 N)).setCell ⟨w.heap.size, 2, none⟩ (.int .i64 S)).setCell ⟨w.heap.size, 3, none⟩ (.slice A n c) = w2 at *
  by_cases hbad : chkG T N S rs = 0
  · obtain ⟨g, hg, rfl, rfl, rfl, rfl⟩ := chkG_ok hbad
    have HG := Lib.hid hg
    have HBAD := Lib.hid hbad
    have ht8 := hg.ok.terms.2
    have hn10 := hg.ok.nons.2
    clear hg hbad
    have hpof := pof_c (fun b => b ≠ w.heap.size) g A n c w2 HG.out HL2.out.lowR
    simp only [grVal] at hpof
    have cBG2 := BG2.cell
    have fBG2 := BG2.frozen
    have lBG2 := BG2.lt
    go_wp2_with fail
    clear cBG2 fBG2 lBG2
    refine hpof.mono ?_
    clear hpof
    rintro e w3 ⟨I, base, v1, v2, C, rfl, hbase, hI, ho1, ho2, hcl, hcr, hb3⟩
    obtain ⟨tA, tc, rfl, -⟩ := ho1.form
    obtain ⟨vA, vc, rfl, -⟩ := ho2.form
    have htl : (tabT g g.nons).length = g.nons := by simp [tabT]
    rw [htl] at ho1
    simp only [htl]
    have hal3 := (Below.refl w3.heap.size w3).al (.cells #[.slice tA g.nons tc, .slice vA C.length vc] 31)
    have HBT := Lib.hid (Blk.new w3 31 #[.slice tA g.nons tc, .slice vA C.length vc])
    have HL4 := Lib.hid ((HL2.out.via hb3).via hal3)
    have HX4 := Lib.hid ((HX2.out.via hb3).via hal3)
    have HA4 := Lib.hid ((HA2.out.via hb3).via hal3)
    have HBG4 := Lib.hid ((BG2.via hb3).via hal3)
    have HT4 := Lib.hid ((ho1.toSl (ok' := fun _ => True) (fun _ _ _ => trivial) (fun _ _ => trivial)).via hal3)
    have HC4 := Lib.hid ((ho2.toSl (ok' := fun _ => True) (fun _ _ _ => trivial) (fun _ _ => trivial)).via hal3)
    have HCR4 := Lib.hid (show ∀ (i : Nat) c d, C[i]? = some c → (clI (clN g g.nons))[i]? = some d → c.1 = d.1 ∧ c.2.1 = d.2.1 ∧ Sl InE I (w3.alloc (.cells #[.slice tA g.nons tc, .slice vA C.length vc] 31)) c.2.2.1 c.2.2.2.1 c.2.2.2.2 d.2.2 from fun i c d h1 h2 => by
      obtain ⟨k1, k2, k3⟩ := hcr i c d h1 h2
      exact ⟨k1, k2, k3.via hal3⟩)
    have HCL := Lib.hid hcl
    clear hbase hI ho1 ho2 hcl hcr hb3 hal3 htl HL2 HX2 HA2 BG2 HBG2
    go_upto_region 3 with fail
    generalize w3.alloc (.cells #[.slice tA g.nons tc, .slice vA C.length vc] 31) = w4 at *
    generalize w3.heap.size = bt at *
    have hpar := ppar_c (fun b => b ≠ w.heap.size) g A n c wA wn wcp xs w4 HG.out HL4.out.lowR HX4.out.intsIn
    simp only [grVal] at hpar
    have BG4 := HBG4.out
    have cBG4 := BG4.cell
    have fBG4 := BG4.frozen
    have lBG4 := BG4.lt
    go_wp2_with fail
    clear cBG4 fBG4 lBG4
    refine hpar.mono ?_
    clear hpar
    rintro e w5 ⟨xv, xk, xq, rfl, hb5, hP1, hP2, hP3⟩
    obtain ⟨va, vb, vA2, vn2, vc2⟩ := xv
    have hal5 := (Below.refl w5.heap.size w5).al (.cells #[.int .i64 va, .int .i64 vb, .slice vA2 vn2 vc2] 37)
    have HL6 := Lib.hid ((HL4.out.via hb5).via hal5)
    have HX6 := Lib.hid ((HX4.out.via hb5).via hal5)
    have HA6 := Lib.hid ((HA4.out.via hb5).via hal5)
    have HBG6 := Lib.hid ((BG4.via hb5).via hal5)
    have HBT6 := Lib.hid ((HBT.out.via hb5).via hal5)
    have HT6 := Lib.hid ((HT4.out.via hb5).via hal5)
    have HC6 := Lib.hid ((HC4.out.via hb5).via hal5)
    have HBX6 := Lib.hid (Blk.new w5 37 #[.int .i64 va, .int .i64 vb, .slice vA2 vn2 vc2])
    have HCR6 := Lib.hid (show ∀ (i : Nat) c d, C[i]? = some c → (clI (clN g g.nons))[i]? = some d → c.1 = d.1 ∧ c.2.1 = d.2.1 ∧ Sl InE I (w5.alloc (.cells #[.int .i64 va, .int .i64 vb, .slice vA2 vn2 vc2] 37)) c.2.2.1 c.2.2.2.1 c.2.2.2.2 d.2.2 from fun i c d h1 h2 => by
      obtain ⟨k1, k2, k3⟩ := HCR4.out i c d h1 h2
      exact ⟨k1, k2, (k3.via hb5).via hal5⟩)
    have HP1 := Lib.hid hP1
    have HP2 := Lib.hid hP2
    have HP3 := Lib.hid (show chkW g.terms 2000 xs = 0 → clN g g.nons = [] → ∃ (W : List Nat) (d : Nat) (r : Option Tr) (k' : Nat), xs = ints W ∧ (∀ x ∈ W, x < g.terms) ∧ W.length ≤ 2000 ∧ prs g W d (false, g.start) 0 = some (r, k') ∧ k' ≤ W.length ∧ ParR w4 W (w5.alloc (.cells #[.int .i64 va, .int .i64 vb, .slice vA2 vn2 vc2] 37)) r k' (va, vb, vA2, vn2, vc2) xk xq from fun h1 h2 => by
      obtain ⟨W, d, r, k', a1, a2, a3, a4, a5, a6⟩ := hP3 h1 h2
      refine ⟨W, d, r, k', a1, a2, a3, a4, a5, ?_⟩
      cases r with
      | none => exact a6
      | some t =>
        unfold ParR at a6 ⊢
        by_cases hk : k' < W.length
        · simp only [hk, if_true] at a6 ⊢; exact a6
        · simp only [hk, if_false] at a6 ⊢; exact ⟨a6.1, a6.2.1, a6.2.2.via hal5⟩)
    clear hb5 hal5 HL4 HX4 HA4 HBG4 HBT HT4 HC4 BG4 HCR4 hP1 hP2 hP3
    dsimp only [trVal]
    go_upto_region 4 with fail
    generalize w5.alloc (.cells #[.int .i64 va, .int .i64 vb, .slice vA2 vn2 vc2] 37) = w6 at *
    generalize w5.heap.size = bx at *
    have BG6 := HBG6.out
    have cBG6 := BG6.cell
    have fBG6 := BG6.frozen
    have lBG6 := BG6.lt
    go_wp2_with fail
    clear cBG6 fBG6 lBG6
    have hck := refcheck_c (fun b => b ≠ w.heap.size) g.terms g.nons g.start A n c (g.rules.map embR) w6 HL6.out
    rw [HBAD.out] at hck
    refine hck.mono ?_
    clear hck
    rintro e w7 ⟨rfl, hb7⟩
    go_wp2_with fail
    refine (predicts_c w7).mono ?_
    rintro e w8 ⟨rfl, hb8⟩
    have hb68 := Below.via hb7 hb8
    have HL8 := Lib.hid (HL6.out.via hb68)
    have HX8 := Lib.hid (HX6.out.via hb68)
    have HA8 := Lib.hid (HA6.out.via hb68)
    have BG8 := BG6.via hb68
    have HBG8 := Lib.hid BG8
    have BT8 := HBT6.out.via hb68
    have HBT8 := Lib.hid BT8
    have HT8 := Lib.hid (HT6.out.via hb68)
    have HC8 := Lib.hid (HC6.out.via hb68)
    have HBX8 := Lib.hid (HBX6.out.via hb68)
    have HCR8 := Lib.hid (show ∀ (i : Nat) c d, C[i]? = some c → (clI (clN g g.nons))[i]? = some d → c.1 = d.1 ∧ c.2.1 = d.2.1 ∧ Sl InE I w8 c.2.2.1 c.2.2.2.1 c.2.2.2.2 d.2.2 from fun i c d h1 h2 => by
      obtain ⟨k1, k2, k3⟩ := HCR6.out i c d h1 h2
      exact ⟨k1, k2, k3.via hb68⟩)
    have HP8 := Lib.hid (show chkW g.terms 2000 xs = 0 → clN g g.nons = [] → ∃ (W : List Nat) (d : Nat) (r : Option Tr) (k' : Nat), xs = ints W ∧ (∀ x ∈ W, x < g.terms) ∧ W.length ≤ 2000 ∧ prs g W d (false, g.start) 0 = some (r, k') ∧ k' ≤ W.length ∧ ParR w4 W w8 r k' (va, vb, vA2, vn2, vc2) xk xq from fun h1 h2 => by
      obtain ⟨W, d, r, k', a1, a2, a3, a4, a5, a6⟩ := HP3.out h1 h2
      refine ⟨W, d, r, k', a1, a2, a3, a4, a5, ?_⟩
      cases r with
      | none => exact a6
      | some t =>
        unfold ParR at a6 ⊢
        by_cases hk : k' < W.length
        · simp only [hk, if_true] at a6 ⊢; exact a6
        · simp only [hk, if_false] at a6 ⊢; exact ⟨a6.1, a6.2.1, a6.2.2.via hb68⟩)
    clear hb7 hb8 hb68 HL6 HX6 HA6 HBG6 BG6 HBT6 HT6 HC6 HBX6 HCR6 HP3
    have cBG8 := BG8.cell
    have fBG8 := BG8.frozen
    have lBG8 := BG8.lt
    go_wp2_with fail
    clear cBG8 fBG8 lBG8
    clear BG8 BT8
    go_loopw [13, 74] (fun kv iv wr => ∃ (i kk : Nat), kv = .int .i64 kk ∧ iv = .int .i64 i ∧ i ≤ g.nons ∧ Hid (kk = (clN g i).length ∧ Below w8.heap.size w8 wr)) (fun _ iv _ => g.nons - (intOf iv).toNat)
    case atStart => exact ⟨0, 0, rfl, rfl, Nat.zero_le _, Lib.hid ⟨rfl, Below.refl _ _⟩⟩
    case round =>
      obtain ⟨i, kk, rfl, rfl, hi, HK⟩ := hrel
      by_cases hin : i < g.nons
      · have i0 : (0 : Int) ≤ (i : Int) := by omega
        have i1 : (i : Int) < (g.nons : Int) := by omega
        have hkk : kk ≤ 100 := by have := HK.out.1; have := clN_len g i; have : i * (g.terms + 1) ≤ 10 * 9 := Nat.mul_le_mul (by omega) (by omega); omega
        have BG := HBG8.out.via HK.out.2
        have cBG := BG.cell
        have fBG := BG.frozen
        have lBG := BG.lt
        go_wp2_with fail
        clear cBG fBG lBG
        go_loopw [13, 80] (fun kv jv wr => ∃ (j k2 : Nat), kv = .int .i64 k2 ∧ jv = .int .i64 j ∧ j ≤ g.terms + 1 ∧ Hid (k2 = (clN g i).length + (clK g i j).length ∧ Below w8.heap.size w8 wr)) (fun _ jv _ => g.terms + 1 - (intOf jv).toNat)
        case atStart => exact ⟨0, kk, rfl, rfl, Nat.zero_le _, Lib.hid ⟨by rw [HK.out.1]; rfl, HK.out.2⟩⟩
        case round =>
          obtain ⟨j, k2, rfl, rfl, hj, HK2⟩ := hrel
          by_cases hjn : j < g.terms + 1
          · have j1 : (j : Int) < (g.terms : Int) + 1 := by omega
            have j0 : (0 : Int) ≤ (j : Int) := by omega
            have hk2 : k2 ≤ 200 := by
              have h1 := HK2.out.1; have h2 := clN_len g i; have h3 := clK_len g i j
              have : i * (g.terms + 1) ≤ 10 * 9 := Nat.mul_le_mul (by omega) (by omega)
              omega
            have BGq := HBG8.out.via HK2.out.2
            have hps := possible_c (fun b => b ≠ w.heap.size) g A n c i j wr HG.out (HL8.out.lowR.via HK2.out.2) hin (by omega)
            simp only [grVal] at hps
            have cBGq := BGq.cell
            have fBGq := BGq.frozen
            have lBGq := BGq.lt
            go_wp2_with fail
            clear cBGq fBGq lBGq
            refine hps.mono ?_
            clear hps
            rintro e w9 ⟨base, pA, pc, rfl, hop, hbase, hbz, hb9⟩
            rw [refK_ok HG.out.ok] at hop
            simp only [refK_ok HG.out.ok]
            have hplen : (posL g i j).length ≤ 32 := Nat.le_trans (posK_len g i j g.rules.length) HG.out.ok.count
            obtain ⟨pn, hpn⟩ : ∃ pn, pn = (posL g i j).length := ⟨_, rfl⟩
            rw [← hpn] at hop hplen ⊢
            have HOP := Lib.hid hop
            have HB9 := Lib.hid (HK2.out.2.via hb9)
            have HZ9 := Lib.hid hbz
            have HB0 := Lib.hid (show w8.heap.size ≤ base from Nat.le_trans HK2.out.2.size hbase)
            have HPN := Lib.hid hpn
            clear hop hb9 hbase hbz BGq hpn
            by_cases hp1 : 1 < pn
            · have hp1' : (1 : Int) < (pn : Int) := by omega
              have hlp : 1 < (posL g i j).length := by have := HPN.out; omega
              have hat := clN_at hin hjn hlp
              rw [← HK2.out.1] at hat
              have hkC : k2 < C.length := by have := HCL.out; have := (List.getElem?_eq_some_iff.1 hat).1; omega
              obtain ⟨cb, co, ⟨x1, x2, sA, sn, sc⟩, y, rfl, -, -, hy, hrel, hc⟩ := (HC8.out.via HB9.out).at_ hkC
              obtain rfl : (x1, x2, sA, sn, sc) = y := hrel
              obtain ⟨q1, q2, q3⟩ := HCR8.out k2 _ (i, j, ints (posL g i j)) hy (by unfold clI; rw [List.getElem?_map, hat]; rfl)
              simp only at q1 q2 q3
              have q1 := q1.symm
              have q2 := q2.symm
              subst q1 q2
              have d0 := hc 0 _ rfl
              have d1 := hc 1 _ rfl
              have d2 := hc 2 _ rfl
              simp only [ClE, Nat.add_zero] at d0 d1 d2
              have HQ3 := Lib.hid ((q3.via HB9.out).intsIn)
              have hsn : pn = sn := by have := HQ3.out.1; have h := HPN.out; simp only [ints, List.length_map] at this; omega
              subst hsn
              have g1 : (k2 : Int) < (C.length : Int) := by omega
              have g2 : (0 : Int) ≤ (k2 : Int) := by omega
              have HCN := Lib.hid (show k2 + 1 = (clN g i).length + (clK g i (j + 1)).length by rw [clK_hit hlp, HK2.out.1]; simp; omega)
              have BT9 := HBT8.out.via HB9.out
              clear hc hy q3 hat hlp
              have cBT9 := BT9.cell
              have fBT9 := BT9.frozen
              have lBT9 := BT9.lt
              go_wp2_with fail
              clear cBT9 fBT9 lBT9
              refine (equal_c sA pA pn sc pn pc (ints (posL g i j)) (ints (posL g i j)) w9 HQ3.out HOP.out.toInts (by omega)).mono ?_
              rintro e w10 hbp
              obtain ⟨rfl, hb10⟩ := hbp.below
              have HB10 := Lib.hid (HB9.out.via hb10)
              have HOP10 := Lib.hid (HOP.out.keep hb10 (Nat.le_refl _))
              have HZ10 := Lib.hid (Nat.le_trans HZ9.out hb10.size)
              simp only [decide_true]
              clear hbp hb10 d0 d1 d2 g1 g2 HQ3 BT9
              have hal := (Below.refl w10.heap.size w10).al (.cells #[.int .i64 (-1)] 3)
              have HLV := Lib.hid (HOP10.out.keep hal (Nat.le_refl _))
              have HBE := Lib.hid (HB10.out.via hal)
              have HSZ := Lib.hid (show base ≤ (w10.alloc (.cells #[.int .i64 (-1)] 3)).heap.size from Nat.le_trans HZ10.out hal.size)
              clear hal HOP10 HB10 HZ10
              go_wp2_with (at_builtin; refine wpList_append_ints _ rfl (.tmp 128) (.tmp 129) rfl base (.slice pA pn pc) pn (ints (posL g i j)) rfl HLV.out (some ⟨w10.heap.size, 0, none⟩) 1 1 [(-1 : Int)] rfl (Ints.oneI w10 (-1)) (by omega) HSZ.out ?_)
              intro A6 c6 w6 ho6 hg6 hat6
              have HB6 := Lib.hid (HLV.out.grown HBE.out hg6 HB0.out HBE.out.size)
              obtain ⟨b6, o6, rfl, hb6, h6⟩ := ho6.toInts.at_ (show 0 < pn + 1 by omega)
              obtain ⟨hd, hhd⟩ : ∃ hd, hd = headI (posL g i j) := ⟨_, rfl⟩
              have e6 : (ints (posL g i j) ++ [(-1 : Int)]).getD 0 0 = hd := by rw [List.getD_eq_getElem?_getD, headI_app, hhd]; rfl
              rw [e6, Nat.add_zero] at h6
              clear ho6 hg6 hat6 HLV HBE HSZ e6 hb6
              have BT6 := HBT8.out.via HB6.out
              have BG6 := HBG8.out.via HB6.out
              obtain ⟨rb, ro, ⟨zA, zn, zc⟩, x, rfl, -, -, hx, hrel, hc⟩ := (HT8.out.via HB6.out).at_ hin
              have hx2 : x = rowP g i (g.terms + 1) := by
                unfold tabT at hx
                rw [List.getElem?_map, List.getElem?_range hin] at hx
                exact (Option.some.inj hx).symm
              subst hx2
              have hc0 := hc 0 _ rfl
              simp only [RwE, Nat.mul_one, Nat.add_zero] at hc0
              have hIr : Ints w6 zA zn zc (rowP g i (g.terms + 1)) := Sl.intsIn hrel
              have hsn : zn = g.terms + 1 := by have := hIr.1; simp [rowP] at this; omega
              subst hsn
              obtain ⟨b7, o7, rfl, hb7, h7⟩ := hIr.at_ hjn
              have e7 : (rowP g i (g.terms + 1)).getD j 0 = hd := by
                unfold rowP
                rw [List.getD_eq_getElem?_getD, List.getElem?_map, List.getElem?_range hjn, hhd]; rfl
              rw [e7] at h7
              have f1 : (((g.terms + 1 : Nat) : Int) != (g.terms : Int) + 1) = false := by simp
              have f2 : (hd != hd) = false := by simp
              have f3 : ((g.nons : Int) != (g.nons : Int)) = false := by simp
              have f4 : (0 : Int) < ((pn + 1 : Nat) : Int) := by omega
              have f5 : (j : Int) < ((g.terms + 1 : Nat) : Int) := by omega
              clear hx hrel hc hIr e7 hhd hb7
              have cBT6 := BT6.cell
              have fBT6 := BT6.frozen
              have lBT6 := BT6.lt
              have cBG6 := BG6.cell
              have fBG6 := BG6.frozen
              have lBG6 := BG6.lt
              go_upto_region 20 with fail
              go_quiet (fail)
              clear cBT6 fBT6 lBT6 cBG6 fBG6 lBG6
              clear BT6 BG6 hc0 h6 h7 f1 f2 f3 f4 f5
              go_wp2_with fail
              exact ⟨⟨j + 1, k2 + 1, by go_num, by go_num, by omega, Lib.hid ⟨HCN.out, HB6.out.via (below_drewN (Below.refl _ _) _)⟩⟩, by simp [intOf]; omega⟩
            · have hp1' : ¬ (1 : Int) < (pn : Int) := by omega
              have HCN := Lib.hid (show k2 = (clN g i).length + (clK g i (j + 1)).length by rw [clK_miss (by have := HPN.out; omega)]; exact HK2.out.1)
              have hal := (Below.refl w9.heap.size w9).al (.cells #[.int .i64 (-1)] 3)
              have HLV := Lib.hid (HOP.out.keep hal (Nat.le_refl _))
              have HBE := Lib.hid (HB9.out.via hal)
              have HSZ := Lib.hid (show base ≤ (w9.alloc (.cells #[.int .i64 (-1)] 3)).heap.size from Nat.le_trans HZ9.out hal.size)
              clear hal HOP HB9 HZ9
              go_wp2_with (at_builtin; refine wpList_append_ints _ rfl (.tmp 128) (.tmp 129) rfl base (.slice pA pn pc) pn (ints (posL g i j)) rfl HLV.out (some ⟨w9.heap.size, 0, none⟩) 1 1 [(-1 : Int)] rfl (Ints.oneI w9 (-1)) (by omega) HSZ.out ?_)
              intro A6 c6 w6 ho6 hg6 hat6
              have HB6 := Lib.hid (HLV.out.grown HBE.out hg6 HB0.out HBE.out.size)
              obtain ⟨b6, o6, rfl, hb6, h6⟩ := ho6.toInts.at_ (show 0 < pn + 1 by omega)
              obtain ⟨hd, hhd⟩ : ∃ hd, hd = headI (posL g i j) := ⟨_, rfl⟩
              have e6 : (ints (posL g i j) ++ [(-1 : Int)]).getD 0 0 = hd := by rw [List.getD_eq_getElem?_getD, headI_app, hhd]; rfl
              rw [e6, Nat.add_zero] at h6
              clear ho6 hg6 hat6 HLV HBE HSZ e6 hb6
              have BT6 := HBT8.out.via HB6.out
              have BG6 := HBG8.out.via HB6.out
              obtain ⟨rb, ro, ⟨zA, zn, zc⟩, x, rfl, -, -, hx, hrel, hc⟩ := (HT8.out.via HB6.out).at_ hin
              have hx2 : x = rowP g i (g.terms + 1) := by
                unfold tabT at hx
                rw [List.getElem?_map, List.getElem?_range hin] at hx
                exact (Option.some.inj hx).symm
              subst hx2
              have hc0 := hc 0 _ rfl
              simp only [RwE, Nat.mul_one, Nat.add_zero] at hc0
              have hIr : Ints w6 zA zn zc (rowP g i (g.terms + 1)) := Sl.intsIn hrel
              have hsn : zn = g.terms + 1 := by have := hIr.1; simp [rowP] at this; omega
              subst hsn
              obtain ⟨b7, o7, rfl, hb7, h7⟩ := hIr.at_ hjn
              have e7 : (rowP g i (g.terms + 1)).getD j 0 = hd := by
                unfold rowP
                rw [List.getD_eq_getElem?_getD, List.getElem?_map, List.getElem?_range hjn, hhd]; rfl
              rw [e7] at h7
              have f1 : (((g.terms + 1 : Nat) : Int) != (g.terms : Int) + 1) = false := by simp
              have f2 : (hd != hd) = false := by simp
              have f3 : ((g.nons : Int) != (g.nons : Int)) = false := by simp
              have f4 : (0 : Int) < ((pn + 1 : Nat) : Int) := by omega
              have f5 : (j : Int) < ((g.terms + 1 : Nat) : Int) := by omega
              clear hx hrel hc hIr e7 hhd hb7
              have cBT6 := BT6.cell
              have fBT6 := BT6.frozen
              have lBT6 := BT6.lt
              have cBG6 := BG6.cell
              have fBG6 := BG6.frozen
              have lBG6 := BG6.lt
              go_upto_region 20 with fail
              go_quiet (fail)
              clear cBT6 fBT6 lBT6 cBG6 fBG6 lBG6
              clear BT6 BG6 hc0 h6 h7 f1 f2 f3 f4 f5
              go_wp2_with fail
              exact ⟨⟨j + 1, k2, by go_num, by go_num, by omega, Lib.hid ⟨HCN.out, HB6.out.via (below_drewN (Below.refl _ _) _)⟩⟩, by simp [intOf]; omega⟩
          · obtain rfl : j = g.terms + 1 := by omega
            have hk3 : k2 ≤ 200 := by
              have h1 := HK2.out.1; have h2 := clN_len g i; have h3 := clK_len g i (g.terms + 1)
              have : i * (g.terms + 1) ≤ 10 * 9 := Nat.mul_le_mul (by omega) (by omega)
              omega
            have e9 : ¬ (((g.terms + 1 : Nat) : Int) < (g.terms : Int) + 1) := by omega
            go_wp2_with fail
            exact ⟨⟨i + 1, k2, rfl, by go_num, by omega, Lib.hid ⟨by rw [clN_end]; exact HK2.out.1, HK2.out.2⟩⟩, by simp [intOf]; omega⟩
      · obtain rfl : i = g.nons := by omega
        have hkC : kk = C.length := by rw [HK.out.1, HCL.out]
        subst hkC
        have BT := HBT8.out.via HK.out.2
        have BG := HBG8.out.via HK.out.2
        have HXr := Lib.hid ((HX8.out.via HK.out.2).intsIn)
        have HLr := Lib.hid (HL8.out.via HK.out.2)
        have HAr := Lib.hid (HA8.out.via HK.out.2)
        have HBXr := Lib.hid (HBX8.out.via HK.out.2)
        have HPr := Lib.hid (show chkW g.terms 2000 xs = 0 → clN g g.nons = [] → ∃ (W : List Nat) (d : Nat) (r : Option Tr) (k' : Nat), xs = ints W ∧ (∀ x ∈ W, x < g.terms) ∧ W.length ≤ 2000 ∧ prs g W d (false, g.start) 0 = some (r, k') ∧ k' ≤ W.length ∧ ParR w4 W wr r k' (va, vb, vA2, vn2, vc2) xk xq from fun h1 h2 => by
          obtain ⟨W, d, r, k', a1, a2, a3, a4, a5, a6⟩ := HP8.out h1 h2
          refine ⟨W, d, r, k', a1, a2, a3, a4, a5, ?_⟩
          cases r with
          | none => exact a6
          | some t =>
            unfold ParR at a6 ⊢
            by_cases hk : k' < W.length
            · simp only [hk, if_true] at a6 ⊢; exact a6
            · simp only [hk, if_false] at a6 ⊢; exact ⟨a6.1, a6.2.1, a6.2.2.via HK.out.2⟩)
        have f1 : ((C.length : Int) != (C.length : Int)) = false := by simp
        have HCL2 := HCL
        clear HCR8 HT8 HC8 HX8 HL8 HA8 HBX8 HP8 HK HBG8 HBT8
        have hcw := refword_c (g.terms : Int) (g.nons : Int) (g.start : Int) (by have := HG.out.ok.terms; omega) A n c wA wn wcp 2000 xs wr HXr.out (by omega)
        have cBT := BT.cell
        have fBT := BT.frozen
        have lBT := BT.lt
        have cBG := BG.cell
        have fBG := BG.frozen
        have lBG := BG.lt
        go_wp2_with fail
        clear cBT fBT lBT cBG fBG lBG
        obtain ⟨qw, hqw⟩ : ∃ qw, qw = chkW g.terms 2000 xs := ⟨_, rfl⟩
        rw [← hqw] at hcw
        refine hcw.mono ?_
        rintro e w10 ⟨rfl, hb10⟩
        have HBX := HBXr
        by_cases hq0 : qw = 0
        · by_cases hC : C.length = 0
          · have hcl0 : clN g g.nons = [] := List.eq_nil_of_length_eq_zero (by rw [← HCL.out]; exact hC)
            obtain ⟨W, d, r, k', rfl, hW, hWl, hprs, hk', hR⟩ := HPr.out (by rw [← hqw]; exact hq0) hcl0
            have hwn : wn = W.length := by have := HXr.out.1; simp only [ints, List.length_map] at this; exact this.symm
            subst hwn hq0
            have HPD := Lib.hid (predicted_c (fun b => b ≠ w.heap.size) g A n c wA wcp W d r k' w10 HG.out (HLr.out.lowR.via hb10) (HXr.out.via hb10) hW hWl hprs hk')
            have g1 : ¬ (0 : Int) < (C.length : Int) := by omega
            have BG10 := BG.via hb10
            have HB10 := Lib.hid (HAr.out.via hb10)
            have HBX10 := Lib.hid (HBXr.out.via hb10)
            have HNW := Lib.hid (show ∀ t, r = some t → t.Nrw from fun t e => prs_nrw HG.out.ok d _ _ _ _ (by rw [hprs, e]))
            have hR10 : ParR w4 W w10 r k' (va, vb, vA2, vn2, vc2) xk xq := by
              cases r with
              | none => exact hR
              | some t =>
                unfold ParR at hR ⊢
                by_cases hk : k' < W.length
                · simp only [hk, if_true] at hR ⊢; exact hR
                · simp only [hk, if_false] at hR ⊢; exact ⟨hR.1, hR.2.1, hR.2.2.via hb10⟩
            have HR10 := Lib.hid hR10
            clear hC hR hb10 hcl0 hcw hqw HPr HP1 HP2 hprs hW hR10 HBX
            have hpd := HPD.out
            simp only [grVal] at hpd
            clear HPD
            have cBG10 := BG10.cell
            have fBG10 := BG10.frozen
            have lBG10 := BG10.lt
            go_wp2_with fail
            clear cBG10 fBG10 lBG10
            refine hpd.mono ?_
            clear hpd
            rintro e w11 ⟨⟨ua, ub, uA, un, uc⟩, b2, rfl, hb11, hm⟩
            have HB11 := Lib.hid (HB10.out.via hb11)
            have HB11X := Lib.hid (HBX10.out.via hb11)
            have hR11 : ParR w4 W w11 r k' (va, vb, vA2, vn2, vc2) xk xq := by
              have hR := HR10.out
              cases r with
              | none => exact hR
              | some t =>
                unfold ParR at hR ⊢
                by_cases hk : k' < W.length
                · simp only [hk, if_true] at hR ⊢; exact hR
                · simp only [hk, if_false] at hR ⊢; exact ⟨hR.1, hR.2.1, hR.2.2.via hb11⟩
            clear hb11 BG10 HR10
            dsimp only [trVal]
            cases r with
            | none =>
              have hbf : b2 = false := hm
              have hR : xq = 10 ∧ xk = (k' : Int) ∧ (va, vb, vA2, vn2, vc2) = (0, 0, none, 0, 0) := hR11
              clear hm hR11
              subst hbf
              obtain ⟨rfl, rfl, hv⟩ := hR
              simp only [Prod.mk.injEq] at hv
              obtain ⟨rfl, rfl, rfl, rfl, rfl⟩ := hv
              have hal := (Below.refl w11.heap.size w11).al (.cells #[.int .i64 ua, .int .i64 ub, .slice uA un uc] 37)
              have BX := (HB11X.out).via hal
              have HB12 := Lib.hid (HB11.out.via hal)
              clear hal
              have g5 : ((k' : Int) == (k' : Int)) = true := by simp
              go_upto_region 32 with fail
              generalize w11.alloc (.cells #[.int .i64 ua, .int .i64 ub, .slice uA un uc] 37) = w12 at *
              have cBX := BX.cell
              have fBX := BX.frozen
              have lBX := BX.lt
              go_wp2_with fail
              clear cBX fBX lBX
              refine (same3_0 w12).mono ?_
              rintro e w13 ⟨rfl, hb13⟩
              have HB13 := Lib.hid (HB12.out.via hb13)
              clear hb13
              go_wp2_with fail
              go_ret
              exact ⟨rfl, HB13.out⟩
            | some t =>
              by_cases hk : k' < W.length
              · simp only [hk, if_true] at hm
                unfold ParR at hR11
                simp only [hk, if_true] at hR11
                have hbf : b2 = false := hm
                have hR := hR11
                clear hm hR11 hk
                subst hbf
                obtain ⟨rfl, rfl, hv⟩ := hR
                simp only [Prod.mk.injEq] at hv
                obtain ⟨rfl, rfl, rfl, rfl, rfl⟩ := hv
                have hal := (Below.refl w11.heap.size w11).al (.cells #[.int .i64 ua, .int .i64 ub, .slice uA un uc] 37)
                have BX := (HB11X.out).via hal
                have HB12 := Lib.hid (HB11.out.via hal)
                clear hal
                have g5 : ((k' : Int) == (k' : Int)) = true := by simp
                go_upto_region 32 with fail
                generalize w11.alloc (.cells #[.int .i64 ua, .int .i64 ub, .slice uA un uc] 37) = w12 at *
                have cBX := BX.cell
                have fBX := BX.frozen
                have lBX := BX.lt
                go_wp2_with fail
                clear cBX fBX lBX
                refine (same3_0 w12).mono ?_
                rintro e w13 ⟨rfl, hb13⟩
                have HB13 := Lib.hid (HB12.out.via hb13)
                clear hb13
                go_wp2_with fail
                go_ret
                exact ⟨rfl, HB13.out⟩
              · simp only [hk, if_false] at hm
                unfold ParR at hR11
                simp only [hk, if_false] at hR11
                obtain ⟨rfl, hT1⟩ := hm
                obtain ⟨rfl, rfl, hT2⟩ := hR11
                have hal := (Below.refl w11.heap.size w11).al (.cells #[.int .i64 ua, .int .i64 ub, .slice uA un uc] 37)
                have BX := (HB11X.out).via hal
                have BY := Blk.new w11 37 #[.int .i64 ua, .int .i64 ub, .slice uA un uc]
                have HB12 := Lib.hid (HB11.out.via hal)
                have HT1 := Lib.hid (hT1.via hal)
                have HT2 := Lib.hid (hT2.via hal)
                have HN := Lib.hid (HNW.out t rfl)
                clear hal hT1 hT2 hk HNW
                go_upto_region 32 with fail
                generalize w11.alloc (.cells #[.int .i64 ua, .int .i64 ub, .slice uA un uc] 37) = w12 at *
                have cBX := BX.cell
                have fBX := BX.frozen
                have lBX := BX.lt
                have cBY := BY.cell
                have fBY := BY.frozen
                have lBY := BY.lt
                go_wp2_with fail
                clear cBX fBX lBX cBY fBY lBY
                refine (same3_c (v1 := (va, vb, vA2, vn2, vc2)) (v2 := (ua, ub, uA, un, uc)) HT2.out HT1.out HN.out).mono ?_
                rintro e w13 ⟨rfl, hb13⟩
                have HB13 := Lib.hid (HB12.out.via hb13)
                clear hb13
                go_wp2_with fail
                go_ret
                exact ⟨rfl, HB13.out⟩
          · have hne : clN g g.nons ≠ [] := fun h => hC (by rw [HCL.out, h]; rfl)
            have HV := Lib.hid (HP2.out (by rw [← hqw]; exact hq0) hne)
            subst hq0
            have g1 : (0 : Int) < (C.length : Int) := by omega
            clear hne hcw hqw
            obtain ⟨rfl, rfl, hv⟩ := HV.out
            simp only [Prod.mk.injEq] at hv
            obtain ⟨rfl, rfl, rfl, rfl, rfl⟩ := hv
            have BX := HBX.out.via hb10
            have HB10 := Lib.hid (HAr.out.via hb10)
            clear hb10
            have cBX := BX.cell
            have fBX := BX.frozen
            have lBX := BX.lt
            go_wp2_with fail
            clear cBX fBX lBX
            refine (same3_0 w10).mono ?_
            rintro e w11 ⟨rfl, hb11⟩
            have HB11 := Lib.hid (HB10.out.via hb11)
            clear hb11
            go_wp2_with fail
            go_ret
            exact ⟨rfl, HB11.out⟩
        · have HV := Lib.hid (HP1.out (by rw [← hqw]; exact hq0))
          rw [← hqw] at HV
          have g1 : (qw == 0) = false := by simpa using hq0
          have g2 : (qw != 0) = true := by simpa using hq0
          have g3 : (qw == qw) = true := by simp
          clear hcw hqw hq0
          obtain ⟨rfl, rfl, hv⟩ := HV.out
          simp only [Prod.mk.injEq] at hv
          obtain ⟨rfl, rfl, rfl, rfl, rfl⟩ := hv
          have BX := HBX.out.via hb10
          have HB10 := Lib.hid (HAr.out.via hb10)
          clear hb10
          have cBX := BX.cell
          have fBX := BX.frozen
          have lBX := BX.lt
          go_wp2_with fail
          clear cBX fBX lBX
          refine (same3_0 w10).mono ?_
          rintro e w11 ⟨rfl, hb11⟩
          have HB11 := Lib.hid (HB10.out.via hb11)
          clear hb11
          go_wp2_with fail
          go_ret
          exact ⟨rfl, HB11.out⟩
  · obtain ⟨q, hq⟩ : ∃ q, q = chkG T N S rs := ⟨_, rfl⟩
    have hq0 : (q != 0) = true := by rw [hq]; simpa using hbad
    have HQ := Lib.hid hq
    have cBG2 := BG2.cell
    have fBG2 := BG2.frozen
    have lBG2 := BG2.lt
    go_wp2_with fail
    refine (ofE_e (fun b => b ≠ w.heap.size) T N S A n c rs w2 HL2.out hbad).mono ?_
    rw [← hq]
    rintro e w3 ⟨rfl, hb3⟩
    have hal3 := (Below.refl w3.heap.size w3).al (.cells #[.slice none 0 0, .slice none 0 0] 31)
    have BT3 := Blk.new w3 31 #[.slice none 0 0, .slice none 0 0]
    have HL3 := Lib.hid ((HL2.out.via hb3).via hal3)
    have HA3 := Lib.hid ((HA2.out.via hb3).via hal3)
    have BG3 := (BG2.via hb3).via hal3
    clear cBG2 fBG2 lBG2
    clear BG2 hb3 hal3 hq HBG2
    go_upto_region 3 with fail
    generalize w3.alloc (.cells #[.slice none 0 0, .slice none 0 0] 31) = w4 at *
    generalize w3.heap.size = bt at *
    have HBT := Lib.hid BT3
    clear BT3
    have cBG3 := BG3.cell
    have fBG3 := BG3.frozen
    have lBG3 := BG3.lt
    go_wp2_with fail
    clear cBG3 fBG3 lBG3
    refine (ppar_e (fun b => b ≠ w.heap.size) T N S A n c rs wA wn wcp w4 HL3.out hbad).mono ?_
    rw [← HQ.out]
    rintro e w5 ⟨rfl, hb5⟩
    have hal5 := (Below.refl w5.heap.size w5).al (.cells #[.int .i64 0, .int .i64 0, .slice none 0 0] 37)
    have HL5 := Lib.hid ((HL3.out.via hb5).via hal5)
    have HA5 := Lib.hid ((HA3.out.via hb5).via hal5)
    have BG5 := (BG3.via hb5).via hal5
    have HBT5 := Lib.hid ((HBT.out.via hb5).via hal5)
    clear BG3 hb5 hal5 HL3 HA3 HBT HL2 HA2 HX2
    dsimp only [trVal]
    go_upto_region 4 with fail
    generalize w5.alloc (.cells #[.int .i64 0, .int .i64 0, .slice none 0 0] 37) = w6 at *
    have cBG5 := BG5.cell
    have fBG5 := BG5.frozen
    have lBG5 := BG5.lt
    go_wp2_with fail
    clear cBG5 fBG5 lBG5
    refine (refcheck_c (fun b => b ≠ w.heap.size) T N S A n c rs w6 HL5.out).mono ?_
    rw [← HQ.out]
    rintro e w7 ⟨rfl, hb7⟩
    have BT7 := HBT5.out.via hb7
    have HBT7 := Lib.hid BT7
    have HA7 := Lib.hid (HA5.out.via hb7)
    clear hb7 HL5 HA5 HBT5 BG5
    go_wp2_with fail
    refine (predicts_c w7).mono ?_
    rintro e w8 ⟨rfl, hb8⟩
    have BT8 := HBT7.out.via hb8
    have HA8 := Lib.hid (HA7.out.via hb8)
    clear hb8 BT7 HBT7 HA7
    have cBT8 := BT8.cell
    have fBT8 := BT8.frozen
    have lBT8 := BT8.lt
    go_wp2_with fail
    go_ret
    exact ⟨rfl, HA8.out⟩
end Go.Proofs.Ythkldiehokblcaa

