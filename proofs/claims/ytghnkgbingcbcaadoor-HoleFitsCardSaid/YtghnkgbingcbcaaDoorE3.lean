/- Texts AH, laid together. -/
import Derived.Test.YtghnkgbingcbcaaDoorE2



namespace Go.Proofs.YtghnkgbingcbcaaDoor
open Go.RowKit

theorem zero_list {w w' : World} {e : Ending} (h : BestP w ⟨2, 2, 2, 1, listG.rules, []⟩ 0 e w') : ∃ A c, e = .returned (.tuple #[.int .i64 2, .slice A 1 c, .int .i64 0]) ∧ Below w.heap.size w w' := by
  obtain ⟨A, n, c, rfl, hb⟩ := best_list h
  obtain ⟨st, hg, hf, -, h⟩ := h
  rcases h with ⟨h, _⟩ | ⟨h, _, _⟩ | ⟨A', n', c', h, h1, _, h2⟩
  · cases h
  · cases h
  · have hc : (st 0 0 0).cost = 2 := by
      injection h with h; injection h with h
      have := congrArg (fun a : Array Value => a[0]?) h
      simp at this
      exact this.symm
    have hn : n = n' := by
      injection h with h; injection h with h
      have := congrArg (fun a : Array Value => a[1]?) h
      simp at this
      exact this.2.1
    obtain ⟨-, -, v, h3, h4, h5, h6⟩ := hg.snd 0 0 0 h1
    have hcost : (st 0 0 0).cost = 2 * (v.length : Int) := by
      have : ∀ (v : List Int) (k : Int), Al (2 : Int) 2 2 [] v k → k = 2 * (v.length : Int) := by
        intro v
        induction v with
        | nil => intro k h; cases h; rfl
        | cons x v ih => intro k h; cases h with | ins _ h => rw [ih _ h]; simp; omega
      exact this v _ h4
    have hv : v.length = 1 := by omega
    have hl := h2.len
    have h7 : (st 0 0 0).w = v := by
      have := h6
      rw [if_pos (by omega)] at this
      exact this
    have hl2 : (st 0 0 0).w.length = n' := hl
    rw [h7] at hl2
    exact ⟨A, c, by rw [hn, ← hl2, hv], hb⟩
theorem zero_plain {w w' : World} {e : Ending} {g : Gr} (hM : MadeG g) {xs : List Int} (hxl : xs.length ≤ 7) {c0 c1 c2 : Int} (p0 : 1 ≤ c0 ∧ c0 ≤ 9) (p1 : 1 ≤ c1 ∧ c1 ≤ 9) (p2 : 1 ≤ c2 ∧ c2 ≤ 9) (h : BestP w ⟨c0, c1, c2, g.nons, g.rules, xs⟩ g.start e w') :
    Below w.heap.size w w' ∧ ((e = .returned (.tuple #[.int .i64 0, .slice none 0 0, .int .i64 5]) ∧ ¬ Dv g.rules [(false, g.start)] xs) ∨
      ∃ (A : Option Addr) (n c : Nat) (v : List Int) (k : Int), e = .returned (.tuple #[.int .i64 k, .slice A n c, .int .i64 0]) ∧ Ints w' A n c v ∧ Dv g.rules [(false, g.start)] v ∧ v.length ≤ 151 ∧ k = dpV c0 c1 (gR c0 c1 c2) xs v 0 0 ∧ (k = 0 ↔ Dv g.rules [(false, g.start)] xs) ∧ (k = 0 → v = xs) ∧ 0 ≤ k ∧ ∀ x ∈ v, 0 ≤ x ∧ x < (g.terms : Int)) := by
  obtain ⟨st, hg, hf, hb, h⟩ := h
  refine ⟨hb, ?_⟩
  have short : (st g.start 0 xs.length).ok = true → ∃ v, Dv g.rules [(false, g.start)] v ∧ Al c0 c1 c2 xs v (st g.start 0 xs.length).cost ∧ (st g.start 0 xs.length).size = (v.length : Int) ∧ (st g.start 0 xs.length).w = v ∧ v.length ≤ 151 := by
    intro h1
    obtain ⟨-, -, v, h3, h4, h5, h6⟩ := hg.snd g.start 0 xs.length h1
    have h4 : Al c0 c1 c2 xs v (st g.start 0 xs.length).cost := by
      have := h4
      simp only [part_all] at this
      exact this
    obtain ⟨u, hu, hul⟩ := hM.short h3
    have h7 := (hf.least hu (Al.far xs u)).2
    have h8 := h4.most (by omega) (by omega) (by omega)
    have h7' : (st g.start 0 xs.length).cost ≤ (xs.length : Int) * c1 + (u.length : Int) * c0 := h7
    have hv : v.length ≤ 151 := by
      rcases Nat.lt_or_ge v.length 152 with h9 | h9
      · omega
      · exfalso
        have e1 : (152 : Int) * c0 ≤ (v.length : Int) * c0 := Int.mul_le_mul_of_nonneg_right (by omega) (by omega)
        have e2 : (u.length : Int) * c0 ≤ 81 * c0 := Int.mul_le_mul_of_nonneg_right (by omega) (by omega)
        have e3 : (xs.length : Int) * c0 ≤ 7 * c0 := Int.mul_le_mul_of_nonneg_right (by omega) (by omega)
        have e4 : (xs.length : Int) * c1 ≤ 7 * c1 := Int.mul_le_mul_of_nonneg_right (by omega) (by omega)
        omega
    have h6' : (st g.start 0 xs.length).w = if v.length ≤ 2000 then v else [] := h6
    exact ⟨v, h3, h4, h5, by rw [h6', if_pos (by omega)], hv⟩
  have same : Dv g.rules [(false, g.start)] xs → (st g.start 0 xs.length).ok = true ∧ (st g.start 0 xs.length).cost ≤ 0 := fun hd => hf.least hd (Al.same xs)
  rcases h with ⟨rfl, h⟩ | ⟨_, h1, h2⟩ | ⟨A, n, c, rfl, h1, h2, h3⟩
  · refine Or.inl ⟨rfl, fun hd => ?_⟩
    have := (same hd).1
    rw [show (st g.start 0 xs.length).ok = false from h] at this; cases this
  · exfalso
    obtain ⟨v, _, _, h5, _, h6⟩ := short h1
    have h2' : 2000 < (st g.start 0 xs.length).size := h2
    omega
  · obtain ⟨v, hd, ha, hs, hw, hv⟩ := short h1
    have hk0 := ha.pos (by omega) (by omega) (by omega)
    have hle := Al.least (c0 := c0) (c1 := c1) (c2 := c2) (by omega) (by omega) (by omega) _ xs v _ (Nat.le_refl _) ha
    have hge := (hf.least hd (Al.dp xs v)).2
    have hge' : (st g.start 0 xs.length).cost ≤ dpT c0 c1 (gR c0 c1 c2) xs v := hge
    refine Or.inr ⟨A, n, c, v, (st g.start 0 xs.length).cost, rfl, by rw [← hw]; exact h3, hd, hv, ?_, ⟨fun h0 => ?_, fun hd2 => ?_⟩, fun h0 => ?_, hk0, ?_⟩
    · unfold dpV; rw [List.drop_zero, List.drop_zero]; omega
    · have := ha.zero (by omega) (by omega) (by omega) h0
      rw [this]; exact hd
    · have := (same hd2).2; omega
    · exact (ha.zero (by omega) (by omega) (by omega) h0).symm
    · exact hd.lets (fun r hr s hs hb => by
        have := (hM.grOk.ok.right r hr).2 s hs
        rwa [Gr.okSy, if_pos hb] at this) fun s hs hb => by rw [List.mem_singleton.1 hs] at hb; cases hb
set_option maxRecDepth 100000 in
set_option maxHeartbeats 4000000 in
theorem zero_walk (A B D : Option Addr) (n c m d q' f : Nat) (l1 l2 l4 : List Int) (w : World) (h1 : Ints w A n c l1) (h2 : Ints w B m d l2) (h4 : Ints w D q' f l4) (hT : TabW w) :
    Calls Tryd.prog 3 #[.slice A n c, .slice B m d, .slice D q' f] w fun e w' => e = .returned (.bool true) ∧ Below w.heap.size w w' := by
  go_enter Tryd.func3, Tryd.ntmps3
  have H1 := Lib.hid h1
  have H2 := Lib.hid h2
  have H4 := Lib.hid h4
  have HT := Lib.hid hT
  clear h1 h2 h4 hT
  go_wp2_with fail
  refine (list_c w).mono ?_
  rintro e w1 ⟨Al, rfl, hL, hb⟩
  have HL := Lib.hid hL
  have HB := Lib.hid hb
  clear hL hb
  dsimp only [grVal]
  go_wp2_with fail
  refine (best_c _ listG Al 2 2 none 0 0 [] 2 2 2 w1 listG_ok HL.out (Ints.nil w1) (by omega) (fun x hx => by cases hx) (by omega) (by omega) (by omega)).mono ?_
  rintro e w2 hbest
  obtain ⟨A0, c0', rfl, hb⟩ := zero_list hbest
  have HB2 := Lib.hid (HB.out.via hb)
  clear hbest hb HL
  go_wp2_with fail
  refine (grammar_c A n c l1 w2 (H1.out.keep HB2.out (Nat.le_refl _))).mono ?_
  rintro e w3 ⟨g, Ag, ng, cg, rfl, hM, hG, hb⟩
  have HB3 := Lib.hid (HB2.out.via hb)
  have HM := Lib.hid hM
  have HG := Lib.hid hG
  have hgt1 := hM.terms.1
  have hgt2 := hM.terms.2
  clear hb hM hG HB2 HB
  dsimp only [grVal]
  have Bg := Blk.new w3 28 #[.int .i64 (g.terms : Int), .int .i64 (g.nons : Int), .int .i64 (g.start : Int), .slice Ag ng cg]
  have HB4 := Lib.hid (HB3.out.al (.cells #[.int .i64 (g.terms : Int), .int .i64 (g.nons : Int), .int .i64 (g.start : Int), .slice Ag ng cg] 28))
  have HG4 := Lib.hid (HG.out.al (.cells #[.int .i64 (g.terms : Int), .int .i64 (g.nons : Int), .int .i64 (g.start : Int), .slice Ag ng cg] 28))
  clear HB3 HG
  have cBg := Bg.cell
  have fBg := Bg.frozen
  have lBg := Bg.lt
  go_wp2_with fail
  clear cBg fBg lBg
  generalize w3.alloc (.cells #[.int .i64 (g.terms : Int), .int .i64 (g.nons : Int), .int .i64 (g.start : Int), .slice Ag ng cg] 28) = W3 at *
  generalize w3.heap.size = bg at *
  refine (word_c (g.terms : Int) 7 B m d l2 W3 (H2.out.keep HB4.out (Nat.le_refl _)) (by omega) (by omega) (by omega)).mono ?_
  rintro e w4 ⟨v4, k4, rfl, ho, hb⟩
  obtain ⟨Aw, cw, rfl, -⟩ := ho.form
  have HI := Lib.hid ho.toInts
  have HB5 := Lib.hid (HB4.out.via hb)
  have HG5 := Lib.hid (HG4.out.via hb)
  have HBG := Lib.hid (Bg.via hb)
  have HWM := Lib.hid (wordI_mem (g.terms : Int) 7 l2 (by omega))
  have hwl : (wordI (g.terms : Int) 7 l2).length ≤ 7 := wordI_len _ _ _
  have HWL := Lib.hid (show k4 ≤ 7 by rw [← ho.toInts.len]; exact wordI_len _ _ _)
  generalize wordI (g.terms : Int) 7 l2 = xs at *
  have HXL := Lib.hid hwl
  clear ho hb HB4 HG4 Bg hwl
  go_wp2_with fail
  refine (price_c D q' f l4 w4 (H4.out.keep HB5.out (Nat.le_refl _))).mono ?_
  rintro e w5 ⟨c0, c1, c2, rfl, p0, q0, p1, q1, p2, q2, hb⟩
  have HB6 := Lib.hid ((HB5.out.via hb).al (.cells #[.int .i64 c0, .int .i64 c1, .int .i64 c2] 30))
  have HG6 := Lib.hid ((HG5.out.via hb).al (.cells #[.int .i64 c0, .int .i64 c1, .int .i64 c2] 30))
  have HI6 := Lib.hid ((HI.out.keep hb (Nat.le_refl _)).alloc (.cells #[.int .i64 c0, .int .i64 c1, .int .i64 c2] 30))
  have Bg := (HBG.out.via hb).al (.cells #[.int .i64 c0, .int .i64 c1, .int .i64 c2] 30)
  have Bc := Blk.new w5 30 #[.int .i64 c0, .int .i64 c1, .int .i64 c2]
  clear hb HB5 HG5 HI HBG
  dsimp only
  go_upto_region 7 with fail
  generalize w5.alloc (.cells #[.int .i64 c0, .int .i64 c1, .int .i64 c2] 30) = W5 at *
  generalize w5.heap.size = bc at *
  have HBG := Lib.hid Bg
  have HBC := Lib.hid Bc
  have cBg := Bg.cell
  have fBg := Bg.frozen
  have lBg := Bg.lt
  have cBc := Bc.cell
  have fBc := Bc.frozen
  have lBc := Bc.lt
  go_wp2_with fail
  clear cBg fBg lBg cBc fBc lBc
  refine (best_c _ g Ag ng cg Aw k4 cw xs c0 c1 c2 W5 HM.out.grOk HG6.out HI6.out (by have := HWL.out; omega) HWM.out (by omega) (by omega) (by omega)).mono ?_
  rintro e w6 hbest
  obtain ⟨hb, hor⟩ := zero_plain HM.out HXL.out ⟨p0, q0⟩ ⟨p1, q1⟩ ⟨p2, q2⟩ hbest
  have HOR := Lib.hid hor
  have HB7 := Lib.hid (HB6.out.via hb)
  have HI7 := Lib.hid (HI6.out.keep hb (Nat.le_refl _))
  have HG7 := Lib.hid (HG6.out.via hb)
  have Bg := HBG.out.via hb
  have HBG7 := Lib.hid Bg
  have HBC7 := Lib.hid (HBC.out.via hb)
  clear hbest hb hor HB6 HI6 HG6 HBG HBC Bc
  rcases HOR.out with ⟨rfl, hn⟩ | ⟨Av, nv, cv, v, k, rfl, hIv, hDv, hvl, hk, hkd, hkv, hk0, hvt⟩
  · clear HOR
    have HN := Lib.hid hn
    clear hn
    have cBg := Bg.cell
    have fBg := Bg.frozen
    have lBg := Bg.lt
    go_wp2_with fail
    clear cBg fBg lBg
    refine (accepts_c _ g Ag ng cg Aw k4 cw xs w6 HM.out.grOk HG7.out HI7.out (by have := HWL.out; omega) HWM.out (HT.out.via HB7.out)).mono ?_
    rintro e w7 ⟨b, rfl, hbi, hb⟩
    have hbf : b = false := by
      cases b with
      | false => rfl
      | true => exact absurd (hbi.1 rfl) HN.out
    subst hbf
    have HB8 := Lib.hid (HB7.out.via hb)
    clear hb hbi
    go_wp2_with fail
    go_ret
    exact ⟨rfl, HB8.out⟩
  · clear HOR
    have HIV := Lib.hid hIv
    have HDV := Lib.hid hDv
    have HK := Lib.hid hk
    have HKD := Lib.hid hkd
    have HKV := Lib.hid hkv
    have HVT := Lib.hid hvt
    have HVL := Lib.hid hvl
    have HNV := Lib.hid (show nv ≤ 151 by rw [← hIv.len]; exact hvl)
    clear hIv hDv hk hkd hkv hvt hvl
    have cBg := Bg.cell
    have fBg := Bg.frozen
    have lBg := Bg.lt
    go_wp2_with fail
    clear cBg fBg lBg
    refine (accepts_c _ g Ag ng cg Aw k4 cw xs w6 HM.out.grOk HG7.out HI7.out (by have := HWL.out; omega) HWM.out (HT.out.via HB7.out)).mono ?_
    rintro e w7 ⟨b, rfl, hbi, hb⟩
    have hbk : (k == 0) = b := by
      cases b with
      | true => simpa using HKD.out.2 (hbi.1 rfl)
      | false =>
        have : ¬ k = 0 := fun h0 => by have := hbi.2 (HKD.out.1 h0); cases this
        simpa using this
    have HBK := Lib.hid hbk
    have HB8 := Lib.hid (HB7.out.via hb)
    have HI8 := Lib.hid (HI7.out.keep hb (Nat.le_refl _))
    have HV8 := Lib.hid (HIV.out.keep hb (Nat.le_refl _))
    have HG8 := Lib.hid (HG7.out.via hb)
    have HBG8 := Lib.hid (HBG7.out.via hb)
    have Bc := HBC7.out.via hb
    clear hb hbi hbk HB7 HI7 HIV HG7 HBG7 HBC7 Bg
    have cBc := Bc.cell
    have fBc := Bc.frozen
    have lBc := Bc.lt
    go_wp2_with fail
    clear cBc fBc lBc
    have hkk : k4 ≤ 200 := by have := HWL.out; omega
    refine (align_c Aw Av k4 cw nv cv xs v c0 c1 c2 w7 HI8.out HV8.out hkk (by have := HNV.out; omega) p0 (by omega) p1 (by omega) p2 (by omega)).mono ?_
    rintro e w8 ⟨Az, kz, cz, os, rfl, -, -, -, -, -, -, hb⟩
    rw [← HK.out]
    have HB9 := Lib.hid (HB8.out.via hb)
    have HI9 := Lib.hid (HI8.out.keep hb (Nat.le_refl _))
    have HV9 := Lib.hid (HV8.out.keep hb (Nat.le_refl _))
    have HG9 := Lib.hid (HG8.out.via hb)
    have HBG9 := Lib.hid (HBG8.out.via hb)
    clear hb HB8 HI8 HV8 HG8 HBG8 Bc
    have hbk := HBK.out
    have FIN := Lib.hid (show ∀ w', Below w8.heap.size w8 w' → nv ≤ 12 → Calls Tryd.prog 10 #[.agg #[.int .i64 (g.terms : Int), .int .i64 (g.nons : Int), .int .i64 (g.start : Int), .slice Ag ng cg], .slice Av nv cv] w' fun e w'' => e = .returned (.tuple #[.bool true, .int .i64 0]) ∧ Below w'.heap.size w' w'' from fun w' hb hv => by
      have := accepts_c _ g Ag ng cg Av nv cv v w' HM.out.grOk (HG9.out.via hb) (HV9.out.keep hb (Nat.le_refl _)) hv HVT.out (HT.out.via (HB9.out.via hb))
      simp only [grVal] at this
      refine this.mono ?_
      rintro e w'' ⟨b, rfl, hbi, hb2⟩
      have : b = true := hbi.2 HDV.out
      subst this
      exact ⟨rfl, hb2⟩)
    clear Bg hkk
    by_cases hkz : k = 0
    · have hvx := HKV.out hkz
      subst hkz
      have hbt : b = true := by rw [← hbk]; rfl
      subst hbt
      clear hbk HBK hk0
      go_wp2_with fail
      refine (equal_yes Av Aw nv cv k4 cw v xs w8 HV9.out HI9.out (by have := HNV.out; omega) hvx).mono ?_
      rintro e w9 ⟨rfl, hb9⟩
      have HBX := Lib.hid (HB9.out.via hb9)
      have HB99 := Lib.hid hb9
      have Bg := HBG9.out.via hb9
      clear hb9 hvx
      by_cases hn12 : nv ≤ 12
      · have e1 : decide ((12 : Int) < (nv : Int)) = false := by simp; omega
        have cBg := Bg.cell
        have fBg := Bg.frozen
        have lBg := Bg.lt
        go_wp2_with fail
        clear cBg fBg lBg
        refine (FIN.out w9 HB99.out hn12).mono ?_
        rintro e w10 ⟨rfl, hb10⟩
        have HBY := Lib.hid (HBX.out.via hb10)
        clear hb10
        go_wp2_with fail
        go_ret
        exact ⟨rfl, HBY.out⟩
      · have e1 : decide ((12 : Int) < (nv : Int)) = true := by simp; omega
        go_wp2_with fail
        go_ret
        exact ⟨rfl, HBX.out⟩
    · have hbf : b = false := by rw [← hbk]; simpa using hkz
      subst hbf
      have e0 : decide (0 < k) = true := by simp; omega
      have HB99 := Lib.hid (Below.refl w8.heap.size w8)
      have Bg := HBG9.out
      by_cases hn12 : nv ≤ 12
      · have e1 : decide ((12 : Int) < (nv : Int)) = false := by simp; omega
        have cBg := Bg.cell
        have fBg := Bg.frozen
        have lBg := Bg.lt
        go_wp2_with fail
        clear cBg fBg lBg
        refine (FIN.out w8 HB99.out hn12).mono ?_
        rintro e w10 ⟨rfl, hb10⟩
        have HBY := Lib.hid (HB9.out.via hb10)
        clear hb10
        go_wp2_with fail
        go_ret
        exact ⟨rfl, HBY.out⟩
      · have e1 : decide ((12 : Int) < (nv : Int)) = true := by simp; omega
        go_wp2_with fail
        go_ret
        exact ⟨rfl, HB9.out⟩
end Go.Proofs.YtghnkgbingcbcaaDoor

