/- Texts JC, JD, laid together. -/
import Derived.Test.YtfmnmgnhanogmaaDoorQ8


namespace Go.Proofs.YtfmnmgnhanogmaaDoor
open Go.RowKit

theorem in_c (n lo hi : Int) (w : World) : Calls Tryd.prog 30 #[.int .i64 n, .int .i64 lo, .int .i64 hi] w fun e w' => e = .returned (.bool (decide (lo ≤ n) && decide (n ≤ hi))) ∧ w = w' := by
  obtain ⟨b0, h0⟩ : ∃ b, decide (lo ≤ n) = b := ⟨_, rfl⟩
  obtain ⟨b1, h1⟩ : ∃ b, decide (n ≤ hi) = b := ⟨_, rfl⟩
  have HV := Lib.hid (show (decide (lo ≤ n) && decide (n ≤ hi)) = (b0 && b1) by rw [← h0, ← h1])
  cases b0 <;> cases b1 <;>
  · go_enter Tryd.func30, Tryd.ntmps30
    go_wp2_with fail
    go_ret
    exact ⟨by rw [HV.out]; rfl, rfl⟩
set_option maxRecDepth 100000 in
set_option maxHeartbeats 2000000 in
theorem eqSi_c (ok ok' : Nat → Prop) (A B : Option Addr) (n c m d : Nat) (xs ys : List Ci) (w : World) (h1 : Sl SiE ok w A n c xs) (h2 : Sl SiE ok' w B m d ys) (hn : n ≤ 1000000) :
    Calls Tryd.prog 62 #[.slice A n c, .slice B m d] w (TellB w (decide (xs = ys))) := by
  have H1 := Lib.hid h1
  have H2 := Lib.hid h2
  have L1 := Lib.hid h1.len
  have L2 := Lib.hid h2.len
  clear h1 h2
  go_enter Tryd.func62, Tryd.ntmps62
  by_cases hnm : n = m
  · subst hnm
    go_wp2_with fail
    go_loopw [13] (fun i wr => ∃ k : Nat, i = .int .i64 k ∧ k ≤ n ∧ Hid (xs.take k = ys.take k) ∧ Hid (Below w.heap.size w wr)) (fun i _ => n - (intOf i).toNat)
    case atStart => exact ⟨0, rfl, Nat.zero_le _, Lib.hid rfl, Lib.hid (Below.refl _ _)⟩
    case round =>
      obtain ⟨k, rfl, hk, HT, HB⟩ := hrel
      by_cases hkn : k < n
      · obtain ⟨b1, o1, ⟨xb, xn⟩, x', rfl, -, hb1, hx, hxx, hc⟩ := (H1.out.via HB.out).at_ hkn
        obtain rfl : (xb, xn) = x' := hxx
        have c0 := hc 0 _ rfl
        have c1 := hc 1 _ rfl
        simp only [SiE, Nat.add_zero] at c0 c1
        obtain ⟨b2, o2, ⟨yb, yn⟩, y', rfl, -, hb2, hy, hyy, hd⟩ := (H2.out.via HB.out).at_ hkn
        obtain rfl : (yb, yn) = y' := hyy
        have d0 := hd 0 _ rfl
        have d1 := hd 1 _ rfl
        simp only [SiE, Nat.add_zero] at d0 d1
        have i0 : (0 : Int) ≤ (k : Int) := by omega
        have i1 : (k : Int) < (n : Int) := by omega
        have HX := Lib.hid hx
        have HY := Lib.hid hy
        clear hc hd hx hy
        go_upto_region 6 with fail
        have hdn := below_drewN HB.out
        have HDN := Lib.hid hdn
        clear hdn
        by_cases he : (xb, xn) = (yb, yn)
        · obtain ⟨rfl, rfl⟩ := Prod.mk.inj he
          have HT2 := Lib.hid (show xs.take (k + 1) = ys.take (k + 1) by rw [take_at HX.out, take_at HY.out, HT.out])
          clear he
          go_quiet (fail)
          go_wp2_with fail
          exact ⟨⟨k + 1, by go_num, by omega, HT2, Lib.hid (HDN.out _)⟩, by simp [intOf]; omega⟩
        · have HF := Lib.hid (show decide (xs = ys) = false from decide_eq_false fun e => he (by
            have h := HX.out
            rw [e, HY.out] at h
            exact (Option.some.inj h).symm))
          by_cases hb : xb = yb
          · subst hb
            have hq : (xn == yn) = false := by rw [beq_eq_false_iff_ne]; exact fun e => he (by rw [e])
            clear he
            go_quiet (fail)
            go_wp2_with fail
            go_ret
            exact ⟨by rw [HF.out]; rfl, HDN.out _⟩
          · clear he
            cases xb <;> cases yb
            · exact absurd rfl hb
            · clear hb
              go_quiet (fail)
              go_wp2_with fail
              go_ret
              exact ⟨by rw [HF.out]; rfl, HDN.out _⟩
            · clear hb
              go_quiet (fail)
              go_wp2_with fail
              go_ret
              exact ⟨by rw [HF.out]; rfl, HDN.out _⟩
            · exact absurd rfl hb
      · obtain rfl : k = n := by omega
        have HV := Lib.hid (show decide (xs = ys) = true from decide_eq_true (by
          have h := HT.out
          rw [List.take_of_length_le (by rw [L1.out]; exact Nat.le_refl _), List.take_of_length_le (by rw [L2.out]; exact Nat.le_refl _)] at h
          exact h))
        go_wp2_with fail
        go_ret
        exact ⟨by rw [HV.out]; rfl, HB.out⟩
  · have hq : ((n : Int) != (m : Int)) = true := by rw [bne_iff_ne]; omega
    have HV := Lib.hid (show decide (xs = ys) = false from decide_eq_false fun e => hnm (by rw [← L1.out, ← L2.out, e]))
    go_wp2_with fail
    go_ret
    exact ⟨by rw [HV.out]; rfl, Below.refl _ _⟩
set_option maxRecDepth 100000 in
set_option maxHeartbeats 2000000 in
theorem sameI_c (ok ok' : Nat → Prop) (x y : Int) (A B : Option Addr) (n c m d : Nat) (xs ys : List Ci) (w : World) (h1 : Sl SiE ok w A n c xs) (h2 : Sl SiE ok' w B m d ys) (hn : n ≤ 1000000) :
    Calls Tryd.prog 33 #[.agg #[.int .i64 x, .slice A n c], .agg #[.int .i64 y, .slice B m d]] w (TellB w (decide ((x, xs) = (y, ys)))) := by
  have hB := ((Below.refl w.heap.size w).al (.cells #[.int .i64 x, .slice A n c] 77)).al (.cells #[.int .i64 y, .slice B m d] 77)
  have B0 := (Blk.new w 77 #[.int .i64 x, .slice A n c]).al (.cells #[.int .i64 y, .slice B m d] 77)
  have B1 := Blk.new (w.alloc (.cells #[.int .i64 x, .slice A n c] 77)) 77 #[.int .i64 y, .slice B m d]
  rw [World.size_alloc] at B1
  have H1 := Lib.hid (h1.via hB)
  have H2 := Lib.hid (h2.via hB)
  have HB := Lib.hid hB
  clear h1 h2 hB
  go_enter Tryd.func33, Tryd.ntmps33
  go_upto_region 1 with fail
  generalize (w.alloc (.cells #[.int .i64 x, .slice A n c] 77)).alloc (.cells #[.int .i64 y, .slice B m d] 77) = W at *
  by_cases hxy : x = y
  · subst hxy
    have HV := Lib.hid (show decide ((x, xs) = (x, ys)) = decide (xs = ys) from decide_eq_decide.2 ⟨fun e => congrArg Prod.snd e, fun e => by rw [e]⟩)
    have cB0 := B0.cell
    have fB0 := B0.frozen
    have lB0 := B0.lt
    have cB1 := B1.cell
    have fB1 := B1.frozen
    have lB1 := B1.lt
    go_wp2_with fail
    refine (eqSi_c ok ok' A B n c m d xs ys W H1.out H2.out hn).mono ?_
    rintro e w' ⟨rfl, hb⟩
    have HF := Lib.hid (HB.out.via hb)
    clear hb
    go_wp2_with fail
    go_ret
    exact ⟨by rw [HV.out]; rfl, HF.out⟩
  · have hq : (x == y) = false := by rw [beq_eq_false_iff_ne]; exact hxy
    have HV := Lib.hid (show decide ((x, xs) = (y, ys)) = false from decide_eq_false fun e => hxy (congrArg Prod.fst e))
    have cB0 := B0.cell
    have fB0 := B0.frozen
    have lB0 := B0.lt
    have cB1 := B1.cell
    have fB1 := B1.frozen
    have lB1 := B1.lt
    go_wp2_with fail
    go_ret
    exact ⟨by rw [HV.out]; rfl, HB.out⟩
set_option maxRecDepth 100000 in
set_option maxHeartbeats 2000000 in
theorem ref1_c (ok ok' : Nat → Prop) (br : Nat) (y : Int) (B : Option Addr) (m d : Nat) (r : Int × SlV) (x : Ri) (ys : List Ci) (w : World) (h1 : RiE.rel ok w r x) (hr : Blk w br 77 #[.int .i64 y, .slice B m d]) (h2 : Sl SiE ok' w B m d ys) (hn : x.2.length ≤ 1000000) :
    Calls Tryd.prog 32 (#[riVal r] ++ #[.pointer (some ⟨br, 0, none⟩)]) w (TellB w (decide (x = (y, ys)))) := by
  obtain ⟨xl, xA, xn, xc⟩ := r
  obtain ⟨x1, xs⟩ := x
  obtain ⟨e1, e2⟩ := h1
  simp only at e1 e2 hn
  subst e1
  have hxn : xn ≤ 1000000 := by have := e2.len; omega
  have HB := Lib.hid ((Below.refl w.heap.size w).al (.cells #[.int .i64 xl, .slice xA xn xc] 77))
  have H1 := Lib.hid (e2.al (.cells #[.int .i64 xl, .slice xA xn xc] 77))
  have H2 := Lib.hid (h2.al (.cells #[.int .i64 xl, .slice xA xn xc] 77))
  have Br := hr.al (.cells #[.int .i64 xl, .slice xA xn xc] 77)
  have hbl := hr.lt
  clear e2 h2 hr hn
  have cBr := Br.cell
  have fBr := Br.frozen
  have lBr := Br.lt
  dsimp only [riVal]
  go_enter Tryd.func32, Tryd.ntmps32
  go_wp2_with fail
  refine (sameI_c ok ok' xl y xA B xn xc m d xs ys _ H1.out H2.out hxn).mono ?_
  rintro e w' ⟨rfl, hb⟩
  have HF := Lib.hid (HB.out.via hb)
  obtain ⟨bv, hbv⟩ : ∃ bv, decide ((xl, xs) = (y, ys)) = bv := ⟨_, rfl⟩
  rw [hbv]
  have HV := Lib.hid hbv
  clear hb hbv
  go_wp2_with fail
  go_ret
  exact ⟨by rw [HV.out]; rfl, HF.out⟩
theorem rng_t {n lo hi : Int} (h1 : lo ≤ n) (h2 : n ≤ hi) : (decide (lo ≤ n) && decide (n ≤ hi)) = true := by rw [dle h1, dle h2]; rfl
theorem rng_f {n lo hi : Int} (h : ¬ (lo ≤ n ∧ n ≤ hi)) : (decide (lo ≤ n) && decide (n ≤ hi)) = false := by
  by_cases h1 : lo ≤ n
  · rw [dle h1, dgt (fun h2 => h ⟨h1, h2⟩)]; rfl
  · rw [dgt h1]; rfl
/-- 'in' of known bounds -/
theorem in_t (n lo hi : Int) (h1 : lo ≤ n) (h2 : n ≤ hi) (w : World) : Calls Tryd.prog 30 #[.int .i64 n, .int .i64 lo, .int .i64 hi] w fun e w' => e = .returned (.bool true) ∧ w = w' := by
  have h := in_c n lo hi w
  rwa [rng_t h1 h2] at h
theorem in_f (n lo hi : Int) (h : ¬ (lo ≤ n ∧ n ≤ hi)) (w : World) : Calls Tryd.prog 30 #[.int .i64 n, .int .i64 lo, .int .i64 hi] w fun e w' => e = .returned (.bool false) ∧ w = w' := by
  have h' := in_c n lo hi w
  rwa [rng_f h] at h'
set_option maxRecDepth 100000 in
set_option maxHeartbeats 2000000 in
theorem refcheck_c (ok : Nat → Prop) (T N S : Int) (A : Option Addr) (n c : Nat) (rs : List Ri) (w : World) (hl : Sl RiE ok w A n c rs) :
    Calls Tryd.prog 8 #[.agg #[.int .i64 T, .int .i64 N, .int .i64 S, .slice A n c]] w (IntO w (chkG T N S rs)) := by
  have hlen := hl.len
  have B0 := Blk.new w 24 #[.int .i64 T, .int .i64 N, .int .i64 S, .slice A n c]
  have HB0 := Lib.hid B0
  have HL := Lib.hid (hl.al (.cells #[.int .i64 T, .int .i64 N, .int .i64 S, .slice A n c] 24))
  have HB := Lib.hid ((Below.refl w.heap.size w).al (.cells #[.int .i64 T, .int .i64 N, .int .i64 S, .slice A n c] 24))
  have HLEN := Lib.hid hlen
  clear hl hlen
  by_cases hT : 1 ≤ T ∧ T ≤ 8
  · by_cases hN : 1 ≤ N ∧ N ≤ 10
    · have hNS : IntKind.i64.wrap (N - 1) = N - 1 := by rw [IntKind.wrap_i64]; omega
      by_cases hS : 0 ≤ S ∧ S ≤ N - 1
      · have HTS := Lib.hid (show IntKind.i64.wrap (T - 1) = T - 1 by rw [IntKind.wrap_i64]; omega)
        have HS := Lib.hid hS
        by_cases hn : 32 < n
        · have HV := Lib.hid (show chkG T N S rs = 2 by
            unfold chkG; rw [if_neg (by simp; omega), if_pos (by rw [HLEN.out]; exact hn)])
          have e7 : decide ((32 : Int) < (n : Int)) = true := dlt (by omega)
          clear hS
          go_enter Tryd.func8, Tryd.ntmps8
          have cB0 := B0.cell
          have fB0 := B0.frozen
          have lB0 := B0.lt
          go_wp2_with (go_at_call 30; first | (with_reducible refine (in_t T 1 8 hT.1 hT.2 _).mono ?_; rintro e w' ⟨rfl, rfl⟩) | (with_reducible refine (in_t N 1 10 hN.1 hN.2 _).mono ?_; rintro e w' ⟨rfl, rfl⟩) | (with_reducible refine (in_t S 0 (N - 1) HS.out.1 HS.out.2 _).mono ?_; rintro e w' ⟨rfl, rfl⟩))
          go_ret
          exact ⟨by rw [HV.out]; rfl, HB.out⟩
        · have HV := Lib.hid (show chkG T N S rs = chkL T N [] rs by
            unfold chkG; rw [if_neg (by simp; omega), if_neg (by rw [HLEN.out]; exact hn)])
          clear hS
          go_enter Tryd.func8, Tryd.ntmps8
          have cB0 := B0.cell
          have fB0 := B0.frozen
          have lB0 := B0.lt
          go_wp2_with (go_at_call 30; first | (with_reducible refine (in_t T 1 8 hT.1 hT.2 _).mono ?_; rintro e w' ⟨rfl, rfl⟩) | (with_reducible refine (in_t N 1 10 hN.1 hN.2 _).mono ?_; rintro e w' ⟨rfl, rfl⟩) | (with_reducible refine (in_t S 0 (N - 1) HS.out.1 HS.out.2 _).mono ?_; rintro e w' ⟨rfl, rfl⟩))
          clear cB0 fB0 lB0
          clear B0
          generalize hW : w.alloc (.cells #[.int .i64 T, .int .i64 N, .int .i64 S, .slice A n c] 24) = W at *
          clear hW
          go_loopw [34] (fun i wr => ∃ k : Nat, i = .int .i64 k ∧ k ≤ n ∧ Hid (chkL T N [] rs = chkL T N (rs.take k) (rs.drop k)) ∧ Hid (∀ r ∈ rs.take k, r.2.length ≤ 4) ∧ Hid (Below W.heap.size W wr)) (fun i _ => n - (intOf i).toNat)
          case atStart => exact ⟨0, rfl, Nat.zero_le _, Lib.hid (by simp), Lib.hid (fun r hr => by simp at hr), Lib.hid (Below.refl _ _)⟩
          case round =>
            obtain ⟨k, rfl, hk, HC, H4, HR⟩ := hrel
            by_cases hlt : k < n
            · as_aux_lemma =>
              obtain ⟨b1, o1, ⟨sl, sA, sn, sc⟩, ⟨x, xs⟩, rfl, -, hbb, hy, ⟨hx1, hx2⟩, hc⟩ := (HL.out.via HR.out).at_ hlt
              simp only at hx1 hx2
              obtain rfl : sl = x := hx1
              have c0 := hc 0 _ rfl
              have c1 := hc 1 _ rfl
              simp only [RiE, Nat.add_zero] at c0 c1
              have i0 : (0 : Int) ≤ (k : Int) := by omega
              have i1 : (k : Int) < (n : Int) := by omega
              have hxl := hx2.len
              have HY := Lib.hid hy
              have HX := Lib.hid (hx2.al (.cells #[.int .i64 sl, .slice sA sn sc] 77))
              have HR2 := Lib.hid (HR.out.al (.cells #[.int .i64 sl, .slice sA sn sc] 77))
              have Bk := Blk.new wr 77 #[.int .i64 sl, .slice sA sn sc]
              have Bg := (HB0.out.via HR.out).al (.cells #[.int .i64 sl, .slice sA sn sc] 77)
              have HXL := Lib.hid hxl
              have HD := Lib.hid (show chkL T N [] rs = chkL T N (rs.take k) ((sl, xs) :: rs.drop (k + 1)) by
                have h := List.getElem?_eq_some_iff.1 hy
                rw [HC.out, List.drop_eq_getElem_cons h.1, h.2])
              clear hc hy hx2 hbb hxl
              go_upto_region 8 with fail
              clear c0 c1
              generalize wr.alloc (.cells #[.int .i64 sl, .slice sA sn sc] 77) = W2 at *
              generalize wr.heap.size = bk at *
              have HBk := Lib.hid Bk
              have HBg := Lib.hid Bg
              by_cases k1 : 0 ≤ sl ∧ sl ≤ N - 1
              · by_cases k3 : 4 < sn
                · have e3 : decide ((4 : Int) < (sn : Int)) = true := dlt (by omega)
                  have HV2 := Lib.hid (show chkG T N S rs = 2 by rw [HV.out, HD.out]; unfold chkL; rw [if_neg (by simp; omega), if_pos (by rw [HXL.out]; exact k3)])
                  have cBk := Bk.cell
                  have fBk := Bk.frozen
                  have lBk := Bk.lt
                  have cBg := Bg.cell
                  have fBg := Bg.frozen
                  have lBg := Bg.lt
                  go_wp2_with (go_at_call 30; refine (in_t sl 0 (N - 1) k1.1 k1.2 _).mono ?_; rintro e w' ⟨rfl, rfl⟩)
                  go_ret
                  exact ⟨by rw [HV2.out]; rfl, HB.out.via HR2.out⟩
                · have e3 : decide ((4 : Int) < (sn : Int)) = false := dge (by omega)
                  have cBk := Bk.cell
                  have fBk := Bk.frozen
                  have lBk := Bk.lt
                  have cBg := Bg.cell
                  have fBg := Bg.frozen
                  have lBg := Bg.lt
                  go_wp2_with (go_at_call 30; refine (in_t sl 0 (N - 1) k1.1 k1.2 _).mono ?_; rintro e w' ⟨rfl, rfl⟩)
                  clear cBk fBk lBk cBg fBg lBg
                  clear e3
                  go_loopw [53] (fun i wq => ∃ j : Nat, i = .int .i64 j ∧ j ≤ sn ∧ Hid (∀ (q : Nat) s, q < j → xs[q]? = some s → okSi T N s = true) ∧ Hid (Below W2.heap.size W2 wq)) (fun i _ => sn - (intOf i).toNat)
                  case atStart => exact ⟨0, rfl, Nat.zero_le _, Lib.hid (fun q s hq => absurd hq (Nat.not_lt_zero _)), Lib.hid (Below.refl _ _)⟩
                  case round =>
                    obtain ⟨j, rfl, hj, HOK, HRS⟩ := hrel
                    by_cases hjl : j < sn
                    · obtain ⟨b2, o2, ⟨yb, yn⟩, y', rfl, -, hb2, hy, hyy, hd⟩ := (HX.out.via HRS.out).at_ hjl
                      obtain rfl : (yb, yn) = y' := hyy
                      have d0 := hd 0 _ rfl
                      have d1 := hd 1 _ rfl
                      simp only [SiE, Nat.add_zero] at d0 d1
                      have j0 : (0 : Int) ≤ (j : Int) := by omega
                      have j1 : (j : Int) < (sn : Int) := by omega
                      have HYM := Lib.hid hy
                      have HRS2 := Lib.hid (HRS.out.al (.cells #[.bool yb, .int .i64 yn] 54))
                      have BY := Blk.new wr 54 #[.bool yb, .int .i64 yn]
                      have Bg2 := (HBg.out.via HRS.out).al (.cells #[.bool yb, .int .i64 yn] 54)
                      clear hd hy hb2
                      go_upto_region 15 with fail
                      clear d0 d1
                      generalize wr.alloc (.cells #[.bool yb, .int .i64 yn] 54) = W5 at *
                      obtain ⟨M, hM⟩ : ∃ M : Int, M = if yb then T else N := ⟨_, rfl⟩
                      have hMS : IntKind.i64.wrap (M - 1) = M - 1 := by
                        cases yb
                        · rw [hM]; exact hNS
                        · rw [hM]; exact HTS.out
                      have hok : okSi T N (yb, yn) = (decide (0 ≤ yn) && decide (yn ≤ M - 1)) := by
                        rw [hM]
                        cases yb <;> simp [okSi, Int.le_sub_one_iff]
                      have HOKY := Lib.hid hok
                      by_cases hin : 0 ≤ yn ∧ yn ≤ M - 1
                      · have HO2 := Lib.hid (show ∀ (q : Nat) s, q < j + 1 → xs[q]? = some s → okSi T N s = true from fun q s hq hs => by
                          rcases Nat.lt_or_ge q j with h | h
                          · exact HOK.out q s h hs
                          · obtain rfl : q = j := by omega
                            rw [HYM.out] at hs
                            obtain rfl := Option.some.inj hs
                            rw [HOKY.out, rng_t hin.1 hin.2])
                        clear hok
                        cases yb
                        · simp only [Bool.false_eq_true, if_false] at hM
                          subst hM
                          have cBY := BY.cell
                          have fBY := BY.frozen
                          have lBY := BY.lt
                          have cBg2 := Bg2.cell
                          have fBg2 := Bg2.frozen
                          have lBg2 := Bg2.lt
                          go_wp2_with (go_at_call 30; refine (in_t yn 0 (M - 1) hin.1 hin.2 _).mono ?_; rintro e w' ⟨rfl, rfl⟩)
                          exact ⟨⟨j + 1, by go_num, by omega, HO2, HRS2⟩, by simp [intOf]; omega⟩
                        · simp only [if_true] at hM
                          subst hM
                          have cBY := BY.cell
                          have fBY := BY.frozen
                          have lBY := BY.lt
                          have cBg2 := Bg2.cell
                          have fBg2 := Bg2.frozen
                          have lBg2 := Bg2.lt
                          go_wp2_with (go_at_call 30; refine (in_t yn 0 (M - 1) hin.1 hin.2 _).mono ?_; rintro e w' ⟨rfl, rfl⟩)
                          exact ⟨⟨j + 1, by go_num, by omega, HO2, HRS2⟩, by simp [intOf]; omega⟩
                      · have HV2 := Lib.hid (show chkG T N S rs = 3 by
                          rw [HV.out, HD.out]; unfold chkL
                          rw [if_neg (by simp; omega), if_neg (by rw [HXL.out]; exact k3), if_pos (List.any_eq_true.2 ⟨(yb, yn), List.mem_of_getElem? HYM.out, by rw [HOKY.out, rng_f hin]; rfl⟩)])
                        have HBE := Lib.hid (HB.out.via (HR2.out.via HRS2.out))
                        have HIN := Lib.hid hin
                        clear hok hin
                        cases yb
                        · simp only [Bool.false_eq_true, if_false] at hM
                          subst hM
                          have cBY := BY.cell
                          have fBY := BY.frozen
                          have lBY := BY.lt
                          have cBg2 := Bg2.cell
                          have fBg2 := Bg2.frozen
                          have lBg2 := Bg2.lt
                          go_wp2_with (go_at_call 30; refine (in_f yn 0 (M - 1) HIN.out _).mono ?_; rintro e w' ⟨rfl, rfl⟩)
                          go_ret
                          exact ⟨by rw [HV2.out]; rfl, HBE.out⟩
                        · simp only [if_true] at hM
                          subst hM
                          have cBY := BY.cell
                          have fBY := BY.frozen
                          have lBY := BY.lt
                          have cBg2 := Bg2.cell
                          have fBg2 := Bg2.frozen
                          have lBg2 := Bg2.lt
                          go_wp2_with (go_at_call 30; refine (in_f yn 0 (M - 1) HIN.out _).mono ?_; rintro e w' ⟨rfl, rfl⟩)
                          go_ret
                          exact ⟨by rw [HV2.out]; rfl, HBE.out⟩
                    · obtain rfl : j = sn := by omega
                      have HAN := Lib.hid (show (xs.any fun s => !okSi T N s) = false from List.any_eq_false.2 fun s hs => by
                        obtain ⟨q, hq⟩ := List.getElem?_of_mem hs
                        have := (List.getElem?_eq_some_iff.1 hq).1
                        rw [HOK.out q s (by rw [← HXL.out]; exact this) hq]; simp)
                      have HR3 := Lib.hid (HR2.out.via HRS.out)
                      have HX3 := Lib.hid (HX.out.via HRS.out)
                      have Bk := HBk.out.via HRS.out
                      have Bg := HBg.out.via HRS.out
                      have HBk := Lib.hid Bk
                      have j2 : (k : Int) ≤ (c : Int) := by have := HL.out.le; omega
                      have cBk := Bk.cell
                      have fBk := Bk.frozen
                      have lBk := Bk.lt
                      have cBg := Bg.cell
                      have fBg := Bg.frozen
                      have lBg := Bg.lt
                      go_wp2_with fail
                      clear cBk fBk lBk cBg fBg lBg
                      refine (conRi_c 32 (enters_c rfl rfl rfl) #[.pointer (some ⟨bk, 0, none⟩)] ok (some ⟨b1, o1, none⟩) k c (rs.take k) (fun r => decide (r = (sl, xs))) wr ((HL.out.via HR3.out).take (by omega)) (by omega) ?_).mono ?_
                      · intro w' r y hb' hy hrel
                        exact ref1_c ok ok bk sl sA j sc r y xs w' hrel (HBk.out.via hb') (HX3.out.via hb') (Nat.le_trans (H4.out y hy) (by omega))
                      rintro e w4 ⟨rfl, hb⟩
                      have HR4 := Lib.hid (HR3.out.via hb)
                      clear hb
                      by_cases hmem : (sl, xs) ∈ rs.take k
                      · have hq : ((rs.take k).any fun r => decide (r = (sl, xs))) = true := List.any_eq_true.2 ⟨_, hmem, by simp⟩
                        rw [hq]
                        have HV2 := Lib.hid (show chkG T N S rs = 6 by rw [HV.out, HD.out]; unfold chkL; rw [if_neg (by simp; omega), if_neg (by rw [HXL.out]; exact k3), if_neg (by rw [HAN.out]; simp), if_pos hmem])
                        clear hq hmem
                        go_wp2_with fail
                        go_ret
                        exact ⟨by rw [HV2.out]; rfl, HB.out.via HR4.out⟩
                      · have hq : ((rs.take k).any fun r => decide (r = (sl, xs))) = false := List.any_eq_false.2 fun r hr => by
                          simp only [decide_eq_true_eq]; exact fun e => hmem (e ▸ hr)
                        rw [hq]
                        have HC2 := Lib.hid (HC.out.trans (chkL_step T N rs k HY.out ⟨by simp only; omega, by simp only; omega⟩ (by simp only; rw [HXL.out]; exact k3) (by rw [HAN.out]; simp) hmem))
                        have H42 := Lib.hid (show ∀ r ∈ rs.take (k + 1), r.2.length ≤ 4 from fun r hr => by
                          rw [take_at HY.out, List.mem_append, List.mem_singleton] at hr
                          rcases hr with hr | rfl
                          · exact H4.out r hr
                          · simp only; rw [HXL.out]; omega)
                        clear hq hmem
                        go_wp2_with fail
                        exact ⟨⟨k + 1, by go_num, by omega, HC2, H42, HR4⟩, by simp [intOf]; omega⟩
              · have HV2 := Lib.hid (show chkG T N S rs = 3 by rw [HV.out, HD.out]; unfold chkL; rw [if_pos (by simp; omega)])
                have HK1 := Lib.hid k1
                clear k1
                have cBk := Bk.cell
                have fBk := Bk.frozen
                have lBk := Bk.lt
                have cBg := Bg.cell
                have fBg := Bg.frozen
                have lBg := Bg.lt
                go_wp2_with (go_at_call 30; refine (in_f sl 0 (N - 1) HK1.out _).mono ?_; rintro e w' ⟨rfl, rfl⟩)
                go_ret
                exact ⟨by rw [HV2.out]; rfl, HB.out.via HR2.out⟩
            · obtain rfl : k = n := by omega
              have HV2 := Lib.hid (show chkG T N S rs = 0 by
                rw [HV.out, HC.out, List.drop_of_length_le (by rw [HLEN.out]; exact Nat.le_refl _)]; rfl)
              go_wp2_with fail
              go_ret
              exact ⟨by rw [HV2.out]; rfl, HB.out.via HR.out⟩
      · have HV := Lib.hid (show chkG T N S rs = 1 by unfold chkG; rw [if_pos (by omega)])
        have HSN := Lib.hid hS
        clear hS
        go_enter Tryd.func8, Tryd.ntmps8
        have cB0 := B0.cell
        have fB0 := B0.frozen
        have lB0 := B0.lt
        go_wp2_with (go_at_call 30; first | (with_reducible refine (in_t T 1 8 hT.1 hT.2 _).mono ?_; rintro e w' ⟨rfl, rfl⟩) | (with_reducible refine (in_t N 1 10 hN.1 hN.2 _).mono ?_; rintro e w' ⟨rfl, rfl⟩) | (with_reducible refine (in_f S 0 (N - 1) HSN.out _).mono ?_; rintro e w' ⟨rfl, rfl⟩))
        go_ret
        exact ⟨by rw [HV.out]; rfl, HB.out⟩
    · have HV := Lib.hid (show chkG T N S rs = 1 by unfold chkG; rw [if_pos (by omega)])
      have HNN := Lib.hid hN
      clear hN
      go_enter Tryd.func8, Tryd.ntmps8
      have cB0 := B0.cell
      have fB0 := B0.frozen
      have lB0 := B0.lt
      go_wp2_with (go_at_call 30; first | (with_reducible refine (in_t T 1 8 hT.1 hT.2 _).mono ?_; rintro e w' ⟨rfl, rfl⟩) | (with_reducible refine (in_f N 1 10 HNN.out _).mono ?_; rintro e w' ⟨rfl, rfl⟩))
      go_ret
      exact ⟨by rw [HV.out]; rfl, HB.out⟩
  · have HV := Lib.hid (show chkG T N S rs = 1 by unfold chkG; rw [if_pos (by omega)])
    have HTN := Lib.hid hT
    clear hT
    go_enter Tryd.func8, Tryd.ntmps8
    have cB0 := B0.cell
    have fB0 := B0.frozen
    have lB0 := B0.lt
    go_wp2_with (go_at_call 30; refine (in_f T 1 8 HTN.out _).mono ?_; rintro e w' ⟨rfl, rfl⟩)
    go_ret
    exact ⟨by rw [HV.out]; rfl, HB.out⟩
end Go.Proofs.YtfmnmgnhanogmaaDoor



namespace Go.Proofs.YtfmnmgnhanogmaaDoor
open Go.RowKit

def okT (T : Int) (t : Int) : Bool := decide (0 ≤ t) && decide (t < T)
def chkW (T : Int) (most : Nat) (xs : List Int) : Int := if most < xs.length then 2 else if (xs.any fun t => !okT T t) = true then 1 else 0
set_option maxRecDepth 100000 in
set_option maxHeartbeats 1000000 in
theorem idxI_c (fid : Nat) (he : ∀ (args : Array Value) (w : World), (callFunc fid args).run Tryd.prog w = .ok (.enter fid args) w) (caps : Array Value) (A : Option Addr) (n c : Nat) (xs : List Int) (p : Int → Bool) (w : World) (h : Ints w A n c xs) (hn : n ≤ 1000000)
    (hf : ∀ w' x, Below w.heap.size w w' → x ∈ xs → Calls Tryd.prog fid (#[.int .i64 x] ++ caps) w' fun e w'' => e = .returned (.bool (p x)) ∧ Below w'.heap.size w' w'') :
    Calls Tryd.prog 64 #[.slice A n c, .func (.func fid) #[] caps] w (IdxFP p xs w) := by
  have H := Lib.hid h
  have HF := Lib.hid hf
  clear h hf
  go_enter Tryd.func64, Tryd.ntmps64
  go_wp2_with fail
  go_loopw [8] (fun i wr => ∃ j : Nat, i = .int .i64 j ∧ j ≤ n ∧ Hid (∀ (k : Nat) x, k < j → xs[k]? = some x → p x = false) ∧ Hid (Below w.heap.size w wr)) (fun i _ => n - (intOf i).toNat)
  case atStart => exact ⟨0, rfl, Nat.zero_le _, Lib.hid (fun k x h => absurd h (Nat.not_lt_zero _)), Lib.hid (Below.refl _ _)⟩
  case round =>
    obtain ⟨j, rfl, hj, HN, HB⟩ := hrel
    by_cases hjl : j < n
    · obtain ⟨b1, o1, rfl, hb1, hc⟩ := (H.out.via HB.out).at_ hjl
      have hlen := H.out.len
      obtain ⟨x, hx⟩ : ∃ x, xs[j]? = some x := ⟨_, List.getElem?_eq_getElem (by omega)⟩
      have e6 : xs.getD j 0 = x := by simp [List.getD_eq_getElem?_getD, hx]
      rw [e6] at hc
      have i0 : (0 : Int) ≤ (j : Int) := by omega
      have i1 : (j : Int) < (n : Int) := by omega
      have HX := Lib.hid hx
      clear hx hb1 e6 hlen
      go_wp2_with fail
      clear hc
      refine (HF.out wr x HB.out (List.mem_of_getElem? HX.out)).mono ?_
      rintro e w2 ⟨rfl, hb2⟩
      have HB2 := Lib.hid (HB.out.via hb2)
      clear hb2
      cases hp : p x
      case false =>
        have HP := Lib.hid hp
        clear hp
        go_wp2_with fail
        exact ⟨⟨j + 1, by go_num, by omega, Lib.hid (fun k y hk hy => by
          rcases Nat.lt_or_ge k j with h1 | h1
          · exact HN.out k y h1 hy
          · obtain rfl : k = j := by omega
            rw [HX.out] at hy; cases hy; exact HP.out), HB2⟩, by simp [intOf]; omega⟩
      case true =>
        have HP := Lib.hid hp
        clear hp
        go_wp2_with fail
        go_ret
        exact ⟨j, rfl, HB2.out, Or.inr ⟨j, rfl, ⟨x, HX.out, HP.out⟩, HN.out⟩⟩
    · go_wp2_with fail
      go_ret
      exact ⟨-1, rfl, HB.out, Or.inl ⟨rfl, fun x hx => by
        obtain ⟨k, hk⟩ := List.getElem?_of_mem hx
        have := (List.getElem?_eq_some_iff.1 hk).1
        have := H.out.len
        exact HN.out k x (by omega) hk⟩⟩
set_option maxHeartbeats 1000000 in
theorem conI_c (fid : Nat) (he : ∀ (args : Array Value) (w : World), (callFunc fid args).run Tryd.prog w = .ok (.enter fid args) w) (caps : Array Value) (A : Option Addr) (n c : Nat) (xs : List Int) (p : Int → Bool) (w : World) (h : Ints w A n c xs) (hn : n ≤ 1000000)
    (hf : ∀ w' x, Below w.heap.size w w' → x ∈ xs → Calls Tryd.prog fid (#[.int .i64 x] ++ caps) w' fun e w'' => e = .returned (.bool (p x)) ∧ Below w'.heap.size w' w'') :
    Calls Tryd.prog 36 #[.slice A n c, .func (.func fid) #[] caps] w fun e w' => e = .returned (.bool (xs.any p)) ∧ Below w.heap.size w w' := by
  have HC := Lib.hid (idxI_c fid he caps A n c xs p w h hn hf)
  clear h hf
  go_enter Tryd.func36, Tryd.ntmps36
  go_wp2_with fail
  refine HC.out.mono ?_
  rintro e w1 ⟨r, rfl, hb, hr⟩
  have HB := Lib.hid hb
  have HV := Lib.hid (show decide (0 ≤ r) = xs.any p by
    rcases hr with ⟨rfl, h0⟩ | ⟨i, rfl, ⟨x, hx, hp⟩, -⟩
    · rw [decide_eq_false (by omega)]
      exact (List.any_eq_false.2 fun x hx => by rw [h0 x hx]; simp).symm
    · rw [decide_eq_true (by omega)]
      exact (List.any_eq_true.2 ⟨x, List.mem_of_getElem? hx, hp⟩).symm)
  obtain ⟨bv, hbv⟩ : ∃ bv, decide (0 ≤ r) = bv := ⟨_, rfl⟩
  have HW := Lib.hid (show bv = xs.any p by rw [← hbv]; exact HV.out)
  clear hr hb HV
  go_wp2_with fail
  go_ret
  exact ⟨by rw [HW.out]; rfl, HB.out⟩
theorem letI_c (bg : Nat) (T N S : Int) (A : Option Addr) (n c : Nat) (x : Int) (w : World) (hg : Blk w bg 24 (giCells T N S A n c)) :
    Calls Tryd.prog 66 (#[.int .i64 x] ++ #[.pointer (some ⟨bg, 0, none⟩)]) w (TellB w (!okT T x)) := by
  unfold giCells at hg
  obtain ⟨b0, h0⟩ : ∃ b, decide (x < 0) = b := ⟨_, rfl⟩
  obtain ⟨b1, h1⟩ : ∃ b, decide (T ≤ x) = b := ⟨_, rfl⟩
  have HV := Lib.hid (show (!okT T x) = (b0 || b1) by
    rw [← h0, ← h1]; unfold okT
    by_cases a : x < 0
    · rw [dlt a, dgt (by omega : ¬ 0 ≤ x)]; rfl
    · rw [dge a, dle (by omega : 0 ≤ x)]
      by_cases b : T ≤ x
      · rw [dle b, dge (by omega : ¬ x < T)]; rfl
      · rw [dgt b, dlt (by omega : x < T)]; rfl)
  have chg := hg.cell
  have fhg := hg.frozen
  have lhg := hg.lt
  cases b0 <;> cases b1 <;>
  · go_enter Tryd.func66, Tryd.ntmps66
    go_wp2_with fail
    go_ret
    exact ⟨by rw [HV.out]; rfl, Below.refl _ _⟩
theorem ref2_c (bg : Nat) (T N S : Int) (hT : 1 ≤ T ∧ T ≤ 8) (A : Option Addr) (n c : Nat) (x : Int) (w : World) (hg : Blk w bg 24 (giCells T N S A n c)) :
    Calls Tryd.prog 37 (#[.int .i64 x] ++ #[.pointer (some ⟨bg, 0, none⟩)]) w (TellB w (!okT T x)) := by
  unfold giCells at hg
  have hTS : IntKind.i64.wrap (T - 1) = T - 1 := by rw [IntKind.wrap_i64]; omega
  have HV := Lib.hid (show okT T x = (decide (0 ≤ x) && decide (x ≤ T - 1)) by unfold okT; congr 1; exact decide_eq_decide.2 ⟨fun h => by omega, fun h => by omega⟩)
  have chg := hg.cell
  have fhg := hg.frozen
  have lhg := hg.lt
  go_enter Tryd.func37, Tryd.ntmps37
  go_wp2_with fail
  refine (in_c x 0 (T - 1) w).mono ?_
  rintro e w' ⟨rfl, rfl⟩
  rw [← HV.out]
  generalize okT T x = bv at *
  go_wp2_with fail
  go_ret
  exact ⟨rfl, Below.refl _ _⟩
set_option maxRecDepth 100000 in
set_option maxHeartbeats 1000000 in
theorem wordI_c (T N S : Int) (hT : 1 ≤ T ∧ T ≤ 8) (Ag : Option Addr) (ng cg : Nat) (A : Option Addr) (n c most : Nat) (xs : List Int) (w : World) (h : Ints w A n c xs) (hm : most ≤ 100000) :
    Calls Tryd.prog 45 #[.agg #[.int .i64 T, .int .i64 N, .int .i64 S, .slice Ag ng cg], .slice A n c, .int .i64 (most : Int)] w (IntO w (chkW T most xs)) := by
  have HB0 := Lib.hid (Blk.new w 24 #[.int .i64 T, .int .i64 N, .int .i64 S, .slice Ag ng cg])
  have H := Lib.hid (h.alloc (.cells #[.int .i64 T, .int .i64 N, .int .i64 S, .slice Ag ng cg] 24))
  have HB := Lib.hid ((Below.refl w.heap.size w).al (.cells #[.int .i64 T, .int .i64 N, .int .i64 S, .slice Ag ng cg] 24))
  have HLEN := Lib.hid h.len
  have HT := Lib.hid hT
  clear h hT
  by_cases hn : most < n
  · have e1 : decide ((most : Int) < (n : Int)) = true := dlt (by omega)
    have HV := Lib.hid (show chkW T most xs = 2 by unfold chkW; rw [if_pos (by rw [HLEN.out]; exact hn)])
    go_enter Tryd.func45, Tryd.ntmps45
    go_wp2_with fail
    go_ret
    exact ⟨by rw [HV.out]; rfl, HB.out⟩
  · have e1 : decide ((most : Int) < (n : Int)) = false := dge (by omega)
    go_enter Tryd.func45, Tryd.ntmps45
    go_wp2_with fail
    refine (conI_c 66 (enters_c rfl rfl rfl) #[.pointer (some ⟨w.heap.size, 0, none⟩)] A n c xs (fun t => !okT T t) _ H.out (by omega) ?_).mono ?_
    · intro w' x hb' _
      exact letI_c w.heap.size T N S Ag ng cg x w' (HB0.out.via hb')
    rintro e w2 ⟨rfl, hb⟩
    have HF := Lib.hid (HB.out.via hb)
    clear hb e1
    cases hany : xs.any fun t => !okT T t with
    | true =>
      have HV := Lib.hid (show chkW T most xs = 1 by unfold chkW; rw [if_neg (by rw [HLEN.out]; exact hn), if_pos hany])
      clear hany
      go_wp2_with fail
      go_ret
      exact ⟨by rw [HV.out]; rfl, HF.out⟩
    | false =>
      have HV := Lib.hid (show chkW T most xs = 0 by unfold chkW; rw [if_neg (by rw [HLEN.out]; exact hn), if_neg (by rw [hany]; simp)])
      clear hany
      go_wp2_with fail
      go_ret
      exact ⟨by rw [HV.out]; rfl, HF.out⟩
set_option maxRecDepth 100000 in
set_option maxHeartbeats 1000000 in
theorem refword_c (T N S : Int) (hT : 1 ≤ T ∧ T ≤ 8) (Ag : Option Addr) (ng cg : Nat) (A : Option Addr) (n c most : Nat) (xs : List Int) (w : World) (h : Ints w A n c xs) (hm : most ≤ 100000) :
    Calls Tryd.prog 14 #[.agg #[.int .i64 T, .int .i64 N, .int .i64 S, .slice Ag ng cg], .slice A n c, .int .i64 (most : Int)] w (IntO w (chkW T most xs)) := by
  have HB0 := Lib.hid (Blk.new w 24 #[.int .i64 T, .int .i64 N, .int .i64 S, .slice Ag ng cg])
  have H := Lib.hid (h.alloc (.cells #[.int .i64 T, .int .i64 N, .int .i64 S, .slice Ag ng cg] 24))
  have HB := Lib.hid ((Below.refl w.heap.size w).al (.cells #[.int .i64 T, .int .i64 N, .int .i64 S, .slice Ag ng cg] 24))
  have HLEN := Lib.hid h.len
  have HT := Lib.hid hT
  clear h hT
  by_cases hn : most < n
  · have e1 : decide ((most : Int) < (n : Int)) = true := dlt (by omega)
    have HV := Lib.hid (show chkW T most xs = 2 by unfold chkW; rw [if_pos (by rw [HLEN.out]; exact hn)])
    go_enter Tryd.func14, Tryd.ntmps14
    go_wp2_with fail
    go_ret
    exact ⟨by rw [HV.out]; rfl, HB.out⟩
  · have e1 : decide ((most : Int) < (n : Int)) = false := dge (by omega)
    go_enter Tryd.func14, Tryd.ntmps14
    go_wp2_with fail
    refine (conI_c 37 (enters_c rfl rfl rfl) #[.pointer (some ⟨w.heap.size, 0, none⟩)] A n c xs (fun t => !okT T t) _ H.out (by omega) ?_).mono ?_
    · intro w' x hb' _
      exact ref2_c w.heap.size T N S HT.out Ag ng cg x w' (HB0.out.via hb')
    rintro e w2 ⟨rfl, hb⟩
    have HF := Lib.hid (HB.out.via hb)
    clear hb e1
    cases hany : xs.any fun t => !okT T t with
    | true =>
      have HV := Lib.hid (show chkW T most xs = 1 by unfold chkW; rw [if_neg (by rw [HLEN.out]; exact hn), if_pos hany])
      clear hany
      go_wp2_with fail
      go_ret
      exact ⟨by rw [HV.out]; rfl, HF.out⟩
    | false =>
      have HV := Lib.hid (show chkW T most xs = 0 by unfold chkW; rw [if_neg (by rw [HLEN.out]; exact hn), if_neg (by rw [hany]; simp)])
      clear hany
      go_wp2_with fail
      go_ret
      exact ⟨by rw [HV.out]; rfl, HF.out⟩
end Go.Proofs.YtfmnmgnhanogmaaDoor

