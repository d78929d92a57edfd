/- Texts AF, OH, OL, laid together. -/
import Derived.Test.YtfmnmgnhanogmaaDoorQ18
import Derived.Test.YtfmnmgnhanogmaaDoorQ22
import Derived.Test.YtfmnmgnhanogmaaDoorQ7
import Derived.Test.YtfmnmgnhanogmaaDoorQ8
import Derived.Test.YtfmnmgnhanogmaaDoorQ14
import Derived.Test.YtfmnmgnhanogmaaDoorQ25
import Derived.Test.YtfmnmgnhanogmaaDoorQ13
import Derived.Test.YtfmnmgnhanogmaaDoorQ5
import Derived.Deep.RegionWith



namespace Go.Proofs.YtfmnmgnhanogmaaDoor
open Go.RowKit

set_option maxRecDepth 100000 in
set_option maxHeartbeats 2000000 in
theorem mcheck_c (ok : Nat → Prop) (g : Gr) (Ag : Option Addr) (ng cg : Nat) (A : Option Addr) (n c : Nat) (xs : List Int) (w : World) (hg : GrOk g) (hl : Sl RuE ok w Ag ng cg g.rules) (hx : Ints w A n c xs) (hn : n ≤ 12) (hxt : ∀ x ∈ xs, 0 ≤ x ∧ x < (g.terms : Int)) :
    Calls Tryd.prog 56 #[grVal g Ag ng cg, .slice A n c] w (IntO w 0) := by
  have hB := ((Below.refl w.heap.size w).al (.cells #[.int .i64 (g.terms : Int), .int .i64 (g.nons : Int), .int .i64 (g.start : Int), .slice Ag ng cg] 24))
  have HB := Lib.hid hB
  have HGO := Lib.hid hg
  have HL := Lib.hid (hl.via hB)
  have HX := Lib.hid (hx.keep hB (Nat.le_refl _))
  have HXT := Lib.hid hxt
  have B0 := Blk.new w 24 #[.int .i64 (g.terms : Int), .int .i64 (g.nons : Int), .int .i64 (g.start : Int), .slice Ag ng cg]
  have HB0 := Lib.hid B0
  simp only [grVal]
  clear hg hl hx hxt hB
  go_enter Tryd.func56, Tryd.ntmps56
  have cB0 := B0.cell
  have fB0 := B0.frozen
  have lB0 := B0.lt
  go_wp2_with fail
  clear cB0 fB0 lB0
  generalize w.alloc (.cells #[.int .i64 (g.terms : Int), .int .i64 (g.nons : Int), .int .i64 (g.start : Int), .slice Ag ng cg] 24) = W at *
  refine (check_c ok g Ag ng cg W HGO.out HL.out).mono ?_
  rintro e w1 ⟨rfl, hb⟩
  have HX1 := Lib.hid (HX.out.keep hb (Nat.le_refl _))
  have HB1 := Lib.hid (HB.out.via hb)
  have Bg := HB0.out.via hb
  clear hb HX HB HB0 B0
  have cBg := Bg.cell
  have fBg := Bg.frozen
  have lBg := Bg.lt
  go_wp2_with fail
  clear cBg fBg lBg
  refine (word_ok g Ag ng cg A n c 12 xs w1 HX1.out hn (by omega) HXT.out).mono ?_
  rintro e w2 ⟨rfl, hb⟩
  have HB2 := Lib.hid (HB1.out.via hb)
  clear hb
  go_wp2_with fail
  go_ret
  exact ⟨rfl, HB2.out⟩
def AccP (w : World) (g : Gr) (xs : List Int) (e : Ending) (w' : World) : Prop :=
  ∃ b : Bool, e = .returned (.tuple #[.bool b, .int .i64 0]) ∧ (b = true ↔ Dv g.rules [(false, g.start)] xs) ∧ Below w.heap.size w w'
theorem bit_of (x n : Nat) (h : x < 8192) : ∃ (Q R : Nat), (x : Int) / 2 ^ n = (Q : Int) ∧ bits .and .u32 (Q : Int) 1 = (R : Int) ∧ ((R : Int) == 1) = x.testBit n := by
  refine ⟨x / 2 ^ n, (x / 2 ^ n) &&& 1, by simp, ?_, ?_⟩
  · have h1 : x / 2 ^ n ≤ x := Nat.div_le_self _ _
    exact u32_and_nat _ 1 (by omega) (by omega)
  · rw [Nat.and_one_is_mod, Nat.testBit_eq_decide_div_mod_eq]
    generalize x / 2 ^ n = y
    by_cases h : y % 2 = 1
    · rw [h]; rfl
    · have h0 : y % 2 = 0 := by omega
      rw [h0]; rfl
set_option maxRecDepth 100000 in
set_option maxHeartbeats 4000000 in
theorem accepts_c (ok : Nat → Prop) (g : Gr) (Ag : Option Addr) (ng cg : Nat) (A : Option Addr) (n c : Nat) (xs : List Int) (w : World) (hg : GrOk g) (hl : Sl RuE ok w Ag ng cg g.rules) (hx : Ints w A n c xs) (hn : n ≤ 12) (hxt : ∀ x ∈ xs, 0 ≤ x ∧ x < (g.terms : Int)) (hT : TabW w) :
    Calls Tryd.prog 24 #[grVal g Ag ng cg, .slice A n c] w (AccP w g xs) := by
  have hxl := hx.len
  have HXL := Lib.hid hxl
  have hB := ((Below.refl w.heap.size w).al (.cells #[.int .i64 (g.terms : Int), .int .i64 (g.nons : Int), .int .i64 (g.start : Int), .slice Ag ng cg] 24))
  have HB := Lib.hid hB
  have HGO := Lib.hid hg
  have HL := Lib.hid (hl.via hB)
  have HX := Lib.hid (hx.keep hB (Nat.le_refl _))
  have HT := Lib.hid (hT.via hB)
  have HXT := Lib.hid hxt
  have B0 := Blk.new w 24 #[.int .i64 (g.terms : Int), .int .i64 (g.nons : Int), .int .i64 (g.start : Int), .slice Ag ng cg]
  have HB0 := Lib.hid B0
  have hst := hg.ok.start
  simp only [grVal]
  clear hg hl hx hxt hB hT hxl
  go_enter Tryd.func24, Tryd.ntmps24
  have cB0 := B0.cell
  have fB0 := B0.frozen
  have lB0 := B0.lt
  go_wp2_with fail
  clear cB0 fB0 lB0
  generalize w.alloc (.cells #[.int .i64 (g.terms : Int), .int .i64 (g.nons : Int), .int .i64 (g.start : Int), .slice Ag ng cg] 24) = W at *
  refine (mcheck_c ok g Ag ng cg A n c xs W HGO.out HL.out HX.out hn HXT.out).mono ?_
  rintro e w1 ⟨rfl, hb⟩
  have HL1 := Lib.hid (HL.out.via hb)
  have HX1 := Lib.hid (HX.out.keep hb (Nat.le_refl _))
  have HT1 := Lib.hid (HT.out.via hb)
  have HB1 := Lib.hid (HB.out.via hb)
  have Bg := HB0.out.via hb
  have HBG := Lib.hid Bg
  clear hb HX HB HB0 B0 HL HT
  go_upto_region 4 with fail
  have FE := Lib.hid (show ∀ w', Below w1.heap.size w1 w' → Calls Tryd.prog 26 #[.agg #[.int .i64 (g.terms : Int), .int .i64 (g.nons : Int), .int .i64 (g.start : Int), .slice Ag ng cg], .slice A n c] w' (EndsP w' g xs) from fun w' hb => by
    have := ends_c ok g Ag ng cg A n c xs w' HGO.out (HL1.out.via hb) (HX1.out.keep hb (Nat.le_refl _)) hn (HT1.out.via hb)
    simpa only [grVal] using this)
  have g0 : (0 : Int) ≤ (g.start : Int) := by omega
  have g1 : (g.start : Int) < (g.nons : Int) := by omega
  have g2 : (0 : Int) < (n : Int) + 1 := by omega
  have hb0 := (Below.refl w1.heap.size w1).drew
  have cBd : ∀ i, w1.drew.cell? ⟨w.heap.size, i, none⟩ = #[.int .i64 (g.terms : Int), .int .i64 (g.nons : Int), .int .i64 (g.start : Int), .slice Ag ng cg][i]? := (Bg.via hb0).cell
  clear Bg
  go_region_with (go_at_call 26; refine (FE.out _ (by assumption)).mono ?_; rintro ee wn ⟨ob, rb, E, rfl, her, hse, hfx, hbn⟩; have hbm : Below w1.heap.size w1 wn := Below.via (by assumption) hbn; have t1 := her.cell1 hst; have t2 := her.cell2 hst (Nat.zero_le _); have cBn := (HBG.out.via hbm).cell; have HSE := Lib.hid hse; have HFX := Lib.hid hfx; rw [HXL.out] at t1; clear hse hfx her hbn; obtain ⟨Q, R, q1, q2, q3⟩ := bit_of (E g.start 0) n (by have := HSE.out.lt g.start 0; rw [HXL.out] at this; have := pow13 hn; omega); have HIF := Lib.hid (show (E g.start 0).testBit n = true ↔ Dv g.rules [(false, g.start)] xs from (by have := ends_iff HSE.out HFX.out (by rw [HXL.out]; omega) g.start; rwa [HXL.out] at this)); have HBF := Lib.hid (HB1.out.via hbm); generalize (E g.start 0).testBit n = bb at *)
  all_goals
    go_wp2_with fail
    go_ret2
    exact ⟨bb, rfl, HIF.out, HBF.out⟩
end Go.Proofs.YtfmnmgnhanogmaaDoor







namespace Go.Proofs.YtfmnmgnhanogmaaDoor
open Go.RowKit

set_option maxRecDepth 100000 in
set_option maxHeartbeats 4000000 in
theorem copyN_n (N : Nat) : ∀ (ok : Nat → Prop) (v : TrV) (t : Tr) (w : World), TreeR ok w v t → t.size ≤ N → t.Nrw →
    Calls Tryd.prog 27 #[trVal v] w (CopyP w t) := by
  induction N with
  | zero => intro ok v t w _ h; have := t.size_pos; omega
  | succ N ih =>
    intro ok v t w h hN hM
    obtain ⟨a, b, A, n, c⟩ := v
    obtain ⟨h1, h2, h3⟩ := h.parts
    simp only at h1 h2 h3
    subst h1 h2
    simp only [trVal]
    have H3 := Lib.hid h3
    have hlen := hM.kids.1
    rw [h3.len] at hlen
    have HNW := Lib.hid hM
    clear hM
    clear h h3
    go_enter Tryd.func27, Tryd.ntmps27
    go_wp2_with fail
    go_loopw [14] (fun i wr => ∃ (k : Nat) (v : Value), i = .int .i64 k ∧ k ≤ n ∧ CpRel w t k v wr) (fun i _ => n - (intOf i).toNat)
    case atStart =>
      refine ⟨0, _, rfl, Nat.zero_le _, ?_, ?_, Own.nil _ _, ?_, ?_⟩
      · have := (Blk.new (w.alloc (.cells #[.int .i64 t.rl, .int .i64 t.tm, .slice A n c] 34)) 34 #[.int .i64 0, .int .i64 0, .slice none 0 0]).al (.cells #[.int .i64 t.rl, .int .i64 t.tm, .slice none 0 0] 34)
        simpa using this
      · have := (Blk.new ((w.alloc (.cells #[.int .i64 t.rl, .int .i64 t.tm, .slice A n c] 34)).alloc (.cells #[.int .i64 0, .int .i64 0, .slice none 0 0] 34)) 34 #[.int .i64 t.rl, .int .i64 t.tm, .slice none 0 0])
        simpa using this
      · exact (((Below.refl _ _).al _).al _).al _
      · simp
    case round =>
      obtain ⟨k, v, rfl, hk, hr⟩ := hrel
      obtain ⟨Av, cv, rfl, -⟩ := hr.own.form
      by_cases hlt : k < n
      · obtain ⟨b, off, x, y, rfl, -, hb, hy, hxy, hc⟩ := H3.out.at_ hlt
        have hxy' : TreeR ok w x y := hxy
        have c0 := (hr.bel.cell (p := ⟨b, off + k * 3, none⟩) hb).trans (hc 0 _ rfl)
        have c1 := (hr.bel.cell (p := ⟨b, off + k * 3 + 1, none⟩) hb).trans (hc 1 _ rfl)
        have c2 := (hr.bel.cell (p := ⟨b, off + k * 3 + 2, none⟩) hb).trans (hc 2 _ rfl)
        have i0 : (0 : Int) ≤ (k : Int) := by omega
        have i1 : (k : Int) < (n : Int) := by omega
        have hsy : y.size ≤ N := by have := Tr.size_kid (List.mem_of_getElem? hy); omega
        have hsy2 : y.Nrw := HNW.out.kids.2 y (List.mem_of_getElem? hy)
        have HY := Lib.hid hy
        obtain ⟨xa, xb, xA, xn, xc⟩ := x
        simp only at c0 c1 c2
        have hT := (hxy'.agr (Agr.below hr.bel)).al (.cells #[.int .i64 xa, .int .i64 xb, .slice xA xn xc] 34)
        have HT := Lib.hid hT
        have HR := Lib.hid hr
        have Bk := Blk.new wr 34 #[.int .i64 xa, .int .i64 xb, .slice xA xn xc]
        have Bo := hr.b2.al (.cells #[.int .i64 xa, .int .i64 xb, .slice xA xn xc] 34)
        have hsz := hr.size
        have HR := Lib.hid (hr.via ((Below.refl wr.heap.size wr).alloc (Nat.le_refl _) (.cells #[.int .i64 xa, .int .i64 xb, .slice xA xn xc] 34)))
        clear hc hy hxy hxy' hr hT hb
        go_wp2_with fail
        clear c0 c1 c2
        generalize wr.alloc (.cells #[.int .i64 xa, .int .i64 xb, .slice xA xn xc] 34) = W at *
        generalize wr.heap.size = bk at *
        have cBk := Bk.cell
        have fBk := Bk.frozen
        have lBk := Bk.lt
        have cBo := Bo.cell
        have fBo := Bo.frozen
        have lBo := Bo.lt
        go_region_law (first
          | (go_simp; go_at_call 27; refine (ih ok (xa, xb, xA, xn, xc) y W.drew HT.out.dr hsy hsy2).mono ?_; rintro e w' ⟨v2, rfl, hT2, hb2⟩; have cP := (Bo.dr.via hb2).cell; have lP := (Bo.dr.via hb2).lt; dsimp only [trVal])
          | (have HA := (HR.out.via ((Below.refl W.heap.size W).drew)).via hb2
             have HB := HA.via ((Below.refl w'.heap.size w').alloc (Nat.le_refl _) (.cells #[.int .i64 v2.1, .int .i64 v2.2.1, .slice v2.2.2.1 v2.2.2.2.1 v2.2.2.2.2] 34))
             refine step_append_tr _ rfl (.tmp 19) (.tmp 22) rfl (fun b => w.heap.size + 3 ≤ b) (w.heap.size + 3) (.slice Av k cv) k (t.kids.take k) rfl HB.own w'.heap.size v2 y rfl (Blk.new w' 34 #[.int .i64 v2.1, .int .i64 v2.2.1, .slice v2.2.2.1 v2.2.2.2.1 v2.2.2.2.2]) ((hT2.al _).mono fun b _ hb => ⟨Nat.le_trans HR.out.size hb, fun e => Nat.lt_irrefl b (Nat.lt_of_lt_of_le (HR.out.own.lt b e.symm).2 hb)⟩) (by omega) HB.size ?_
             intro Av1 cv1 w1 ho1 hg1 hat1
             have B2g := HB.b2.grown hg1 (fun e => by have := (HB.own.lt _ e.symm).1; omega)
             have c2g := B2g.cell
             have f2g := B2g.frozen))
        all_goals
          have HP := Lib.hid (CpRel.push HB HY.out ho1 hg1)
          clear HA HB
          go_wp2_with fail
          exact ⟨⟨k + 1, _, by go_num, by omega, HP.out⟩, by simp [intOf]; omega⟩
      · have hk' : k = n := by omega
        subst hk'
        have B1 := hr.b1
        have B2 := hr.b2
        have HR := Lib.hid hr
        clear hr
        have cB1 := B1.cell
        have fB1 := B1.frozen
        have lB1 := B1.lt
        have cB2 := B2.cell
        have fB2 := B2.frozen
        have lB2 := B2.lt
        go_wp2_with fail
        refine bodyPost_ret (v := trVal (t.rl, t.tm, Av, k, cv)) (by simp [results, Tryd.results27, go_sem, trVal, cB1]) rfl ⟨_, rfl, ?_, ?_⟩
        · have ho := ((HR.out.own.setCell (p := ⟨w.heap.size + 1, 0, none⟩) (.int .i64 t.rl) (fun b hb => by show b ≠ w.heap.size + 1; omega) (by show w.heap.size + 1 < _; omega)).setCell (p := ⟨w.heap.size + 1, 1, none⟩) (.int .i64 t.tm) (fun b hb => by show b ≠ w.heap.size + 1; omega) (by show w.heap.size + 1 < _; omega)).setCell (p := ⟨w.heap.size + 1, 2, none⟩) (.slice Av k cv) (fun b hb => by show b ≠ w.heap.size + 1; omega) (by show w.heap.size + 1 < _; omega)
          have hs := ho.toSl (ok' := fun b => w.heap.size ≤ b) (fun b _ hb => by omega) (fun b hb => by omega)
          rw [List.take_of_length_le (by rw [H3.out.len]; omega)] at hs
          exact TreeR.of hs
        · exact ((HR.out.bel.setCell (by simp) _).setCell (by simp) _).setCell (by simp) _

theorem DrL.nrw {R : List Ru} {W : List Nat} (hR : ∀ v ∈ R, v.2.length ≤ 4) {l : List Sy} {i j : Nat} {ts : List Tr} (h : DrL R W l i j ts) : ∀ t ∈ ts, t.Nrw := by
  induction h with
  | nil k => intro t ht; exact absurd ht List.not_mem_nil
  | leaf a k j l ts hw h2 ih =>
    intro t ht
    rcases List.mem_cons.1 ht with rfl | ht
    · exact .leaf a
    · exact ih t ht
  | node n r k m j rhs l ks ts hr h1 h2 ih1 ih2 =>
    intro t ht
    rcases List.mem_cons.1 ht with rfl | ht
    · refine .node r ks ?_ ih1
      have h4 : rhs.length ≤ 4 := hR _ (List.mem_of_getElem? hr)
      rw [h1.len]; omega
    · exact ih2 t ht
end Go.Proofs.YtfmnmgnhanogmaaDoor






namespace Go.Proofs.YtfmnmgnhanogmaaDoor
open Go.RowKit

theorem pgL_nrw {f : Sy → Nat → Option (Option (Tr × Nat))} (hf : ∀ s k t k', f s k = some (some (t, k')) → t.Nrw) : ∀ (l : List Sy) (k : Nat) (ts : List Tr) (k' : Nat), pgL f l k = some (some (ts, k')) → ts.length = l.length ∧ ∀ t ∈ ts, t.Nrw
  | [], k, ts, k', e => by
    simp only [pgL, Option.some.injEq, Prod.mk.injEq] at e
    obtain ⟨rfl, _⟩ := e
    exact ⟨rfl, fun t h => absurd h List.not_mem_nil⟩
  | s :: l, k, ts, k', e => by
    simp only [pgL] at e
    cases hs : f s k with
    | none => rw [hs] at e; cases e
    | some x =>
      rw [hs] at e
      cases x with
      | none => cases e
      | some p =>
        obtain ⟨t, k1⟩ := p
        simp only at e
        cases hl : pgL f l k1 with
        | none => rw [hl] at e; cases e
        | some y =>
          rw [hl] at e
          cases y with
          | none => cases e
          | some p =>
            obtain ⟨us, k2⟩ := p
            simp only [Option.some.injEq, Prod.mk.injEq] at e
            obtain ⟨rfl, _⟩ := e
            obtain ⟨h1, h2⟩ := pgL_nrw hf l k1 us k2 hl
            refine ⟨by simp [h1], fun z hz => ?_⟩
            rcases List.mem_cons.1 hz with rfl | hz
            · exact hf s k z k1 hs
            · exact h2 z hz
theorem pgC_nrw {f : Sy → Nat → Option (Option (Tr × Nat))} (hf : ∀ s k t k', f s k = some (some (t, k')) → t.Nrw) {n k : Nat} : ∀ (rs : List Ru) (i : Nat) (t : Tr) (k' : Nat), (∀ u ∈ rs, u.2.length ≤ 4) → pgC f n k i rs = some (some (t, k')) → t.Nrw
  | [], i, t, k', _, e => by simp [pgC] at e
  | u :: rs, i, t, k', hR, e => by
    simp only [pgC] at e
    have hR' : ∀ v ∈ rs, v.2.length ≤ 4 := fun v hv => hR v (List.mem_cons_of_mem _ hv)
    by_cases hn : u.1 = n
    · rw [if_pos hn] at e
      cases hl : pgL f u.2 k with
      | none => rw [hl] at e; cases e
      | some y =>
        rw [hl] at e
        cases y with
        | none => exact pgC_nrw hf rs (i + 1) t k' hR' e
        | some p =>
          obtain ⟨us, k2⟩ := p
          simp only [Option.some.injEq, Prod.mk.injEq] at e
          obtain ⟨rfl, _⟩ := e
          obtain ⟨h1, h2⟩ := pgL_nrw hf u.2 k us k2 hl
          have := hR u (List.mem_cons_self ..)
          exact .node i us (by omega) h2
    · rw [if_neg hn] at e; exact pgC_nrw hf rs (i + 1) t k' hR' e
theorem pg_nrw {R : List Ru} {W : List Nat} (hR : ∀ u ∈ R, u.2.length ≤ 4) : ∀ (d : Nat) (s : Sy) (k : Nat) (t : Tr) (k' : Nat), pg R W d s k = some (some (t, k')) → t.Nrw
  | 0, s, k, t, k', e => by simp [pg] at e
  | d + 1, s, k, t, k', e => by
    rw [pg] at e
    by_cases hs : s.1 = true
    · rw [if_pos hs] at e
      by_cases hw : W[k]? = some s.2
      · rw [if_pos hw] at e
        simp only [Option.some.injEq, Prod.mk.injEq] at e
        obtain ⟨rfl, _⟩ := e
        exact .leaf _
      · rw [if_neg hw] at e; cases e
    · rw [if_neg hs] at e
      exact pgC_nrw (pg_nrw hR d) R 0 t k' hR e
/-- the error of a grammar, then that of a long word -/
def chkP (T N S : Int) (rs : List Ri) (xs : List Int) : Int := if chkG T N S rs = 0 then chkW T 2000 xs else chkG T N S rs
set_option maxRecDepth 100000 in
set_option maxHeartbeats 4000000 in
theorem ppk_e (ok : Nat → Prop) (T N S : Int) (A : Option Addr) (n c : Nat) (rs : List Ri) (wA : Option Addr) (wn wc : Nat) (xs : List Int) (w : World) (hl : Sl RiE ok w A n c rs) (hx : Ints w wA wn wc xs) (q : Int) (hq : chkP T N S rs xs = q) (hbad : q ≠ 0) :
    Calls Tryd.prog 18 #[.agg #[.int .i64 T, .int .i64 N, .int .i64 S, .slice A n c], .slice wA wn wc] w fun e w' => e = .returned (.tuple #[trVal (0, 0, none, 0, 0), .int .i64 0, .int .i64 q]) ∧ Below w.heap.size w w' := by
  have BG := (Blk.new w 24 #[.int .i64 T, .int .i64 N, .int .i64 S, .slice A n c]).al (.cells #[.int .i64 0, .int .i64 0, .slice none 0 0] 34)
  have B4 := Blk.newAt (w.alloc (.cells #[.int .i64 T, .int .i64 N, .int .i64 S, .slice A n c] 24)) 34 #[.int .i64 0, .int .i64 0, .slice none 0 0] (w.heap.size + 1) (by simp)
  have HB := Lib.hid (((Below.refl w.heap.size w).al (.cells #[.int .i64 T, .int .i64 N, .int .i64 S, .slice A n c] 24)).al (.cells #[.int .i64 0, .int .i64 0, .slice none 0 0] 34))
  have HL := Lib.hid (hl.via HB.out)
  have HX := Lib.hid (hx.keep HB.out (Nat.le_refl _))
  obtain ⟨q0, hq0⟩ : ∃ q0, chkG T N S rs = q0 := ⟨_, rfl⟩
  have HQ0 := Lib.hid hq0
  have HQ := Lib.hid hq
  have HBAD := Lib.hid hbad
  have HB4 := Lib.hid B4
  have HBG := Lib.hid BG
  clear hl hx hq hq0 B4
  go_enter Tryd.func18, Tryd.ntmps18
  have cBG := BG.cell
  have fBG := BG.frozen
  have lBG := BG.lt
  go_wp2_with fail
  clear cBG fBG lBG
  clear BG
  generalize (w.alloc (.cells #[.int .i64 T, .int .i64 N, .int .i64 S, .slice A n c] 24)).alloc (.cells #[.int .i64 0, .int .i64 0, .slice none 0 0] 34) = W at *
  have hc := checkI_c ok T N S A n c rs W HL.out
  rw [HQ0.out] at hc
  refine hc.mono ?_
  clear hc
  rintro e w1 ⟨rfl, hb⟩
  have HB1 := Lib.hid (HB.out.via hb)
  have HX1 := Lib.hid (HX.out.keep hb (Nat.le_refl _))
  have HB41 := Lib.hid (HB4.out.via hb)
  have HBG1 := Lib.hid (HBG.out.via hb)
  clear hb HB HB4 HBG HX HL
  by_cases h0 : q0 = 0
  · subst h0
    have HT := Lib.hid (show 1 ≤ T ∧ T ≤ 8 from by
      obtain ⟨g, hg, rfl, -⟩ := chkG_ok HQ0.out
      have := hg.ok.terms; omega)
    have HV := Lib.hid (show chkW T 2000 xs = q by rw [← HQ.out]; unfold chkP; rw [if_pos HQ0.out])
    have BG := HBG1.out
    have cBG := BG.cell
    have fBG := BG.frozen
    have lBG := BG.lt
    go_wp2_with fail
    clear cBG fBG lBG
    clear BG
    have hcw := wordI_c T N S HT.out A n c wA wn wc 2000 xs w1 HX1.out (by omega)
    rw [HV.out] at hcw
    refine hcw.mono ?_
    clear hcw
    rintro e w2 ⟨rfl, hb⟩
    have HB2 := Lib.hid (HB1.out.via hb)
    have B4 := HB41.out.via hb
    have hq1 : (q != 0) = true := bne_iff_ne.2 hbad
    clear hb HB1 HB41 HBG1 HX1
    have cB4 := B4.cell
    have fB4 := B4.frozen
    have lB4 := B4.lt
    go_wp2_with fail
    refine bodyPost_ret (v := .tuple #[trVal (0, 0, none, 0, 0), .int .i64 0, .int .i64 q]) (by simp [results, Tryd.results18, go_sem, trVal, cB4]) rfl ⟨rfl, ?_⟩
    exact ((HB2.out.setCell (by simp) _).setCell (by simp) _).setCell (by simp) _
  · have hqq : q0 = q := by rw [← HQ.out]; unfold chkP; rw [if_neg (by rw [HQ0.out]; exact h0), HQ0.out]
    subst hqq
    have hq1 : (q0 != 0) = true := bne_iff_ne.2 hbad
    have B4 := HB41.out
    have cB4 := B4.cell
    have fB4 := B4.frozen
    have lB4 := B4.lt
    go_wp2_with fail
    refine bodyPost_ret (v := .tuple #[trVal (0, 0, none, 0, 0), .int .i64 0, .int .i64 q0]) (by simp [results, Tryd.results18, go_sem, trVal, cB4]) rfl ⟨rfl, ?_⟩
    exact ((HB1.out.setCell (by simp) _).setCell (by simp) _).setCell (by simp) _
/-- what Parse returns: the tree and its end, or why there is none -/
def PkrP (w : World) (g : Gr) (W : List Nat) (e : Ending) (w' : World) : Prop :=
  ∃ (v : TrV) (t : Tr) (m c : Int), e = .returned (.tuple #[trVal v, .int .i64 m, .int .i64 c]) ∧ TreeR (fun b => w.heap.size ≤ b) w' v t ∧ Below w.heap.size w w' ∧
    ((loopB g = true ∧ c = 9 ∧ m = 0 ∧ t = .node 0 []) ∨ (loopB g = false ∧ (∃ d, pg g.rules W d (false, g.start) 0 = some none) ∧ c = 10 ∧ m = 0 ∧ t = .node 0 []) ∨ (loopB g = false ∧ (∃ d e, pg g.rules W d (false, g.start) 0 = some (some (t, e)) ∧ m = (e : Int)) ∧ c = 0))
set_option maxRecDepth 100000 in
set_option maxHeartbeats 8000000 in
theorem ppk_c (ok : Nat → Prop) (g : Gr) (Ag : Option Addr) (ng cg : Nat) (wA : Option Addr) (wc : Nat) (W : List Nat) (w : World) (hg : GrOk g) (hl : Sl RuE ok w Ag ng cg g.rules) (hx : Ints w wA W.length wc (intsN W)) (hW : ∀ a ∈ W, a < g.terms) (hn : W.length ≤ 2000) :
    Calls Tryd.prog 18 #[grVal g Ag ng cg, .slice wA W.length wc] w (PkrP w g W) := by
  have BG := (Blk.new w 24 #[.int .i64 (g.terms : Int), .int .i64 (g.nons : Int), .int .i64 (g.start : Int), .slice Ag ng cg]).al (.cells #[.int .i64 0, .int .i64 0, .slice none 0 0] 34)
  have B4 := Blk.newAt (w.alloc (.cells #[.int .i64 (g.terms : Int), .int .i64 (g.nons : Int), .int .i64 (g.start : Int), .slice Ag ng cg] 24)) 34 #[.int .i64 0, .int .i64 0, .slice none 0 0] (w.heap.size + 1) (by simp)
  have HB := Lib.hid (((Below.refl w.heap.size w).al (.cells #[.int .i64 (g.terms : Int), .int .i64 (g.nons : Int), .int .i64 (g.start : Int), .slice Ag ng cg] 24)).al (.cells #[.int .i64 0, .int .i64 0, .slice none 0 0] 34))
  have HL := Lib.hid ((hl.mono (ok' := fun b => b < w.heap.size) fun b hb _ => hb).via HB.out)
  have HX := Lib.hid (hx.keep HB.out (Nat.le_refl _))
  have HGO := Lib.hid hg
  have HB4 := Lib.hid B4
  have HBG := Lib.hid BG
  have HWZ := Lib.hid (show chkW (g.terms : Int) 2000 (intsN W) = 0 from by
    unfold chkW
    rw [if_neg (by rw [wd_size]; omega), if_neg]
    rw [Bool.not_eq_true, List.any_eq_false]
    intro x hx
    unfold intsN at hx
    obtain ⟨a, ha, rfl⟩ := List.mem_map.1 hx
    have h1 := hW a ha
    have h2 : okT (g.terms : Int) ((a : Nat) : Int) = true := by
      unfold okT
      rw [Bool.and_eq_true]
      exact ⟨decide_eq_true (by omega), decide_eq_true (by omega)⟩
    show ¬ ((!okT (g.terms : Int) ((a : Nat) : Int)) = true)
    rw [h2]; simp)
  simp only [grVal]
  clear hl hx hg hW B4
  go_enter Tryd.func18, Tryd.ntmps18
  have cBG := BG.cell
  have fBG := BG.frozen
  have lBG := BG.lt
  go_wp2_with fail
  clear cBG fBG lBG
  clear BG
  have hsz : ((w.alloc (.cells #[.int .i64 (g.terms : Int), .int .i64 (g.nons : Int), .int .i64 (g.start : Int), .slice Ag ng cg] 24)).alloc (.cells #[.int .i64 0, .int .i64 0, .slice none 0 0] 34)).heap.size = w.heap.size + 2 := by simp
  generalize (w.alloc (.cells #[.int .i64 (g.terms : Int), .int .i64 (g.nons : Int), .int .i64 (g.start : Int), .slice Ag ng cg] 24)).alloc (.cells #[.int .i64 0, .int .i64 0, .slice none 0 0] 34) = W0 at *
  have HF := check_c (fun b => b < w.heap.size) g Ag ng cg W0 HGO.out HL.out
  simp only [grVal] at HF
  refine HF.mono ?_
  clear HF
  rintro e w1 ⟨rfl, hb1⟩
  have HL1 := Lib.hid (HL.out.via hb1)
  have HX1 := Lib.hid (HX.out.keep hb1 (Nat.le_refl _))
  have HB1 := Lib.hid (HB.out.via hb1)
  have HB41 := Lib.hid (HB4.out.via hb1)
  have HBG1 := Lib.hid (HBG.out.via hb1)
  have hs1 : w.heap.size + 2 ≤ w1.heap.size := by have := hb1.size; omega
  clear hb1 HL HX HB HB4 HBG hsz
  have BG := HBG1.out
  have cBG := BG.cell
  have fBG := BG.frozen
  have lBG := BG.lt
  go_wp2_with fail
  clear cBG fBG lBG
  clear BG
  have hcw := wordI_c (g.terms : Int) (g.nons : Int) (g.start : Int) (by have := HGO.out.ok.terms; omega) Ag ng cg wA W.length wc 2000 (intsN W) w1 HX1.out (by omega)
  rw [HWZ.out] at hcw
  refine hcw.mono ?_
  clear hcw
  rintro e w1b ⟨rfl, hb1b⟩
  have HL1b := Lib.hid (HL1.out.via hb1b)
  have HX1b := Lib.hid (HX1.out.keep hb1b (Nat.le_refl _))
  have HB1b := Lib.hid (HB1.out.via hb1b)
  have HB41b := Lib.hid (HB41.out.via hb1b)
  have HBG1b := Lib.hid (HBG1.out.via hb1b)
  have hs1b : w.heap.size + 2 ≤ w1b.heap.size := by have := hb1b.size; omega
  clear hb1b HL1 HX1 HB1 HB41 HBG1 hs1
  have BG := HBG1b.out
  have cBG := BG.cell
  have fBG := BG.frozen
  have lBG := BG.lt
  go_wp2_with fail
  clear cBG fBG lBG
  clear BG
  have HF := loops_c (fun b => b < w.heap.size) g Ag ng cg w1b HGO.out HL1b.out
  simp only [grVal] at HF
  refine HF.mono ?_
  clear HF
  rintro e w2 ⟨rfl, hb2⟩
  have HL2 := Lib.hid (HL1b.out.via hb2)
  have HX2 := Lib.hid (HX1b.out.keep hb2 (Nat.le_refl _))
  have HB2 := Lib.hid (HB1b.out.via hb2)
  have HB42 := Lib.hid (HB41b.out.via hb2)
  have HBG2 := Lib.hid (HBG1b.out.via hb2)
  have hs2 : w.heap.size + 2 ≤ w2.heap.size := by have := hb2.size; omega
  clear hb2 HL1b HX1b HB1b HB41b HBG1b hs1b
  have HNO := Lib.hid (show ∀ c, TreeR (fun b => w.heap.size ≤ b) c (0, 0, none, 0, 0) (.node 0 []) from fun c => TreeR.mk 0 (Sl.nil 0))
  cases hlb : loopB g with
  | true =>
    have HLB := Lib.hid hlb
    have B4 := HB42.out
    clear hlb
    have cB4 := B4.cell
    have fB4 := B4.frozen
    have lB4 := B4.lt
    go_wp2_with fail
    refine bodyPost_ret (v := .tuple #[trVal (0, 0, none, 0, 0), .int .i64 0, .int .i64 9]) (by simp [results, Tryd.results18, go_sem, trVal, cB4]) rfl ⟨_, _, _, _, rfl, HNO.out _, ((HB2.out.setCell (by simp) _).setCell (by simp) _).setCell (by simp) _, Or.inl ⟨HLB.out, rfl, rfl, rfl⟩⟩
  | false =>
    have HLB := Lib.hid hlb
    clear hlb
    have hmm := @run_makeMap Tryd.prog
    have BG := HBG2.out
    have cBG := BG.cell
    have fBG := BG.frozen
    have lBG := BG.lt
    go_upto_region 10 with fail
    clear cBG fBG lBG
    clear hmm BG
    have hal := ((Below.refl w2.heap.size w2).al (.map #[] 0)).al (.cells #[.int .i64 (g.terms : Int), .int .i64 (g.nons : Int), .int .i64 (g.start : Int), .slice Ag ng cg, .slice wA W.length wc, .map (some w2.heap.size)] 96)
    have BPx := Blk.newAt (w2.alloc (.map #[] 0)) 96 #[.int .i64 (g.terms : Int), .int .i64 (g.nons : Int), .int .i64 (g.start : Int), .slice Ag ng cg, .slice wA W.length wc, .map (some w2.heap.size)] (w2.heap.size + 1) (by simp)
    have hmp := (MapK.made w2 Tryd.prog 101 plVal).al (.cells #[.int .i64 (g.terms : Int), .int .i64 (g.nons : Int), .int .i64 (g.start : Int), .slice Ag ng cg, .slice wA W.length wc, .map (some w2.heap.size)] 96)
    have HL3 := Lib.hid (HL2.out.via hal)
    have HX3 := Lib.hid (HX2.out.keep hal (Nat.le_refl _))
    have HB3 := Lib.hid (HB2.out.trans (hal.mono HB2.out.size))
    have HB43 := Lib.hid (HB42.out.via hal)
    have HBG3 := Lib.hid (HBG2.out.via hal)
    have hs3 : w2.heap.size + 2 ≤ ((w2.alloc (.map #[] 0)).alloc (.cells #[.int .i64 (g.terms : Int), .int .i64 (g.nons : Int), .int .i64 (g.start : Int), .slice Ag ng cg, .slice wA W.length wc, .map (some w2.heap.size)] 96)).heap.size := by simp
    generalize (w2.alloc (.map #[] 0)).alloc (.cells #[.int .i64 (g.terms : Int), .int .i64 (g.nons : Int), .int .i64 (g.start : Int), .slice Ag ng cg, .slice wA W.length wc, .map (some w2.heap.size)] 96) = W3 at *
    obtain ⟨bm, hbm⟩ : ∃ bm, bm = w2.heap.size := ⟨_, rfl⟩
    rw [← hbm] at BPx hmp ⊢
    obtain ⟨bp, hbp⟩ : ∃ bp, bp = bm + 1 := ⟨_, rfl⟩
    rw [← hbp] at BPx ⊢
    have hbw : w.heap.size + 2 ≤ bm := by omega
    have HF := Lib.hid (show PaT W3 bp bm g W Ag ng cg wA wc from ⟨HGO.out, hn, BPx, HL3.out.mono fun b _ hb => by have : b < w.heap.size := hb; omega, HX3.out, hmp.lt, by obtain ⟨es, ck, hm, -⟩ := hmp; exact ⟨es, ck, hm⟩⟩)
    have HS3 := Lib.hid (show PaS W3 bm g W (fun _ => False) (fun _ => none) W3 from ⟨fun _ _ _ => rfl, Nat.le_refl _, hmp.ext fun y => rfl, fun b h => h.elim, fun k b h => by cases h⟩)
    clear hal BPx hmp HL2 HX2 HB2 HB42 HBG2 HL3 HX3 hbp
    have BG := HBG3.out
    have cBG := BG.cell
    have fBG := BG.frozen
    have lBG := BG.lt
    go_wp2_with fail
    clear cBG fBG lBG
    clear BG
    obtain ⟨d, r, hdr⟩ := pg_ex (R := g.rules) (W := W) (begD_lt HGO.out.ok) (fun i j hb => (begD_iff _ _ _).2 hb) (lefB_no (begD_lt HGO.out.ok) HLB.out) W.length 0 (Nat.zero_le _) (Nat.le_refl _) (false, g.start)
    have hst := HGO.out.ok.start
    have HDR := Lib.hid hdr
    have HPP := pparse_c W3 bp bm g W Ag ng cg wA wc HF.out d (psym_n W3 bp bm g W Ag ng cg wA wc HF.out d) g.start 0 r (fun _ => False) (fun _ => none) W3 (pg_succ d _ _ _ hdr) hst (Nat.zero_le _) HS3.out
    clear hdr
    refine HPP.mono ?_
    clear HPP
    rintro e w4 ⟨q, G', M', rfl, -, -, -, hres, hgr⟩
    have HRS := Lib.hid hres
    have HB4 := Lib.hid (HB3.out.grown hgr HB3.out.size (fun q e => by have := Option.some.inj e; omega))
    have HB44 := Lib.hid (HB43.out.grown hgr (fun e => by have := Option.some.inj e; omega))
    clear hres hgr HB3 HB43 HBG3 HS3 HF
    cases r with
    | none =>
      cases q with
      | some x => exact HRS.out.elim
      | none =>
        simp only [resV]
        have hal := (Below.refl w4.heap.size w4).al (.cells #[.pointer none, .int .i64 (-1)] 98)
        have HB5 := Lib.hid (HB4.out.trans (hal.mono HB4.out.size))
        have B4 := HB44.out.via hal
        have BY := Blk.new w4 98 #[.pointer none, .int .i64 (-1)]
        clear hal HB4 HB44
        go_upto_region 11 with fail
        generalize w4.alloc (.cells #[.pointer none, .int .i64 (-1)] 98) = W5 at *
        have cBY := BY.cell
        have fBY := BY.frozen
        have lBY := BY.lt
        have cB4 := B4.cell
        have fB4 := B4.frozen
        have lB4 := B4.lt
        go_wp2_with fail
        refine bodyPost_ret (v := .tuple #[trVal (0, 0, none, 0, 0), .int .i64 0, .int .i64 10]) (by simp [results, Tryd.results18, go_sem, trVal, cB4]) rfl ⟨_, _, _, _, rfl, HNO.out _, ((HB5.out.setCell (by simp) _).setCell (by simp) _).setCell (by simp) _, Or.inr (Or.inl ⟨HLB.out, ⟨d, HDR.out⟩, rfl, rfl, rfl⟩)⟩
    | some te =>
      obtain ⟨t, e⟩ := te
      cases q with
      | none => exact HRS.out.elim
      | some x =>
        obtain ⟨bq, e'⟩ := x
        obtain ⟨hee, hat⟩ := HRS.out
        obtain rfl : e = e' := hee.symm
        obtain ⟨⟨va, vb, vA, vn, vcc⟩, htr, -, hcv⟩ := hat
        simp only [resV]
        have hal := (Below.refl w4.heap.size w4).al (.cells #[.pointer (some ⟨bq, 0, none⟩), .int .i64 (e : Int)] 98)
        have HB5 := Lib.hid (HB4.out.trans (hal.mono HB4.out.size))
        have HB45 := Lib.hid (HB44.out.via hal)
        have HTR := Lib.hid (htr.via hal)
        have BY := Blk.new w4 98 #[.pointer (some ⟨bq, 0, none⟩), .int .i64 (e : Int)]
        have c0 := (hal.cell (World.block_lt_of_cell? _ _ (hcv 0 _ rfl))).trans (hcv 0 _ rfl)
        have c1 := (hal.cell (World.block_lt_of_cell? _ _ (hcv 1 _ rfl))).trans (hcv 1 _ rfl)
        have c2 := (hal.cell (World.block_lt_of_cell? _ _ (hcv 2 _ rfl))).trans (hcv 2 _ rfl)
        simp only [Nat.zero_add] at c0 c1 c2
        have hd0 : decide ((e : Int) < 0) = false := decide_eq_false (by omega)
        have hb10 : w.heap.size + 1 < w4.heap.size := HB44.out.lt
        clear hal HB4 HB44 htr hcv HRS hee
        go_upto_region 11 with fail
        have hs5 : w4.heap.size < (w4.alloc (.cells #[.pointer (some ⟨bq, 0, none⟩), .int .i64 (e : Int)] 98)).heap.size := by simp
        generalize w4.alloc (.cells #[.pointer (some ⟨bq, 0, none⟩), .int .i64 (e : Int)] 98) = W5 at *
        generalize w4.heap.size = b10 at *
        have HCP := Lib.hid (show ∀ w', Below W5.heap.size W5 w' → Calls Tryd.prog 27 #[.agg #[.int .i64 va, .int .i64 vb, .slice vA vn vcc]] w' (CopyP w' t) from fun w' hb =>
          copyN_n t.size G' (va, vb, vA, vn, vcc) t w' (HTR.out.via hb) (Nat.le_refl _) (pg_nrw (fun u hu => (HGO.out.ok.right u hu).1) d _ _ _ _ HDR.out))
        have B4 := HB45.out
        have cBY := BY.cell
        have fBY := BY.frozen
        have lBY := BY.lt
        go_upto_region 13 with fail
        go_region_with (go_at_call 27; refine (HCP.out _ ((Below.refl W5.heap.size W5).drew)).mono ?_; rintro ee w6 ⟨⟨ua, ub, uA, un, uc⟩, rfl, ht6, hb6⟩; have hbz := (Below.refl W5.heap.size W5).drew.trans hb6; have BY6 := BY.via hbz; have B46 := B4.via hbz; have c6Y := BY6.cell; have f6Y := BY6.frozen; have c64 := B46.cell; have f64 := B46.frozen; dsimp only [trVal])
        all_goals go_wp2_with fail
        all_goals
          refine bodyPost_ret (v := .tuple #[trVal (ua, ub, uA, un, uc), .int .i64 (e : Int), .int .i64 0]) (by simp [results, Tryd.results18, go_sem, trVal, c64]) rfl ⟨_, t, _, _, rfl, ?_, ?_, Or.inr (Or.inr ⟨HLB.out, ⟨d, e, HDR.out, rfl⟩, rfl⟩)⟩
          · refine (ht6.agr (((Agr.setCell (p := ⟨w.heap.size + 1, 0, none⟩) _ fun b hb => ?_).trans (Agr.setCell (p := ⟨w.heap.size + 1, 1, none⟩) _ fun b hb => ?_)).trans (Agr.setCell (p := ⟨w.heap.size + 1, 2, none⟩) _ fun b hb => ?_))).mono fun b _ hb => ?_
            · show b ≠ w.heap.size + 1; have hb' : W5.drew.heap.size ≤ b := hb; simp at hb'; omega
            · show b ≠ w.heap.size + 1; have hb' : W5.drew.heap.size ≤ b := hb; simp at hb'; omega
            · show b ≠ w.heap.size + 1; have hb' : W5.drew.heap.size ≤ b := hb; simp at hb'; omega
            · have hb' : W5.drew.heap.size ≤ b := hb
              simp at hb'; omega
          · exact (((HB5.out.trans (hbz.mono HB5.out.size)).setCell (by simp) _).setCell (by simp) _).setCell (by simp) _
end Go.Proofs.YtfmnmgnhanogmaaDoor

