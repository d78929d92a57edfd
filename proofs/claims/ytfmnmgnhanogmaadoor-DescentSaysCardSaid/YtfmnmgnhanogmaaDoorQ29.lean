/- Texts OK, laid together. -/
import Derived.Test.YtfmnmgnhanogmaaDoorQ28
import Derived.Test.YtfmnmgnhanogmaaDoorQ26
import Derived.Test.YtfmnmgnhanogmaaDoorQ15




namespace Go.Proofs.YtfmnmgnhanogmaaDoor
open Go.RowKit

def SymP (wS : World) (bm : Nat) (g : Gr) (W : List Nat) (G : Nat → Prop) (w : World) (r : Option (Tr × Nat)) (e : Ending) (w' : World) : Prop :=
  ∃ q G' M', e = .returned (resV q) ∧ PaS wS bm g W G' M' w' ∧ (∀ x, G x → G' x) ∧ (∀ x, G' x → G x ∨ w.heap.size ≤ x) ∧ ResP G' w' r q ∧ w.grownBy w' (some bm)
theorem pl_look {w : World} {bm : Nat} {F : Nat × Nat → Option Value} (h : MapK Tryd.prog 101 plVal w bm F) (x : Nat × Nat) {kl : Lit} (hkey : keyOf Tryd.prog 101 (plVal x) = some kl) :
    (Instr.lookup 94 (.map (some bm)) (plVal x) true).run Tryd.prog w = .ok (.tuple #[(F x).getD (.agg #[.pointer none, .int .i64 0]), .bool (F x).isSome]) w := by
  have := h.look true pl_keyed Tryd.underlying94 (z := .agg #[.pointer none, .int .i64 0]) (by kernel_rfl) x hkey
  rw [this]; rfl
theorem resV_two (q : Option (Nat × Nat)) : ∃ (p : Option Addr) (e : Int), resV q = .agg #[.pointer p, .int .i64 e] := by
  cases q with
  | none => exact ⟨_, _, rfl⟩
  | some x => exact ⟨_, _, rfl⟩
/-- between the rounds of parse's loop over the rules -/
structure PaR (wS wb : World) (bm : Nat) (g : Gr) (W : List Nat) (G0 : Nat → Prop) (B0 : Nat) (G1 : Nat → Prop) (M1 : Nat × Nat → Option (Option (Nat × Nat))) (wr : World) : Prop where
  s : PaS wS bm g W G1 M1 wr
  up : ∀ x, G0 x → G1 x
  dn : ∀ x, G1 x → G0 x ∨ B0 ≤ x
  gr : wb.grownBy wr (some bm)
set_option maxRecDepth 100000 in
set_option maxHeartbeats 16000000 in
theorem pparse_c (wS : World) (bp bm : Nat) (g : Gr) (W : List Nat) (Ag : Option Addr) (ng cg : Nat) (A : Option Addr) (c : Nat) (hT : PaT wS bp bm g W Ag ng cg A c) (d : Nat)
    (hS : ∀ (s : Sy) (k : Nat) (r : Option (Tr × Nat)) (G : Nat → Prop) (M : Nat × Nat → Option (Option (Nat × Nat))) (w : World), pg g.rules W d s k = some r → g.okSy s → k ≤ W.length → PaS wS bm g W G M w →
      Calls Tryd.prog 67 #[.pointer (some ⟨bp, 0, none⟩), .agg #[.bool s.1, .int .i64 (s.2 : Int)], .int .i64 (k : Int)] w (SymP wS bm g W G w r))
    (n k : Nat) (r : Option (Tr × Nat)) (G : Nat → Prop) (M : Nat × Nat → Option (Option (Nat × Nat))) (w : World) (hp : pg g.rules W (d + 1) (false, n) k = some r) (hn : n < g.nons) (hk : k ≤ W.length) (hs : PaS wS bm g W G M w) :
    Calls Tryd.prog 46 #[.pointer (some ⟨bp, 0, none⟩), .agg #[.int .i64 (n : Int), .int .i64 (k : Int)]] w (SymP wS bm g W G w r) := by
  have hbm := hT.mp.1
  have hn10 := hT.gok.ok.nons.2
  have hW2 := hT.wl
  have hng32 : ng ≤ 32 := by have := hT.gok.ok.count; have := hT.rules.len; omega
  have HT := Lib.hid hT
  have HY := Lib.hid hS
  have hsz := hs.sz
  have HS0 := Lib.hid hs
  obtain ⟨kl, hkl⟩ := pl_key (n, k) (by simp only; omega) (by simp only; omega)
  have HKL := Lib.hid hkl
  have hal := ((Below.refl w.heap.size w).al (.cells #[.int .i64 (n : Int), .int .i64 (k : Int)] 101)).al (.cells #[.pointer none, .int .i64 0] 98)
  have B3 := (Blk.new w 101 #[.int .i64 (n : Int), .int .i64 (k : Int)]).al (.cells #[.pointer none, .int .i64 0] 98)
  have B4 := Blk.newAt (w.alloc (.cells #[.int .i64 (n : Int), .int .i64 (k : Int)] 101)) 98 #[.pointer none, .int .i64 0] (w.heap.size + 1) (by simp)
  have HS := Lib.hid (hs.via hal hbm)
  have HB := Lib.hid hal
  have HP := Lib.hid (show pgC (pg g.rules W d) n k 0 g.rules = some r from by
    rw [pg, if_neg (by simp)] at hp; exact hp)
  have HPG := Lib.hid hp
  have hsz1 : ((w.alloc (.cells #[.int .i64 (n : Int), .int .i64 (k : Int)] 101)).alloc (.cells #[.pointer none, .int .i64 0] 98)).heap.size = w.heap.size + 2 := by simp
  have hsz2 : w.heap.size + 2 ≤ ((w.alloc (.cells #[.int .i64 (n : Int), .int .i64 (k : Int)] 101)).alloc (.cells #[.pointer none, .int .i64 0] 98)).heap.size := by omega
  clear hsz1
  clear hT hS hs hkl hal hp
  go_enter Tryd.func46, Tryd.ntmps46
  go_upto_region 1 with fail
  generalize (w.alloc (.cells #[.int .i64 (n : Int), .int .i64 (k : Int)] 101)).alloc (.cells #[.pointer none, .int .i64 0] 98) = W1 at *
  have BP := HT.out.p_ HS.out
  have SO := Lib.hid (show ∀ w', Below W1.heap.size W1 w' → ((∀ i, w'.cell? ⟨bp, i, none⟩ = #[.int .i64 (g.terms : Int), .int .i64 (g.nons : Int), .int .i64 (g.start : Int), .slice Ag ng cg, .slice A W.length c, .map (some bm)][i]?) ∧ (∀ i, w'.cell? ⟨w.heap.size, i, none⟩ = #[.int .i64 (n : Int), .int .i64 (k : Int)][i]?) ∧
      (Instr.lookup 94 (.map (some bm)) (.agg #[.int .i64 (n : Int), .int .i64 (k : Int)]) true).run Tryd.prog w' = .ok (.tuple #[((M (n, k)).map resV).getD (.agg #[.pointer none, .int .i64 0]), .bool ((M (n, k)).map resV).isSome]) w' ∧ Below W1.heap.size W1 w') from fun w' hb =>
    ⟨(BP.via hb).cell, (B3.via hb).cell, pl_look (HS.out.mp.via hb) (n, k) HKL.out, hb⟩)
  have HB3 := Lib.hid B3
  have HB4 := Lib.hid B4
  clear B3 B4 BP
  have hlk : ∃ (rp : Option Addr) (re : Int) (bok : Bool), ((M (n, k)).map resV).getD (.agg #[.pointer none, .int .i64 0]) = .agg #[.pointer rp, .int .i64 re] ∧ ((M (n, k)).map resV).isSome = bok ∧ (bok = true → ∃ q, M (n, k) = some q ∧ resV q = .agg #[.pointer rp, .int .i64 re]) := by
    cases hMk : M (n, k) with
    | none => exact ⟨none, 0, false, rfl, rfl, fun h => by cases h⟩
    | some q =>
      obtain ⟨rp, re, hrv⟩ := resV_two q
      exact ⟨rp, re, true, hrv, rfl, fun _ => ⟨q, rfl, hrv⟩⟩
  obtain ⟨rp, re, bok, hl1, hl2, hl3⟩ := hlk
  rw [hl1, hl2] at SO
  have HLK := Lib.hid hl3
  clear hl1 hl2 hl3
  go_cut [5, 6] (fun s5 s6 wc => ∃ wx b5, wx = wc ∧ s5 = .pointer (some ⟨b5, 0, none⟩) ∧ s6 = .bool bok ∧ Below W1.heap.size W1 wx ∧ Blk wx b5 98 #[.pointer rp, .int .i64 re] ∧ W1.heap.size ≤ b5)
  case first =>
    have hb0 := (Below.refl W1.heap.size W1).drew
    go_region_held3 (fun w' => (∀ i, w'.cell? ⟨bp, i, none⟩ = #[.int .i64 (g.terms : Int), .int .i64 (g.nons : Int), .int .i64 (g.start : Int), .slice Ag ng cg, .slice A W.length c, .map (some bm)][i]?) ∧ (∀ i, w'.cell? ⟨w.heap.size, i, none⟩ = #[.int .i64 (n : Int), .int .i64 (k : Int)][i]?) ∧
      (Instr.lookup 94 (.map (some bm)) (.agg #[.int .i64 (n : Int), .int .i64 (k : Int)]) true).run Tryd.prog w' = .ok (.tuple #[.agg #[.pointer rp, .int .i64 re], .bool bok]) w' ∧ Below W1.heap.size W1 w') (exact SO.out _ (by first | assumption | exact Below.al (by assumption) _)) (first | fail)
    all_goals go_wp2_with fail
    all_goals go_meet
    all_goals exact ⟨_, _, rfl, rfl, rfl, ((Below.refl W1.heap.size W1).al _).drew, (Blk.new W1 98 #[.pointer rp, .int .i64 re]).dr, Nat.le_refl _⟩
  case rest =>
    obtain ⟨wx, b5, rfl, rfl, rfl, hbx, hb5, hb5l⟩ := hcut
    have HS2 := Lib.hid (HS.out.via hbx hbm)
    have HB2 := Lib.hid (HB.out.trans (hbx.mono (by omega)))
    have HB32 := Lib.hid (HB3.out.via hbx)
    have HB42 := Lib.hid (HB4.out.via hbx)
    have HB5 := Lib.hid hb5
    have hsx : W1.heap.size ≤ wx.heap.size := hbx.size
    clear hbx hb5 SO HS HB HB3 HB4
    cases bok with
    | true =>
      obtain ⟨q, hq1, hq2⟩ := HLK.out rfl
      have HQ := Lib.hid (HS2.out.ent _ _ hq1)
      have HRV := Lib.hid hq2
      have B4 := HB42.out
      have B5 := HB5.out
      clear hq1 hq2
      have cB4 := B4.cell
      have fB4 := B4.frozen
      have lB4 := B4.lt
      have cB5 := B5.cell
      have fB5 := B5.frozen
      have lB5 := B5.lt
      go_wp2_with fail
      refine bodyPost_ret (v := .agg #[.pointer rp, .int .i64 re]) (by simp [results, Tryd.results46, go_sem, cB4]) rfl ⟨q, G, M, by rw [HRV.out], (HS2.out.far hbm (p := ⟨w.heap.size + 1, 0, none⟩) (by simp only; omega) (fun h => by have := (HS0.out.good _ h).1.lt; simp only at this; omega) _).far hbm (p := ⟨w.heap.size + 1, 1, none⟩) (by simp only; omega) (fun h => by have := (HS0.out.good _ h).1.lt; simp only at this; omega) _, fun x h => h, fun x h => Or.inl h, ?_, grownOf ((HB2.out.setCell (by simp) _).setCell (by simp) _) _⟩
      obtain ⟨-, d', r', h1, h2⟩ := HQ.out
      rw [pg_uniq HPG.out h1]
      exact h2.agr ((Agr.setCell (p := ⟨w.heap.size + 1, 0, none⟩) _ fun b hb e => by have := (HS0.out.good _ hb).1.lt; simp only at e; omega).trans (Agr.setCell (p := ⟨w.heap.size + 1, 1, none⟩) _ fun b hb e => by have := (HS0.out.good _ hb).1.lt; simp only at e; omega))
    | false =>
      clear HLK HB5 hb5l
      go_upto_region 5 with fail
      have hal := (Below.refl wx.heap.size wx).al (.cells #[.pointer none, .int .i64 (-1)] 98)
      have HS4 := Lib.hid (HS2.out.via hal hbm)
      have HB7 := Lib.hid (Blk.new wx 98 #[.pointer none, .int .i64 (-1)])
      have HB34 := Lib.hid (HB32.out.via hal)
      have HB44 := Lib.hid (HB42.out.via hal)
      have HBW := Lib.hid (HB2.out.trans (hal.mono HB2.out.size))
      have hs4 : wx.heap.size < (wx.alloc (.cells #[.pointer none, .int .i64 (-1)] 98)).heap.size := by simp
      generalize wx.alloc (.cells #[.pointer none, .int .i64 (-1)] 98) = W4 at *
      generalize wx.heap.size = b7 at *
      obtain ⟨b3, hb3⟩ : ∃ b3, b3 = w.heap.size := ⟨_, rfl⟩
      obtain ⟨b4, hb4⟩ : ∃ b4, b4 = w.heap.size + 1 := ⟨_, rfl⟩
      rw [← hb4] at HB44 ⊢
      rw [← hb3] at HB34 ⊢
      have HB3E := Lib.hid hb3
      have HB4E := Lib.hid hb4
      have hb34 : b3 < b4 ∧ b4 < b7 ∧ wS.heap.size ≤ b3 := by omega
      clear hb3 hb4 HS2 HB2 HB32 HB42 hal
      have HBP := HT.out.p_ HS4.out
      have BP := HBP
      have cBP := BP.cell
      have fBP := BP.frozen
      have lBP := BP.lt
      go_wp2_with fail
      clear cBP fBP lBP
      clear BP HBP
      go_loopw [33] (fun q wr => ∃ (i : Nat) (G1 : Nat → Prop) (M1 : Nat × Nat → Option (Option (Nat × Nat))), q = .int .i64 i ∧ i ≤ ng ∧ Hid (PaR wS W4 bm g W G W4.heap.size G1 M1 wr) ∧ Hid (pgC (pg g.rules W d) n k i (g.rules.drop i) = some r)) (fun q _ => ng - (intOf q).toNat)
      case atStart => exact ⟨0, G, M, rfl, Nat.zero_le _, Lib.hid ⟨HS4.out, fun _ h => h, fun _ h => Or.inl h, grownRefl _ _⟩, HP⟩
      case round =>
        obtain ⟨i, G1, M1, rfl, hi, HL, HC⟩ := hrel
        clear HS4
        have hbmw : bm < b3 := by omega
        by_cases hin : i < ng
        · obtain ⟨b1, o1, ⟨sl, sA, sn, sc⟩, ⟨sl', rhs⟩, hAg, -, hbb, hy, ⟨hx1, hx2⟩, hc⟩ := (HT.out.rules_ HL.out.s).at_ hin
          simp only at hx1 hx2
          obtain rfl : sl = sl' := hx1
          have HAG := Lib.hid hAg
          subst hAg
          have d0 := hc 0 _ rfl
          have d1 := hc 1 _ rfl
          simp only [RuE, Nat.add_zero] at d0 d1
          have i0 : (0 : Int) ≤ (i : Int) := by omega
          have i1 : (i : Int) < (ng : Int) := by omega
          have hmem := List.mem_of_getElem? hy
          have HRT := Lib.hid (HT.out.gok.ok.right _ hmem)
          have hsn : sn ≤ 4 := by rw [← hx2.len]; exact HRT.out.1
          have hdr : g.rules.drop i = (sl, rhs) :: g.rules.drop (i + 1) := by
            obtain ⟨hl, he⟩ := List.getElem?_eq_some_iff.1 hy
            rw [List.drop_eq_getElem_cons hl, he]
          have HDR := Lib.hid hdr
          have hal := (Below.refl wr.heap.size wr).al (.cells #[.int .i64 (sl : Int), .slice sA sn sc] 77)
          have HSR := Lib.hid (hx2.via hal)
          have HL5 := Lib.hid (show PaR wS W4 bm g W G W4.heap.size G1 M1 _ from ⟨HL.out.s.via hal hbm, HL.out.up, HL.out.dn, HL.out.gr.trans (grownOf hal _)⟩)
          have HBX := Lib.hid (Blk.new wr 77 #[.int .i64 (sl : Int), .slice sA sn sc])
          have hwr : W4.heap.size ≤ wr.heap.size := HL.out.gr.size
          clear hc hy hx2 hmem hbb hal hdr HL
          go_upto_region 8 with fail
          clear d0 d1
          have hs5 : wr.heap.size < (wr.alloc (.cells #[.int .i64 (sl : Int), .slice sA sn sc] 77)).heap.size := by simp
          generalize wr.alloc (.cells #[.int .i64 (sl : Int), .slice sA sn sc] 77) = W5 at *
          generalize wr.heap.size = b9 at *
          have hne : ∀ b, b ≠ bm → some b ≠ some bm := fun b h e => h (Option.some.inj e)
          have BX := HBX.out
          have B3 := HB34.out.grown HL5.out.gr (hne _ (by omega))
          by_cases hsl : sl = n
          · as_aux_lemma =>
            have hsl' : n = sl := by omega
            subst hsl'
            have e1 : ((n : Int) != (n : Int)) = false := by simp
            clear hsl
            have cBX := BX.cell
            have fBX := BX.frozen
            have lBX := BX.lt
            have cB3 := B3.cell
            have fB3 := B3.frozen
            have lB3 := B3.lt
            go_upto_region 10 with fail
            clear cBX fBX lBX cB3 fB3 lB3
            have hal := (Below.refl W5.heap.size W5).al (.cells #[.int .i64 (i : Int), .int .i64 0, .slice none 0 0] 34)
            have hgl : ∀ x, G1 x → x < W5.heap.size := fun x hx => (HL5.out.s.good x hx).1.lt
            have HI0 := Lib.hid (show InP wS W5 bm W5.heap.size g W G1 i 0 [] G1 M1 (.slice none 0 0) (.slice none 0 0) _ from
              ⟨HL5.out.s.via hal hbm, fun _ h => h, fun _ h => Or.inl h, grownOf hal _, Blk.new W5 34 #[.int .i64 (i : Int), .int .i64 0, .slice none 0 0], Own.nil _ _, ⟨fun h => by have := hgl _ h; omega, fun b h => by cases h⟩, Nat.le_refl _, by omega, hbm, by simp⟩)
            have BX := BX.via hal
            have B3 := B3.via hal
            have HBX6 := Lib.hid BX
            have HB36 := Lib.hid B3
            clear hal
            generalize W5.alloc (.cells #[.int .i64 (i : Int), .int .i64 0, .slice none 0 0] 34) = W6 at *
            obtain ⟨bt, hbt⟩ : ∃ bt, bt = W5.heap.size := ⟨_, rfl⟩
            rw [← hbt] at HI0 ⊢
            have HBTE := Lib.hid hbt
            clear hbt
            have cBX := BX.cell
            have fBX := BX.frozen
            have lBX := BX.lt
            have cB3 := B3.cell
            have fB3 := B3.frozen
            have lB3 := B3.lt
            go_wp2_with fail
            clear cBX fBX lBX cB3 fB3 lB3
            clear BX B3
            go_loopw [11, 51] (fun s11 q wr => ∃ (j ak : Nat) (G2 : Nat → Prop) (M2 : Nat × Nat → Option (Option (Nat × Nat))) (v : Value) (ts : List Tr), s11 = .int .i64 ak ∧ q = .int .i64 j ∧ j ≤ sn ∧ ak ≤ W.length ∧ Hid (InP wS W5 bm bt g W G1 i j ts G2 M2 v v wr) ∧ Hid (pgL (pg g.rules W d) (rhs.take j) k = some (some (ts, ak)))) (fun _ q _ => sn - (intOf q).toNat)
            case atStart => exact ⟨0, k, G1, M1, _, [], rfl, rfl, Nat.zero_le _, hk, HI0, Lib.hid (by simp [pgL])⟩
            case round =>
              obtain ⟨j, ak, G2, M2, v, ts, rfl, rfl, hj, hak, HI, HPL⟩ := hrel
              clear HI0 HBX6 HB36
              by_cases hjs : j < sn
              · as_aux_lemma =>
                obtain ⟨vA, vc, rfl, hvc⟩ := HI.out.own.form
                have htl := HI.out.own.len
                have hag : Agr (fun b => b ≠ bm) W5 wr := Agr.grown HI.out.gr fun b hb e => hb (Option.some.inj e)
                obtain ⟨b2, o2, ⟨yb, yn⟩, y', hyA, -, hyl, hy, hyr, hyc⟩ := (HSR.out.agr hag).at_ hjs
                obtain rfl : (yb, yn) = y' := hyr
                subst hyA
                have x0 := hyc 0 _ rfl
                have x1 := hyc 1 _ rfl
                simp only [SyE, Nat.add_zero] at x0 x1
                have j0 : (0 : Int) ≤ (j : Int) := by omega
                have j1 : (j : Int) < (sn : Int) := by omega
                have j2 : (j : Int) < ((j + 1 : Nat) : Int) := by omega
                have j3 : (j : Int) < (j : Int) + 1 := by omega
                have HY1 := Lib.hid hy
                have hok := HRT.out.2 _ (List.mem_of_getElem? hy)
                have HOK := Lib.hid hok
                have hsplit : rhs = rhs.take j ++ (yb, yn) :: rhs.drop (j + 1) := splitL_at hy
                have HSP := Lib.hid hsplit
                obtain ⟨r', hr'⟩ : ∃ r', pg g.rules W d (yb, yn) ak = some r' := by
                  obtain ⟨x, hx⟩ := pgC_deep (rfl : ((n, rhs) : Ru).1 = n) (by have := HC.out; rw [HDR.out] at this; exact this)
                  cases hq : pg g.rules W d (yb, yn) ak with
                  | some r' => exact ⟨r', rfl⟩
                  | none =>
                    simp only at hx
                    rw [hsplit, pgL_deep HPL.out hq] at hx
                    cases hx
                have HPR := Lib.hid hr'
                have hal := (Below.refl wr.heap.size wr).al (.cells #[.bool yb, .int .i64 (yn : Int)] 54)
                have HI5 := Lib.hid (HI.out.via hal)
                have BS := Blk.new wr 54 #[.bool yb, .int .i64 (yn : Int)]
                clear hyc hy hyl hal hok hsplit hr' HI hag
                go_upto_region 14 with fail
                clear x0 x1
                generalize wr.alloc (.cells #[.bool yb, .int .i64 (yn : Int)] 54) = W7 at *
                generalize wr.heap.size = b13 at *
                have cBS := BS.cell
                have fBS := BS.frozen
                have lBS := BS.lt
                go_wp2_with fail
                clear cBS fBS lBS
                clear BS
                refine (HY.out (yb, yn) ak r' G2 M2 W7 HPR.out HOK.out hak HI5.out.s).mono ?_
                rintro e0' w8 ⟨q, G3, M3, rfl, hs8, hup8, hdn8, hres8, hgr8⟩
                have HI8 := Lib.hid (HI5.out.call hs8 hup8 hdn8 hgr8)
                have HRS := Lib.hid hres8
                clear hs8 hup8 hdn8 hres8 hgr8 HI5
                cases r' with
                | none =>
                  cases q with
                  | some x => exact HRS.out.elim
                  | none =>
                    simp only [resV]
                    have hal := (Below.refl w8.heap.size w8).al (.cells #[.pointer none, .int .i64 (-1)] 98)
                    have HI9 := Lib.hid (HI8.out.via hal)
                    have BY := Blk.new w8 98 #[.pointer none, .int .i64 (-1)]
                    clear hal HI8
                    go_upto_region 15 with fail
                    generalize w8.alloc (.cells #[.pointer none, .int .i64 (-1)] 98) = W9 at *
                    have cBY := BY.cell
                    have fBY := BY.frozen
                    have lBY := BY.lt
                    go_wp2_with fail
                    refine ⟨⟨i + 1, G3, M3, by go_num, by omega, Lib.hid ⟨HI9.out.s, fun x hx => HI9.out.up x (HL5.out.up x hx), fun x hx => ?_, HL5.out.gr.trans HI9.out.gr⟩, Lib.hid ?_⟩, by simp [intOf]; omega⟩
                    · rcases HI9.out.dn x hx with h | h
                      · exact HL5.out.dn x h
                      · have := HI9.out.lo; exact Or.inr (by omega)
                    · have hl : pgL (pg g.rules W d) ((n, rhs) : Ru).2 k = some none := by
                        simp only
                        rw [HSP.out]; exact pgL_stop HPL.out HPR.out
                      have hc := HC.out
                      rw [HDR.out, pgC_miss (u := (n, rhs)) rfl hl] at hc
                      exact hc
                | some te =>
                  obtain ⟨t, e⟩ := te
                  cases q with
                  | none => exact HRS.out.elim
                  | some x =>
                    obtain ⟨bq, e'⟩ := x
                    obtain ⟨hee, hat⟩ := HRS.out
                    obtain rfl : e = e' := hee.symm
                    obtain ⟨⟨va, vb, vA2, vn2, vc2⟩, htr, -, hcv⟩ := hat
                    simp only [resV]
                    have HEW := Lib.hid (show e ≤ W.length from (pg_end d _ ak t e hak HPR.out).2.1)
                    have hal := (Below.refl w8.heap.size w8).al (.cells #[.pointer (some ⟨bq, 0, none⟩), .int .i64 (e : Int)] 98)
                    have HI9 := Lib.hid (HI8.out.via hal)
                    have HTR := Lib.hid (htr.via hal)
                    have BY := Blk.new w8 98 #[.pointer (some ⟨bq, 0, none⟩), .int .i64 (e : Int)]
                    have c0 := (hal.cell (World.block_lt_of_cell? _ _ (hcv 0 _ rfl))).trans (hcv 0 _ rfl)
                    have c1 := (hal.cell (World.block_lt_of_cell? _ _ (hcv 1 _ rfl))).trans (hcv 1 _ rfl)
                    have c2 := (hal.cell (World.block_lt_of_cell? _ _ (hcv 2 _ rfl))).trans (hcv 2 _ rfl)
                    simp only [Nat.zero_add] at c0 c1 c2
                    have HPN := Lib.hid (show pgL (pg g.rules W d) (rhs.take (j + 1)) k = some (some (ts ++ [t], e)) from by
                      rw [List.take_add_one, HY1.out]
                      exact pgL_snoc HPL.out HPR.out)
                    have HLL := Lib.hid (show (ts ++ [Tr.node 0 []]).set j t = ts ++ [t] from by
                      rw [List.set_append_right _ _ (by omega), htl]; simp)
                    have hd0 : decide ((e : Int) < 0) = false := decide_eq_false (by omega)
                    clear hal HI8 htr hcv HRS
                    go_upto_region 15 with fail
                    generalize w8.alloc (.cells #[.pointer (some ⟨bq, 0, none⟩), .int .i64 (e : Int)] 98) = W9 at *
                    generalize w8.heap.size = b14 at *
                    have HBY := Lib.hid BY
                    have cBY := BY.cell
                    have fBY := BY.frozen
                    have lBY := BY.lt
                    go_upto_region 17 with fail
                    clear cBY fBY lBY
                    have hdr := (Below.refl W9.heap.size W9).drew
                    have hHeld : (∀ i_1, W9.drew.cell? ⟨bt, i_1, none⟩ = #[.int .i64 (i : Int), .int .i64 0, .slice vA j vc][i_1]?) ∧ (∀ i_1, W9.drew.cell? ⟨b14, i_1, none⟩ = #[.pointer (some ⟨bq, 0, none⟩), .int .i64 (e : Int)][i_1]?) ∧ W9.drew.cell? ⟨bq, 0, none⟩ = some (.int .i64 va) ∧ W9.drew.cell? ⟨bq, 1, none⟩ = some (.int .i64 vb) ∧ W9.drew.cell? ⟨bq, 2, none⟩ = some (.slice vA2 vn2 vc2) :=
                      ⟨(HI9.out.via hdr).t.cell, (BY.via hdr).cell, c0, c1, c2⟩
                    replace HI9 := Lib.hid (HI9.out.via hdr)
                    replace HTR := Lib.hid (HTR.out.via hdr)
                    have HCC := Lib.hid (And.intro c0 (And.intro c1 c2))
                    have HBY6 := Lib.hid (BY.via hdr)
                    clear c0 c1 c2 hdr BY HBY hd0
                    refine wp_region_noPanic ?_
                    refine wp_region_N 10 (fun w' => (∀ i_1, w'.cell? ⟨bt, i_1, none⟩ = #[.int .i64 (i : Int), .int .i64 0, .slice vA j vc][i_1]?) ∧ (∀ i_1, w'.cell? ⟨b14, i_1, none⟩ = #[.pointer (some ⟨bq, 0, none⟩), .int .i64 (e : Int)][i_1]?) ∧ w'.cell? ⟨bq, 0, none⟩ = some (.int .i64 va) ∧ w'.cell? ⟨bq, 1, none⟩ = some (.int .i64 vb) ∧ w'.cell? ⟨bq, 2, none⟩ = some (.slice vA2 vn2 vc2)) (by kernel_rfl) ?_
                    generalize W9.drew = W6 at *
                    refine wpAnyN.take (i := 0) (d := some 63) (v := ?_) rfl (by decide) (by kernel_rfl) (by kernel_rfl) (by kernel_rfl) (by kernel_rfl) (by kernel_rfl) rfl (fun _ _ _ h => h) (Or.inl ⟨by rfl, ?_⟩) (by assumption) ?_
                    rotate_left
                    · intro w hSw; (try dsimp only at hSw); go_simp; try with_reducible rfl
                    simp only [Act.put, List.setIfInBounds_toArray, List.set_cons_zero, List.set_cons_succ]
                    refine wpAnyN.take (i := 1) (d := some 64) (v := ?_) rfl (by decide) (by kernel_rfl) (by kernel_rfl) (by kernel_rfl) (by kernel_rfl) (by kernel_rfl) rfl (fun _ _ _ h => h) (Or.inl ⟨by rfl, ?_⟩) (by assumption) ?_
                    rotate_left
                    · intro w hSw; (try dsimp only at hSw); go_simp; try with_reducible rfl
                    simp only [Act.put, List.setIfInBounds_toArray, List.set_cons_zero, List.set_cons_succ]
                    refine wpAnyN.take (i := 2) (d := some 65) (v := ?_) rfl (by decide) (by kernel_rfl) (by kernel_rfl) (by kernel_rfl) (by kernel_rfl) (by kernel_rfl) rfl (fun _ _ _ h => h) (Or.inl ⟨by rfl, ?_⟩) (by assumption) ?_
                    rotate_left
                    · intro w hSw; (try dsimp only at hSw); go_simp; try with_reducible rfl
                    simp only [Act.put, List.setIfInBounds_toArray, List.set_cons_zero, List.set_cons_succ]
                    refine wpAnyN.take (i := 3) (d := some 66) (v := ?_) rfl (by decide) (by kernel_rfl) (by kernel_rfl) (by kernel_rfl) (by kernel_rfl) (by kernel_rfl) rfl (fun _ _ _ h => h) (Or.inl ⟨by rfl, ?_⟩) (by assumption) ?_
                    rotate_left
                    · intro w hSw; (try dsimp only at hSw); go_simp; try with_reducible rfl
                    simp only [Act.put, List.setIfInBounds_toArray, List.set_cons_zero, List.set_cons_succ]
                    refine wpAnyN.take (i := 4) (d := some 67) (v := ?_) rfl (by decide) (by kernel_rfl) (by kernel_rfl) (by kernel_rfl) (by kernel_rfl) (by kernel_rfl) rfl (fun _ _ _ h => h) (Or.inl ⟨by rfl, ?_⟩) (by assumption) ?_
                    rotate_left
                    · intro w hSw; (try dsimp only at hSw); go_simp; try with_reducible rfl
                    simp only [Act.put, List.setIfInBounds_toArray, List.set_cons_zero, List.set_cons_succ]
                    refine wpAnyN.take (i := 5) (d := some 68) (v := ?_) rfl (by decide) (by kernel_rfl) (by kernel_rfl) (by kernel_rfl) (by kernel_rfl) (by kernel_rfl) rfl (fun _ _ _ h => h) (Or.inl ⟨by rfl, ?_⟩) (by assumption) ?_
                    rotate_left
                    · intro w hSw; (try dsimp only at hSw); go_simp; try with_reducible rfl
                    simp only [Act.put, List.setIfInBounds_toArray, List.set_cons_zero, List.set_cons_succ]
                    refine wpAnyN.take (i := 6) (d := some 69) (v := ?_) rfl (by decide) (by kernel_rfl) (by kernel_rfl) (by kernel_rfl) (by kernel_rfl) (by kernel_rfl) rfl (fun _ _ _ h => h) (Or.inl ⟨by rfl, ?_⟩) (by assumption) ?_
                    rotate_left
                    · intro w hSw; (try dsimp only at hSw); go_simp; try with_reducible rfl
                    simp only [Act.put, List.setIfInBounds_toArray, List.set_cons_zero, List.set_cons_succ]
                    refine wpAnyN.take (i := 7) (d := some 70) (v := ?_) rfl (by decide) (by kernel_rfl) (by kernel_rfl) (by kernel_rfl) (by kernel_rfl) (by kernel_rfl) rfl (fun _ _ _ h => h) (Or.inl ⟨by rfl, ?_⟩) (by assumption) ?_
                    rotate_left
                    · intro w hSw; (try dsimp only at hSw); go_simp; try with_reducible rfl
                    simp only [Act.put, List.setIfInBounds_toArray, List.set_cons_zero, List.set_cons_succ]
                    refine wpAnyN.take (i := 8) (d := some 71) (v := ?_) rfl (by decide) (by kernel_rfl) (by kernel_rfl) (by kernel_rfl) (by kernel_rfl) (by kernel_rfl) rfl (fun _ _ _ h => h) (Or.inl ⟨by rfl, ?_⟩) (by assumption) ?_
                    rotate_left
                    · intro w hSw; (try dsimp only at hSw); go_simp; try with_reducible rfl
                    simp only [Act.put, List.setIfInBounds_toArray, List.set_cons_zero, List.set_cons_succ]
                    refine wpAnyN.ready (rs := [9]) (by kernel_rfl) (by simp) ?_
                    refine AllN.cons rfl (fun K hK => ?_) AllN.nil
                    go_simp
                    have hal := (Below.refl W6.heap.size W6).al (.cells #[.int .i64 0, .int .i64 0, .slice none 0 0] 34)
                    have HZ := Lib.hid (Blk.new W6 34 #[.int .i64 0, .int .i64 0, .slice none 0 0])
                    replace HI9 := Lib.hid (HI9.out.via hal)
                    replace HTR := Lib.hid (HTR.out.via hal)
                    refine hK.out _ _ (fun _ => ⟨HI9.out.t.cell, (HBY6.out.via hal).cell, (hal.cell (World.block_lt_of_cell? _ _ hHeld.2.2.1)).trans hHeld.2.2.1, (hal.cell (World.block_lt_of_cell? _ _ hHeld.2.2.2.1)).trans hHeld.2.2.2.1, (hal.cell (World.block_lt_of_cell? _ _ hHeld.2.2.2.2)).trans hHeld.2.2.2.2⟩) ?_
                    clear hK K hal hHeld HCC HBY6
                    try simp only [Act.put, List.setIfInBounds_toArray, List.set_cons_zero, List.set_cons_succ]
                    generalize W6.alloc (.cells #[.int .i64 0, .int .i64 0, .slice none 0 0] 34) = WZ at *
                    generalize W6.heap.size = bz at *
                    refine wpAnyN.ready (rs := [10]) (by kernel_rfl) (by simp) ?_
                    refine AllN.cons rfl (fun K hK => ?_) AllN.nil
                    have hszA : bt + 1 ≤ WZ.heap.size := by have := HI9.out.lo; omega
                    refine step_append_tr WZ rfl (.tmp 66) (.tmp 72) rfl G3 (bt + 1) (.slice vA j vc) j ts rfl HI9.out.own bz (0, 0, none, 0, 0) (.node 0 []) rfl HZ.out (TreeR.mk 0 (Sl.nil 0)) (by omega) hszA ?_
                    intro Av1 cv1 w1 ho1 hg1 hat1
                    obtain ⟨gb, rfl⟩ := ho1.addr (by omega)
                    have HI8 := Lib.hid (HI9.out.app ho1 hg1 hat1)
                    have HTR8 := Lib.hid (HTR.out.agr (Agr.grown hg1 fun b hb e => HI9.out.nb.2 b e.symm hb))
                    clear ho1 hg1 hat1 hszA HI9 HZ HTR
                    refine hK.out _ _ (fun h => absurd h (by decide)) ?_
                    clear hK K
                    try simp only [Act.put, List.setIfInBounds_toArray]
                    refine wpAnyN.free (i := 11) (d := some 74) (v := ?_) rfl (by decide) (by kernel_rfl) (by kernel_rfl) (by kernel_rfl) rfl (fun _ _ _ h => h) (Or.inl ⟨by rfl, ?_⟩) (fun h => absurd h (by decide)) ?_
                    rotate_left
                    · intro w hSw; go_simp; try with_reducible rfl
                    simp only [Act.put]
                    refine wpAnyN.free (i := 13) (d := some 75) (v := ?_) rfl (by decide) (by kernel_rfl) (by kernel_rfl) (by kernel_rfl) rfl (fun _ _ _ h => h) (Or.inl ⟨by rfl, ?_⟩) (fun h => absurd h (by decide)) ?_
                    rotate_left
                    · intro w hSw; go_simp; try with_reducible rfl
                    simp only [Act.put]
                    refine wpAnyN.free (i := 14) (d := some 76) (v := ?_) rfl (by decide) (by kernel_rfl) (by kernel_rfl) (by kernel_rfl) rfl (fun _ _ _ h => h) (Or.inl ⟨by rfl, ?_⟩) (fun h => absurd h (by decide)) ?_
                    rotate_left
                    · intro w hSw; go_simp; try with_reducible rfl
                    simp only [Act.put]
                    obtain ⟨hce, hfe, -⟩ := HI8.out.own.putTr (q := j) (by omega) (HTR8.out.mono fun b _ hb => ⟨hb, fun e => HI8.out.nb.2 gb rfl (e ▸ hb)⟩)
                    obtain ⟨e0, he0⟩ := hce 0 (by omega)
                    obtain ⟨e1', he1⟩ := hce 1 (by omega)
                    obtain ⟨e2, he2⟩ := hce 2 (by omega)
                    simp only [Nat.add_zero] at he0
                    clear hce
                    refine wpAnyN.ready (rs := [12, 15]) (by kernel_rfl) (by simp) ?_
                    refine AllN.cons rfl (fun K hK => ?_) (AllN.cons rfl (fun K hK => ?_) AllN.nil)
                    · go_simp
                      refine hK.out _ _ (fun h => absurd h (by decide)) ?_
                      clear hK K he0 he1 he2 hfe
                      have HI9 := Lib.hid (HI8.out.putT (q := j) (by omega) HTR8.out)
                      have cB := HI9.out.t.cell
                      have fB := HI9.out.t.frozen
                      clear HI8 HTR8
                      refine wpAnyN.ready (rs := [15]) (by kernel_rfl) (by simp) ?_
                      refine AllN.cons rfl (fun K hK => ?_) AllN.nil
                      go_simp
                      refine hK.out _ _ (fun h => absurd h (by decide)) ?_
                      clear hK K cB fB
                      refine wpAnyN.done (by kernel_rfl) ?_ _
                      refine NoPanic.normal ?_
                      have HIA := Lib.hid HI9.out.hdr
                      clear HI9
                      go_wp2_with fail
                      exact ⟨⟨j + 1, e, G3, M3, _, ts ++ [t], rfl, by go_num, by omega, HEW.out, Lib.hid (by rw [HLL.out] at HIA; exact HIA.out), HPN⟩, by simp [intOf]; omega⟩
                    · have cB := HI8.out.t.cell
                      have fB := HI8.out.t.frozen
                      clear he0 he1 he2 hfe
                      go_simp
                      refine hK.out _ _ (fun h => absurd h (by decide)) ?_
                      clear hK K cB fB
                      have HTR9 := Lib.hid (HTR8.out.agr (Agr.setCell (p := ⟨bt, 2, none⟩) (.slice (some ⟨gb, 0, none⟩) (j + 1) cv1) fun b hb e => by have e' : b = bt := e; rw [e'] at hb; exact HI8.out.nb.1 hb))
                      have HI9 := Lib.hid HI8.out.hdr
                      clear HI8 HTR8
                      obtain ⟨hce, hfe, -⟩ := HI9.out.own.putTr (q := j) (by omega) (HTR9.out.mono fun b _ hb => ⟨hb, fun e => HI9.out.nb.2 gb rfl (e ▸ hb)⟩)
                      obtain ⟨e0, he0⟩ := hce 0 (by omega)
                      obtain ⟨e1', he1⟩ := hce 1 (by omega)
                      obtain ⟨e2, he2⟩ := hce 2 (by omega)
                      simp only [Nat.add_zero] at he0
                      clear hce
                      refine wpAnyN.ready (rs := [12]) (by kernel_rfl) (by simp) ?_
                      refine AllN.cons rfl (fun K hK => ?_) AllN.nil
                      go_simp
                      refine hK.out _ _ (fun h => absurd h (by decide)) ?_
                      clear hK K he0 he1 he2 hfe
                      refine wpAnyN.done (by kernel_rfl) ?_ _
                      refine NoPanic.normal ?_
                      have HIA := Lib.hid (HI9.out.putT (q := j) (by omega) HTR9.out)
                      clear HI9 HTR9
                      go_wp2_with fail
                      exact ⟨⟨j + 1, e, G3, M3, _, ts ++ [t], rfl, by go_num, by omega, HEW.out, Lib.hid (by rw [HLL.out] at HIA; exact HIA.out), HPN⟩, by simp [intOf]; omega⟩
              · as_aux_lemma =>
                obtain rfl : j = sn := by omega
                have hfin := HI.out.fin
                have hpl := HPL.out
                rw [List.take_of_length_le (by rw [HSR.out.len]; exact Nat.le_refl _)] at hpl
                have hr : r = some (.node i ts, ak) := by
                  have hc := HC.out
                  rw [HDR.out, pgC_hit (u := (n, rhs)) rfl hpl] at hc
                  exact (Option.some.inj hc).symm
                obtain ⟨G3, hG3⟩ : ∃ G3, G3 = gAdd G2 bt v := ⟨_, rfl⟩
                rw [← hG3] at hfin
                have hdn3 : ∀ x, G3 x → G x ∨ W4.heap.size ≤ x := by
                  rw [hG3]
                  have hlo := HI.out.lo
                  intro x hx
                  rcases hx with hx | rfl | hx
                  · rcases HI.out.dn x hx with h | h
                    · exact HL5.out.dn x h
                    · exact Or.inr (by omega)
                  · exact Or.inr (by omega)
                  · have := (HI.out.own.lt x hx).1
                    exact Or.inr (by omega)
                have hn7 : ¬ G3 b7 := fun h => by
                  rcases hdn3 b7 h with h | h
                  · have := (HS0.out.good _ h).1.lt; have := HB3E.out; omega
                  · omega
                have hne : ∀ b, b ≠ bm → some b ≠ some bm := fun b h e => h (Option.some.inj e)
                have hgr := HL5.out.gr.trans HI.out.gr
                have hw4 : b7 < W4.heap.size := hs4
                have B3 := HB34.out.grown hgr (hne _ (by omega))
                have B4 := HB44.out.grown hgr (hne _ (by omega))
                have B7 := HB7.out.grown hgr (hne _ (by omega))
                have HS7 := Lib.hid ((hfin.1.far hbm (p := ⟨b7, 0, none⟩) (by simp only; omega) hn7 (.pointer (some ⟨bt, 0, none⟩))).far hbm (p := ⟨b7, 1, none⟩) (by simp only; omega) hn7 (.int .i64 (ak : Int)))
                have HAT := Lib.hid (hfin.2.agr ((Agr.setCell (p := ⟨b7, 0, none⟩) (.pointer (some ⟨bt, 0, none⟩)) fun b hb e => by have e' : b = b7 := e; rw [e'] at hb; exact hn7 hb).trans (Agr.setCell (p := ⟨b7, 1, none⟩) (.int .i64 (ak : Int)) fun b hb e => by have e' : b = b7 := e; rw [e'] at hb; exact hn7 hb)))
                have HG7 := Lib.hid (show w.grownBy _ (some bm) from grown_far (grown_far ((grownOf HBW.out _).trans hgr) (grownBySet wr b7 0 (.pointer (some ⟨bt, 0, none⟩))) (fun b e => by have := Option.some.inj e; have := HB3E.out; omega)) (grownBySet _ b7 1 (.int .i64 (ak : Int))) (fun b e => by have := Option.some.inj e; have := HB3E.out; omega))
                have HB37 := Lib.hid ((B3.far (p := ⟨b7, 0, none⟩) (by simp only; omega) (.pointer (some ⟨bt, 0, none⟩))).far (p := ⟨b7, 1, none⟩) (by simp only; omega) (.int .i64 (ak : Int)))
                have HB47 := Lib.hid ((B4.far (p := ⟨b7, 0, none⟩) (by simp only; omega) (.pointer (some ⟨bt, 0, none⟩))).far (p := ⟨b7, 1, none⟩) (by simp only; omega) (.int .i64 (ak : Int)))
                have HB77 := Lib.hid (show Blk ((wr.setCell ⟨b7, 0, none⟩ (.pointer (some ⟨bt, 0, none⟩))).setCell ⟨b7, 1, none⟩ (.int .i64 (ak : Int))) b7 98 #[.pointer (some ⟨bt, 0, none⟩), .int .i64 (ak : Int)] from by
                  have := (B7.set_ 0 (.pointer (some ⟨bt, 0, none⟩))).set_ 1 (.int .i64 (ak : Int)); simpa using this)
                have HUF := Lib.hid (show ∀ x, G x → G3 x from fun x hx => by rw [hG3]; exact Or.inl (HI.out.up x (HL5.out.up x hx)))
                have HDF := Lib.hid hdn3
                have hd0 : decide ((0 : Int) ≤ (ak : Int)) = true := decide_eq_true (by omega)
                clear hfin hpl hG3 hdn3 hn7 hne hgr B3 B4 HI HPL HC
                have cB7 := B7.cell
                have fB7 := B7.frozen
                have lB7 := B7.lt
                go_upto_region 22 with fail
                clear cB7 fB7 lB7
                clear B7
                generalize (wr.setCell ⟨b7, 0, none⟩ (.pointer (some ⟨bt, 0, none⟩))).setCell ⟨b7, 1, none⟩ (.int .i64 (ak : Int)) = W8 at *
                have HSF := Lib.hid HS7.out
                have HRF := Lib.hid (show ResP G3 W8 r (some (bt, ak)) from by rw [hr]; exact ⟨rfl, HAT.out⟩)
                have HGF := Lib.hid HG7.out
                have B3 := HB37.out
                have B4 := HB47.out
                have B7 := HB77.out
                have BP := HT.out.p_ HS7.out
                clear hr HS7 HAT HG7 HB37 HB47 HB77
                have cBP := BP.cell
                have fBP := BP.frozen
                have lBP := BP.lt
                have cB3 := B3.cell
                have fB3 := B3.frozen
                have lB3 := B3.lt
                have cB4 := B4.cell
                have fB4 := B4.frozen
                have lB4 := B4.lt
                have cB7 := B7.cell
                have fB7 := B7.frozen
                have lB7 := B7.lt
                go_still_tail 6, (by kernel_rfl)
                have HDW := Lib.hid (Below.refl W8.heap.size W8).drew
                have HMP := Lib.hid ((HSF.out.via HDW.out hbm).mp)
                have HRM := Lib.hid ((HSF.out.via HDW.out hbm).room hn10 hW2)
                have HSG := Lib.hid (HSF.out.via HDW.out hbm)
                have HRG := Lib.hid (HRF.out.via HDW.out)
                have HGG := Lib.hid (HGF.out.trans (grownOf HDW.out _))
                have HB49 := Lib.hid (B4.via HDW.out)
                have HB79 := Lib.hid (B7.via HDW.out)
                clear cBP fBP lBP cB3 fB3 lB3 cB4 fB4 lB4 cB7 fB7 lB7
                clear HSF HRF HGF HDW BP B3 B4 B7
                change wpList _ _ _ _ _ W8.drew
                generalize W8.drew = W9 at *
                go_upto_region 23 with (at_mapUpdate; refine wpList_put_K rfl pl_keyed 94 Tryd.underlying94 plVal_inj _ _ _ rfl bm (n, k) (.agg #[.pointer (some ⟨bt, 0, none⟩), .int .i64 (ak : Int)]) rfl rfl rfl HMP.out HKL.out HRM.out ?_; intro w7 hp7 hg7 hz7)
                have HPU := Lib.hid (HSG.out.put (q := (some (bt, ak))) ⟨hn, hk⟩ ⟨d + 1, r, HPG.out, HRG.out⟩ hg7 hp7)
                have hag : Agr G3 W9 w7 := Agr.grown hg7 fun x hx e => HSG.out.nm hx (Option.some.inj e)
                have HR7 := Lib.hid (HRG.out.agr hag)
                have B4 := HB49.out.grown hg7 (fun e => by have := Option.some.inj e; omega)
                have B7 := HB79.out.grown hg7 (fun e => by have := Option.some.inj e; omega)
                have HG7 := Lib.hid (HGG.out.trans hg7)
                have HGN := Lib.hid (show ∀ b, G3 b → b ≠ b4 from fun b hb e => by
                  rcases HDF.out b hb with h | h
                  · have := (HS0.out.good b h).1.lt; have := HB3E.out; omega
                  · omega)
                have HWX := Lib.hid (show w.heap.size ≤ b3 from by rw [HB3E.out]; exact Nat.le_refl _)
                clear hag hg7 hp7 hz7 HRM HMP HKL HRG HSG HB49 HB79 HGG
                have cB4 := B4.cell
                have fB4 := B4.frozen
                have lB4 := B4.lt
                have cB7 := B7.cell
                have fB7 := B7.frozen
                have lB7 := B7.lt
                go_wp2_with fail
                refine bodyPost_ret (v := (.agg #[.pointer (some ⟨bt, 0, none⟩), .int .i64 (ak : Int)])) (by simp [results, Tryd.results46, go_sem, cB4]) rfl ⟨(some (bt, ak)), G3, _, rfl, (HPU.out.far hbm (p := ⟨b4, 0, none⟩) (by simp only; omega) (fun h => HGN.out _ h rfl) _).far hbm (p := ⟨b4, 1, none⟩) (by simp only; omega) (fun h => HGN.out _ h rfl) _, HUF.out, fun x hx => (HDF.out x hx).imp_right fun h => by have := HWX.out; omega, ?_, ?_⟩
                · exact HR7.out.agr ((Agr.setCell (p := ⟨b4, 0, none⟩) _ fun b hb => HGN.out b hb).trans (Agr.setCell (p := ⟨b4, 1, none⟩) _ fun b hb => HGN.out b hb))
                · exact grown_far (grown_far HG7.out (grownBySet _ b4 _ _) (fun b e => by have := Option.some.inj e; have := HWX.out; omega)) (grownBySet _ b4 _ _) (fun b e => by have := Option.some.inj e; have := HWX.out; omega)
          · have e1 : ((sl : Int) != (n : Int)) = true := bne_iff_ne.2 (by omega)
            have HSL := Lib.hid hsl
            clear hsl
            have cBX := BX.cell
            have fBX := BX.frozen
            have lBX := BX.lt
            have cB3 := B3.cell
            have fB3 := B3.frozen
            have lB3 := B3.lt
            go_wp2_with fail
            exact ⟨⟨i + 1, G1, M1, by go_num, by omega, HL5, Lib.hid (by have := HC.out; rw [HDR.out, pgC_skip HSL.out] at this; exact this)⟩, by simp [intOf]; omega⟩
        · obtain rfl : i = ng := by omega
          have hrn : r = none := by
            have := HC.out
            rw [List.drop_of_length_le (by rw [HT.out.rules.len]; exact Nat.le_refl _)] at this
            simp only [pgC, Option.some.injEq] at this
            exact this.symm
          have HSF := Lib.hid HL.out.s
          have HRF := Lib.hid (show ResP G1 wr r none from by rw [hrn]; exact trivial)
          have HGF := Lib.hid (show w.grownBy wr (some bm) from (grownOf HBW.out _).trans HL.out.gr)
          have HUF := Lib.hid HL.out.up
          have HDF := Lib.hid HL.out.dn
          have hne : ∀ b, b ≠ bm → some b ≠ some bm := fun b h e => h (Option.some.inj e)
          have B3 := HB34.out.grown HL.out.gr (hne _ (by omega))
          have B4 := HB44.out.grown HL.out.gr (hne _ (by omega))
          have B7 := HB7.out.grown HL.out.gr (hne _ (by omega))
          have BP := HT.out.p_ HL.out.s
          clear hne HL HC hrn
          have cBP := BP.cell
          have fBP := BP.frozen
          have lBP := BP.lt
          have cB3 := B3.cell
          have fB3 := B3.frozen
          have lB3 := B3.lt
          have cB4 := B4.cell
          have fB4 := B4.frozen
          have lB4 := B4.lt
          have cB7 := B7.cell
          have fB7 := B7.frozen
          have lB7 := B7.lt
          go_upto_region 22 with fail
          go_still_tail 6, (by kernel_rfl)
          have HDW := Lib.hid (Below.refl wr.heap.size wr).drew
          have HMP := Lib.hid ((HSF.out.via HDW.out hbm).mp)
          have HRM := Lib.hid ((HSF.out.via HDW.out hbm).room hn10 hW2)
          have HSG := Lib.hid (HSF.out.via HDW.out hbm)
          have HRG := Lib.hid (HRF.out.via HDW.out)
          have HGG := Lib.hid (HGF.out.trans (grownOf HDW.out _))
          have HB49 := Lib.hid (B4.via HDW.out)
          have HB79 := Lib.hid (B7.via HDW.out)
          clear cBP fBP lBP cB3 fB3 lB3 cB4 fB4 lB4 cB7 fB7 lB7
          clear HSF HRF HGF HDW BP B3 B4 B7
          change wpList _ _ _ _ _ wr.drew
          generalize wr.drew = W9 at *
          go_upto_region 23 with (at_mapUpdate; refine wpList_put_K rfl pl_keyed 94 Tryd.underlying94 plVal_inj _ _ _ rfl bm (n, k) (.agg #[.pointer none, .int .i64 (-1)]) rfl rfl rfl HMP.out HKL.out HRM.out ?_; intro w7 hp7 hg7 hz7)
          have HPU := Lib.hid (HSG.out.put (q := none) ⟨hn, hk⟩ ⟨d + 1, r, HPG.out, HRG.out⟩ hg7 hp7)
          have hag : Agr G1 W9 w7 := Agr.grown hg7 fun x hx e => HSG.out.nm hx (Option.some.inj e)
          have HR7 := Lib.hid (HRG.out.agr hag)
          have B4 := HB49.out.grown hg7 (fun e => by have := Option.some.inj e; omega)
          have B7 := HB79.out.grown hg7 (fun e => by have := Option.some.inj e; omega)
          have HG7 := Lib.hid (HGG.out.trans hg7)
          have HGN := Lib.hid (show ∀ b, G1 b → b ≠ b4 from fun b hb e => by
            rcases HDF.out b hb with h | h
            · have := (HS0.out.good b h).1.lt; have := HB3E.out; omega
            · omega)
          have HWX := Lib.hid (show w.heap.size ≤ b3 from by rw [HB3E.out]; exact Nat.le_refl _)
          clear hag hg7 hp7 hz7 HRM HMP HKL HRG HSG HB49 HB79 HGG
          have cB4 := B4.cell
          have fB4 := B4.frozen
          have lB4 := B4.lt
          have cB7 := B7.cell
          have fB7 := B7.frozen
          have lB7 := B7.lt
          go_wp2_with fail
          refine bodyPost_ret (v := (.agg #[.pointer none, .int .i64 (-1)])) (by simp [results, Tryd.results46, go_sem, cB4]) rfl ⟨none, G1, _, rfl, (HPU.out.far hbm (p := ⟨b4, 0, none⟩) (by simp only; omega) (fun h => HGN.out _ h rfl) _).far hbm (p := ⟨b4, 1, none⟩) (by simp only; omega) (fun h => HGN.out _ h rfl) _, HUF.out, fun x hx => (HDF.out x hx).imp_right fun h => by have := HWX.out; omega, ?_, ?_⟩
          · exact HR7.out.agr ((Agr.setCell (p := ⟨b4, 0, none⟩) _ fun b hb => HGN.out b hb).trans (Agr.setCell (p := ⟨b4, 1, none⟩) _ fun b hb => HGN.out b hb))
          · exact grown_far (grown_far HG7.out (grownBySet _ b4 _ _) (fun b e => by have := Option.some.inj e; have := HWX.out; omega)) (grownBySet _ b4 _ _) (fun b e => by have := Option.some.inj e; have := HWX.out; omega)
set_option maxRecDepth 100000 in
set_option maxHeartbeats 8000000 in
theorem psym_n (wS : World) (bp bm : Nat) (g : Gr) (W : List Nat) (Ag : Option Addr) (ng cg : Nat) (A : Option Addr) (c : Nat) (hT : PaT wS bp bm g W Ag ng cg A c) (d : Nat) :
    ∀ (s : Sy) (k : Nat) (r : Option (Tr × Nat)) (G : Nat → Prop) (M : Nat × Nat → Option (Option (Nat × Nat))) (w : World), pg g.rules W d s k = some r → g.okSy s → k ≤ W.length → PaS wS bm g W G M w →
      Calls Tryd.prog 67 #[.pointer (some ⟨bp, 0, none⟩), .agg #[.bool s.1, .int .i64 (s.2 : Int)], .int .i64 (k : Int)] w (SymP wS bm g W G w r) := by
  induction d with
  | zero => intro s k r G M w h; simp [pg] at h
  | succ d ih =>
    intro s k r G M w hp hok hk hs
    obtain ⟨sb, sn⟩ := s
    have hbm := hT.mp.1
    have hsz := hs.sz
    have HPC := Lib.hid (show ∀ w', PaS wS bm g W G M w' → sb = false → Calls Tryd.prog 46 #[.pointer (some ⟨bp, 0, none⟩), .agg #[.int .i64 (sn : Int), .int .i64 (k : Int)]] w' (SymP wS bm g W G w' r) from fun w' hs' hb => by
      subst hb
      exact pparse_c wS bp bm g W Ag ng cg A c hT d ih sn k r G M w' hp (by simpa [Gr.okSy] using hok) hk hs')
    have HT := Lib.hid hT
    have HP := Lib.hid hp
    have HS0 := Lib.hid hs
    have hal := ((Below.refl w.heap.size w).al (.cells #[.bool sb, .int .i64 (sn : Int)] 54)).al (.cells #[.pointer none, .int .i64 0] 98)
    have B4 := (Blk.new w 54 #[.bool sb, .int .i64 (sn : Int)]).al (.cells #[.pointer none, .int .i64 0] 98)
    have B6 := Blk.newAt (w.alloc (.cells #[.bool sb, .int .i64 (sn : Int)] 54)) 98 #[.pointer none, .int .i64 0] (w.heap.size + 1) (by simp)
    have HS := Lib.hid (hs.via hal hbm)
    have HB := Lib.hid hal
    have HB4 := Lib.hid B4
    have HB6 := Lib.hid B6
    have hsz2 : w.heap.size + 2 ≤ ((w.alloc (.cells #[.bool sb, .int .i64 (sn : Int)] 54)).alloc (.cells #[.pointer none, .int .i64 0] 98)).heap.size := by simp
    clear hT ih hp hs hal B6
    go_enter Tryd.func67, Tryd.ntmps67
    go_upto_region 1 with fail
    generalize (w.alloc (.cells #[.bool sb, .int .i64 (sn : Int)] 54)).alloc (.cells #[.pointer none, .int .i64 0] 98) = W1 at *
    obtain ⟨b6, hb6⟩ : ∃ b6, b6 = w.heap.size + 1 := ⟨_, rfl⟩
    rw [← hb6] at HB6 ⊢
    have hb6s : w.heap.size < b6 := by omega
    have HG6 := Lib.hid (show ¬ G b6 from fun h => by have := (HS0.out.good _ h).1.lt; omega)
    clear hb6
    cases sb with
    | false =>
      have cB4 := B4.cell
      have fB4 := B4.frozen
      have lB4 := B4.lt
      go_wp2_with fail
      clear cB4 fB4 lB4
      refine (HPC.out W1 HS.out (by first | rfl | trivial)).mono ?_
      rintro e w2 ⟨q, G', M', rfl, hs2, hup, hdn, hres, hgr⟩
      obtain ⟨rp, re, hrv⟩ := resV_two q
      rw [hrv]
      have HRV := Lib.hid hrv
      have B6 := HB6.out.grown hgr (fun e => by have := Option.some.inj e; have := HS0.out.sz; omega)
      have hn6 : ¬ G' b6 := fun h => by
        rcases hdn _ h with h | h
        · exact HG6.out h
        · have := HB6.out.lt; omega
      have HF := Lib.hid ((hs2.far hbm (p := ⟨b6, 0, none⟩) (by simp only; omega) hn6 (.pointer rp)).far hbm (p := ⟨b6, 1, none⟩) (by simp only; omega) hn6 (.int .i64 re))
      have HR := Lib.hid (hres.agr ((Agr.setCell (p := ⟨b6, 0, none⟩) (.pointer rp) fun b hb e => by have e' : b = b6 := e; rw [e'] at hb; exact hn6 hb).trans (Agr.setCell (p := ⟨b6, 1, none⟩) (.int .i64 re) fun b hb e => by have e' : b = b6 := e; rw [e'] at hb; exact hn6 hb)))
      have HGR := Lib.hid (show w.grownBy _ (some bm) from grown_far (grown_far ((grownOf HB.out _).trans hgr) (grownBySet w2 b6 0 (.pointer rp)) (fun b e => by have := Option.some.inj e; omega)) (grownBySet _ b6 1 (.int .i64 re)) (fun b e => by have := Option.some.inj e; omega))
      clear hs2 hres hgr hn6 hrv HPC
      have cB6 := B6.cell
      have fB6 := B6.frozen
      have lB6 := B6.lt
      go_wp2_with fail
      refine bodyPost_ret (v := .agg #[.pointer rp, .int .i64 re]) (by simp [results, Tryd.results67, go_sem, cB6]) rfl ⟨q, G', M', by rw [HRV.out], HF.out, hup, fun x hx => (hdn x hx).imp_right fun h => by omega, HR.out, HGR.out⟩
    | true =>
      clear HPC
      have hpr := HP.out
      rw [pg, if_pos rfl] at hpr
      have BP := HT.out.p_ HS.out
      have HWD := Lib.hid (HT.out.wd_ HS.out)
      have hxl := HWD.out.len
      have hka : k < W.length ∨ k = W.length := by omega
      by_cases hkl : k < W.length
      · obtain ⟨bw, ow, hA, -, hcw⟩ := HWD.out.at_ hkl
        have hgd : (intsN W).getD k 0 = ((W[k]'hkl : Nat) : Int) := by
          unfold intsN
          rw [List.getD_eq_getElem?_getD, List.getElem?_map, List.getElem?_eq_getElem hkl]; rfl
        rw [hgd] at hcw
        subst hA
        have hwk : W[k]? = some (W[k]'hkl) := List.getElem?_eq_getElem hkl
        obtain ⟨a, ha⟩ : ∃ a, a = W[k]'hkl := ⟨_, rfl⟩
        rw [← ha] at hcw hwk
        rw [hwk] at hpr
        have k0 : (0 : Int) ≤ (k : Int) := by omega
        have k1 : (k : Int) < (W.length : Int) := by omega
        have e1 : ((k : Int) == (W.length : Int)) = false := by simp; omega
        have HWK := Lib.hid hwk
        clear ha hgd hxl hka HWD hwk
        by_cases has : a = sn
        · subst has
          rw [if_pos rfl] at hpr
          have HRN := Lib.hid (Option.some.inj hpr).symm
          have e2 : ((a : Int) != (a : Int)) = false := by simp
          clear hpr
          have cBP := BP.cell
          have fBP := BP.frozen
          have lBP := BP.lt
          have cB4 := B4.cell
          have fB4 := B4.frozen
          have lB4 := B4.lt
          go_upto_region 3 with fail
          go_quiet (fail)
          have HDN := Lib.hid (below_drewN (Below.refl W1.heap.size W1) nq)
          have HS2 := Lib.hid (HS.out.via HDN.out hbm)
          have HB2 := Lib.hid (HB.out.trans (HDN.out.mono (by omega)))
          have B62 := Lib.hid (HB6.out.via HDN.out)
          have B42 := Lib.hid (HB4.out.via HDN.out)
          have hs2 : w.heap.size + 2 ≤ (W1.drewN nq).heap.size := by have := HDN.out.size; omega
          clear cBP fBP lBP cB4 fB4 lB4
          clear BP B4 HDN HS HB HB6 HB4 hcw
          generalize W1.drewN nq = W2 at *
          have B4 := B42.out
          have cB4 := B4.cell
          have fB4 := B4.frozen
          have lB4 := B4.lt
          go_wp2_with fail
          clear cB4 fB4 lB4
          clear B4
          refine (leafK_c a W2).mono ?_
          rintro e w3 ⟨rfl, hb3⟩
          simp only [trVal]
          have hb4 := hb3.trans (((Below.refl w3.heap.size w3).al (.cells #[.int .i64 (-1), .int .i64 (a : Int), .slice none 0 0] 34)).mono hb3.size)
          have HS4 := Lib.hid (HS2.out.via hb4 hbm)
          have HB4 := Lib.hid (HB2.out.trans (hb4.mono HB2.out.size))
          have BT := Lib.hid (Blk.new w3 34 #[.int .i64 (-1), .int .i64 (a : Int), .slice none 0 0])
          have B6 := B62.out.via hb4
          have hb63 : b6 < w3.heap.size := by have := B62.out.lt; have := hb3.size; omega
          have hs3 : w.heap.size + 2 ≤ w3.heap.size := by have := hb3.size; omega
          clear hb3 hb4 HS2 HB2 B62 B42
          go_upto_region 6 with fail
          generalize w3.alloc (.cells #[.int .i64 (-1), .int .i64 (a : Int), .slice none 0 0] 34) = W5 at *
          obtain ⟨bt, hbt⟩ : ∃ bt, bt = w3.heap.size := ⟨_, rfl⟩
          rw [← hbt] at BT ⊢
          have hbt6 : b6 < bt := by omega
          have hbtw : w.heap.size ≤ bt ∧ wS.heap.size ≤ bt := by omega
          clear hbt
          have HS5 := Lib.hid (show PaS wS bm g W (fun x => G x ∨ x = bt) M W5 from HS4.out.more (fun b h => Or.inl h) fun b h => by
            rcases h with h | rfl
            · exact HS4.out.good b h
            · exact ⟨BT.out.okC, hbtw.2⟩)
          have hn6 : ¬ (G b6 ∨ b6 = bt) := fun h => by
            rcases h with h | h
            · exact HG6.out h
            · omega
          have hAT : AtT (fun x => G x ∨ x = bt) W5 bt 0 (.leaf a) := ⟨(-1, (a : Int), none, 0, 0), .leaf a none 0, Or.inr rfl, fun j u hu => by
            rw [Nat.zero_add, BT.out.cell j, List.getElem?_toArray]; exact hu⟩
          have HF := Lib.hid ((HS5.out.far hbm (p := ⟨b6, 0, none⟩) (by simp only; omega) hn6 (.pointer (some ⟨bt, 0, none⟩))).far hbm (p := ⟨b6, 1, none⟩) (by simp only; omega) hn6 (.int .i64 ((k : Int) + 1)))
          have HR := Lib.hid (hAT.agr ((Agr.setCell (p := ⟨b6, 0, none⟩) (.pointer (some ⟨bt, 0, none⟩)) fun b hb e => by have e' : b = b6 := e; rw [e'] at hb; exact hn6 hb).trans (Agr.setCell (p := ⟨b6, 1, none⟩) (.int .i64 ((k : Int) + 1)) fun b hb e => by have e' : b = b6 := e; rw [e'] at hb; exact hn6 hb)))
          have hwl := HT.out.wl
          clear HS4 HS5 hn6 hAT BT
          have cB6 := B6.cell
          have fB6 := B6.frozen
          have lB6 := B6.lt
          go_wp2_with fail
          refine bodyPost_ret (v := .agg #[.pointer (some ⟨bt, 0, none⟩), .int .i64 ((k : Int) + 1)]) (by simp [results, Tryd.results67, go_sem, cB6]) rfl ⟨some (bt, k + 1), fun x => G x ∨ x = bt, M, rfl, HF.out, fun x h => Or.inl h, fun x h => ?_, ?_, grownOf ((HB4.out.setCell (by simp; omega) _).setCell (by simp; omega) _) _⟩
          · rcases h with h | rfl
            · exact Or.inl h
            · exact Or.inr hbtw.1
          · rw [HRN.out]; exact ⟨rfl, HR.out⟩
        · have hne : ¬ (some a = some sn) := fun e => has (Option.some.inj e)
          rw [if_neg hne] at hpr
          have HRN := Lib.hid (Option.some.inj hpr).symm
          have e2 : ((a : Int) != (sn : Int)) = true := bne_iff_ne.2 (by omega)
          clear hpr has hne
          have cBP := BP.cell
          have fBP := BP.frozen
          have lBP := BP.lt
          have cB4 := B4.cell
          have fB4 := B4.frozen
          have lB4 := B4.lt
          go_upto_region 3 with fail
          go_quiet (fail)
          have HDN := Lib.hid (below_drewN (Below.refl W1.heap.size W1) nq)
          have HS2 := Lib.hid (HS.out.via HDN.out hbm)
          have HB2 := Lib.hid (HB.out.trans (HDN.out.mono (by omega)))
          have B6 := HB6.out.via HDN.out
          clear cBP fBP lBP cB4 fB4 lB4
          clear BP B4 HDN HS HB HB6
          generalize W1.drewN nq = W2 at *
          have cB6 := B6.cell
          have fB6 := B6.frozen
          have lB6 := B6.lt
          go_wp2_with fail
          refine bodyPost_ret (v := .agg #[.pointer none, .int .i64 (-1)]) (by simp [results, Tryd.results67, go_sem, cB6]) rfl ⟨none, G, M, rfl, (HS2.out.far hbm (p := ⟨b6, 0, none⟩) (by simp only; omega) HG6.out _).far hbm (p := ⟨b6, 1, none⟩) (by simp only; omega) HG6.out _, fun x h => h, fun x h => Or.inl h, by rw [HRN.out]; exact trivial, grownOf ((HB2.out.setCell (by simp; omega) _).setCell (by simp; omega) _) _⟩
      · obtain rfl : k = W.length := by omega
        rw [List.getElem?_eq_none (Nat.le_refl _), if_neg (by simp)] at hpr
        have HRN := Lib.hid (Option.some.inj hpr).symm
        have e1 : ((W.length : Int) == (W.length : Int)) = true := by simp
        clear hpr hxl hka HWD hkl
        have cBP := BP.cell
        have fBP := BP.frozen
        have lBP := BP.lt
        have cB4 := B4.cell
        have fB4 := B4.frozen
        have lB4 := B4.lt
        go_upto_region 3 with fail
        go_quiet (fail)
        have HDN := Lib.hid (below_drewN (Below.refl W1.heap.size W1) nq)
        have HS2 := Lib.hid (HS.out.via HDN.out hbm)
        have HB2 := Lib.hid (HB.out.trans (HDN.out.mono (by omega)))
        have B6 := HB6.out.via HDN.out
        clear cBP fBP lBP cB4 fB4 lB4
        clear BP B4 HDN HS HB HB6
        generalize W1.drewN nq = W2 at *
        have cB6 := B6.cell
        have fB6 := B6.frozen
        have lB6 := B6.lt
        go_wp2_with fail
        refine bodyPost_ret (v := .agg #[.pointer none, .int .i64 (-1)]) (by simp [results, Tryd.results67, go_sem, cB6]) rfl ⟨none, G, M, rfl, (HS2.out.far hbm (p := ⟨b6, 0, none⟩) (by simp only; omega) HG6.out _).far hbm (p := ⟨b6, 1, none⟩) (by simp only; omega) HG6.out _, fun x h => h, fun x h => Or.inl h, by rw [HRN.out]; exact trivial, grownOf ((HB2.out.setCell (by simp; omega) _).setCell (by simp; omega) _) _⟩
end Go.Proofs.YtfmnmgnhanogmaaDoor

