/- Texts BT, laid together. -/
import Derived.Test.YthiikgjeamoocaaDoorQ11


namespace Go.Proofs.YthiikgjeamoocaaDoor
open Go.RowKit

def BuildP (w : World) (D : Ky → Bool) (R : List Ru) (root : Ky) (most : Nat) (e : Ending) (w' : World) : Prop :=
  ∃ f v b, e = .returned (.tuple #[v, .bool b]) ∧ IsFo D R root most f b ∧ FoR (fun b => w.heap.size ≤ b) w' v f ∧ Below w.heap.size w w'
set_option maxRecDepth 100000 in
set_option maxHeartbeats 8000000 in
theorem build_c (ok : Nat → Prop) (g : Gr) (Ag : Option Addr) (ng cg : Nat) (A : Option Addr) (n c ob oo oc : Nat) (rb ro rc : Nat → Nat) (xs : List Int) (E : EnS) (most : Nat) (w : World) (hg : g.Ok) (hl : Sl RuE ok w Ag ng cg g.rules) (hx : Ints w A n c xs) (hE : EnV w ob oo g.nons n rb ro rc E) (hT : TabW w) (hsup : SupE n E) (hn : n ≤ 12) (hm : most ≤ 1099511627776) :
    Calls Tryd.prog 46 #[grVal g Ag ng cg, .slice A n c, .slice (some ⟨ob, oo, none⟩) g.nons oc, .int .i64 (most : Int)] w (BuildP w (dOf xs E) g.rules ((false, g.start), 0, n) most) := by
  have hst := hg.start
  have t1 := hE.cell1 hst
  have t2 := hE.cell2 hst (Nat.zero_le n)
  simp only [Nat.add_zero] at t2
  have hxl := hx.len
  subst hxl
  have hbE : E g.start 0 < 2 ^ (xs.length + 1) := lt_of_bits fun j hj => (hsup _ _ j hj).2
  have p13 := pow13 hn
  obtain ⟨y, hy⟩ : ∃ y, y = E g.start 0 := ⟨_, rfl⟩
  have hyl : y < 8192 := by rw [hy]; omega
  rw [← hy] at t2
  obtain ⟨Q, R, q1, q2, q3⟩ := bit_of0 y xs.length hyl
  have hyD : y.testBit xs.length = dOf xs E ((false, g.start), 0, xs.length) := by rw [hy, dOf_non]
  rw [hyD] at q3
  have HO := Lib.hid hl
  have HX := Lib.hid hx
  have HE := Lib.hid hE
  have HT := Lib.hid hT
  have HS := Lib.hid hsup
  have HG := Lib.hid hg
  clear hl hx hE hT hsup hg hy hbE hyD p13
  simp only [grVal]
  go_enter Tryd.func46, Tryd.ntmps46
  go_wp2_with fail
  refine (gNk_c _ _).mono ?_
  rintro e w1 ⟨rfl, hb1⟩
  dsimp only
  have hbw := (((Below.refl w.heap.size w).al (.cells #[.int .i64 (g.terms : Int), .int .i64 (g.nons : Int), .int .i64 (g.start : Int), .slice Ag ng cg] 24)).al (.cells #[.slice none 0 0, .int .i64 0] 80)).via hb1
  have BG := ((Blk.new w 24 #[.int .i64 (g.terms : Int), .int .i64 (g.nons : Int), .int .i64 (g.start : Int), .slice Ag ng cg]).al (.cells #[.slice none 0 0, .int .i64 0] 80)).via hb1
  have BF := (Blk.newAt (w.alloc (.cells #[.int .i64 (g.terms : Int), .int .i64 (g.nons : Int), .int .i64 (g.start : Int), .slice Ag ng cg] 24)) 80 #[.slice none 0 0, .int .i64 0] (w.heap.size + 1) (by simp)).via hb1
  have hsz1 : w.heap.size + 2 ≤ w1.heap.size := by have := hb1.size; simp at this; omega
  have hal := (Below.refl w1.heap.size w1).al (.cells #[.bool false, .int .i64 (g.start : Int), .int .i64 0, .int .i64 (xs.length : Int)] 127)
  replace hbw := hbw.via hal
  replace BG := BG.via hal
  replace BF := BF.via hal
  have BR := Blk.new w1 127 #[.bool false, .int .i64 (g.start : Int), .int .i64 0, .int .i64 (xs.length : Int)]
  have d1 := (hbw.cell (World.block_lt_of_cell? _ _ t1)).trans t1
  have d2 := (hbw.cell (World.block_lt_of_cell? _ _ t2)).trans t2
  have e3 : (0 : Int) ≤ (xs.length : Int) := by omega
  clear t1 t2 hb1 hal
  have HBW := Lib.hid hbw
  have HBG := Lib.hid BG
  have HBF := Lib.hid BF
  have HBR := Lib.hid BR
  cases hd : dOf xs E ((false, g.start), 0, xs.length) with
  | false =>
    have HD := Lib.hid hd
    rw [hd] at q3
    clear hd hbw
    have cBG := BG.cell
    have fBG := BG.frozen
    have lBG := BG.lt
    have cBF := BF.cell
    have fBF := BF.frozen
    have lBF := BF.lt
    go_wp2_with fail
    have B2 := (HBF.out.set_ 0 (.slice none 0 0)).set_ 1 (.int .i64 (-1))
    simp only [List.setIfInBounds_toArray, List.set_cons_zero, List.set_cons_succ] at B2
    have c2 := B2.cell
    refine bodyPost_ret (v := .tuple #[.agg #[.slice none 0 0, .int .i64 (-1)], .bool true]) (by simp [results, Tryd.results46, go_sem, c2]) rfl ⟨_, _, _, rfl, .none HD.out, FoR.nil _ _ _, ?_⟩
    exact (HBW.out.setCell (p := ⟨w.heap.size + 1, 0, none⟩) (by show w.heap.size ≤ w.heap.size + 1; omega) _).setCell (p := ⟨w.heap.size + 1, 1, none⟩) (by show w.heap.size ≤ w.heap.size + 1; omega) _
  | true =>
    have HD := Lib.hid hd
    rw [hd] at q3
    clear hd hbw
    have cBG := BG.cell
    have fBG := BG.frozen
    have lBG := BG.lt
    go_upto_region 4 with fail
    clear d1 d2 q1 q2 q3
    clear cBG fBG lBG
    clear BG BF BR e3 hyl
    generalize w1.alloc (.cells #[.bool false, .int .i64 (g.start : Int), .int .i64 0, .int .i64 (xs.length : Int)] 127) = w2 at *
    generalize w1.heap.size = bR at *
    have hal3 := ((Below.refl w2.heap.size w2).al (.map #[] 0)).al (.cells #[.bool false, .int .i64 (g.start : Int), .int .i64 0, .int .i64 (xs.length : Int)] 127)
    have hal5 := hal3.al (.map #[] 0)
    have hs4 : ((w2.alloc (.map #[] 0)).alloc (.cells #[.bool false, .int .i64 (g.start : Int), .int .i64 0, .int .i64 (xs.length : Int)] 127)).heap.size = w2.heap.size + 1 + 1 := by simp
    have hMP := ((MapK.made w2 Tryd.prog 127 kyVal).al (.cells #[.bool false, .int .i64 (g.start : Int), .int .i64 0, .int .i64 (xs.length : Int)] 127)).al (.map #[] 0)
    have hMS := MapK.made ((w2.alloc (.map #[] 0)).alloc (.cells #[.bool false, .int .i64 (g.start : Int), .int .i64 0, .int .i64 (xs.length : Int)] 127)) Tryd.prog 127 kyVal
    rw [hs4] at hMS
    have hOL : Own KyE 127 (fun _ => False) ((w2.alloc (.map #[] 0)).alloc (.cells #[.bool false, .int .i64 (g.start : Int), .int .i64 0, .int .i64 (xs.length : Int)] 127)) w.heap.size (.slice (some ⟨w2.heap.size + 1, 0, none⟩) 1 1) 1 [((false, g.start), 0, xs.length)] := by
      have h := World.ownsRow_lit (base := w.heap.size) (e := 127) (size := KyE.k) (w2.alloc (.map #[] 0)) #[.bool false, .int .i64 (g.start : Int), .int .i64 0, .int .i64 (xs.length : Int)] 1 (by have := HBW.out.size; simp; omega) (by simp [maxLen]) rfl
      rw [World.size_alloc] at h
      exact ⟨rfl, [((false, g.start), 0, xs.length)], rfl, h, fun i r x hr hx => by rw [hr] at hx; exact Option.some.inj hx⟩
    have hrok : KyOk g xs.length ((false, g.start), 0, xs.length) := ⟨by simpa [Gr.okSy] using hst, Nat.zero_le _, Nat.le_refl _⟩
    obtain ⟨kl, hkl⟩ := hrok.key HG.out hn
    obtain ⟨w6, hrun, hMS6, hg6, hz6⟩ := hMS.store key_keyed Tryd.underlying130 kyVal_inj ((false, g.start), 0, xs.length) (.bool true) hkl (key_room hMS (fun k h => absurd rfl h) HG.out hn)
    have hru : (Instr.mapUpdate 130 (.map (some (w2.heap.size + 1 + 1))) (.agg #[.bool false, .int .i64 (g.start : Int), .int .i64 0, .int .i64 (xs.length : Int)]) (.bool true)).run Tryd.prog (((w2.alloc (.map #[] 0)).alloc (.cells #[.bool false, .int .i64 (g.start : Int), .int .i64 0, .int .i64 (xs.length : Int)] 127)).alloc (.map #[] 0)) = .ok () w6 := hrun
    have hmm := @run_makeMap Tryd.prog
    have hls : bR < w2.heap.size := HBR.out.lt
    have hlg : w.heap.size + 1 < w2.heap.size := HBF.out.lt
    have HW5 : WlM w g xs.length (dOf xs E) #[.int .i64 (g.terms : Int), .int .i64 (g.nons : Int), .int .i64 (g.start : Int), .slice Ag ng cg] w.heap.size bR (w.heap.size + 1) (w2.heap.size + 1 + 1) w2.heap.size ((false, g.start), 0, xs.length) [((false, g.start), 0, xs.length)] (.slice (some ⟨w2.heap.size + 1, 0, none⟩) 1 1) (fun _ => none) (fun _ => none) (((w2.alloc (.map #[] 0)).alloc (.cells #[.bool false, .int .i64 (g.start : Int), .int .i64 0, .int .i64 (xs.length : Int)] 127)).alloc (.map #[] 0)) :=
      ⟨HBW.out.via hal5, HBG.out.via hal5, HBR.out.via hal5, HBF.out.via hal5, hOL.al _, hMS, hMP, fun k h => absurd rfl h, fun k h => absurd rfl h, fun k V h => (by cases h), by omega, by omega, by simp [Value.ownBlock]; omega⟩
    have HWL := Lib.hid (HW5.mark (Sn' := memF [((false, g.start), 0, xs.length)]) (hMS6.ext fun z => by simp [memF]) (fun k hk => by
      by_cases e : k = ((false, g.start), 0, xs.length)
      · subst e; exact hrok
      · simp [memF, e] at hk) hg6)
    have BR := HBR.out
    have BR5 := HBR.out.via hal5
    have hbR : w.heap.size ≤ bR := by omega
    clear hMS6 HW5 hMS hMP hOL hal3 hal5 hrun hg6 hs4 hkl
    have cBR := BR.cell
    have fBR := BR.frozen
    have lBR := BR.lt
    have cBR5 := BR5.cell
    have fBR5 := BR5.frozen
    have lBR5 := BR5.lt
    go_upto_region 8 with fail
    clear cBR fBR lBR cBR5 fBR5 lBR5
    clear BR BR5 hru hmm hls hlg hz6 HBR HBW
    have HBR := HWL
    clear HBR
    have HOO := Lib.hid (show ∀ b, b < w.heap.size → b < w.heap.size from fun b h => h)
    clear HOO
    generalize w2.heap.size + 1 + 1 = bs at *
    generalize w2.heap.size + 1 = bl at *
    generalize w2.heap.size = bp at *
    generalize hb8 : w.heap.size + 1 = b8 at *
    have HB8 := Lib.hid hb8
    clear hb8
    have HK0 := Lib.hid (Wk.start (dOf xs E) g.rules ((false, g.start), 0, xs.length))
    go_wp2_with fail
    go_loopw [12, 14, 15] (fun v ct q wr => ∃ (L : List Ky) (cnt i : Nat) (F : Ky → Option Value), ct = .int .i64 (cnt : Int) ∧ q = .int .i64 (i : Int) ∧ Hid (WlM w g xs.length (dOf xs E) #[.int .i64 (g.terms : Int), .int .i64 (g.nons : Int), .int .i64 (g.start : Int), .slice Ag ng cg] w.heap.size bR b8 bs bp ((false, g.start), 0, xs.length) L v (memF L) F wr ∧ Wk (dOf xs E) g.rules ((false, g.start), 0, xs.length) L i ∧ cnt = cntP (dOf xs E) g.rules L i ∧ (∀ m k, m < i → L[m]? = some k → F k ≠ none)) ∧ cnt ≤ most ∧ i ≤ L.length ∧ L.length ≤ 3400) (fun _ _ q _ => 3401 - (intOf q).toNat)
    case atStart => exact ⟨[((false, g.start), 0, xs.length)], 0, 0, _, rfl, rfl, Lib.hid ⟨HWL.out, HK0.out, by simp [cntP], fun m k h => by omega⟩, Nat.zero_le _, Nat.zero_le _, by simp⟩
    case round =>
      obtain ⟨L, cnt, i, F, rfl, rfl, HR, hcm, hil, hl34⟩ := hrel
      clear HWL HK0
      obtain ⟨va, vc, rfl, hvc⟩ := HR.out.1.own.form
      have HSUP := Lib.hid (show ∀ k, dOf xs E k = true → k.2.1 ≤ k.2.2 ∧ k.2.2 ≤ xs.length from fun k h => dOf_le HS.out h)
      by_cases hiL : i < L.length
      · obtain ⟨b1, o1, k0, k, hva, -, hb1, hk, hkk, hcl⟩ := (HR.out.1.own.toSl (ok' := fun _ => True) (fun _ _ h => h.elim) (fun _ _ => trivial)).at_ hiL
        obtain rfl : k0 = k := hkk
        subst hva
        obtain ⟨⟨kb, kN⟩, ki, kj⟩ := k0
        have hkok := RchK.ok HG.out HSUP.out ⟨by simpa [Gr.okSy] using hst, Nat.zero_le _, Nat.le_refl _⟩ (HR.out.2.1.snd _ (List.mem_of_getElem? hk))
        have d1 := hcl 0 _ rfl
        have d2 := hcl 1 _ rfl
        have d3 := hcl 2 _ rfl
        have d4 := hcl 3 _ rfl
        simp only [KyE, Nat.add_zero] at d1 d2 d3 d4
        have BG := HR.out.1.gb
        have HKO := Lib.hid hkok
        have HK := Lib.hid hk
        have hkn := hkok.2
        simp only at hkn
        have SOF := Lib.hid (show ∀ w', Below wr.heap.size wr w' → ((∀ j, w'.cell? ⟨w.heap.size, j, none⟩ = #[.int .i64 (g.terms : Int), .int .i64 (g.nons : Int), .int .i64 (g.start : Int), .slice Ag ng cg][j]?) ∧ w'.cell? ⟨b1, o1 + i * 4, none⟩ = some (.bool kb) ∧ w'.cell? ⟨b1, o1 + i * 4 + 1, none⟩ = some (.int .i64 (kN : Int)) ∧ w'.cell? ⟨b1, o1 + i * 4 + 2, none⟩ = some (.int .i64 (ki : Int)) ∧ w'.cell? ⟨b1, o1 + i * 4 + 3, none⟩ = some (.int .i64 (kj : Int)) ∧ Below wr.heap.size wr w') from fun w' hb => ⟨(BG.via hb).cell, (hb.cell hb1).trans d1, (hb.cell hb1).trans d2, (hb.cell hb1).trans d3, (hb.cell hb1).trans d4, hb⟩)
        have JP := Lib.hid (show ∀ w', Below wr.heap.size wr w' → Calls Tryd.prog 57 #[.agg #[.int .i64 (g.terms : Int), .int .i64 (g.nons : Int), .int .i64 (g.start : Int), .slice Ag ng cg], .slice A xs.length c, .slice (some ⟨ob, oo, none⟩) g.nons oc, .agg #[.bool kb, .int .i64 (kN : Int), .int .i64 (ki : Int), .int .i64 (kj : Int)]] w' (PacksP w' (packsF (dOf xs E) g.rules ((kb, kN), ki, kj))) from fun w' hb => by
          have hbb := HR.out.1.bel.via hb
          exact packs_c ok g Ag ng cg A xs.length c ob oo g.nons oc rb ro rc xs E ((kb, kN), ki, kj) w' HG.out rfl (HO.out.via hbb) (HX.out.via hbb) (HE.out.via hbb) (HT.out.via hbb) HS.out hn ⟨by show ki ≤ xs.length; omega, hkn.2⟩)
        have hb0 := (Below.refl wr.heap.size wr).drew
        clear hcl hk hkok BG
        clear HBG HBF
        go_upto_region 11 with fail
        have hii : (i : Int) < (L.length : Int) := by omega
        have hi0 : (0 : Int) ≤ (i : Int) := by omega
        go_region_held3 (fun w' => (∀ j, w'.cell? ⟨w.heap.size, j, none⟩ = #[.int .i64 (g.terms : Int), .int .i64 (g.nons : Int), .int .i64 (g.start : Int), .slice Ag ng cg][j]?) ∧ w'.cell? ⟨b1, o1 + i * 4, none⟩ = some (.bool kb) ∧ w'.cell? ⟨b1, o1 + i * 4 + 1, none⟩ = some (.int .i64 (kN : Int)) ∧ w'.cell? ⟨b1, o1 + i * 4 + 2, none⟩ = some (.int .i64 (ki : Int)) ∧ w'.cell? ⟨b1, o1 + i * 4 + 3, none⟩ = some (.int .i64 (kj : Int)) ∧ Below wr.heap.size wr w') (exact SOF.out _ (by assumption)) (first
          | (go_at_call 57; (with_reducible refine (JP.out _ (by assumption)).mono ?_); rintro ee wk ⟨Ap, cp, rfl, hop, hbk⟩; have hbm : Below wr.heap.size wr wk := Below.via (by assumption) hbk))
        have hlp := packs_len (D := dOf xs E) (k := ((kb, kN), ki, kj)) (fun u hu => (HG.out.right u hu).1) HG.out.count (show kj ≤ 12 by omega)
        obtain ⟨pl, hpl⟩ : ∃ pl, pl = (packsF (dOf xs E) g.rules ((kb, kN), ki, kj)).length := ⟨_, rfl⟩
        rw [← hpl] at hlp
        simp only [← hpl] at hop ⊢
        have HPL := Lib.hid hpl
        have HOP := Lib.hid hop
        have HBM := Lib.hid hbm
        have HSZK := Lib.hid (show wr.heap.size ≤ wr.drew.heap.size by simp)
        have hwlk := HR.out.1.via hbm
        have e1 := (hbm.cell hb1).trans d1
        have e2 := (hbm.cell hb1).trans d2
        have e3 := (hbm.cell hb1).trans d3
        have e4 := (hbm.cell hb1).trans d4
        have HWK := Lib.hid hwlk
        have BF := hwlk.fb
        have hpk := hwlk.pk
        have hhR := HR.out.2
        have HHR := Lib.hid hhR
        have HRF := Lib.hid (show ∀ b, (Value.slice (some ⟨b1, o1, none⟩) L.length vc).ownBlock = some b → b < wr.heap.size from fun b e => (HR.out.1.own.lt b e).2)
        have HRP := Lib.hid (And.intro HR.out.1.pk.lt HR.out.1.seen.lt)
        obtain ⟨c2, hc2⟩ : ∃ c2, c2 = cnt + pl := ⟨_, rfl⟩
        have hcc : (cnt : Int) + (pl : Int) = (c2 : Int) := by omega
        have hc2l : c2 ≤ 1099512700000 := by omega
        have HC2 := Lib.hid hc2
        have HPC := Lib.hid (show c2 = cntP (dOf xs E) g.rules L (i + 1) by rw [cntP_next HK.out, ← HPL.out, hc2, hhR.2.1])
        clear hpl hop hbm hbk hb0 SOF JP d1 d2 d3 d4 HR hwlk hhR hc2
        by_cases hmo : most < c2
        · have hmo2 : (most : Int) < (c2 : Int) := by omega
          clear e1 e2 e3 e4 hpk
          have cBF := BF.cell
          have fBF := BF.frozen
          have lBF := BF.lt
          go_wp2_with fail
          have B2 := (HWK.out.fb.set_ 0 (.slice none 0 0)).set_ 1 (.int .i64 0)
          simp only [List.setIfInBounds_toArray, List.set_cons_zero, List.set_cons_succ] at B2
          have cc2 := B2.cell
          have h8 := HB8.out
          refine bodyPost_ret (v := .tuple #[.agg #[.slice none 0 0, .int .i64 0], .bool false]) (by simp [results, Tryd.results46, go_sem, cc2]) rfl ⟨_, _, _, rfl, .large HD.out (fun L' hL' => ?_), FoR.nil _ _ _, ?_⟩
          · have := HHR.out.1.cnt_le (m := i + 1) hL'
            rw [← HPC.out] at this
            omega
          · exact (HWK.out.bel.setCell (p := ⟨b8, 0, none⟩) (by show w.heap.size ≤ b8; omega) _).setCell (p := ⟨b8, 1, none⟩) (by show w.heap.size ≤ b8; omega) _
        · have hmo2 : ¬ (most : Int) < (c2 : Int) := by omega
          obtain ⟨kl, hkl⟩ := HKO.out.key HG.out hn
          have HKL := Lib.hid hkl
          have HRM := Lib.hid (key_room hpk HWK.out.fok HG.out hn)
          have HPK := Lib.hid hpk
          clear hkl hpk
          go_wp2_with (at_mapUpdate; refine wpList_put_K rfl key_keyed 128 Tryd.underlying128 kyVal_inj _ _ _ rfl bp ((kb, kN), ki, kj) (.slice Ap pl cp) rfl rfl rfl HPK.out HKL.out HRM.out ?_; intro w7 hp7 hg7 hz7)
          have HRS := HOP.out.toSl (ok' := okB w.heap.size bs bp (.slice (some ⟨b1, o1, none⟩) L.length vc)) (fun b _ hb => ⟨by have := HWK.out.ge; have h1 := HSZK.out; have h2 := HRP.out.1; omega, by have h1 := HSZK.out; have h2 := HRP.out.2; omega, by have h1 := HSZK.out; have h2 := HRP.out.1; omega, fun e => by have h1 := HSZK.out; have h2 := HRF.out b e.symm; omega⟩) (fun b hb => ⟨by have := HWK.out.ge; have h1 := HSZK.out; have h2 := HRP.out.1; omega, by have h1 := HSZK.out; have h2 := HRP.out.2; omega, by have h1 := HSZK.out; have h2 := HRP.out.1; omega, fun e => by have h1 := HSZK.out; have h2 := HRF.out b e.symm; omega⟩)
          rw [HPL.out] at HRS hp7
          have HW7 := Lib.hid (HWK.out.putp HKO.out HRS hp7 hg7)
          obtain ⟨F2, hF2⟩ : ∃ F2 : Ky → Option Value, F2 = fun k => if k = ((kb, kN), ki, kj) then some (.slice Ap (packsF (dOf xs E) g.rules ((kb, kN), ki, kj)).length cp) else F k := ⟨_, rfl⟩
          rw [← hF2] at HW7
          have HF2 := Lib.hid hF2
          have HRS7 := Lib.hid (HRS.agr (Agr.grown hg7 fun b hb e => hb.2.2.1 (Option.some.inj e)))
          rw [← HPL.out] at HRS7
          have HLEN := Lib.hid (fun qs hq => addKs_len (k := ((kb, kN), ki, kj)) HSUP.out HG.out hn HHR.out.1.nodup (fun q hq => RchK.ok HG.out HSUP.out ⟨by simpa [Gr.okSy] using hst, Nat.zero_le _, Nat.le_refl _⟩ (HHR.out.1.snd q hq)) qs hq)
          have HWKN := Lib.hid (HHR.out.1.next HK.out)
          have HFD := Lib.hid (show ∀ m k, m < i + 1 → L[m]? = some k → F2 k ≠ none from fun m k hm hk => by
            rw [HF2.out]
            by_cases e : k = ((kb, kN), ki, kj)
            · simp [e]
            · simp only [if_neg e]
              have hmi : m ≠ i := fun e2 => by subst e2; rw [HK.out] at hk; exact e (Option.some.inj hk).symm
              exact HHR.out.2.2 m k (by omega) hk)
          have HLP := Lib.hid (show L <+: addKs L (kidsF (dOf xs E) g.rules ((kb, kN), ki, kj)) from addKs_pre)
          clear hp7 hg7 hz7 HRS hF2 HPK HRM HKL HWK HOP BF e1 e2 e3 e4 HBM HSZK HRF HRP hb1 hvc
          generalize (Value.slice (some ⟨b1, o1, none⟩) L.length vc) = va at *
          obtain ⟨wo, rfl⟩ : ∃ wo : World, wo = wr := ⟨_, rfl⟩
          go_loopw [12, 88] (fun v x wr2 => ∃ (m : Nat) (L2 : List Ky), x = .int .i64 (m : Int) ∧ Hid (WlM w g xs.length (dOf xs E) #[.int .i64 (g.terms : Int), .int .i64 (g.nons : Int), .int .i64 (g.start : Int), .slice Ag ng cg] w.heap.size bR b8 bs bp ((false, g.start), 0, xs.length) L2 v (memF L2) F2 wr2 ∧ L2 = addKs L (((packsF (dOf xs E) g.rules ((kb, kN), ki, kj)).take m).flatMap (·.2)) ∧ Sl PkE (okB w.heap.size bs bp v) wr2 Ap pl cp (packsF (dOf xs E) g.rules ((kb, kN), ki, kj))) ∧ m ≤ pl) (fun _ x _ => pl - (intOf x).toNat)
          case atStart => exact ⟨0, L, rfl, Lib.hid ⟨HW7.out, by simp [addKs], HRS7.out⟩, Nat.zero_le _⟩
          case round =>
            obtain ⟨m, L2, rfl, HR2, hmp⟩ := hrel
            clear HW7 HRS7
            by_cases hml : m < pl
            · obtain ⟨b2, o2, ⟨pr, KA, kn, kc⟩, ⟨pr', ks⟩, hAp, -, hb2, hps, ⟨hp1, hp2⟩, hcl⟩ := HR2.out.2.2.at_ hml
              simp only at hp1 hp2
              obtain rfl : pr = pr' := hp1
              subst hAp
              have d1 := hcl 0 _ rfl
              have d2 := hcl 1 _ rfl
              simp only [PkE, Nat.add_zero] at d1 d2
              have m0 : (0 : Int) ≤ (m : Int) := by omega
              have m1 : (m : Int) < (pl : Int) := by omega
              have hal := (Below.refl wr.heap.size wr).al (.cells #[.int .i64 (pr : Int), .slice KA kn kc] 134)
              have BP := Blk.new wr 134 #[.int .i64 (pr : Int), .slice KA kn kc]
              have HW8 := Lib.hid (HR2.out.1.via hal)
              have HR8 := Lib.hid (HR2.out.2.2.via hal)
              have HKS := Lib.hid (hp2.via hal)
              have HPS := Lib.hid hps
              have HL2 := Lib.hid HR2.out.2.1
              have hkn := hp2.len
              clear hcl hp2 hps hal HR2 hb2
              go_upto_region 19 with fail
              clear d1 d2
              have cBP := BP.cell
              have fBP := BP.frozen
              have lBP := BP.lt
              have hkq : ∀ q ∈ ks, q ∈ kidsF (dOf xs E) g.rules ((kb, kN), ki, kj) := fun q hq => List.mem_flatMap.2 ⟨_, List.mem_of_getElem? HPS.out, hq⟩
              have HKQ := Lib.hid hkq
              have hkn4 : kn ≤ 4 := by
                obtain ⟨-, u, hu, -, hw⟩ := packs_mem (List.mem_of_getElem? HPS.out)
                have h1 := hw.len
                have h2 := (HG.out.right u (List.mem_of_getElem? hu)).1
                simp only at h1
                omega
              clear hkq
              go_wp2_with fail
              clear cBP fBP lBP
              clear BP
              generalize wr.alloc (.cells #[.int .i64 (pr : Int), .slice KA kn kc] 134) = W8 at *
              generalize wr.heap.size = bq at *
              obtain ⟨wo2, rfl⟩ : ∃ wo2 : World, wo2 = wr := ⟨_, rfl⟩
              go_loopw [12, 95] (fun v y wr3 => ∃ (t : Nat) (L3 : List Ky), y = .int .i64 (t : Int) ∧ Hid (WlM w g xs.length (dOf xs E) #[.int .i64 (g.terms : Int), .int .i64 (g.nons : Int), .int .i64 (g.start : Int), .slice Ag ng cg] w.heap.size bR b8 bs bp ((false, g.start), 0, xs.length) L3 v (memF L3) F2 wr3 ∧ L3 = addKs L2 (ks.take t) ∧ Sl KyE (okB w.heap.size bs bp v) wr3 KA kn kc ks ∧ Sl PkE (okB w.heap.size bs bp v) wr3 (some ⟨b2, o2, none⟩) pl cp (packsF (dOf xs E) g.rules ((kb, kN), ki, kj))) ∧ t ≤ kn) (fun _ y _ => kn - (intOf y).toNat)
              case atStart => exact ⟨0, L2, rfl, Lib.hid ⟨HW8.out, by simp [addKs], HKS.out, HR8.out⟩, Nat.zero_le _⟩
              case round =>
                obtain ⟨t, L3, rfl, HR3, htk⟩ := hrel
                clear HW8 HKS HR8
                by_cases htl : t < kn
                · obtain ⟨b3, o3, q0, q, hKA, -, hb3, hq, hqq, hcl⟩ := HR3.out.2.2.1.at_ htl
                  obtain rfl : q0 = q := hqq
                  subst hKA
                  obtain ⟨⟨qb, qN⟩, qi, qj⟩ := q0
                  have d1 := hcl 0 _ rfl
                  have d2 := hcl 1 _ rfl
                  have d3 := hcl 2 _ rfl
                  have d4 := hcl 3 _ rfl
                  simp only [KyE, Nat.add_zero] at d1 d2 d3 d4
                  have m0 : (0 : Int) ≤ (t : Int) := by omega
                  have m1 : (t : Int) < (kn : Int) := by omega
                  have hqk := HKQ.out _ (List.mem_of_getElem? hq)
                  have hqok := (kids_ok HG.out HSUP.out hqk).1
                  obtain ⟨kl, hkl⟩ := hqok.key HG.out hn
                  have HKL := Lib.hid hkl
                  have HQOK := Lib.hid hqok
                  have HQ := Lib.hid hq
                  have hB3 := HLEN.out (((packsF (dOf xs E) g.rules ((kb, kN), ki, kj)).take m).flatMap (·.2) ++ ks.take t) (fun q hq => by
                    rcases List.mem_append.1 hq with h | h
                    · exact kids_take h
                    · exact HKQ.out q (List.mem_of_mem_take h))
                  rw [addKs_app, ← HL2.out, ← HR3.out.2.1] at hB3
                  have HB3 := Lib.hid hB3
                  have hal := (Below.refl wr.heap.size wr).al (.cells #[.bool qb, .int .i64 (qN : Int), .int .i64 (qi : Int), .int .i64 (qj : Int)] 127)
                  have BQ := Blk.new wr 127 #[.bool qb, .int .i64 (qN : Int), .int .i64 (qi : Int), .int .i64 (qj : Int)]
                  have HW9 := Lib.hid (HR3.out.1.via hal)
                  have HK9 := Lib.hid (HR3.out.2.2.1.via hal)
                  have HP9 := Lib.hid (HR3.out.2.2.2.via hal)
                  have HE3 := Lib.hid HR3.out.2.1
                  have HBSW := Lib.hid HR3.out.1.seen.lt
                  have HEQ := Lib.hid (show addKs L2 (ks.take (t + 1)) = addK L3 ((qb, qN), qi, qj) by
                    rw [List.take_add_one, hq, HR3.out.2.1]
                    exact addKs_snoc _ _ _)
                  clear hcl hal HR3 hb3 hq hqk hqok hkl hB3
                  go_upto_region 22 with fail
                  clear d1 d2 d3 d4
                  have hlk := memF_look HW9.out.seen ((qb, qN), qi, qj) HKL.out
                  simp only [kyVal] at hlk
                  by_cases hqin : ((qb, qN), qi, qj) ∈ L3
                  · simp only [hqin, decide_true] at hlk
                    have HQI := Lib.hid hqin
                    clear hqin
                    have cBQ := BQ.cell
                    have fBQ := BQ.frozen
                    have lBQ := BQ.lt
                    go_wp2_with fail
                    refine ⟨⟨t + 1, L3, by go_num, Lib.hid ⟨HW9.out, ?_, HK9.out, HP9.out⟩, by omega⟩, by simp [intOf]; omega⟩
                    rw [HEQ.out, addK, if_pos HQI.out]
                  · simp only [hqin, decide_false] at hlk
                    have HQI := Lib.hid hqin
                    clear hqin
                    have HSE := Lib.hid HW9.out.seen
                    have HRM := Lib.hid (key_room HW9.out.seen HW9.out.sok HG.out hn)
                    have HLTS := Lib.hid (show bs < wr.heap.size from HBSW.out)
                    have hwl : wr.heap.size < (wr.alloc (.cells #[.bool qb, .int .i64 (qN : Int), .int .i64 (qi : Int), .int .i64 (qj : Int)] 127)).heap.size := by simp
                    generalize wr.alloc (.cells #[.bool qb, .int .i64 (qN : Int), .int .i64 (qi : Int), .int .i64 (qj : Int)] 127) = W9 at *
                    generalize wr.heap.size = bx at *
                    have HBQ := Lib.hid BQ
                    have HNE := Lib.hid (show some bx ≠ some bs from fun e => by have := Option.some.inj e; have := HLTS.out; omega)
                    have cBQ := BQ.cell
                    have fBQ := BQ.frozen
                    have lBQ := BQ.lt
                    go_upto_region 24 with (at_mapUpdate; refine wpList_put_K rfl key_keyed 130 Tryd.underlying130 kyVal_inj _ _ _ rfl bs ((qb, qN), qi, qj) (.bool true) rfl rfl rfl HSE.out HKL.out HRM.out ?_; intro w10 hp10 hg10 hz10)
                    clear cBQ fBQ lBQ
                    clear BQ hlk
                    have hW10 := HW9.out.mark (Sn' := memF (L3 ++ [((qb, qN), qi, qj)])) (hp10.ext fun z => by
                      by_cases e : z = ((qb, qN), qi, qj)
                      · subst e; simp [memF]
                      · simp [memF, e]) (fun z hz => by
                      have : z ∈ L3 ++ [((qb, qN), qi, qj)] := by
                        apply Classical.byContradiction
                        intro hn
                        exact hz (by unfold memF; rw [if_neg hn])
                      rcases List.mem_append.1 this with h | h
                      · exact HB3.out.2 z h
                      · rw [List.mem_singleton.1 h]; exact HQOK.out) hg10
                    have BQ := HBQ.out.grown hg10 HNE.out
                    have hK10 := HK9.out.okMark hg10
                    have hP10 := HP9.out.okMark hg10
                    have hal := (Below.refl w10.heap.size w10).al (.cells #[.bool qb, .int .i64 (qN : Int), .int .i64 (qi : Int), .int .i64 (qj : Int)] 127)
                    have HW11 := Lib.hid (hW10.via hal)
                    have HK11 := Lib.hid (hK10.via hal)
                    have HP11 := Lib.hid (hP10.via hal)
                    have HBY := Lib.hid (Blk.new w10 127 #[.bool qb, .int .i64 (qN : Int), .int .i64 (qi : Int), .int .i64 (qj : Int)])
                    have h34 := HB3.out.1
                    have HSZ := Lib.hid (HW11.out.size)
                    clear hp10 hg10 hz10 hW10 hK10 hP10 hal HW9 HK9 HP9 HSE HRM HBQ
                    have cBQ := BQ.cell
                    have fBQ := BQ.frozen
                    have lBQ := BQ.lt
                    go_wp2_with (at_builtin; refine wpList_append_ky _ rfl (.tmp 105) (.tmp 107) rfl (fun _ => False) w.heap.size u12 L3.length L3 rfl HW11.out.own w10.heap.size ((qb, qN), qi, qj) ((qb, qN), qi, qj) rfl HBY.out rfl (by omega) HSZ.out ?_; intro A12 c12 w12 ho12 hg12 hat12)
                    exact ⟨⟨t + 1, L3 ++ [((qb, qN), qi, qj)], by go_num, Lib.hid ⟨HW11.out.push ho12 hg12 hat12, by rw [HEQ.out, addK, if_neg HQI.out], HK11.out.okPush hg12 hat12, HP11.out.okPush hg12 hat12⟩, by omega⟩, by simp [intOf]; omega⟩
                · obtain rfl : kn = t := by omega
                  have HEQ := Lib.hid (show L3 = addKs L (((packsF (dOf xs E) g.rules ((kb, kN), ki, kj)).take (m + 1)).flatMap (·.2)) by
                    rw [kids_next HPS.out, addKs_app, ← HL2.out, HR3.out.2.1, List.take_of_length_le (by omega)])
                  go_wp2_with fail
                  exact ⟨⟨m + 1, L3, by go_num, Lib.hid ⟨HR3.out.1, HEQ.out, HR3.out.2.2.2⟩, by omega⟩, by simp [intOf]; omega⟩
            · obtain rfl : pl = m := by omega
              have HEQ := Lib.hid (show L2 = addKs L (kidsF (dOf xs E) g.rules ((kb, kN), ki, kj)) by
                rw [HR2.out.2.1, List.take_of_length_le (by rw [HPL.out]; exact Nat.le_refl _)]
                rfl)
              go_wp2_with fail
              refine ⟨⟨L2, c2, i + 1, F2, rfl, by go_num, Lib.hid ⟨HR2.out.1, ?_, ?_, ?_⟩, by omega, ?_, ?_⟩, by simp [intOf]; omega⟩
              · rw [HEQ.out]; exact HWKN.out
              · rw [HPC.out, HEQ.out]
                exact (cntP_pre HLP.out (by omega)).symm
              · intro m' k' hm' hk'
                refine HFD.out m' k' hm' ?_
                rw [HEQ.out] at hk'
                obtain ⟨tl, htl⟩ := HLP.out
                rw [← htl, List.getElem?_append_left (by omega)] at hk'
                exact hk'
              · have := HLP.out.length_le
                rw [HEQ.out]; omega
              · rw [HEQ.out]
                exact (HLEN.out _ (fun q h => h)).1
      · obtain rfl : L.length = i := by omega
        have HNF := Lib.hid (show some bR ≠ (Value.slice va L.length vc).ownBlock ∧ some b8 ≠ (Value.slice va L.length vc).ownBlock ∧ some bp ≠ (Value.slice va L.length vc).ownBlock from ⟨HR.out.1.nr.2.1, HR.out.1.nr.2.2.1, HR.out.1.nr.2.2.2.2⟩)
        clear HBG HBF
        go_wp2_with fail
        refine (sortKey_c (fun _ => False) wr w.heap.size L.length va vc L (by omega) HR.out.1.own).mono ?_
        rintro e w5 ⟨rfl, L', hperm, hsort, hown, hbel, hagr, hsz⟩
        have hwk := HR.out.2.1
        have hok : ∀ q ∈ L, KyOk g xs.length q := fun q hq => RchK.ok HG.out HSUP.out ⟨by simpa [Gr.okSy] using hst, Nat.zero_le _, Nat.le_refl _⟩ (hwk.snd q hq)
        have HND := Lib.hid (hwk.nds hperm (hsort.imp_of_mem fun {a b} ha hb h => kyCmp_le ((hok a (hperm.mem_iff.1 ha)).ok HG.out hn) ((hok b (hperm.mem_iff.1 hb)).ok HG.out hn) h) (fun k hk => (hok k hk).ok HG.out hn))
        have HTOT := Lib.hid (show totP (dOf xs E) g.rules L' ≤ most by rw [totP_perm hperm, ← cntP_all, ← HR.out.2.2.1]; exact hcm)
        have HOKL := Lib.hid (show ∀ q ∈ L', KyOk g xs.length q from fun q hq => hok q (hperm.mem_iff.1 hq))
        have HFALL := Lib.hid (show ∀ q ∈ L', F q ≠ none from fun q hq => by
          obtain ⟨m, hm⟩ := List.mem_iff_getElem?.1 (hperm.mem_iff.1 hq)
          exact HR.out.2.2.2 m q (List.getElem?_eq_some_iff.1 hm).1 hm)
        have hll : L'.length = L.length := hperm.length_eq
        have HRL := Lib.hid (hown.toSl (ok' := fun _ => True) (fun _ _ h => h.elim) (fun _ _ => trivial))
        have HRP := Lib.hid (HR.out.1.pk.agr_ (hagr bp HNF.out.2.2 HR.out.1.pk.lt))
        have HRR := Lib.hid (show ∀ k V, F k = some V → ∃ A c, V = .slice A (packsF (dOf xs E) g.rules k).length c ∧ Sl PkE (fun _ => True) w5 A (packsF (dOf xs E) g.rules k).length c (packsF (dOf xs E) g.rules k) from fun k V hV => by
          obtain ⟨A, c, h1, h2⟩ := HR.out.1.rows k V hV
          exact ⟨A, c, h1, (h2.agr (hagr.mono fun b hb => hb.2.2.2)).mono fun _ _ _ => trivial⟩)
        have BR := HR.out.1.rb
        simp only [kyC, Int.natCast_zero] at BR
        have BR5 : Blk w5 bR 127 #[.bool false, .int .i64 (g.start : Int), .int .i64 0, .int .i64 (xs.length : Int)] := (hagr bR HNF.out.1 BR.lt).trans BR
        have B85 : Blk w5 b8 80 #[.slice none 0 0, .int .i64 0] := (hagr b8 HNF.out.2.1 HR.out.1.fb.lt).trans HR.out.1.fb
        have HB5 := Lib.hid (HR.out.1.bel.trans hbel)
        have HB85 := Lib.hid B85
        have HBR5 := Lib.hid BR5
        have HLT := Lib.hid (show w.heap.size ≤ w5.heap.size ∧ w.heap.size ≤ b8 from ⟨Nat.le_trans HR.out.1.size hsz, HR.out.1.ge.2.2.2.2⟩)
        have HROOT := Lib.hid ((HND.out.mem _).2 RchK.root)
        clear hperm hsort hown hbel hagr hsz hwk hok BR BR5 B85 HR
        dsimp only
        have hmm := @run_makeMap Tryd.prog
        have HM0 := Lib.hid ((MapK.made w5 Tryd.prog 127 kyVal).ext (g := numF L' 0) fun z => (numF_zero L' z).symm)
        have HB0 := Lib.hid ((Below.refl w5.heap.size w5).al (.map #[] 0))
        go_wp2_with fail
        clear hmm
        generalize w5.alloc (.map #[] 0) = W6 at *
        obtain ⟨bn, hbn⟩ : ∃ bn, bn = w5.heap.size := ⟨_, rfl⟩
        rw [← hbn] at HM0 HB0 ⊢
        have HBN := Lib.hid hbn
        clear hbn
        obtain ⟨wo, rfl⟩ : ∃ wo : World, wo = wr := ⟨_, rfl⟩
        go_loopw [116] (fun q wr => ∃ m : Nat, q = .int .i64 (m : Int) ∧ m ≤ L.length ∧ Hid (MapK Tryd.prog 127 kyVal wr bn (numF L' m) ∧ Below bn w5 wr)) (fun q _ => L.length - (intOf q).toNat)
        case atStart => exact ⟨0, rfl, Nat.zero_le _, Lib.hid ⟨HM0.out, HB0.out⟩⟩
        case round =>
          obtain ⟨m, rfl, hml, HQ⟩ := hrel
          clear HM0 HB0
          by_cases hmL : m < L.length
          · obtain ⟨b1, o1, k0, k, hva, -, hb1, hk, hkk, hcl⟩ := HRL.out.at_ hmL
            obtain rfl : k0 = k := hkk
            subst hva
            obtain ⟨⟨kb, kN⟩, ki, kj⟩ := k0
            have hb1' : b1 < bn := by have := HBN.out; omega
            have d1 := (HQ.out.2.cell (p := ⟨b1, o1 + m * KyE.k + 0, none⟩) hb1').trans (hcl 0 _ rfl)
            have d2 := (HQ.out.2.cell (p := ⟨b1, o1 + m * KyE.k + 1, none⟩) hb1').trans (hcl 1 _ rfl)
            have d3 := (HQ.out.2.cell (p := ⟨b1, o1 + m * KyE.k + 2, none⟩) hb1').trans (hcl 2 _ rfl)
            have d4 := (HQ.out.2.cell (p := ⟨b1, o1 + m * KyE.k + 3, none⟩) hb1').trans (hcl 3 _ rfl)
            simp only [KyE, Nat.add_zero] at d1 d2 d3 d4
            have i0 : (0 : Int) ≤ (m : Int) := by omega
            have i1 : (m : Int) < (L.length : Int) := by omega
            have HK := Lib.hid hk
            have HKO := Lib.hid (HOKL.out _ (List.mem_of_getElem? hk))
            obtain ⟨kl, hkl⟩ := HKO.out.key HG.out hn
            have HKL := Lib.hid hkl
            have hal := (Below.refl wr.heap.size wr).al (.cells #[.bool kb, .int .i64 (kN : Int), .int .i64 (ki : Int), .int .i64 (kj : Int)] 127)
            have BQ := Blk.new wr 127 #[.bool kb, .int .i64 (kN : Int), .int .i64 (ki : Int), .int .i64 (kj : Int)]
            have hM := HQ.out.1.via hal
            have HMK := Lib.hid hM
            have HBE := Lib.hid (HQ.out.2.trans (hal.mono (Nat.le_of_lt HQ.out.1.lt)))
            have HRM := Lib.hid (key_room hM (fun z hz => by
              by_cases e : z ∈ L'
              · exact HOKL.out z e
              · exfalso
                apply hz
                unfold numF
                rw [if_neg]
                have : idxK L' z = L'.length := List.idxOf_eq_length e
                omega) HG.out hn)
            clear hcl hk hkl hal hM HQ hb1'
            go_upto_region 32 with fail
            clear d1 d2 d3 d4
            have hwl : wr.heap.size < (wr.alloc (.cells #[.bool kb, .int .i64 (kN : Int), .int .i64 (ki : Int), .int .i64 (kj : Int)] 127)).heap.size := by simp
            generalize wr.alloc (.cells #[.bool kb, .int .i64 (kN : Int), .int .i64 (ki : Int), .int .i64 (kj : Int)] 127) = W9 at *
            generalize wr.heap.size = bx at *
            have cBQ := BQ.cell
            have fBQ := BQ.frozen
            have lBQ := BQ.lt
            go_wp2_with (at_mapUpdate; refine wpList_put_K rfl key_keyed 137 Tryd.underlying137 kyVal_inj _ _ _ rfl bn ((kb, kN), ki, kj) (.int .i64 (m : Int)) rfl rfl rfl HMK.out HKL.out HRM.out ?_; intro w10 hp10 hg10 hz10)
            refine ⟨⟨m + 1, by go_num, by omega, Lib.hid ⟨hp10.ext fun z => (numF_next HND.out.nodup HK.out z).symm, HBE.out.grown hg10 (by have := HMK.out.lt; omega) (fun j e => by have := Option.some.inj e; omega)⟩⟩, by simp [intOf]; omega⟩
          · obtain rfl : L.length = m := by omega
            obtain ⟨klr, hklr⟩ := (HOKL.out _ HROOT.out).key HG.out hn
            have hlk := numF_look (hll.symm ▸ HQ.out.1) HROOT.out hklr
            simp only [kyVal, Int.natCast_zero] at hlk
            have HRN := Lib.hid (show MapK Tryd.prog 127 kyVal wr bn (numF L' L'.length) from hll.symm ▸ HQ.out.1)
            have hbq := HQ.out.2
            have hbnle : w5.heap.size ≤ bn := by have := HBN.out; omega
            have hb5 : Below w5.heap.size w5 wr := by have := HBN.out; subst this; exact hbq
            have HRL2 := Lib.hid (HRL.out.via hb5)
            have HRP2 := Lib.hid (HRP.out.via hb5)
            have HRR2 := Lib.hid (show ∀ k V, F k = some V → ∃ A c, V = .slice A (packsF (dOf xs E) g.rules k).length c ∧ Sl PkE (fun _ => True) wr A (packsF (dOf xs E) g.rules k).length c (packsF (dOf xs E) g.rules k) from fun k V hV => by
              obtain ⟨A, c, h1, h2⟩ := HRR.out k V hV
              exact ⟨A, c, h1, h2.via hb5⟩)
            have HB82 := Lib.hid (HB85.out.via hb5)
            have BR := HBR5.out.via hb5
            have HBW2 := Lib.hid (HB5.out.trans (hb5.mono HLT.out.1))
            have HLT2 := Lib.hid (show w.heap.size ≤ wr.heap.size from Nat.le_trans HLT.out.1 hb5.size)
            obtain ⟨ir, hir⟩ : ∃ ir, ir = idxK L' ((false, g.start), 0, xs.length) := ⟨_, rfl⟩
            rw [← hir] at hlk
            have HIR := Lib.hid hir
            clear hb5 hbq hbnle hklr HQ HRL HRP HRR HB85 HBR5 HB5 hir
            have cBR := BR.cell
            have fBR := BR.frozen
            have lBR := BR.lt
            go_upto_region 35 with fail
            clear cBR fBR lBR
            clear BR hlk
            have HGW := Lib.hid (GwM.start (Y := NdE) (te := 94) (tb := 80) (cs := fun v => #[v, .int .i64 (ir : Int)]) (n := wr.heap.size) wr #[.slice none 0 0, .int .i64 (ir : Int)] rfl rfl)
            generalize wr.alloc (.cells #[.slice none 0 0, .int .i64 (ir : Int)] 80) = W7 at *
            obtain ⟨w9, hw9⟩ : ∃ w9 : World, w9 = wr := ⟨_, rfl⟩
            obtain ⟨bf, hbf⟩ : ∃ bf, bf = wr.heap.size := ⟨_, rfl⟩
            rw [← hbf] at HGW ⊢
            rw [← hw9] at HGW HRN HRL2 HRP2 HRR2 HB82 HBW2 HLT2 hbf
            have HBFE := Lib.hid hbf
            clear hbf hw9
            go_wp2_with fail
            obtain ⟨wo, rfl⟩ : ∃ wo : World, wo = wr := ⟨_, rfl⟩
            go_loopw [131] (fun q wr => ∃ (j : Nat) (vN : Value), q = .int .i64 (j : Int) ∧ j ≤ L.length ∧ Hid (GwM NdE 94 80 (fun v => #[v, .int .i64 (ir : Int)]) w9 bf vN ((L'.take j).map fun k => ndI (ndF (dOf xs E) g.rules L' k)) wr)) (fun q _ => L.length - (intOf q).toNat)
            case atStart => exact ⟨0, _, rfl, Nat.zero_le _, HGW⟩
            case round =>
              obtain ⟨j, vN, rfl, hjl, HGF⟩ := hrel
              clear HGW
              have HB9 := Lib.hid (show Below w9.heap.size w9 wr from by rw [← HBFE.out]; exact HGF.out.bel)
              by_cases hjL : j < L.length
              · obtain ⟨b1, o1, k0, k, hva, -, hb1, hk, hkk, hcl⟩ := HRL2.out.at_ hjL
                obtain rfl : k0 = k := hkk
                subst hva
                obtain ⟨⟨kb, kN⟩, ki, kj⟩ := k0
                have d1 := (HB9.out.cell (p := ⟨b1, o1 + j * KyE.k + 0, none⟩) hb1).trans (hcl 0 _ rfl)
                have d2 := (HB9.out.cell (p := ⟨b1, o1 + j * KyE.k + 1, none⟩) hb1).trans (hcl 1 _ rfl)
                have d3 := (HB9.out.cell (p := ⟨b1, o1 + j * KyE.k + 2, none⟩) hb1).trans (hcl 2 _ rfl)
                have d4 := (HB9.out.cell (p := ⟨b1, o1 + j * KyE.k + 3, none⟩) hb1).trans (hcl 3 _ rfl)
                simp only [KyE, Nat.add_zero] at d1 d2 d3 d4
                have i0 : (0 : Int) ≤ (j : Int) := by omega
                have i1 : (j : Int) < (L.length : Int) := by omega
                have HK := Lib.hid hk
                have hkin := List.mem_of_getElem? hk
                have HKIN := Lib.hid hkin
                have HKO := Lib.hid (HOKL.out _ hkin)
                obtain ⟨kl, hkl⟩ := HKO.out.key HG.out hn
                obtain ⟨V, hV⟩ := Option.ne_none_iff_exists'.1 (HFALL.out _ hkin)
                obtain ⟨Ap, cp, rfl, hSP⟩ := HRR2.out _ _ hV
                obtain ⟨pl, hpl⟩ : ∃ pl, pl = (packsF (dOf xs E) g.rules ((kb, kN), ki, kj)).length := ⟨_, rfl⟩
                rw [← hpl] at hSP hV
                have HPL := Lib.hid hpl
                have HSP := Lib.hid hSP
                have hlp := packs_len (D := dOf xs E) (k := ((kb, kN), ki, kj)) (fun u hu => (HG.out.right u hu).1) HG.out.count (show kj ≤ 12 by have := HKO.out.2.2; simp only at this; omega)
                rw [← hpl] at hlp
                have hal := ((Below.refl wr.heap.size wr).al (.cells #[.bool kb, .int .i64 (kN : Int), .int .i64 (ki : Int), .int .i64 (kj : Int)] 127))
                have hal2 := hal.al (.cells #[.bool kb, .int .i64 (kN : Int), .int .i64 (ki : Int), .int .i64 (kj : Int), .slice none 0 0] 94)
                have BQ := Blk.new wr 127 #[.bool kb, .int .i64 (kN : Int), .int .i64 (ki : Int), .int .i64 (kj : Int)]
                have BQ2 := BQ.al (.cells #[.bool kb, .int .i64 (kN : Int), .int .i64 (ki : Int), .int .i64 (kj : Int), .slice none 0 0] 94)
                have hlk := row_look ((HRP2.out.via HB9.out).via hal2) hV hkl
                simp only [kyVal] at hlk
                clear hcl hk hkl hpl hSP hV
                have cBQ := BQ.cell
                have fBQ := BQ.frozen
                have lBQ := BQ.lt
                have cBQ2 := BQ2.cell
                have fBQ2 := BQ2.frozen
                have lBQ2 := BQ2.lt
                go_wp2_with fail
                clear cBQ fBQ lBQ cBQ2 fBQ2 lBQ2
                clear BQ BQ2 hlk hal hal2 d1 d2 d3 d4
                have HGN := Lib.hid (GwM.start (Y := FpE) (te := 96) (tb := 94) (cs := fun v => #[.bool kb, .int .i64 (kN : Int), .int .i64 (ki : Int), .int .i64 (kj : Int), v]) (n := wr.heap.size + 1) (wr.alloc (.cells #[.bool kb, .int .i64 (kN : Int), .int .i64 (ki : Int), .int .i64 (kj : Int)] 127)) #[.bool kb, .int .i64 (kN : Int), .int .i64 (ki : Int), .int .i64 (kj : Int), .slice none 0 0] (by simp) rfl)
                generalize hW11 : (wr.alloc (.cells #[.bool kb, .int .i64 (kN : Int), .int .i64 (ki : Int), .int .i64 (kj : Int)] 127)).alloc (.cells #[.bool kb, .int .i64 (kN : Int), .int .i64 (ki : Int), .int .i64 (kj : Int), .slice none 0 0] 94) = W11 at *
                clear hW11
                obtain ⟨w10, hw10⟩ : ∃ w10, w10 = wr.alloc (.cells #[.bool kb, .int .i64 (kN : Int), .int .i64 (ki : Int), .int .i64 (kj : Int)] 127) := ⟨_, rfl⟩
                rw [← hw10] at HGN
                have HGF10 := Lib.hid (HGF.out.via ((Below.refl wr.heap.size wr).al (.cells #[.bool kb, .int .i64 (kN : Int), .int .i64 (ki : Int), .int .i64 (kj : Int)] 127)))
                rw [← hw10] at HGF10
                have hbk1 : w10.heap.size = wr.heap.size + 1 := by rw [hw10]; simp
                have HB10 := Lib.hid (show Below w9.heap.size w9 w10 from by rw [← HBFE.out]; exact HGF10.out.bel)
                clear hw10 HB9 HGF
                generalize hbk : wr.heap.size + 1 = bk at *
                clear hbk
                have HBK1 := Lib.hid hbk1
                clear hbk1
                obtain ⟨wo, rfl⟩ : ∃ wo : World, wo = wr := ⟨_, rfl⟩
                go_loopw [146] (fun q wr => ∃ (m : Nat) (vP : Value), q = .int .i64 (m : Int) ∧ m ≤ pl ∧ Hid (GwM FpE 96 94 (fun v => #[.bool kb, .int .i64 (kN : Int), .int .i64 (ki : Int), .int .i64 (kj : Int), v]) w10 bk vP (((packsF (dOf xs E) g.rules ((kb, kN), ki, kj)).take m).map (rowI L')) wr)) (fun q _ => pl - (intOf q).toNat)
                case atStart => exact ⟨0, _, rfl, Nat.zero_le _, HGN⟩
                case round =>
                  obtain ⟨m, vP, rfl, hmp, HGP⟩ := hrel
                  clear HGN
                  have HBP := Lib.hid (show Below w10.heap.size w10 wr from by rw [HBK1.out]; exact HGP.out.bel)
                  by_cases hml : m < pl
                  · obtain ⟨b2, o2, ⟨pr, KA, kn, kc⟩, ⟨pr', ks⟩, hAp, -, hb2, hps, ⟨hp1, hp2⟩, hcl⟩ := HSP.out.at_ hml
                    simp only at hp1 hp2
                    obtain rfl : pr = pr' := hp1
                    subst hAp
                    have hb9 := HB10.out.trans (HBP.out.mono HB10.out.size)
                    have d1 := (hb9.cell (p := ⟨b2, o2 + m * PkE.k + 0, none⟩) hb2).trans (hcl 0 _ rfl)
                    have d2 := (hb9.cell (p := ⟨b2, o2 + m * PkE.k + 1, none⟩) hb2).trans (hcl 1 _ rfl)
                    simp only [PkE, Nat.add_zero] at d1 d2
                    have m0 : (0 : Int) ≤ (m : Int) := by omega
                    have m1 : (m : Int) < (pl : Int) := by omega
                    have hkn := hp2.len
                    have hkn4 : kn ≤ 4 := by
                      obtain ⟨-, u, hu, -, hw⟩ := packs_mem (List.mem_of_getElem? hps)
                      have h1 := hw.len
                      have h2 := (HG.out.right u (List.mem_of_getElem? hu)).1
                      simp only at h1
                      omega
                    have HKS := Lib.hid hp2
                    have HPS := Lib.hid hps
                    have HB9 := Lib.hid hb9
                    obtain ⟨zs, hzs⟩ : ∃ zs, zs = ((packsF (dOf xs E) g.rules ((kb, kN), ki, kj)).take m).map (rowI L') := ⟨_, rfl⟩
                    have HZE := Lib.hid (show ((packsF (dOf xs E) g.rules ((kb, kN), ki, kj)).take (m + 1)).map (rowI L') = zs ++ [rowI L' (pr, ks)] by rw [hzs, List.take_add_one, hps]; simp)
                    have HZL := Lib.hid (show zs.length ≤ 913952 by rw [hzs, List.length_map, List.length_take]; omega)
                    rw [← hzs] at HGP
                    clear hzs
                    have BP := (Blk.new wr 134 #[.int .i64 (pr : Int), .slice KA kn kc])
                    have BP2 := BP.al (.cells #[.int .i64 (pr : Int), .slice none 0 0] 96)
                    clear hcl hp2 hps hb9 hb2
                    have cBP := BP.cell
                    have fBP := BP.frozen
                    have lBP := BP.lt
                    have cBP2 := BP2.cell
                    have fBP2 := BP2.frozen
                    have lBP2 := BP2.lt
                    go_wp2_with fail
                    clear cBP fBP lBP cBP2 fBP2 lBP2
                    clear BP BP2 d1 d2
                    have HGX := Lib.hid (GwM.start (Y := InE) (te := 3) (tb := 96) (cs := fun v => #[.int .i64 (pr : Int), v]) (n := wr.heap.size + 1) (wr.alloc (.cells #[.int .i64 (pr : Int), .slice KA kn kc] 134)) #[.int .i64 (pr : Int), .slice none 0 0] (by simp) rfl)
                    generalize hW13 : (wr.alloc (.cells #[.int .i64 (pr : Int), .slice KA kn kc] 134)).alloc (.cells #[.int .i64 (pr : Int), .slice none 0 0] 96) = W13 at *
                    clear hW13
                    obtain ⟨w12, hw12⟩ : ∃ w12, w12 = wr.alloc (.cells #[.int .i64 (pr : Int), .slice KA kn kc] 134) := ⟨_, rfl⟩
                    rw [← hw12] at HGX
                    have HGP12 := Lib.hid (HGP.out.via ((Below.refl wr.heap.size wr).al (.cells #[.int .i64 (pr : Int), .slice KA kn kc] 134)))
                    rw [← hw12] at HGP12
                    have hbx1 : w12.heap.size = wr.heap.size + 1 := by rw [hw12]; simp
                    have HB12 := Lib.hid (show Below w9.heap.size w9 w12 from by
                      have h1 : Below bk w10 w12 := HGP12.out.bel
                      have h2 := HBK1.out
                      exact HB10.out.trans (h1.mono (by rw [← h2]; exact HB10.out.size)))
                    clear hw12 HBP HGP HB9
                    generalize hbx : wr.heap.size + 1 = bx at *
                    clear hbx
                    have HBX1 := Lib.hid hbx1
                    clear hbx1
                    obtain ⟨wo, rfl⟩ : ∃ wo : World, wo = wr := ⟨_, rfl⟩
                    go_loopw [156] (fun q wr => ∃ (t : Nat) (vK : Value), q = .int .i64 (t : Int) ∧ t ≤ kn ∧ Hid (GwM InE 3 96 (fun v => #[.int .i64 (pr : Int), v]) w12 bx vK (intsN ((ks.take t).map (idxK L'))) wr)) (fun q _ => kn - (intOf q).toNat)
                    case atStart => exact ⟨0, _, rfl, Nat.zero_le _, HGX⟩
                    case round =>
                      obtain ⟨t, vK, rfl, htk, HGI⟩ := hrel
                      clear HGX
                      have HBI := Lib.hid (show Below w12.heap.size w12 wr from by rw [HBX1.out]; exact HGI.out.bel)
                      by_cases htl : t < kn
                      · obtain ⟨b3, o3, q0, q, hKA, -, hb3, hq, hqq, hcl⟩ := HKS.out.at_ htl
                        obtain rfl : q0 = q := hqq
                        subst hKA
                        obtain ⟨⟨qb, qN⟩, qi, qj⟩ := q0
                        have hb9 := HB12.out.trans (HBI.out.mono HB12.out.size)
                        have d1 := (hb9.cell (p := ⟨b3, o3 + t * KyE.k + 0, none⟩) hb3).trans (hcl 0 _ rfl)
                        have d2 := (hb9.cell (p := ⟨b3, o3 + t * KyE.k + 1, none⟩) hb3).trans (hcl 1 _ rfl)
                        have d3 := (hb9.cell (p := ⟨b3, o3 + t * KyE.k + 2, none⟩) hb3).trans (hcl 2 _ rfl)
                        have d4 := (hb9.cell (p := ⟨b3, o3 + t * KyE.k + 3, none⟩) hb3).trans (hcl 3 _ rfl)
                        simp only [KyE, Nat.add_zero] at d1 d2 d3 d4
                        have m0 : (0 : Int) ≤ (t : Int) := by omega
                        have m1 : (t : Int) < (kn : Int) := by omega
                        have hqin : ((qb, qN), qi, qj) ∈ L' := (HND.out.mem _).2 (.kid ((HND.out.mem _).1 HKIN.out) (List.mem_of_getElem? HPS.out) (List.mem_of_getElem? hq))
                        obtain ⟨kl, hkl⟩ := (HOKL.out _ hqin).key HG.out hn
                        have HKL := Lib.hid hkl
                        have HQIN := Lib.hid hqin
                        have HEQ := Lib.hid (show intsN ((ks.take (t + 1)).map (idxK L')) = intsN ((ks.take t).map (idxK L')) ++ [(idxK L' ((qb, qN), qi, qj) : Int)] by
                          rw [List.take_add_one, hq]; simp [intsN])
                        have HTL := Lib.hid (show (intsN ((ks.take t).map (idxK L'))).length = t by
                          have h1 := HKS.out.len
                          simp [intsN]; omega)
                        obtain ⟨ys, hys⟩ : ∃ ys, ys = intsN ((ks.take t).map (idxK L')) := ⟨_, rfl⟩
                        rw [← hys] at HGI HEQ HTL
                        clear hys
                        have HRN9 := Lib.hid (HRN.out.via hb9)
                        have HQV := Lib.hid (show some wr.heap.size ≠ vK.ownBlock ∧ some bn ≠ vK.ownBlock from ⟨fun e => by have := (HGI.out.own.lt _ e.symm).2; omega, fun e => by have h1 := (HGI.out.own.lt _ e.symm).1; have h2 := HRN.out.lt; have h3 := HB12.out.size; have h4 := HBX1.out; omega⟩)
                        clear hcl hb9 hq hqin hkl hb3
                        go_upto_region 46 with fail
                        clear d1 d2 d3 d4
                        have HG2 := Lib.hid (HGI.out.via ((Below.refl wr.heap.size wr).al (.cells #[.bool qb, .int .i64 (qN : Int), .int .i64 (qi : Int), .int .i64 (qj : Int)] 127)))
                        have HRN2 := Lib.hid (HRN9.out.via ((Below.refl wr.heap.size wr).al (.cells #[.bool qb, .int .i64 (qN : Int), .int .i64 (qi : Int), .int .i64 (qj : Int)] 127)))
                        have BQ := Blk.new wr 127 #[.bool qb, .int .i64 (qN : Int), .int .i64 (qi : Int), .int .i64 (qj : Int)]
                        generalize wr.alloc (.cells #[.bool qb, .int .i64 (qN : Int), .int .i64 (qi : Int), .int .i64 (qj : Int)] 127) = W14 at *
                        generalize wr.heap.size = bq at *
                        clear HGI HRN9 HBI
                        obtain ⟨ix, hix⟩ : ∃ ix, ix = idxK L' ((qb, qN), qi, qj) := ⟨_, rfl⟩
                        have HIX := Lib.hid hix
                        have SO := Lib.hid (show ∀ w', Below W14.heap.size W14 w' → ((∀ x, w'.cell? ⟨bx, x, none⟩ = #[.int .i64 (pr : Int), vK][x]?) ∧ (∀ x, w'.cell? ⟨bq, x, none⟩ = #[.bool qb, .int .i64 (qN : Int), .int .i64 (qi : Int), .int .i64 (qj : Int)][x]?) ∧ (Instr.lookup 137 (.map (some bn)) (.agg #[.bool qb, .int .i64 (qN : Int), .int .i64 (qi : Int), .int .i64 (qj : Int)]) false).run Tryd.prog w' = .ok (.int .i64 (ix : Int)) w') from fun w' hb => ⟨(HG2.out.blk.via hb).cell, (BQ.via hb).cell, by rw [HIX.out]; exact numF_look (HRN2.out.via hb) HQIN.out HKL.out⟩)
                        have hdr := (Below.refl W14.heap.size W14).drew
                        have hHeld := SO.out _ hdr
                        have HBQ := Lib.hid BQ
                        clear BQ hix
                        refine wp_region_L 8 (fun w' => (∀ x, w'.cell? ⟨bx, x, none⟩ = #[.int .i64 (pr : Int), vK][x]?) ∧ (∀ x, w'.cell? ⟨bq, x, none⟩ = #[.bool qb, .int .i64 (qN : Int), .int .i64 (qi : Int), .int .i64 (qj : Int)][x]?) ∧ (Instr.lookup 137 (.map (some bn)) (.agg #[.bool qb, .int .i64 (qN : Int), .int .i64 (qi : Int), .int .i64 (qj : Int)]) false).run Tryd.prog w' = .ok (.int .i64 (ix : Int)) w') (by kernel_rfl) ?_
                        refine wpAnyL.take (i := 0) (d := some 160) (v := ?_) rfl (by kernel_rfl) (by kernel_rfl) (by kernel_rfl) (by kernel_rfl) rfl (fun _ _ _ h => h) (Or.inl ⟨by rfl, ?_⟩) (by assumption) ?_
                        rotate_left
                        · intro w hSw; (try dsimp only at hSw); go_simp; try with_reducible rfl
                        simp only [Act.put, List.setIfInBounds_toArray, List.set_cons_zero, List.set_cons_succ]
                        refine wpAnyL.take (i := 1) (d := some 161) (v := ?_) rfl (by kernel_rfl) (by kernel_rfl) (by kernel_rfl) (by kernel_rfl) rfl (fun _ _ _ h => h) (Or.inl ⟨by rfl, ?_⟩) (by assumption) ?_
                        rotate_left
                        · intro w hSw; (try dsimp only at hSw); go_simp; try with_reducible rfl
                        simp only [Act.put, List.setIfInBounds_toArray, List.set_cons_zero, List.set_cons_succ]
                        refine wpAnyL.take (i := 2) (d := some 162) (v := ?_) rfl (by kernel_rfl) (by kernel_rfl) (by kernel_rfl) (by kernel_rfl) rfl (fun _ _ _ h => h) (Or.inl ⟨by rfl, ?_⟩) (by assumption) ?_
                        rotate_left
                        · intro w hSw; (try dsimp only at hSw); go_simp; try with_reducible rfl
                        simp only [Act.put, List.setIfInBounds_toArray, List.set_cons_zero, List.set_cons_succ]
                        refine wpAnyL.take (i := 3) (d := some 163) (v := ?_) rfl (by kernel_rfl) (by kernel_rfl) (by kernel_rfl) (by kernel_rfl) rfl (fun _ _ _ h => h) (Or.inl ⟨by rfl, ?_⟩) (by assumption) ?_
                        rotate_left
                        · intro w hSw; (try dsimp only at hSw); go_simp; try with_reducible rfl
                        simp only [Act.put, List.setIfInBounds_toArray, List.set_cons_zero, List.set_cons_succ]
                        refine wpAnyL.take (i := 4) (d := some 164) (v := ?_) rfl (by kernel_rfl) (by kernel_rfl) (by kernel_rfl) (by kernel_rfl) rfl (fun _ _ _ h => h) (Or.inl ⟨by rfl, ?_⟩) (by assumption) ?_
                        rotate_left
                        · intro w hSw; (try dsimp only at hSw); go_simp; try with_reducible rfl
                        simp only [Act.put, List.setIfInBounds_toArray, List.set_cons_zero, List.set_cons_succ]
                        refine wpAnyL.ready (rs := [5]) (by kernel_rfl) (by simp) ?_
                        refine AllL.cons rfl (fun K hK => ?_) AllL.nil
                        go_simp
                        have hal := (hdr.al (.cells #[.int .i64 (ix : Int)] 3))
                        refine hK.out _ _ (fun _ => SO.out _ hal) ?_
                        clear hK K
                        try simp only [Act.put, List.setIfInBounds_toArray, List.set_cons_zero, List.set_cons_succ]
                        have HG15 := Lib.hid (HG2.out.via hal)
                        have HBY := Lib.hid (Blk.new W14.drew 3 #[.int .i64 (ix : Int)])
                        have hkl3 : t ≤ 4 := by omega
                        refine wpAnyL.ready (rs := [6]) (by kernel_rfl) (by simp) ?_
                        refine AllL.cons rfl (fun K hK => ?_) AllL.nil
                        refine step_append_in _ rfl (.tmp 161) (.tmp 165) rfl (fun x => bx < x) (bx + 1) vK ys.length ys rfl HG15.out.own W14.drew.heap.size (ix : Int) (ix : Int) rfl HBY.out rfl (by have := HTL.out; omega) (Nat.succ_le_of_lt HG15.out.lt) ?_
                        intro A16 c16 w16 ho16 hg16 hat16
                        have hr16 : some bx ≠ vK.ownBlock := fun e => by have := (HG15.out.own.lt bx e.symm).1; omega
                        have BX := HG15.out.blk.grown hg16 hr16
                        have HPU := Lib.hid (HG15.out.push (x := (ix : Int)) ho16 hg16 (o := 1) rfl)
                        have BQ16 := (HBQ.out.via hal).grown hg16 HQV.out.1
                        have hlk16 := numF_look ((HRN2.out.via hal).grown hg16 HQV.out.2) HQIN.out HKL.out
                        rw [← HIX.out] at hlk16
                        simp only [kyVal] at hlk16
                        refine hK.out _ _ (fun _ => ⟨BX.cell, BQ16.cell, hlk16⟩) ?_
                        clear hK K
                        try dsimp only [Act.put]
                        refine wpAnyL.ready (rs := [7]) (by kernel_rfl) (by simp) ?_
                        refine AllL.cons rfl (fun K hK => ?_) AllL.nil
                        go_simp
                        refine hK.out _ _ (fun _ => ⟨BX.cell, BQ16.cell, hlk16⟩) ?_
                        clear hK K BQ16 hlk16
                        try simp only [Act.put, List.setIfInBounds_toArray, List.set_cons_zero, List.set_cons_succ]
                        refine wpAnyL.ready (rs := [8]) (by kernel_rfl) (by simp) ?_
                        refine AllL.cons rfl (fun K hK => ?_) AllL.nil
                        have cBX := BX.cell
                        have fBX := BX.frozen
                        have lBX := BX.lt
                        go_simp
                        refine hK.out _ _ (fun h => absurd rfl h) ?_
                        clear hK K
                        refine wpAnyL.done (by kernel_rfl) ?_ _
                        clear cBX fBX lBX
                        clear BX ho16 hg16 hat16 hHeld hdr hal SO
                        go_wp2_with fail
                        exact ⟨⟨t + 1, _, by go_num, by omega, Lib.hid (by rw [HEQ.out, ← HIX.out]; exact HPU.out)⟩, by simp [intOf]; omega⟩
                      · obtain rfl : kn = t := by omega
                        have hkt : ks.take kn = ks := List.take_of_length_le (by have := HKS.out.len; omega)
                        have HGI2 := Lib.hid (show GwM InE 3 96 (fun v => #[.int .i64 (pr : Int), v]) w12 bx vK (intsN (ks.map (idxK L'))) wr from by have := HGI.out; rw [hkt] at this; exact this)
                        have HGP2 := Lib.hid (HGP12.out.via HBI.out)
                        obtain ⟨AK, cK, rfl, hcK⟩ := HGI2.out.own.form
                        obtain ⟨nk, hnk⟩ : ∃ nk, nk = (intsN (ks.map (idxK L'))).length := ⟨_, rfl⟩
                        rw [← hnk] at HGI2
                        have HKSL := Lib.hid (HGI2.out.own.toSl (ok' := fun b => bx ≤ b) (fun b _ hb => Nat.le_of_lt hb) (fun b hb => by omega))
                        rw [← hnk] at HKSL
                        clear hnk hkt
                        have BX : Blk wr bx 96 #[.int .i64 (pr : Int), .slice AK nk cK] := HGI2.out.blk
                        have BN : Blk wr bk 94 #[.bool kb, .int .i64 (kN : Int), .int .i64 (ki : Int), .int .i64 (kj : Int), vP] := HGP2.out.blk
                        clear HGI hcK
                        have cBX := BX.cell
                        have fBX := BX.frozen
                        have lBX := BX.lt
                        have cBN := BN.cell
                        have fBN := BN.frozen
                        have lBN := BN.lt
                        have HGP3 := Lib.hid (HGP2.out.via ((Below.refl wr.heap.size wr).al (.cells #[.int .i64 (pr : Int), .slice AK nk cK] 96)))
                        have HBL := Lib.hid (Blk.new wr 96 #[.int .i64 (pr : Int), .slice AK nk cK])
                        have HREL := Lib.hid (show FpE.rel (fun b => bk < b ∧ some b ≠ vP.ownBlock) (wr.alloc (.cells #[.int .i64 (pr : Int), .slice AK nk cK] 96)) ((pr : Int), AK, nk, cK) (rowI L' (pr, ks)) from ⟨rfl, (HKSL.out.al (.cells #[.int .i64 (pr : Int), .slice AK nk cK] 96)).mono fun b _ hb => ⟨by have := HGP12.out.lt; have := HBX1.out; omega, fun e => by have := (HGP12.out.own.lt b e.symm).2; have := HBX1.out; omega⟩⟩)
                        have hzl := HZL.out
                        go_wp2_with (at_builtin; refine wpList_append_fp _ rfl (.tmp 170) (.tmp 172) rfl (fun x => bk < x) (bk + 1) vP zs.length zs rfl HGP3.out.own wr.heap.size ((pr : Int), AK, nk, cK) (rowI L' (pr, ks)) rfl HBL.out HREL.out (by omega) (Nat.succ_le_of_lt HGP3.out.lt) ?_; intro A17 c17 w17 ho17 hg17 hat17; have BN17 := HGP3.out.blk.grown hg17 (fun e => by have := (HGP3.out.own.lt bk e.symm).1; omega); have cB17 := BN17.cell; have fB17 := BN17.frozen; have lB17 := BN17.lt)
                        have HPU := Lib.hid (HGP3.out.push (x := rowI L' (pr, ks)) ho17 hg17 (o := 4) rfl)
                        exact ⟨⟨m + 1, _, by go_num, by omega, Lib.hid (by rw [HZE.out]; exact HPU.out)⟩, by simp [intOf]; omega⟩
                  · obtain rfl : pl = m := by omega
                    have hall : (packsF (dOf xs E) g.rules ((kb, kN), ki, kj)).take pl = packsF (dOf xs E) g.rules ((kb, kN), ki, kj) := List.take_of_length_le (by rw [HPL.out]; exact Nat.le_refl _)
                    have HGP2 := Lib.hid (show GwM FpE 96 94 (fun v => #[.bool kb, .int .i64 (kN : Int), .int .i64 (ki : Int), .int .i64 (kj : Int), v]) w10 bk vP ((packsF (dOf xs E) g.rules ((kb, kN), ki, kj)).map (rowI L')) wr from by have := HGP.out; rw [hall] at this; exact this)
                    have HGF2 := Lib.hid (HGF10.out.via HBP.out)
                    obtain ⟨zs, hzs⟩ : ∃ zs, zs = (packsF (dOf xs E) g.rules ((kb, kN), ki, kj)).map (rowI L') := ⟨_, rfl⟩
                    have HSOP := Lib.hid (show SoP zs by rw [hzs]; exact rows_so HND.out HKIN.out)
                    have HZL := Lib.hid (show zs.length ≤ 913952 by rw [hzs, List.length_map, ← HPL.out]; exact hlp)
                    have HZK := Lib.hid (show ∀ x ∈ zs, x.2.length ≤ 1000000 from by
                      intro x hx
                      rw [hzs] at hx
                      obtain ⟨p, hp, rfl⟩ := List.mem_map.1 hx
                      obtain ⟨-, u, hu, -, hw⟩ := packs_mem hp
                      have h1 := hw.len
                      have h2 := (HG.out.right u (List.mem_of_getElem? hu)).1
                      simp [rowI, intsN]; omega)
                    rw [← hzs] at HGP2
                    have HZS := Lib.hid hzs
                    clear hzs hall HGP
                    obtain ⟨AP, cP, rfl, hcP⟩ := HGP2.out.own.form
                    have BN : Blk wr bk 94 #[.bool kb, .int .i64 (kN : Int), .int .i64 (ki : Int), .int .i64 (kj : Int), .slice AP zs.length cP] := HGP2.out.blk
                    clear hcP
                    have cBN := BN.cell
                    have fBN := BN.frozen
                    have lBN := BN.lt
                    go_wp2_with fail
                    refine (sortStable_c (fun b => bk < b) AP zs.length cP zs wr (HGP2.out.own.toSl (fun b _ hb => hb) (fun b hb => hb)) HSOP.out HZK.out (by have := HZL.out; omega)).mono ?_
                    rintro e w18 ⟨rfl, hg18⟩
                    have hb18 := hg18.below
                    have HGP4 := Lib.hid (HGP2.out.via hb18)
                    have HGF4 := Lib.hid (HGF2.out.via hb18)
                    clear cBN fBN lBN
                    clear BN hg18 HGP2 HGF2
                    have BN : Blk w18 bk 94 #[.bool kb, .int .i64 (kN : Int), .int .i64 (ki : Int), .int .i64 (kj : Int), .slice AP zs.length cP] := HGP4.out.blk
                    have BF : Blk w18 bf 80 #[vN, .int .i64 (ir : Int)] := HGF4.out.blk
                    have HBL := Lib.hid (Blk.new w18 94 #[.bool kb, .int .i64 (kN : Int), .int .i64 (ki : Int), .int .i64 (kj : Int), .slice AP zs.length cP])
                    have HGF5 := Lib.hid (HGF4.out.via ((Below.refl w18.heap.size w18).al (.cells #[.bool kb, .int .i64 (kN : Int), .int .i64 (ki : Int), .int .i64 (kj : Int), .slice AP zs.length cP] 94)))
                    have HNE := Lib.hid (show ndI (ndF (dOf xs E) g.rules L' ((kb, kN), ki, kj)) = ((kb, (kN : Int), (ki : Int), (kj : Int)), zs) from by rw [ndI_eq, HZS.out])
                    have HREL := Lib.hid (show NdE.rel (fun b => bf < b ∧ some b ≠ vN.ownBlock) (w18.alloc (.cells #[.bool kb, .int .i64 (kN : Int), .int .i64 (ki : Int), .int .i64 (kj : Int), .slice AP zs.length cP] 94)) ((kb, (kN : Int), (ki : Int), (kj : Int)), AP, zs.length, cP) (ndI (ndF (dOf xs E) g.rules L' ((kb, kN), ki, kj))) from by
                      rw [HNE.out]
                      exact ⟨rfl, ((HGP4.out.own.toSl (ok' := fun b => bk ≤ b) (fun b _ hb => Nat.le_of_lt hb) (fun b hb => by omega)).al (.cells #[.bool kb, .int .i64 (kN : Int), .int .i64 (ki : Int), .int .i64 (kj : Int), .slice AP zs.length cP] 94)).mono fun b _ hb => ⟨by have := HGF10.out.lt; have := HBK1.out; omega, fun e => by have := (HGF10.out.own.lt b e.symm).2; have := HBK1.out; omega⟩⟩)
                    obtain ⟨ns, hns⟩ : ∃ ns, ns = (L'.take j).map fun k => ndI (ndF (dOf xs E) g.rules L' k) := ⟨_, rfl⟩
                    have HNX := Lib.hid (show ((L'.take (j + 1)).map fun k => ndI (ndF (dOf xs E) g.rules L' k)) = ns ++ [ndI (ndF (dOf xs E) g.rules L' ((kb, kN), ki, kj))] by rw [hns, List.take_add_one, HK.out]; simp)
                    have HNL := Lib.hid (show ns.length ≤ 3400 by rw [hns, List.length_map, List.length_take]; omega)
                    rw [← hns] at HGF5 HGF4
                    clear hns
                    have hnl := HNL.out
                    dsimp only
                    have cBN := BN.cell
                    have fBN := BN.frozen
                    have lBN := BN.lt
                    have cBF := BF.cell
                    have fBF := BF.frozen
                    have lBF := BF.lt
                    go_wp2_with (at_builtin; refine wpList_append_nd _ rfl (.tmp 180) (.tmp 182) rfl (fun x => bf < x) (bf + 1) vN ns.length ns rfl HGF5.out.own w18.heap.size ((kb, (kN : Int), (ki : Int), (kj : Int)), AP, zs.length, cP) (ndI (ndF (dOf xs E) g.rules L' ((kb, kN), ki, kj))) rfl HBL.out HREL.out (by omega) (Nat.succ_le_of_lt HGF5.out.lt) ?_; intro A19 c19 w19 ho19 hg19 hat19; have BF19 := HGF5.out.blk.grown hg19 (fun e => by have := (HGF5.out.own.lt bf e.symm).1; omega); have cB19 := BF19.cell; have fB19 := BF19.frozen; have lB19 := BF19.lt)
                    have HPU := Lib.hid (HGF5.out.push (x := ndI (ndF (dOf xs E) g.rules L' ((kb, kN), ki, kj))) ho19 hg19 (o := 0) rfl)
                    exact ⟨⟨j + 1, _, by go_num, by omega, Lib.hid (by rw [HNX.out]; exact HPU.out)⟩, by simp [intOf]; omega⟩
              · obtain rfl : L.length = j := by omega
                have hall : L'.take L.length = L' := List.take_of_length_le (by omega)
                obtain ⟨ns, hns⟩ : ∃ ns, ns = L'.map fun k => ndI (ndF (dOf xs E) g.rules L' k) := ⟨_, rfl⟩
                have HGF2 := Lib.hid (show GwM NdE 94 80 (fun v => #[v, .int .i64 (ir : Int)]) w9 bf vN ns wr from by have := HGF.out; rw [hall, ← hns] at this; exact this)
                have HNS := Lib.hid hns
                clear hall hns HGF
                obtain ⟨AN, cN, rfl, hcN⟩ := HGF2.out.own.form
                have BF : Blk wr bf 80 #[.slice AN ns.length cN, .int .i64 (ir : Int)] := HGF2.out.blk
                have B8 := HB82.out.via HB9.out
                clear hcN
                have cBF := BF.cell
                have fBF := BF.frozen
                have lBF := BF.lt
                have cB8 := B8.cell
                have fB8 := B8.frozen
                have lB8 := B8.lt
                go_wp2_with fail
                have B2 := ((HB82.out.via HB9.out).set_ 0 (.slice AN ns.length cN)).set_ 1 (.int .i64 (ir : Int))
                simp only [List.setIfInBounds_toArray, List.set_cons_zero, List.set_cons_succ] at B2
                have cc2 := B2.cell
                have hb8lt := HB82.out.lt
                have hbf := HBFE.out
                have hlt := HLT.out.2
                have hlt2 := HLT2.out
                refine bodyPost_ret (v := .tuple #[.agg #[.slice AN ns.length cN, .int .i64 (ir : Int)], .bool true]) (by simp [results, Tryd.results46, go_sem, cc2]) rfl ⟨_, _, _, rfl, .fits HD.out HND.out HTOT.out, ⟨AN, ns.length, cN, ?_, ?_⟩, ?_⟩
                · show _ = Value.agg #[_, .int .i64 (foI (dOf xs E) g.rules L' ((false, g.start), 0, xs.length)).1]
                  rw [foI, HIR.out]
                · have h1 := HGF2.out.own.toSl (ok' := fun b => bf ≤ b) (fun b _ hb => Nat.le_of_lt hb) (fun b hb => by omega)
                  have h2 := (h1.agr (Agr.setCell (p := ⟨b8, 0, none⟩) (.slice AN ns.length cN) fun b hb => by show b ≠ b8; omega)).agr (Agr.setCell (p := ⟨b8, 1, none⟩) (.int .i64 (ir : Int)) fun b hb => by show b ≠ b8; omega)
                  have h3 := h2.mono (ok' := fun b => w.heap.size ≤ b) fun b _ hb => by omega
                  have e : (foI (dOf xs E) g.rules L' ((false, g.start), 0, xs.length)).2 = ns := by rw [foI, HNS.out]
                  rw [e]
                  exact h3
                · exact ((HBW2.out.trans (HB9.out.mono hlt2)).setCell (p := ⟨b8, 0, none⟩) (by show w.heap.size ≤ b8; omega) _).setCell (p := ⟨b8, 1, none⟩) (by show w.heap.size ≤ b8; omega) _
end Go.Proofs.YthiikgjeamoocaaDoor

