/- Texts OF, laid together. -/
import Derived.Test.YtfmnmgnhanogmaaDoorQ20
import Derived.Test.YtfmnmgnhanogmaaDoorQ32



namespace Go.Proofs.YtfmnmgnhanogmaaDoor
open Go.RowKit

theorem leafK_c (a : Nat) (w : World) : Calls Tryd.prog 58 #[.int .i64 (a : Int)] w fun e w' => e = .returned (trVal (-1, (a : Int), none, 0, 0)) ∧ Below w.heap.size w w' := by
  go_enter Tryd.func58, Tryd.ntmps58
  go_wp2_with fail
  refine bodyPost_ret (v := trVal (-1, (a : Int), none, 0, 0)) (by simp [results, Tryd.results58, go_sem, trVal]) rfl ⟨rfl, ?_⟩
  first | exact Below.refl _ _ | exact (Below.refl _ _).al _
theorem tree_look {w : World} {bm : Nat} {F : Ky → Option Value} (h : MapK Tryd.prog 73 kyVal w bm F) (k : Ky) {kl : Lit} (hkey : keyOf Tryd.prog 73 (kyVal k) = some kl) :
    (Instr.lookup 65 (.map (some bm)) (kyVal k) false).run Tryd.prog w = .ok ((F k).getD (.pointer none)) w := by
  have := h.look false key_keyed Tryd.underlying65 (z := .pointer none) (by kernel_rfl) k hkey
  rw [this]; rfl
theorem ky_lit {g : Gr} {n : Nat} {k : Ky} (h : KyOk g n k) (hg : g.Ok) (hn : n ≤ 12) : ∃ l, keyOf Tryd.prog 73 (kyVal k) = some l := by
  have := h.ok hg hn
  exact key_key k (by have := this.2.2; omega) (by have := this.1; omega) (by have := this.2.1; omega)
theorem ky_room {g : Gr} {n : Nat} {b : Nat} {f : Ky → Option Value} {w : World} (h : MapK Tryd.prog 73 kyVal w b f) (hk : ∀ k, f k ≠ none → KyOk g n k) (hg : g.Ok) (hn : n ≤ 12) : ∀ es clock, w.heap[b]? = some (.map es clock) → es.size < maxLen := fun es clock he =>
  Nat.lt_of_le_of_lt (h.room kyC2 3400 (fun y hy => kyC2_lt (hk y hy) hg hn) (fun x y hx hy e => kyC2_inj (hk x hx) (hk y hy) hg hn e) es clock he) (by simp [maxLen])
set_option maxRecDepth 100000 in
set_option maxHeartbeats 16000000 in
theorem find_n (wS : World) (bf bm : Nat) (g : Gr) (W : List Nat) (D : Ky → Bool) (Ag : Option Addr) (ng cg : Nat) (A : Option Addr) (c ob oo oc : Nat) (rb ro rc : Nat → Nat) (E : EnS) (hT : FdT wS bf bm g W D Ag ng cg A c ob oo oc rb ro rc E) (m : Nat) :
    ∀ (k : Ky) (G : Nat → Prop) (M : Ky → Option Nat) (w : World), mea g k < m → D k = true → KyOk g W.length k → FdS wS bm g W G M w →
    Calls Tryd.prog 28 #[.pointer (some ⟨bf, 0, none⟩), kyVal k] w (FindP wS bm g W G w k) := by
  have HT := Lib.hid hT
  have hbm := hT.mp.1
  clear hT
  induction m with
  | zero => intro k G M w h; exact absurd h (Nat.not_lt_zero _)
  | succ m ih =>
    intro k G M w hm hD hok hs
    obtain ⟨⟨kb, kN⟩, ki, kj⟩ := k
    have HD := Lib.hid hD
    have HOK := Lib.hid hok
    have IH := Lib.hid ih
    have HM := Lib.hid hm
    have hsz := hs.sz
    have HS0 := Lib.hid hs
    have hal := (Below.refl w.heap.size w).al (.cells (kyC ((kb, kN), ki, kj)) 73)
    have BK := Blk.new w 73 (kyC ((kb, kN), ki, kj))
    have HS := Lib.hid (hs.via hal hbm)
    have HB := Lib.hid hal
    simp only [kyC] at BK HB
    simp only [kyVal]
    clear hm hD hok ih hs hal
    go_enter Tryd.func28, Tryd.ntmps28
    go_upto_region 1 with fail
    simp only [kyC] at HS
    generalize hW1 : w.alloc (.cells #[.bool kb, .int .i64 (kN : Int), .int .i64 (ki : Int), .int .i64 (kj : Int)] 73) = W1 at *
    have hW1s : W1.heap.size = w.heap.size + 1 := by rw [← hW1]; simp
    clear hW1
    have HBK := Lib.hid BK
    cases kb with
    | true =>
      have cBK := BK.cell
      have fBK := BK.frozen
      have lBK := BK.lt
      go_wp2_with fail
      clear cBK fBK lBK
      refine (leafK_c kN W1).mono ?_
      rintro e w2 ⟨rfl, hb2⟩
      simp only [trVal]
      have hb3 := hb2.trans (((Below.refl w2.heap.size w2).al (.cells #[.int .i64 (-1), .int .i64 (kN : Int), .slice none 0 0] 34)).mono hb2.size)
      have HS3 := Lib.hid (HS.out.via hb3 hbm)
      have HB3 := Lib.hid (HB.out.trans (hb3.mono HB.out.size))
      have BT := Lib.hid (Blk.new w2 34 #[.int .i64 (-1), .int .i64 (kN : Int), .slice none 0 0])
      have h2s : w.heap.size ≤ w2.heap.size := by have := hb2.size; omega
      clear hb2 hb3 BK
      go_wp2_with fail
      go_ret
      refine ⟨w2.heap.size, fun x => G x ∨ x = w2.heap.size, M, rfl, HS3.out.more (fun b h => Or.inl h) (fun b h => ?_), fun x h => Or.inl h, fun x h => ?_, ?_, grownOf HB3.out _⟩
      · rcases h with h | rfl
        · exact HS3.out.good b h
        · exact ⟨BT.out.okC, by omega⟩
      · rcases h with h | h
        · exact Or.inl h
        · exact Or.inr (by omega)
      · rw [HT.out.fd.leaf HD.out]
        refine ⟨(-1, (kN : Int), none, 0, 0), .leaf kN none 0, Or.inr rfl, fun j u hu => ?_⟩
        rw [Nat.zero_add, BT.out.cell j, List.getElem?_toArray]
        exact hu
    | false =>
      obtain ⟨kl, hkl⟩ := ky_lit HOK.out HT.out.fd.gok.ok HT.out.fd.short
      have HKL := Lib.hid hkl
      have BF := HT.out.f_ HS.out
      have hlk : ∀ q, (Instr.lookup 65 (.map (some bm)) (.agg #[.bool false, .int .i64 (kN : Int), .int .i64 (ki : Int), .int .i64 (kj : Int)]) false).run Tryd.prog (W1.drewN q) = .ok (((M ((false, kN), ki, kj)).map fun b => Value.pointer (some ⟨b, 0, none⟩)).getD (.pointer none)) (W1.drewN q) := fun q => tree_look (HS.out.mp.via (below_drewN (Below.refl _ _) q)) ((false, kN), ki, kj) hkl
      clear hkl
      have cBK := BK.cell
      have fBK := BK.frozen
      have lBK := BK.lt
      have cBF := BF.cell
      have fBF := BF.frozen
      have lBF := BF.lt
      go_upto_region 4 with fail
      cases hMk : M ((false, kN), ki, kj) with
      | some b =>
        rw [hMk] at hlk
        simp only [Option.map_some, Option.getD_some] at hlk
        have HMK := Lib.hid hMk
        clear hMk
        go_quiet (fail)
        clear cBK fBK lBK cBF fBF lBF
        have HDN := Lib.hid (below_drewN (Below.refl W1.heap.size W1) nq)
        have HS2 := Lib.hid (HS.out.via HDN.out hbm)
        have HB2 := Lib.hid (HB.out.trans (HDN.out.mono HB.out.size))
        clear BK BF hlk
        generalize W1.drewN nq = W2 at *
        go_wp2_with fail
        go_ret
        exact ⟨b, G, M, rfl, HS2.out, fun x h => h, fun x h => Or.inl h, (HS2.out.best _ b HMK.out).2.2, grownOf HB2.out _⟩
      | none =>
        rw [hMk] at hlk
        simp only [Option.map_none, Option.getD_none] at hlk
        have HMK := Lib.hid hMk
        clear hMk
        go_quiet (fail)
        clear cBK fBK lBK cBF fBF lBF
        have HDN := Lib.hid (below_drewN (Below.refl W1.heap.size W1) nq)
        have HS2 := Lib.hid (HS.out.via HDN.out hbm)
        have HB2 := Lib.hid (HB.out.trans (HDN.out.mono HB.out.size))
        have HBK2 := Lib.hid (HBK.out.via HDN.out)
        have hW2s : w.heap.size + 1 ≤ (W1.drewN nq).heap.size := by have := HDN.out.size; omega
        clear BK BF hlk HDN HS HB HBK
        generalize W1.drewN nq = W2 at *
        have BK := HBK2.out
        have BF := HT.out.f_ HS2.out
        have cBK := BK.cell
        have fBK := BK.frozen
        have lBK := BK.lt
        have cBF := BF.cell
        have fBF := BF.frozen
        have lBF := BF.lt
        go_upto_region 8 with fail
        clear cBK fBK lBK cBF fBF lBF
        have SO := Lib.hid (show ∀ w', Below W2.heap.size W2 w' → ((∀ i, w'.cell? ⟨bf, i, none⟩ = #[.int .i64 (g.terms : Int), .int .i64 (g.nons : Int), .int .i64 (g.start : Int), .slice Ag ng cg, .slice A W.length c, .slice (some ⟨ob, oo, none⟩) g.nons oc, .map (some bm)][i]?) ∧ (∀ i, w'.cell? ⟨w.heap.size, i, none⟩ = #[.bool false, .int .i64 (kN : Int), .int .i64 (ki : Int), .int .i64 (kj : Int)][i]?) ∧ Below W2.heap.size W2 w') from fun w' hb => ⟨(BF.via hb).cell, (BK.via hb).cell, hb⟩)
        have HN := Lib.hid (show ∀ w', Below W2.heap.size W2 w' → Calls Tryd.prog 59 #[.agg #[.int .i64 (g.terms : Int), .int .i64 (g.nons : Int), .int .i64 (g.start : Int), .slice Ag ng cg], .slice A W.length c, .slice (some ⟨ob, oo, none⟩) g.nons oc, .agg #[.bool false, .int .i64 (kN : Int), .int .i64 (ki : Int), .int .i64 (kj : Int)]] w' (PacksP w' (packsF D g.rules ((false, kN), ki, kj))) from fun w' hb => by
          have hs := HS2.out.via hb hbm
          have := packs_c (fun b => b ≠ bm) g Ag ng cg A W.length c ob oo g.nons oc rb ro rc (intsN W) E ((false, kN), ki, kj) w' HT.out.fd.gok.ok rfl (HT.out.rules_ hs) (HT.out.wd_ hs) (HT.out.en_ hs) (HT.out.tab_ hs) HT.out.sup HT.out.fd.short ⟨by have := HOK.out.2; simp only at this ⊢; omega, HOK.out.2.2⟩
          rw [HT.out.dd] at this
          exact this)
        clear BK BF
        have hb0 := (Below.refl W2.heap.size W2).drew
        go_region_held3 (fun w' => (∀ i, w'.cell? ⟨bf, i, none⟩ = #[.int .i64 (g.terms : Int), .int .i64 (g.nons : Int), .int .i64 (g.start : Int), .slice Ag ng cg, .slice A W.length c, .slice (some ⟨ob, oo, none⟩) g.nons oc, .map (some bm)][i]?) ∧ (∀ i, w'.cell? ⟨w.heap.size, i, none⟩ = #[.bool false, .int .i64 (kN : Int), .int .i64 (ki : Int), .int .i64 (kj : Int)][i]?) ∧ Below W2.heap.size W2 w') (exact SO.out _ (by assumption)) (first
          | (go_at_call 59; (with_reducible refine (HN.out _ (by assumption)).mono ?_); rintro ee w3 ⟨pA, pc, rfl, ho3, hb3⟩; have hb3 : Below W2.heap.size W2 w3 := Below.via (by assumption) hb3))
        have hW2 : wS.heap.size ≤ W2.heap.size := HS2.out.sz
        have HPK := Lib.hid (ho3.toSl (ok' := fun b => b ≠ bm) (fun b _ h => by simp at h; omega) (fun b h => by simp at h; omega))
        have HS3 := Lib.hid (HS2.out.via hb3 hbm)
        have HB3 := Lib.hid (HB2.out.trans (hb3.mono HB2.out.size))
        have HBK3 := Lib.hid (HBK2.out.via hb3)
        have hbk3 : w.heap.size < w3.heap.size := by have := hb3.size; omega
        obtain ⟨P, hP⟩ : ∃ P, P = packsF D g.rules ((false, kN), ki, kj) := ⟨_, rfl⟩
        have HP := Lib.hid hP
        have hsm := ho3.small
        rw [← hP] at HPK hsm ⊢
        clear hP ho3 hb3 hb0 HN SO HS2 HB2 HBK2 hW2s hW2
        obtain ⟨bk, hbk⟩ : ∃ bk, bk = w.heap.size := ⟨_, rfl⟩
        rw [← hbk] at HBK3 ⊢
        have hBk : bk < w3.heap.size := by omega
        have HBKE := Lib.hid hbk
        clear hbk
        have hbmk : bm < bk := by have := HS0.out.sz; have := HBKE.out; omega
        obtain ⟨n, hn⟩ : ∃ n, n = P.length := ⟨_, rfl⟩
        rw [← hn] at HPK hsm ⊢
        have HNE := Lib.hid hn
        clear hn
        try go_wp2_with fail
        go_loopw [7, 44] (fun sv q wr => ∃ (mm : Nat) (G1 : Nat → Prop) (M1 : Ky → Option Nat) (bv : Value), q = .int .i64 mm ∧ bv = sv ∧ mm ≤ n ∧ Hid (LpR wS w3 bm g W G bk P mm G1 M1 bv wr)) (fun _ q _ => n - (intOf q).toNat)
        case atStart => exact ⟨0, G, M, _, rfl, rfl, Nat.zero_le _, Lib.hid ⟨HS3.out, fun _ h => h, fun _ h => Or.inl h, grownRefl _ _, Or.inl ⟨rfl, rfl⟩⟩⟩
        case round =>
          obtain ⟨mm, G1, M1, bv, rfl, rfl, hmm, HL⟩ := hrel
          clear HS3
          by_cases hmn : mm < n
          · obtain ⟨b1, o1, ⟨pr, psA, pl, psc⟩, ⟨pr', ps⟩, hpA, hob1, hbl, hp, ⟨hx1, hx2⟩, hc⟩ := HPK.out.at_ hmn
            simp only at hx1 hx2
            obtain rfl : pr = pr' := hx1
            subst hpA
            have hagr : Agr (fun b => b ≠ bm) w3 wr := Agr.grown HL.out.gr fun b hb e => hb (Option.some.inj e)
            have d0 := hagr.cell hob1 (hc 0 _ rfl)
            have d1 := hagr.cell hob1 (hc 1 _ rfl)
            simp only [PkE, Nat.add_zero] at d0 d1
            have HGL := Lib.hid (show ∀ x, G1 x → x < wr.heap.size from fun x hx => (HL.out.s.good x hx).1.lt)
            have i0 : (0 : Int) ≤ (mm : Int) := by omega
            have i1 : (mm : Int) < (n : Int) := by omega
            have HPS := Lib.hid hx2
            have HPM := Lib.hid hp
            have hb5 := ((Below.refl wr.heap.size wr).al (.cells #[.int .i64 (pr : Int), .slice psA pl psc] 125)).al (.cells #[.int .i64 (pr : Int), .int .i64 0, .slice none 0 0] 34)
            have BP := (Blk.new wr 125 #[.int .i64 (pr : Int), .slice psA pl psc]).al (.cells #[.int .i64 (pr : Int), .int .i64 0, .slice none 0 0] 34)
            have BT := Blk.newAt (wr.alloc (.cells #[.int .i64 (pr : Int), .slice psA pl psc] 125)) 34 #[.int .i64 (pr : Int), .int .i64 0, .slice none 0 0] (wr.heap.size + 1) (by simp)
            have HB5 := Lib.hid hb5
            have BP1 := Blk.new wr 125 #[.int .i64 (pr : Int), .slice psA pl psc]
            clear hc hp hx2 hbl hb5 hagr hob1
            have cBP1 := BP1.cell
            have fBP1 := BP1.frozen
            have lBP1 := BP1.lt
            go_upto_region 12 with fail
            clear cBP1 fBP1 lBP1
            clear d0 d1 BP1
            have HL5 := Lib.hid (HL.out.s.via HB5.out hbm)
            have hsz5 : ((wr.alloc (.cells #[.int .i64 (pr : Int), .slice psA pl psc] 125)).alloc (.cells #[.int .i64 (pr : Int), .int .i64 0, .slice none 0 0] 34)).heap.size = wr.heap.size + 2 := by simp
            generalize (wr.alloc (.cells #[.int .i64 (pr : Int), .slice psA pl psc] 125)).alloc (.cells #[.int .i64 (pr : Int), .int .i64 0, .slice none 0 0] 34) = W5 at *
            have hbr : ∃ bb : Bool, (bv = .pointer none ∧ bb = false) ∨ ∃ b t, bv = .pointer (some ⟨b, 0, none⟩) ∧ AtT G1 W5 b 0 t ∧ InvP g.rules W P mm t ∧ bb = decide (t.rl < (pr : Int)) := by
              rcases HL.out.best with ⟨-, h⟩ | ⟨b, t, h1, h2, h3⟩
              · exact ⟨false, Or.inl ⟨h, rfl⟩⟩
              · exact ⟨_, Or.inr ⟨b, t, h1, h2.via HB5.out, h3, rfl⟩⟩
            obtain ⟨bb, hbb⟩ := hbr
            have HBB := Lib.hid hbb
            clear hbb
            obtain ⟨bt, hbt⟩ : ∃ bt, bt = wr.heap.size + 1 := ⟨_, rfl⟩
            rw [← hbt] at BT ⊢
            have HBP := Lib.hid BP
            have HBT := Lib.hid BT
            have HBTE := Lib.hid hbt
            clear hbt
            go_cut [62] (fun s wc => ∃ wx, wx = wc ∧ s = .bool bb ∧ Below W5.heap.size W5 wx)
            case first =>
              rcases HBB.out with ⟨h1, h2⟩ | ⟨b, t, h1, h2, h3, h4⟩
              · subst h1 h2
                have cBP := BP.cell
                have fBP := BP.frozen
                have lBP := BP.lt
                go_quiet (fail)
                go_wp2_with fail
                go_meet
                exact ⟨_, rfl, rfl, below_drewN (Below.refl _ _) _⟩
              · subst h1
                obtain ⟨v, hv, -, hcv⟩ := h2
                obtain ⟨q1, -, -⟩ := hv.parts
                have c0 := hcv 0 _ rfl
                rw [q1] at c0
                have HV := Lib.hid h4
                clear h3 h4 hv hcv q1
                obtain ⟨tr, htr⟩ : ∃ tr, tr = t.rl := ⟨_, rfl⟩
                rw [← htr] at c0 HV
                clear htr
                cases bb with
                | true =>
                  have hd : decide (tr < (pr : Int)) = true := HV.out.symm
                  have cBP := BP.cell
                  have fBP := BP.frozen
                  have lBP := BP.lt
                  go_quiet (fail)
                  go_wp2_with fail
                  go_meet
                  exact ⟨_, rfl, rfl, below_drewN (Below.refl _ _) _⟩
                | false =>
                  have hd : decide (tr < (pr : Int)) = false := HV.out.symm
                  have cBP := BP.cell
                  have fBP := BP.frozen
                  have lBP := BP.lt
                  go_quiet (fail)
                  go_wp2_with fail
                  go_meet
                  exact ⟨_, rfl, rfl, below_drewN (Below.refl _ _) _⟩
            case rest =>
              obtain ⟨wx, rfl, rfl, hb6⟩ := hcut
              have HB6 := Lib.hid hb6
              have HL6 := Lib.hid (HL5.out.via hb6 hbm)
              have HBP6 := Lib.hid (HBP.out.via hb6)
              have HBT6 := Lib.hid (HBT.out.via hb6)
              have HGR6 := Lib.hid ((HL.out.gr.trans (grownOf HB5.out _)).trans (grownOf hb6 _))
              have HWR := Lib.hid (show w3.heap.size ≤ wr.heap.size from HL.out.gr.size)
              have HUP := Lib.hid HL.out.up
              have HDN := Lib.hid HL.out.dn
              have HBST := Lib.hid HL.out.best
              have hw6 : wr.heap.size + 2 ≤ wx.heap.size := by have := hb6.size; omega
              have HBR := Lib.hid (show (bv = .pointer none ∧ bb = false) ∨ ∃ b t, bv = .pointer (some ⟨b, 0, none⟩) ∧ AtT G1 wx b 0 t ∧ InvP g.rules W P mm t ∧ bb = decide (t.rl < (pr : Int)) from by
                rcases HBB.out with h | ⟨b, t, h1, h2, h3, h4⟩
                · exact Or.inl h
                · exact Or.inr ⟨b, t, h1, h2.via hb6, h3, h4⟩)
              clear hb6 HL5 HBP HBT HL HBB BP BT
              cases bb with
              | true =>
                have hcs : ∃ b t, bv = .pointer (some ⟨b, 0, none⟩) ∧ AtT G1 wx b 0 t ∧ InvP g.rules W P mm t ∧ t.rl < (pr : Int) := by
                  rcases HBR.out with ⟨-, h⟩ | ⟨b, t, h1, h2, h3, h4⟩
                  · cases h
                  · exact ⟨b, t, h1, h2, h3, of_decide_eq_true h4.symm⟩
                obtain ⟨bF, t, h1, h2, h3, h4⟩ := hcs
                have hpm := HPM.out
                rw [HP.out] at h3 hpm
                have hbs := HT.out.fd.stop rfl HD.out h3 hpm h4
                rw [hbs] at h2
                subst h1
                have HAF := Lib.hid h2
                have HSF := Lib.hid HL6.out
                have HGF := Lib.hid (show w.grownBy wx (some bm) from (grownOf HB3.out _).trans HGR6.out)
                have HUF := Lib.hid HUP.out
                have HDF := Lib.hid (show ∀ x, G1 x → G x ∨ w.heap.size ≤ x from fun x hx => by rw [← HBKE.out]; exact HDN.out x hx)
                have BF := HT.out.f_ HL6.out
                have BK := (show Blk wx bk 73 #[.bool false, .int .i64 (kN : Int), .int .i64 (ki : Int), .int .i64 (kj : Int)] from HBK3.out.grown HGR6.out (fun e => by have := Option.some.inj e; omega))
                clear h2 h3 h4 hbs hpm HL6 HGR6 HBP6 HBT6 HBR HBST
                have cBF := BF.cell
                have fBF := BF.frozen
                have lBF := BF.lt
                have cBK := BK.cell
                have fBK := BK.frozen
                have lBK := BK.lt
                go_upto_region 21 with fail
                go_still_tail 6, (by kernel_rfl)
                have HDW := Lib.hid (Below.refl wx.heap.size wx).drew
                have HMP := Lib.hid ((HSF.out.via HDW.out hbm).mp)
                have HRM := Lib.hid (ky_room HMP.out (fun z hz => by
                  cases hq : M1 z with
                  | none => rw [hq] at hz; exact absurd rfl hz
                  | some x => exact (HSF.out.best z x hq).2.1) HT.out.fd.gok.ok HT.out.fd.short)
                have HSG := Lib.hid (HSF.out.via HDW.out hbm)
                have HAG := Lib.hid (HAF.out.via HDW.out)
                have HGG := Lib.hid (HGF.out.trans (grownOf HDW.out _))
                clear HSF HAF HGF HDW
                change wpList _ _ _ _ _ wx.drew
                generalize wx.drew = W9 at *
                go_wp2_with (at_mapUpdate; refine wpList_put_K rfl key_keyed 65 Tryd.underlying65 kyVal_inj _ _ _ rfl bm ((false, kN), ki, kj) (.pointer (some ⟨bF, 0, none⟩)) rfl rfl rfl HMP.out HKL.out HRM.out ?_; intro w7 hp7 hg7 hz7)
                go_ret
                refine ⟨bF, G1, _, rfl, HSG.out.put rfl HOK.out HAG.out hg7 hp7, HUF.out, HDF.out, HAG.out.agr (Agr.grown hg7 fun x hx e => HSG.out.nm hx (Option.some.inj e)), HGG.out.trans hg7⟩
              | false =>
                have hgl : ¬ G1 bt := fun hx => by have := HGL.out bt hx; have := HBTE.out; omega
                have HI0 := Lib.hid (show InF wS w3 wx bm bt wr.heap.size g W G1 pr psA pl psc 0 [] G1 M1 (.slice none 0 0) (.slice none 0 0) wx from
                  ⟨HL6.out, fun _ h => h, fun _ h => Or.inl h, HGR6.out, fun _ _ _ h => h, HBT6.out, HBP6.out, Own.nil _ _, ⟨hgl, fun b h => by cases h⟩, by have := HBTE.out; omega, by have := HWR.out; omega, by have := HWR.out; have := HS0.out.sz; have := HBKE.out; omega, hbm, by have := HBTE.out; omega⟩)
                clear HL6 HBT6 HBP6 HGR6 hgl
                generalize hbp : wr.heap.size = bp at *
                have HBPE := Lib.hid hbp
                clear hbp
                have BP := HI0.out.pk
                have cBP := BP.cell
                have fBP := BP.frozen
                have lBP := BP.lt
                go_wp2_with fail
                clear cBP fBP lBP
                clear BP
                go_loopw [66] (fun q wr => ∃ (j : Nat) (G2 : Nat → Prop) (M2 : Ky → Option Nat) (v : Value), q = .int .i64 j ∧ j ≤ pl ∧ Hid (InF wS w3 wx bm bt bp g W G1 pr psA pl psc j ((ps.take j).map (bst g.rules W)) G2 M2 v v wr)) (fun q _ => pl - (intOf q).toNat)
                case atStart => exact ⟨0, G1, M1, _, rfl, Nat.zero_le _, HI0⟩
                case round =>
                  obtain ⟨j, G2, M2, v, rfl, hj, HI⟩ := hrel
                  clear HI0
                  by_cases hjp : j < pl
                  · as_aux_lemma =>
                    obtain ⟨vA, vc, rfl, hvc⟩ := HI.out.own.form
                    obtain ⟨b2, o2, ⟨⟨qb, qN⟩, qi, qj⟩, q', hqA, -, hql, hq, hqr, hc2⟩ := (HPS.out.agr (Agr.grown HI.out.gr fun b hb e => hb (Option.some.inj e))).at_ hjp
                    obtain rfl : ((qb, qN), qi, qj) = q' := hqr
                    subst hqA
                    have x0 := hc2 0 _ rfl
                    have x1 := hc2 1 _ rfl
                    have x2 := hc2 2 _ rfl
                    have x3 := hc2 3 _ rfl
                    simp only [KyE, Nat.add_zero] at x0 x1 x2 x3
                    have j0 : (0 : Int) ≤ (j : Int) := by omega
                    have j1 : (j : Int) < (pl : Int) := by omega
                    have j2 : (j : Int) < ((j + 1 : Nat) : Int) := by omega
                    have j3 : (j : Int) < (j : Int) + 1 := by omega
                    have HQ := Lib.hid hq
                    have hpl4 : pl ≤ 4 := by
                      have hpm := List.mem_of_getElem? HPM.out
                      rw [HP.out] at hpm
                      obtain ⟨-, u, hu, -, hw⟩ := packs_mem hpm
                      have h1 := hw.len
                      have h2 := (HT.out.fd.gok.ok.right u (List.mem_of_getElem? hu)).1
                      have h3 := HPS.out.len
                      simp only at h1
                      omega
                    have HLL := Lib.hid (show (ps.take (j + 1)).map (bst g.rules W) = ((ps.take j).map (bst g.rules W) ++ [Tr.node 0 []]).set j (bst g.rules W ((qb, qN), qi, qj)) from by
                      have hjl : j < ps.length := by have := HPS.out.len; omega
                      rw [List.take_add_one, hq, List.map_append, List.set_append_right _ _ (by rw [List.length_map, List.length_take]; exact Nat.min_le_left _ _)]
                      simp [Nat.min_eq_left (Nat.le_of_lt hjl)])
                    have HQD := Lib.hid (show D ((qb, qN), qi, qj) = true ∧ KyOk g W.length ((qb, qN), qi, qj) ∧ mea g ((qb, qN), qi, qj) < m from by
                      have hpm := List.mem_of_getElem? HPM.out
                      rw [HP.out] at hpm
                      have h1 := HT.out.fd.kid hpm (List.mem_of_getElem? hq)
                      have h2 := HT.out.fd.fall hpm (List.mem_of_getElem? hq)
                      exact ⟨h1.1, h1.2, by have := HM.out; omega⟩)
                    have hal := (Below.refl wr.heap.size wr).al (.cells #[.bool qb, .int .i64 (qN : Int), .int .i64 (qi : Int), .int .i64 (qj : Int)] 73)
                    have HI5 := Lib.hid (HI.out.via hal)
                    have HX5 := Lib.hid (Blk.new wr 73 #[.bool qb, .int .i64 (qN : Int), .int .i64 (qi : Int), .int .i64 (qj : Int)])
                    have HXN := Lib.hid (show wr.heap.size ≠ bm from by have := HI.out.lo; omega)
                    clear hc2 hq hql hal
                    go_upto_region 16 with fail
                    clear x0 x1 x2 x3
                    generalize wr.alloc (.cells #[.bool qb, .int .i64 (qN : Int), .int .i64 (qi : Int), .int .i64 (qj : Int)] 73) = W5i at *
                    generalize wr.heap.size = bx at *
                    have hdr := (Below.refl W5i.heap.size W5i).drew
                    have HI6 := Lib.hid (HI5.out.via hdr)
                    have HX6 := Lib.hid (HX5.out.via hdr)
                    clear hdr HI5 HX5 HI
                    have hHeld := And.intro HI6.out.t.cell HX6.out.cell
                    refine wp_region_noPanic ?_
                    refine wp_region_N 11 (fun w' => (∀ i, w'.cell? ⟨bt, i, none⟩ = #[.int .i64 (pr : Int), .int .i64 0, .slice vA j vc][i]?) ∧ (∀ i, w'.cell? ⟨bx, i, none⟩ = #[.bool qb, .int .i64 (qN : Int), .int .i64 (qi : Int), .int .i64 (qj : Int)][i]?)) (by kernel_rfl) ?_
                    generalize W5i.drew = W6 at *
                    refine wpAnyN.take (i := 0) (d := some 70) (v := ?_) rfl (by decide) (by kernel_rfl) (by kernel_rfl) (by kernel_rfl) (by kernel_rfl) (by kernel_rfl) rfl (fun _ _ _ h => h) (Or.inl ⟨by rfl, ?_⟩) (by assumption) ?_
                    rotate_left
                    · intro w hSw; (try dsimp only at hSw); go_simp; try with_reducible rfl
                    simp only [Act.put, List.setIfInBounds_toArray, List.set_cons_zero, List.set_cons_succ]
                    refine wpAnyN.take (i := 1) (d := some 71) (v := ?_) rfl (by decide) (by kernel_rfl) (by kernel_rfl) (by kernel_rfl) (by kernel_rfl) (by kernel_rfl) rfl (fun _ _ _ h => h) (Or.inl ⟨by rfl, ?_⟩) (by assumption) ?_
                    rotate_left
                    · intro w hSw; (try dsimp only at hSw); go_simp; try with_reducible rfl
                    simp only [Act.put, List.setIfInBounds_toArray, List.set_cons_zero, List.set_cons_succ]
                    refine wpAnyN.take (i := 2) (d := some 72) (v := ?_) rfl (by decide) (by kernel_rfl) (by kernel_rfl) (by kernel_rfl) (by kernel_rfl) (by kernel_rfl) rfl (fun _ _ _ h => h) (Or.inl ⟨by rfl, ?_⟩) (by assumption) ?_
                    rotate_left
                    · intro w hSw; (try dsimp only at hSw); go_simp; try with_reducible rfl
                    simp only [Act.put, List.setIfInBounds_toArray, List.set_cons_zero, List.set_cons_succ]
                    refine wpAnyN.take (i := 3) (d := some 73) (v := ?_) rfl (by decide) (by kernel_rfl) (by kernel_rfl) (by kernel_rfl) (by kernel_rfl) (by kernel_rfl) rfl (fun _ _ _ h => h) (Or.inl ⟨by rfl, ?_⟩) (by assumption) ?_
                    rotate_left
                    · intro w hSw; (try dsimp only at hSw); go_simp; try with_reducible rfl
                    simp only [Act.put, List.setIfInBounds_toArray, List.set_cons_zero, List.set_cons_succ]
                    refine wpAnyN.take (i := 4) (d := some 74) (v := ?_) rfl (by decide) (by kernel_rfl) (by kernel_rfl) (by kernel_rfl) (by kernel_rfl) (by kernel_rfl) rfl (fun _ _ _ h => h) (Or.inl ⟨by rfl, ?_⟩) (by assumption) ?_
                    rotate_left
                    · intro w hSw; (try dsimp only at hSw); go_simp; try with_reducible rfl
                    simp only [Act.put, List.setIfInBounds_toArray, List.set_cons_zero, List.set_cons_succ]
                    refine wpAnyN.take (i := 5) (d := some 75) (v := ?_) rfl (by decide) (by kernel_rfl) (by kernel_rfl) (by kernel_rfl) (by kernel_rfl) (by kernel_rfl) rfl (fun _ _ _ h => h) (Or.inl ⟨by rfl, ?_⟩) (by assumption) ?_
                    rotate_left
                    · intro w hSw; (try dsimp only at hSw); go_simp; try with_reducible rfl
                    simp only [Act.put, List.setIfInBounds_toArray, List.set_cons_zero, List.set_cons_succ]
                    refine wpAnyN.take (i := 9) (d := some 79) (v := ?_) rfl (by decide) (by kernel_rfl) (by kernel_rfl) (by kernel_rfl) (by kernel_rfl) (by kernel_rfl) rfl (fun _ _ _ h => h) (Or.inl ⟨by rfl, ?_⟩) (by assumption) ?_
                    rotate_left
                    · intro w hSw; (try dsimp only at hSw); go_simp; try with_reducible rfl
                    simp only [Act.put, List.setIfInBounds_toArray, List.set_cons_zero, List.set_cons_succ]
                    clear hHeld
                    refine wpAnyN.ready (rs := [6, 10]) (by kernel_rfl) (by simp) ?_
                    refine AllN.cons rfl (fun K hK => ?_) (AllN.cons rfl (fun K hK => ?_) AllN.nil)
                    · skip
                      go_simp
                      go_at_call 28
                      refine (IH.out ((qb, qN), qi, qj) G2 M2 W6 HQD.out.2.2 HQD.out.1 HQD.out.2.1 HI6.out.s).mono ?_
                      rintro e wc ⟨bq, G3, M3, rfl, hs3, hup3, hdn3, hat3, hgr3⟩
                      dsimp only
                      have HI7 := Lib.hid (HI6.out.call hs3 hup3 hdn3 hgr3)
                      have HX7 := Lib.hid (HX6.out.grown hgr3 (fun e => HXN.out (Option.some.inj e)))
                      obtain ⟨⟨va, vb, vA2, vn2, vc2⟩, htr3, hGb3, hcv3⟩ := hat3
                      have HTR := Lib.hid htr3
                      have HCV := Lib.hid hcv3
                      skip
                      clear hs3 hup3 hdn3 hgr3 htr3 hGb3 hcv3 HI6 HX6
                      go_wp2_with fail
                      refine hK.out _ _ (fun _ => ⟨HI7.out.t.cell, HX7.out.cell⟩) ?_
                      clear hK K
                      try dsimp only [Act.put]
                      have hS7 := And.intro HI7.out.t.cell HX7.out.cell
                      refine wpAnyN.free (i := 7) (d := some 77) (v := ?_) rfl (by decide) (by kernel_rfl) (by kernel_rfl) (by kernel_rfl) rfl (fun _ _ _ h => h) (Or.inl ⟨by rfl, ?_⟩) (fun _ => by assumption) ?_
                      rotate_left
                      · intro w hSw; go_simp; try with_reducible rfl
                      simp only [Act.put, List.setIfInBounds_toArray, List.set_cons_zero, List.set_cons_succ]
                      clear hS7
                      refine wpAnyN.ready (rs := [8, 10]) (by kernel_rfl) (by simp) ?_
                      refine AllN.cons rfl (fun K hK => ?_) (AllN.cons rfl (fun K hK => ?_) AllN.nil)
                      · skip
                        have c0 := HCV.out 0 _ rfl
                        have c1 := HCV.out 1 _ rfl
                        have c2 := HCV.out 2 _ rfl
                        simp only [Nat.zero_add] at c0 c1 c2
                        go_simp
                        refine hK.out _ _ (fun _ => ⟨HI7.out.t.cell, HX7.out.cell⟩) ?_
                        clear hK K c0 c1 c2
                        try simp only [Act.put, List.setIfInBounds_toArray, List.set_cons_zero, List.set_cons_succ]
                        refine wpAnyN.ready (rs := [10]) (by kernel_rfl) (by simp) ?_
                        refine AllN.cons rfl (fun K hK => ?_) AllN.nil
                        go_simp
                        have hal := (Below.refl wc.heap.size wc).al (.cells #[.int .i64 0, .int .i64 0, .slice none 0 0] 34)
                        have HZ := Lib.hid (Blk.new wc 34 #[.int .i64 0, .int .i64 0, .slice none 0 0])
                        replace HI7 := Lib.hid (HI7.out.via hal)
                        replace HX7 := Lib.hid (HX7.out.via hal)
                        replace HTR := Lib.hid (HTR.out.via hal)
                        clear hal
                        refine hK.out _ _ (fun _ => ⟨HI7.out.t.cell, HX7.out.cell⟩) ?_
                        clear hK K
                        try simp only [Act.put, List.setIfInBounds_toArray, List.set_cons_zero, List.set_cons_succ]
                        generalize wc.alloc (.cells #[.int .i64 0, .int .i64 0, .slice none 0 0] 34) = WZ at *
                        generalize wc.heap.size = bz at *
                        refine wpAnyN.ready (rs := [11]) (by kernel_rfl) (by simp) ?_
                        refine AllN.cons rfl (fun K hK => ?_) AllN.nil
                        have hszA : bt + 1 ≤ WZ.heap.size := by have := HI7.out.lo; omega
                        refine step_append_tr WZ rfl (.tmp 73) (.tmp 80) rfl G3 (bt + 1) (.slice vA j vc) j ((ps.take j).map (bst g.rules W)) rfl HI7.out.own bz (0, 0, none, 0, 0) (.node 0 []) rfl HZ.out (TreeR.mk 0 (Sl.nil 0)) (by omega) hszA ?_
                        intro Av1 cv1 w1 ho1 hg1 hat1
                        obtain ⟨gb, rfl⟩ := ho1.addr (by omega)
                        have HI8 := Lib.hid (HI7.out.app ho1 hg1 hat1)
                        have HTR8 := Lib.hid (HTR.out.agr (Agr.grown hg1 fun b hb e => HI7.out.nb.2 b e.symm hb))
                        clear ho1 hg1 hat1 hszA HI7 HX7 HZ HCV HTR
                        refine hK.out _ _ (fun h => absurd h (by decide)) ?_
                        clear hK K
                        try simp only [Act.put, List.setIfInBounds_toArray]
                        refine wpAnyN.free (i := 12) (d := some 82) (v := ?_) rfl (by decide) (by kernel_rfl) (by kernel_rfl) (by kernel_rfl) rfl (fun _ _ _ h => h) (Or.inl ⟨by rfl, ?_⟩) (fun h => absurd h (by decide)) ?_
                        rotate_left
                        · intro w hSw; go_simp; try with_reducible rfl
                        simp only [Act.put]
                        refine wpAnyN.free (i := 14) (d := some 83) (v := ?_) rfl (by decide) (by kernel_rfl) (by kernel_rfl) (by kernel_rfl) rfl (fun _ _ _ h => h) (Or.inl ⟨by rfl, ?_⟩) (fun h => absurd h (by decide)) ?_
                        rotate_left
                        · intro w hSw; go_simp; try with_reducible rfl
                        simp only [Act.put]
                        refine wpAnyN.free (i := 15) (d := some 84) (v := ?_) rfl (by decide) (by kernel_rfl) (by kernel_rfl) (by kernel_rfl) rfl (fun _ _ _ h => h) (Or.inl ⟨by rfl, ?_⟩) (fun h => absurd h (by decide)) ?_
                        rotate_left
                        · intro w hSw; go_simp; try with_reducible rfl
                        simp only [Act.put]
                        obtain ⟨hce, hfe, -⟩ := HI8.out.own.putTr (q := j) (by omega) (HTR8.out.mono fun b _ hb => ⟨hb, fun e => HI8.out.nb.2 gb rfl (e ▸ hb)⟩)
                        obtain ⟨e0, he0⟩ := hce 0 (by omega)
                        obtain ⟨e1, he1⟩ := hce 1 (by omega)
                        obtain ⟨e2, he2⟩ := hce 2 (by omega)
                        simp only [Nat.add_zero] at he0
                        clear hce
                        refine wpAnyN.ready (rs := [13, 16]) (by kernel_rfl) (by simp) ?_
                        refine AllN.cons rfl (fun K hK => ?_) (AllN.cons rfl (fun K hK => ?_) AllN.nil)
                        · go_simp
                          refine hK.out _ _ (fun h => absurd h (by decide)) ?_
                          clear hK K he0 he1 he2 hfe
                          have HI9 := Lib.hid (HI8.out.putT (q := j) (by omega) HTR8.out)
                          have cB := HI9.out.t.cell
                          have fB := HI9.out.t.frozen
                          clear HI8 HTR8
                          refine wpAnyN.ready (rs := [16]) (by kernel_rfl) (by simp) ?_
                          refine AllN.cons rfl (fun K hK => ?_) AllN.nil
                          go_simp
                          refine hK.out _ _ (fun h => absurd h (by decide)) ?_
                          clear hK K cB fB
                          refine wpAnyN.done (by kernel_rfl) ?_ _
                          refine NoPanic.normal ?_
                          have HIA := Lib.hid HI9.out.hdr
                          clear HI9
                          go_wp2_with fail
                          exact ⟨⟨j + 1, G3, M3, _, by go_num, by omega, Lib.hid (by rw [HLL.out]; exact HIA.out)⟩, by simp [intOf]; omega⟩
                        · have cB := HI8.out.t.cell
                          have fB := HI8.out.t.frozen
                          clear he0 he1 he2 hfe
                          go_simp
                          refine hK.out _ _ (fun h => absurd h (by decide)) ?_
                          clear hK K cB fB
                          have HTR9 := Lib.hid (HTR8.out.agr (Agr.setCell (p := ⟨bt, 2, none⟩) (.slice (some ⟨gb, 0, none⟩) (j + 1) cv1) fun b hb e => by have e' : b = bt := e; rw [e'] at hb; exact HI8.out.nb.1 hb))
                          have HI9 := Lib.hid HI8.out.hdr
                          clear HI8 HTR8
                          obtain ⟨hce, hfe, -⟩ := HI9.out.own.putTr (q := j) (by omega) (HTR9.out.mono fun b _ hb => ⟨hb, fun e => HI9.out.nb.2 gb rfl (e ▸ hb)⟩)
                          obtain ⟨e0, he0⟩ := hce 0 (by omega)
                          obtain ⟨e1, he1⟩ := hce 1 (by omega)
                          obtain ⟨e2, he2⟩ := hce 2 (by omega)
                          simp only [Nat.add_zero] at he0
                          clear hce
                          refine wpAnyN.ready (rs := [13]) (by kernel_rfl) (by simp) ?_
                          refine AllN.cons rfl (fun K hK => ?_) AllN.nil
                          go_simp
                          refine hK.out _ _ (fun h => absurd h (by decide)) ?_
                          clear hK K he0 he1 he2 hfe
                          refine wpAnyN.done (by kernel_rfl) ?_ _
                          refine NoPanic.normal ?_
                          have HIA := Lib.hid (HI9.out.putT (q := j) (by omega) HTR9.out)
                          clear HI9 HTR9
                          go_wp2_with fail
                          exact ⟨⟨j + 1, G3, M3, _, by go_num, by omega, Lib.hid (by rw [HLL.out]; exact HIA.out)⟩, by simp [intOf]; omega⟩
                      · skip
                        go_simp
                        have hal := (Below.refl wc.heap.size wc).al (.cells #[.int .i64 0, .int .i64 0, .slice none 0 0] 34)
                        have HZ := Lib.hid (Blk.new wc 34 #[.int .i64 0, .int .i64 0, .slice none 0 0])
                        replace HI7 := Lib.hid (HI7.out.via hal)
                        replace HX7 := Lib.hid (HX7.out.via hal)
                        (replace HTR := Lib.hid (HTR.out.via hal)); (replace HCV := Lib.hid (show ∀ (j : Nat) (u : Value), (trCells (va, vb, vA2, vn2, vc2))[j]? = some u → (wc.alloc (.cells #[.int .i64 0, .int .i64 0, .slice none 0 0] 34)).cell? ⟨bq, 0 + j, none⟩ = some u from fun j u hu => (hal.cell (World.block_lt_of_cell? _ _ (HCV.out j u hu))).trans (HCV.out j u hu)))
                        clear hal
                        refine hK.out _ _ (fun _ => ⟨HI7.out.t.cell, HX7.out.cell⟩) ?_
                        clear hK K
                        try simp only [Act.put, List.setIfInBounds_toArray, List.set_cons_zero, List.set_cons_succ]
                        generalize wc.alloc (.cells #[.int .i64 0, .int .i64 0, .slice none 0 0] 34) = WZ at *
                        generalize wc.heap.size = bz at *
                        refine wpAnyN.ready (rs := [8]) (by kernel_rfl) (by simp) ?_
                        refine AllN.cons rfl (fun K hK => ?_) AllN.nil
                        have c0 := HCV.out 0 _ rfl
                        have c1 := HCV.out 1 _ rfl
                        have c2 := HCV.out 2 _ rfl
                        simp only [Nat.zero_add] at c0 c1 c2
                        go_simp
                        refine hK.out _ _ (fun _ => ⟨HI7.out.t.cell, HX7.out.cell⟩) ?_
                        clear hK K c0 c1 c2
                        try simp only [Act.put, List.setIfInBounds_toArray, List.set_cons_zero, List.set_cons_succ]
                        refine wpAnyN.ready (rs := [11]) (by kernel_rfl) (by simp) ?_
                        refine AllN.cons rfl (fun K hK => ?_) AllN.nil
                        have hszA : bt + 1 ≤ WZ.heap.size := by have := HI7.out.lo; omega
                        refine step_append_tr WZ rfl (.tmp 73) (.tmp 80) rfl G3 (bt + 1) (.slice vA j vc) j ((ps.take j).map (bst g.rules W)) rfl HI7.out.own bz (0, 0, none, 0, 0) (.node 0 []) rfl HZ.out (TreeR.mk 0 (Sl.nil 0)) (by omega) hszA ?_
                        intro Av1 cv1 w1 ho1 hg1 hat1
                        obtain ⟨gb, rfl⟩ := ho1.addr (by omega)
                        have HI8 := Lib.hid (HI7.out.app ho1 hg1 hat1)
                        have HTR8 := Lib.hid (HTR.out.agr (Agr.grown hg1 fun b hb e => HI7.out.nb.2 b e.symm hb))
                        clear ho1 hg1 hat1 hszA HI7 HX7 HZ HCV HTR
                        refine hK.out _ _ (fun h => absurd h (by decide)) ?_
                        clear hK K
                        try simp only [Act.put, List.setIfInBounds_toArray]
                        refine wpAnyN.free (i := 12) (d := some 82) (v := ?_) rfl (by decide) (by kernel_rfl) (by kernel_rfl) (by kernel_rfl) rfl (fun _ _ _ h => h) (Or.inl ⟨by rfl, ?_⟩) (fun h => absurd h (by decide)) ?_
                        rotate_left
                        · intro w hSw; go_simp; try with_reducible rfl
                        simp only [Act.put]
                        refine wpAnyN.free (i := 14) (d := some 83) (v := ?_) rfl (by decide) (by kernel_rfl) (by kernel_rfl) (by kernel_rfl) rfl (fun _ _ _ h => h) (Or.inl ⟨by rfl, ?_⟩) (fun h => absurd h (by decide)) ?_
                        rotate_left
                        · intro w hSw; go_simp; try with_reducible rfl
                        simp only [Act.put]
                        refine wpAnyN.free (i := 15) (d := some 84) (v := ?_) rfl (by decide) (by kernel_rfl) (by kernel_rfl) (by kernel_rfl) rfl (fun _ _ _ h => h) (Or.inl ⟨by rfl, ?_⟩) (fun h => absurd h (by decide)) ?_
                        rotate_left
                        · intro w hSw; go_simp; try with_reducible rfl
                        simp only [Act.put]
                        obtain ⟨hce, hfe, -⟩ := HI8.out.own.putTr (q := j) (by omega) (HTR8.out.mono fun b _ hb => ⟨hb, fun e => HI8.out.nb.2 gb rfl (e ▸ hb)⟩)
                        obtain ⟨e0, he0⟩ := hce 0 (by omega)
                        obtain ⟨e1, he1⟩ := hce 1 (by omega)
                        obtain ⟨e2, he2⟩ := hce 2 (by omega)
                        simp only [Nat.add_zero] at he0
                        clear hce
                        refine wpAnyN.ready (rs := [13, 16]) (by kernel_rfl) (by simp) ?_
                        refine AllN.cons rfl (fun K hK => ?_) (AllN.cons rfl (fun K hK => ?_) AllN.nil)
                        · go_simp
                          refine hK.out _ _ (fun h => absurd h (by decide)) ?_
                          clear hK K he0 he1 he2 hfe
                          have HI9 := Lib.hid (HI8.out.putT (q := j) (by omega) HTR8.out)
                          have cB := HI9.out.t.cell
                          have fB := HI9.out.t.frozen
                          clear HI8 HTR8
                          refine wpAnyN.ready (rs := [16]) (by kernel_rfl) (by simp) ?_
                          refine AllN.cons rfl (fun K hK => ?_) AllN.nil
                          go_simp
                          refine hK.out _ _ (fun h => absurd h (by decide)) ?_
                          clear hK K cB fB
                          refine wpAnyN.done (by kernel_rfl) ?_ _
                          refine NoPanic.normal ?_
                          have HIA := Lib.hid HI9.out.hdr
                          clear HI9
                          go_wp2_with fail
                          exact ⟨⟨j + 1, G3, M3, _, by go_num, by omega, Lib.hid (by rw [HLL.out]; exact HIA.out)⟩, by simp [intOf]; omega⟩
                        · have cB := HI8.out.t.cell
                          have fB := HI8.out.t.frozen
                          clear he0 he1 he2 hfe
                          go_simp
                          refine hK.out _ _ (fun h => absurd h (by decide)) ?_
                          clear hK K cB fB
                          have HTR9 := Lib.hid (HTR8.out.agr (Agr.setCell (p := ⟨bt, 2, none⟩) (.slice (some ⟨gb, 0, none⟩) (j + 1) cv1) fun b hb e => by have e' : b = bt := e; rw [e'] at hb; exact HI8.out.nb.1 hb))
                          have HI9 := Lib.hid HI8.out.hdr
                          clear HI8 HTR8
                          obtain ⟨hce, hfe, -⟩ := HI9.out.own.putTr (q := j) (by omega) (HTR9.out.mono fun b _ hb => ⟨hb, fun e => HI9.out.nb.2 gb rfl (e ▸ hb)⟩)
                          obtain ⟨e0, he0⟩ := hce 0 (by omega)
                          obtain ⟨e1, he1⟩ := hce 1 (by omega)
                          obtain ⟨e2, he2⟩ := hce 2 (by omega)
                          simp only [Nat.add_zero] at he0
                          clear hce
                          refine wpAnyN.ready (rs := [13]) (by kernel_rfl) (by simp) ?_
                          refine AllN.cons rfl (fun K hK => ?_) AllN.nil
                          go_simp
                          refine hK.out _ _ (fun h => absurd h (by decide)) ?_
                          clear hK K he0 he1 he2 hfe
                          refine wpAnyN.done (by kernel_rfl) ?_ _
                          refine NoPanic.normal ?_
                          have HIA := Lib.hid (HI9.out.putT (q := j) (by omega) HTR9.out)
                          clear HI9 HTR9
                          go_wp2_with fail
                          exact ⟨⟨j + 1, G3, M3, _, by go_num, by omega, Lib.hid (by rw [HLL.out]; exact HIA.out)⟩, by simp [intOf]; omega⟩
                    · skip
                      go_simp
                      have hal := (Below.refl W6.heap.size W6).al (.cells #[.int .i64 0, .int .i64 0, .slice none 0 0] 34)
                      have HZ := Lib.hid (Blk.new W6 34 #[.int .i64 0, .int .i64 0, .slice none 0 0])
                      replace HI6 := Lib.hid (HI6.out.via hal)
                      replace HX6 := Lib.hid (HX6.out.via hal)
                      have HZL := Lib.hid (show W6.heap.size ≠ bm from by have := HI6.out.lo; simp at this; omega)
                      clear hal
                      refine hK.out _ _ (fun _ => ⟨HI6.out.t.cell, HX6.out.cell⟩) ?_
                      clear hK K
                      try simp only [Act.put, List.setIfInBounds_toArray, List.set_cons_zero, List.set_cons_succ]
                      generalize W6.alloc (.cells #[.int .i64 0, .int .i64 0, .slice none 0 0] 34) = WZ at *
                      generalize W6.heap.size = bz at *
                      refine wpAnyN.ready (rs := [6]) (by kernel_rfl) (by simp) ?_
                      refine AllN.cons rfl (fun K hK => ?_) AllN.nil
                      go_simp
                      go_at_call 28
                      refine (IH.out ((qb, qN), qi, qj) G2 M2 WZ HQD.out.2.2 HQD.out.1 HQD.out.2.1 HI6.out.s).mono ?_
                      rintro e wc ⟨bq, G3, M3, rfl, hs3, hup3, hdn3, hat3, hgr3⟩
                      dsimp only
                      have HI7 := Lib.hid (HI6.out.call hs3 hup3 hdn3 hgr3)
                      have HX7 := Lib.hid (HX6.out.grown hgr3 (fun e => HXN.out (Option.some.inj e)))
                      obtain ⟨⟨va, vb, vA2, vn2, vc2⟩, htr3, hGb3, hcv3⟩ := hat3
                      have HTR := Lib.hid htr3
                      have HCV := Lib.hid hcv3
                      replace HZ := Lib.hid (HZ.out.grown hgr3 (fun e => HZL.out (Option.some.inj e)))
                      clear hs3 hup3 hdn3 hgr3 htr3 hGb3 hcv3 HI6 HX6
                      go_wp2_with fail
                      refine hK.out _ _ (fun _ => ⟨HI7.out.t.cell, HX7.out.cell⟩) ?_
                      clear hK K
                      try dsimp only [Act.put]
                      have hS7 := And.intro HI7.out.t.cell HX7.out.cell
                      refine wpAnyN.free (i := 7) (d := some 77) (v := ?_) rfl (by decide) (by kernel_rfl) (by kernel_rfl) (by kernel_rfl) rfl (fun _ _ _ h => h) (Or.inl ⟨by rfl, ?_⟩) (fun _ => by assumption) ?_
                      rotate_left
                      · intro w hSw; go_simp; try with_reducible rfl
                      simp only [Act.put, List.setIfInBounds_toArray, List.set_cons_zero, List.set_cons_succ]
                      clear hS7
                      refine wpAnyN.ready (rs := [8]) (by kernel_rfl) (by simp) ?_
                      refine AllN.cons rfl (fun K hK => ?_) AllN.nil
                      have c0 := HCV.out 0 _ rfl
                      have c1 := HCV.out 1 _ rfl
                      have c2 := HCV.out 2 _ rfl
                      simp only [Nat.zero_add] at c0 c1 c2
                      go_simp
                      refine hK.out _ _ (fun _ => ⟨HI7.out.t.cell, HX7.out.cell⟩) ?_
                      clear hK K c0 c1 c2
                      try simp only [Act.put, List.setIfInBounds_toArray, List.set_cons_zero, List.set_cons_succ]
                      refine wpAnyN.ready (rs := [11]) (by kernel_rfl) (by simp) ?_
                      refine AllN.cons rfl (fun K hK => ?_) AllN.nil
                      have hszA : bt + 1 ≤ wc.heap.size := by have := HI7.out.lo; omega
                      refine step_append_tr wc rfl (.tmp 73) (.tmp 80) rfl G3 (bt + 1) (.slice vA j vc) j ((ps.take j).map (bst g.rules W)) rfl HI7.out.own bz (0, 0, none, 0, 0) (.node 0 []) rfl HZ.out (TreeR.mk 0 (Sl.nil 0)) (by omega) hszA ?_
                      intro Av1 cv1 w1 ho1 hg1 hat1
                      obtain ⟨gb, rfl⟩ := ho1.addr (by omega)
                      have HI8 := Lib.hid (HI7.out.app ho1 hg1 hat1)
                      have HTR8 := Lib.hid (HTR.out.agr (Agr.grown hg1 fun b hb e => HI7.out.nb.2 b e.symm hb))
                      clear ho1 hg1 hat1 hszA HI7 HX7 HZ HCV HTR
                      refine hK.out _ _ (fun h => absurd h (by decide)) ?_
                      clear hK K
                      try simp only [Act.put, List.setIfInBounds_toArray]
                      refine wpAnyN.free (i := 12) (d := some 82) (v := ?_) rfl (by decide) (by kernel_rfl) (by kernel_rfl) (by kernel_rfl) rfl (fun _ _ _ h => h) (Or.inl ⟨by rfl, ?_⟩) (fun h => absurd h (by decide)) ?_
                      rotate_left
                      · intro w hSw; go_simp; try with_reducible rfl
                      simp only [Act.put]
                      refine wpAnyN.free (i := 14) (d := some 83) (v := ?_) rfl (by decide) (by kernel_rfl) (by kernel_rfl) (by kernel_rfl) rfl (fun _ _ _ h => h) (Or.inl ⟨by rfl, ?_⟩) (fun h => absurd h (by decide)) ?_
                      rotate_left
                      · intro w hSw; go_simp; try with_reducible rfl
                      simp only [Act.put]
                      refine wpAnyN.free (i := 15) (d := some 84) (v := ?_) rfl (by decide) (by kernel_rfl) (by kernel_rfl) (by kernel_rfl) rfl (fun _ _ _ h => h) (Or.inl ⟨by rfl, ?_⟩) (fun h => absurd h (by decide)) ?_
                      rotate_left
                      · intro w hSw; go_simp; try with_reducible rfl
                      simp only [Act.put]
                      obtain ⟨hce, hfe, -⟩ := HI8.out.own.putTr (q := j) (by omega) (HTR8.out.mono fun b _ hb => ⟨hb, fun e => HI8.out.nb.2 gb rfl (e ▸ hb)⟩)
                      obtain ⟨e0, he0⟩ := hce 0 (by omega)
                      obtain ⟨e1, he1⟩ := hce 1 (by omega)
                      obtain ⟨e2, he2⟩ := hce 2 (by omega)
                      simp only [Nat.add_zero] at he0
                      clear hce
                      refine wpAnyN.ready (rs := [13, 16]) (by kernel_rfl) (by simp) ?_
                      refine AllN.cons rfl (fun K hK => ?_) (AllN.cons rfl (fun K hK => ?_) AllN.nil)
                      · go_simp
                        refine hK.out _ _ (fun h => absurd h (by decide)) ?_
                        clear hK K he0 he1 he2 hfe
                        have HI9 := Lib.hid (HI8.out.putT (q := j) (by omega) HTR8.out)
                        have cB := HI9.out.t.cell
                        have fB := HI9.out.t.frozen
                        clear HI8 HTR8
                        refine wpAnyN.ready (rs := [16]) (by kernel_rfl) (by simp) ?_
                        refine AllN.cons rfl (fun K hK => ?_) AllN.nil
                        go_simp
                        refine hK.out _ _ (fun h => absurd h (by decide)) ?_
                        clear hK K cB fB
                        refine wpAnyN.done (by kernel_rfl) ?_ _
                        refine NoPanic.normal ?_
                        have HIA := Lib.hid HI9.out.hdr
                        clear HI9
                        go_wp2_with fail
                        exact ⟨⟨j + 1, G3, M3, _, by go_num, by omega, Lib.hid (by rw [HLL.out]; exact HIA.out)⟩, by simp [intOf]; omega⟩
                      · have cB := HI8.out.t.cell
                        have fB := HI8.out.t.frozen
                        clear he0 he1 he2 hfe
                        go_simp
                        refine hK.out _ _ (fun h => absurd h (by decide)) ?_
                        clear hK K cB fB
                        have HTR9 := Lib.hid (HTR8.out.agr (Agr.setCell (p := ⟨bt, 2, none⟩) (.slice (some ⟨gb, 0, none⟩) (j + 1) cv1) fun b hb e => by have e' : b = bt := e; rw [e'] at hb; exact HI8.out.nb.1 hb))
                        have HI9 := Lib.hid HI8.out.hdr
                        clear HI8 HTR8
                        obtain ⟨hce, hfe, -⟩ := HI9.out.own.putTr (q := j) (by omega) (HTR9.out.mono fun b _ hb => ⟨hb, fun e => HI9.out.nb.2 gb rfl (e ▸ hb)⟩)
                        obtain ⟨e0, he0⟩ := hce 0 (by omega)
                        obtain ⟨e1, he1⟩ := hce 1 (by omega)
                        obtain ⟨e2, he2⟩ := hce 2 (by omega)
                        simp only [Nat.add_zero] at he0
                        clear hce
                        refine wpAnyN.ready (rs := [13]) (by kernel_rfl) (by simp) ?_
                        refine AllN.cons rfl (fun K hK => ?_) AllN.nil
                        go_simp
                        refine hK.out _ _ (fun h => absurd h (by decide)) ?_
                        clear hK K he0 he1 he2 hfe
                        refine wpAnyN.done (by kernel_rfl) ?_ _
                        refine NoPanic.normal ?_
                        have HIA := Lib.hid (HI9.out.putT (q := j) (by omega) HTR9.out)
                        clear HI9 HTR9
                        go_wp2_with fail
                        exact ⟨⟨j + 1, G3, M3, _, by go_num, by omega, Lib.hid (by rw [HLL.out]; exact HIA.out)⟩, by simp [intOf]; omega⟩
                  · as_aux_lemma =>
                    obtain rfl : j = pl := by omega
                    have hfin := HI.out.fin
                    rw [List.take_of_length_le (by rw [HPS.out.len]; exact Nat.le_refl _)] at hfin
                    have hpm := List.mem_of_getElem? HPM.out
                    rw [HP.out] at hpm
                    have HPK2 := Lib.hid (HT.out.fd.pack hpm)
                    have HF := Lib.hid hfin
                    obtain ⟨G3, hG3⟩ : ∃ G3, G3 = gAdd G2 bt v := ⟨_, rfl⟩
                    have HG3 := Lib.hid hG3
                    rw [← hG3] at HF
                    have HU3 := Lib.hid (show (∀ x, G x → G3 x) ∧ (∀ x, G2 x → G3 x) ∧ ∀ x, G3 x → G x ∨ bk ≤ x from by
                      rw [HG3.out]
                      have hlo := HI.out.lo
                      have h1 := HWR.out
                      have h2 : bk < w3.heap.size := hBk
                      refine ⟨fun x hx => Or.inl (HI.out.up x (HUP.out x hx)), fun x hx => Or.inl hx, fun x hx => ?_⟩
                      rcases hx with hx | rfl | hx
                      · rcases HI.out.dn x hx with h | h
                        · exact HDN.out x h
                        · exact Or.inr (by omega)
                      · exact Or.inr (by omega)
                      · have := (HI.out.own.lt x hx).1
                        exact Or.inr (by omega))
                    have hbs : (mm = 0 ∧ bv = .pointer none) ∨ ∃ b t, bv = .pointer (some ⟨b, 0, none⟩) ∧ AtT G3 wr b 0 t ∧ InvP g.rules W P mm t ∧ AtT G2 wr b 0 t := by
                      rcases HBST.out with h | ⟨b, t, h1, -, h3⟩
                      · exact Or.inl h
                      · rcases HBR.out with ⟨h4, -⟩ | ⟨b', t', h4, h5, h6, -⟩
                        · rw [h1] at h4; cases h4
                        · have h7 := HI.out.tr _ _ _ h5
                          exact Or.inr ⟨b', t', h4, h7.mono fun x _ hx => HU3.out.2.1 x hx, h6, h7⟩
                    have HGI := Lib.hid HI.out.gr
                    have HNB := Lib.hid HI.out.nb.1
                    have HBT9 := Lib.hid HI.out.t.okC
                    have HGD := Lib.hid HI.out.s.good
                    have HM0 := Lib.hid (show ∀ t, InvP g.rules W P (mm + 1) t → True from fun _ _ => trivial)
                    clear hfin hG3 HI HBR HBST hpm
                    rcases hbs with ⟨h1, h2⟩ | ⟨b, t, h1, h2, h3, h4⟩
                    · subst h1 h2
                      have HN0 := Lib.hid HPM.out
                      go_wp2_with fail
                      exact ⟨⟨1, G3, M2, _, by go_num, rfl, by omega, Lib.hid ⟨HF.out.1, HU3.out.1, HU3.out.2.2, HGI.out, Or.inr ⟨bt, _, rfl, HF.out.2, InvP.first HN0.out⟩⟩⟩, by simp [intOf]; omega⟩
                    · subst h1
                      have HAB := Lib.hid h2
                      have HIV := Lib.hid h3
                      have hne : bt ≠ b := fun e => by
                        obtain ⟨_, _, hb, _⟩ := h4
                        exact HNB.out (e ▸ hb)
                      clear h2 h3 h4
                      go_wp2_with fail
                      have hdt : DrL g.rules W [(false, kN)] ki kj [t] := by
                        obtain ⟨⟨p, hp, rfl⟩, -⟩ := HIV.out
                        have := List.mem_of_mem_take hp
                        rw [HP.out] at this
                        exact HT.out.fd.pack this
                      refine (compare_n g.rules W (by have := HT.out.fd.gok.ok.count; omega) G3 (pkT g.rules W (pr, ps)).size (pkT g.rules W (pr, ps)) t (false, kN) ki kj kj bt 0 b 0 wr (Nat.le_refl _) HPK2.out hdt (fun v hv => (HT.out.fd.gok.ok.right v hv).1) (fun x hx => (HF.out.1.good x hx).1) HF.out.2 HAB.out).mono ?_
                      rintro e w4 ⟨c, rfl, hcmp, -, -, hb4⟩
                      have HC := Lib.hid hcmp
                      have HF4 := Lib.hid (HF.out.1.via hb4 hbm)
                      have HA4 := Lib.hid (HAB.out.via hb4)
                      have HT4 := Lib.hid (HF.out.2.via hb4)
                      have HG4 := Lib.hid (HGI.out.trans (grownOf hb4 _))
                      clear hcmp hb4 hdt HF HAB HGI hne
                      by_cases hc : c < 0
                      · have hd : decide (c < 0) = true := decide_eq_true hc
                        have HCC := Lib.hid hc
                        clear hc
                        go_wp2_with fail
                        exact ⟨⟨mm + 1, G3, M2, _, by go_num, rfl, by omega, Lib.hid ⟨HF4.out, HU3.out.1, HU3.out.2.2, HG4.out, Or.inr ⟨bt, _, rfl, HT4.out, HIV.out.less HPM.out (HC.out.1 HCC.out)⟩⟩⟩, by simp [intOf]; omega⟩
                      · have hd : decide (c < 0) = false := decide_eq_false hc
                        have HCC := Lib.hid hc
                        clear hc
                        go_wp2_with fail
                        exact ⟨⟨mm + 1, G3, M2, _, by go_num, rfl, by omega, Lib.hid ⟨HF4.out, HU3.out.1, HU3.out.2.2, HG4.out, Or.inr ⟨b, t, rfl, HA4.out, HIV.out.keep HPM.out (cmp_no HC.out (by have := HCC.out; omega))⟩⟩⟩, by simp [intOf]; omega⟩
          · obtain rfl : mm = n := by omega
            have hcs : ∃ b t, bv = .pointer (some ⟨b, 0, none⟩) ∧ AtT G1 wr b 0 t ∧ InvP g.rules W P mm t := by
              rcases HL.out.best with ⟨h0, -⟩ | h
              · have h1 := HT.out.fd.some rfl HD.out
                have h2 := HNE.out
                rw [HP.out] at h2
                omega
              · exact h
            obtain ⟨bF, t, h1, h2, h3⟩ := hcs
            have hne := HNE.out
            rw [HP.out] at h3 hne
            rw [hne] at h3
            have hbs := HT.out.fd.done rfl HD.out h3
            rw [hbs] at h2
            subst h1
            have HAF := Lib.hid h2
            have HSF := Lib.hid HL.out.s
            have HGF := Lib.hid (show w.grownBy wr (some bm) from (grownOf HB3.out _).trans HL.out.gr)
            have HUF := Lib.hid HL.out.up
            have HDF := Lib.hid (show ∀ x, G1 x → G x ∨ w.heap.size ≤ x from fun x hx => by rw [← HBKE.out]; exact HL.out.dn x hx)
            have BF := HT.out.f_ HL.out.s
            have BK := (show Blk wr bk 73 #[.bool false, .int .i64 (kN : Int), .int .i64 (ki : Int), .int .i64 (kj : Int)] from HBK3.out.grown HL.out.gr (fun e => by have := Option.some.inj e; omega))
            clear h2 h3 hbs hne HL
            have cBF := BF.cell
            have fBF := BF.frozen
            have lBF := BF.lt
            have cBK := BK.cell
            have fBK := BK.frozen
            have lBK := BK.lt
            go_upto_region 21 with fail
            go_still_tail 6, (by kernel_rfl)
            have HDW := Lib.hid (Below.refl wr.heap.size wr).drew
            have HMP := Lib.hid ((HSF.out.via HDW.out hbm).mp)
            have HRM := Lib.hid (ky_room HMP.out (fun z hz => by
              cases hq : M1 z with
              | none => rw [hq] at hz; exact absurd rfl hz
              | some x => exact (HSF.out.best z x hq).2.1) HT.out.fd.gok.ok HT.out.fd.short)
            have HSG := Lib.hid (HSF.out.via HDW.out hbm)
            have HAG := Lib.hid (HAF.out.via HDW.out)
            have HGG := Lib.hid (HGF.out.trans (grownOf HDW.out _))
            clear HSF HAF HGF HDW
            change wpList _ _ _ _ _ wr.drew
            generalize wr.drew = W9 at *
            go_wp2_with (at_mapUpdate; refine wpList_put_K rfl key_keyed 65 Tryd.underlying65 kyVal_inj _ _ _ rfl bm ((false, kN), ki, kj) (.pointer (some ⟨bF, 0, none⟩)) rfl rfl rfl HMP.out HKL.out HRM.out ?_; intro w7 hp7 hg7 hz7)
            go_ret
            refine ⟨bF, G1, _, rfl, HSG.out.put rfl HOK.out HAG.out hg7 hp7, HUF.out, HDF.out, HAG.out.agr (Agr.grown hg7 fun x hx e => HSG.out.nm hx (Option.some.inj e)), HGG.out.trans hg7⟩
end Go.Proofs.YtfmnmgnhanogmaaDoor

