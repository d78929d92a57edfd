/- Texts PQ, PT, laid together. -/
import Derived.Test.YtbfcnfgkccgbiaaGreatDoorQ25
import Derived.Test.YtbfcnfgkccgbiaaGreatDoorQ21


namespace Go.Proofs.YtbfcnfgkccgbiaaGreatDoor
open Go.RowKit

theorem Own.at3 {ti : TypeId} {w : World} {base : Nat} {A : Option Addr} {n c : Nat} {l : List It3} (h : Own It3E ti (fun _ => False) w base (.slice A n c) n l) {i : Nat} (hi : i < n) : ∃ b off x, A = some ⟨b, off, none⟩ ∧ base ≤ b ∧ b < w.heap.size ∧ l[i]? = some x ∧ w.cell? ⟨b, off + i * 3, none⟩ = some (.int .i64 (x.r : Int)) ∧ w.cell? ⟨b, off + i * 3 + 1, none⟩ = some (.int .i64 (x.d : Int)) ∧ w.cell? ⟨b, off + i * 3 + 2, none⟩ = some (.int .i64 (x.f : Int)) := by
  have hs := h.toSl (ok' := fun b => base ≤ b) (fun _ _ h => h.elim) (fun b hb => hb)
  obtain ⟨b, off, x, x', rfl, hb1, hb2, hx, hrel, hc⟩ := hs.at_ hi
  obtain rfl : x = x' := hrel
  exact ⟨b, off, x, rfl, hb1, hb2, hx, by have := hc 0 _ rfl; simpa [It3E] using this, by have := hc 1 _ rfl; simpa [It3E] using this, by have := hc 2 _ rfl; simpa [It3E] using this⟩
/-- the j-th set -/
def setI (L : List (List It3)) (j : Nat) : List It3 := L.getD j []
/-- the state behind complete -/
def ComplP {σ : Type} (R : List Ru) (k : Nat) (L : List (List It3)) (l : List It3) (add : List (List It3) → Ending → World → Prop) (_ : σ) (e : Ending) (w' : World) : Prop := ∃ l', Cl R k (setI L) l l' ∧ add (L.set k l') e w'
theorem cadd_o {w : World} {base bf : Nat} {c0 c1 c2 : Value} {AR : Option Addr} {nR cR : Nat} {R : List Ru} {s : ChSt} {L : List (List It3)} (h : ChS w base bf c0 c1 c2 AR nR cR R s L) (k : Nat) (l : List It3) (x : It3) (hk : L.length = k + 1) (hl : L[k]? = some l) (hk2 : k ≤ 1000) (hl2 : l.length ≤ 100000) (hx : ItOk R k x) (hR : R.length ≤ 32) (h4 : ∀ u ∈ R, u.2.length ≤ 4) :
    Calls Tryz.prog 62 #[.pointer (some ⟨bf, 0, none⟩), .agg #[.int .i64 (x.r : Int), .int .i64 (x.d : Int), .int .i64 (x.f : Int)]] w (AddC k w base bf c0 c1 c2 AR nR cR R s (L.set k (addI l x))) := by
  obtain ⟨h1, u, h2, h3⟩ := hx
  have h5 := (List.getElem?_eq_some_iff.1 h2).1
  have h6 := h4 u (List.mem_of_getElem? h2)
  exact cadd_s h k l x hk hl hk2 hl2 (by omega) (by omega) (by omega)
theorem Own.any3 {e : TypeId} {ok ok' : Nat → Prop} {w : World} {base : Nat} {v : Value} {n : Nat} {l : List It3} (h : Own It3E e ok w base v n l) : Own It3E e ok' w base v n l := h
set_option maxRecDepth 100000 in
set_option maxHeartbeats 4000000 in
theorem ccomplete_s (w : World) (base bf k : Nat) (c0 c1 c2 : Value) (AR : Option Addr) (nR cR : Nat) (R : List Ru) (s : ChSt) (L : List (List It3)) (l : List It3) (h : ChS w base bf c0 c1 c2 AR nR cR R s L) (hk : L.length = k + 1) (hl : L[k]? = some l) (hk2 : k ≤ 100) (hR : R.length ≤ 32) (h4 : ∀ u ∈ R, u.2.length ≤ 4) (hnd : l.Nodup) (hok : ∀ x ∈ l, ItOk R k x) (hSo : ∀ (j : Nat) m, L[j]? = some m → m.length ≤ 100000 ∧ ∀ x ∈ m, ItOk R k x) :
    Calls Tryz.prog 59 #[.pointer (some ⟨bf, 0, none⟩)] w (ComplP R k L l (AddC k w base bf c0 c1 c2 AR nR cR R s) s) := by
  have hL0 : L ≠ [] := fun e => by rw [e] at hk; cases hk
  have HF0 := Lib.hid h
  have HK := Lib.hid hk
  have HL := Lib.hid hl
  have H4 := Lib.hid h4
  have HND := Lib.hid hnd
  have HOK := Lib.hid hok
  have HSO := Lib.hid hSo
  have hRn : nR = R.length := h.rules.len.symm
  have HRN := Lib.hid hRn
  have H1000 := Lib.hid (show ∀ u ∈ R, u.2.length ≤ 1000 from fun u hu => Nat.le_trans (h4 u hu) (by omega))
  obtain ⟨A0, d0, hv, -⟩ := h.mform
  have f4 := h.cm
  rw [hv, hk] at f4
  have e1 : ((k + 1 : Nat) : Int) - 1 = (k : Int) := by omega
  clear h hk hl h4 hnd hok hSo hRn hv
  go_enter Tryz.func59, Tryz.ntmps59
  go_wp2_with fail
  clear f4 e1
  go_loopg [3] (2 * (100000 - l.length) + 1) (fun gk a wr => ∃ (n : Int) (s1 : ChSt) (l1 : List It3), a = .int .i64 n ∧ -1 ≤ n ∧ n ≤ 100000 ∧ Hid (Cl0 R k (setI L) l l1) ∧ Hid (n = (l1.length : Int) → ∀ x ∈ l1, Shut1 R k (setI L) l1 x) ∧ Hid (ChS wr base bf c0 c1 c2 AR nR cR R s1 (L.set k l1)) ∧ Hid (Mov (ChN k s) (ChN k s1) w wr) ∧ Hid (gk = 2 * (100000 - l1.length) + (if n = (l1.length : Int) then 0 else 1)))
  case atStart =>
    refine ⟨-1, s, l, rfl, by omega, by omega, Lib.hid (Cl0.start HND.out HOK.out), Lib.hid (fun e => absurd e (by omega)), Lib.hid ?_, Lib.hid (Mov.of (Below.refl _ _)), Lib.hid (by rw [if_neg (by omega)])⟩
    rw [set_same HL.out]; exact HF0.out
  case round =>
    obtain ⟨n, s1, l1, rfl, hn1, hn2, HC, HSH, HF, HMV, HGK⟩ := hrel
    obtain ⟨gb1, d1, hv, hcell⟩ := HF.out.hdr (fun e => hL0 (by rw [List.set_eq_nil_iff] at e; exact e))
    obtain ⟨qA, qc, g0, -⟩ := hcell k l1 (set_get HL.out)
    have f4 := HF.out.cv
    rw [hv, List.length_set, HK.out] at f4
    have hl1 : l1.length ≤ 100000 := lenI hR H4.out hk2 HC.out.nd HC.out.ok
    have i1 : (k : Int) < ((k : Int) + 1) := by omega
    have i0 : (0 : Int) ≤ (k : Int) := by omega
    clear hcell hv
    by_cases hn : n = (l1.length : Int)
    · subst hn
      go_wp2_with fail
      exact bodyPost_ret (v := .tuple #[]) (by simp [results, Tryz.results59, go_sem]) rfl ⟨l1, ⟨HC.out, HSH.out trivial⟩, rfl, s1, HF.out, HMV.out⟩
    · have hq1 : (n == (l1.length : Int)) = false := by rw [beq_eq_false_iff_ne]; exact hn
      have hq2 : (n != (l1.length : Int)) = true := by rw [bne_iff_ne]; exact hn
      have HN := Lib.hid hn
      clear hn
      go_wp2_with fail
      clear hq1 hq2 f4 g0
      go_loopw [4] (fun a wq => ∃ (i : Nat) (s2 : ChSt) (l2 : List It3), a = .int .i64 i ∧ i ≤ l2.length ∧ Hid (Cl0 R k (setI L) l l2) ∧ Hid (Pass R k (setI L) l1.length i l2) ∧ Hid (ChS wq base bf c0 c1 c2 AR nR cR R s2 (L.set k l2)) ∧ Hid (Mov (ChN k s) (ChN k s2) w wq)) (fun a _ => 100001 - (intOf a).toNat)
      case atStart => exact ⟨0, s1, l1, rfl, Nat.zero_le _, HC, Lib.hid Pass.start, HF, HMV⟩
      case round =>
        obtain ⟨i, s2, l2, rfl, hi, HC2, HP2, HF2, HM2⟩ := hrel
        obtain ⟨gb2, d2, hv, hcell⟩ := HF2.out.hdr (fun e => hL0 (by rw [List.set_eq_nil_iff] at e; exact e))
        obtain ⟨qA2, qc2, g0, hown⟩ := hcell k l2 (set_get HL.out)
        have f4 := HF2.out.cv
        rw [hv, List.length_set, HK.out] at f4
        have hl2 : l2.length ≤ 100000 := lenI hR H4.out hk2 HC2.out.nd HC2.out.ok
        have HV2 := Lib.hid hv
        have HCELL := Lib.hid hcell
        clear hcell hv
        by_cases hil : i < l2.length
        · obtain ⟨b1, o1, x, rfl, hb1, hb2, hx, x0, x1, x2⟩ := hown.at3 hil
          have i2 : (0 : Int) ≤ (i : Int) := by omega
          have i3 : (i : Int) < (l2.length : Int) := by omega
          have hal := (Below.refl wr.heap.size wr).al (.cells #[.int .i64 (x.r : Int), .int .i64 (x.d : Int), .int .i64 (x.f : Int)] 47)
          have HXB := Lib.hid (Blk.new wr 47 #[.int .i64 (x.r : Int), .int .i64 (x.d : Int), .int .i64 (x.f : Int)])
          have HX := Lib.hid hx
          have HXO := Lib.hid (HC2.out.ok x (List.mem_of_getElem? hx))
          have HF3 := Lib.hid (HF2.out.via hal)
          have HM3 := Lib.hid (HM2.out.via hal)
          have HAL := Lib.hid hal
          clear hown hx hal
          go_upto_region 8 with fail
          clear x0 x1 x2 g0 f4
          generalize hW : wr.alloc (.cells #[.int .i64 (x.r : Int), .int .i64 (x.d : Int), .int .i64 (x.f : Int)] 47) = W1 at *
          have hbx : wr.heap.size < W1.heap.size := by rw [← hW]; simp
          clear hW
          have BX := HXB.out
          obtain ⟨oy, hy⟩ : ∃ oy, nxtI R x = oy := ⟨_, rfl⟩
          cases oy with
          | some y =>
            obtain ⟨tb, tn⟩ := y
            have HY := Lib.hid hy
            clear hy
            have cBX := BX.cell
            have fBX := BX.frozen
            have lBX := BX.lt
            go_wp2_with fail
            clear cBX fBX lBX
            refine (cnexts_s HF3.out H1000.out x tb tn HY.out).mono ?_
            rintro e w3 ⟨rfl, hb3⟩
            have HF4 := Lib.hid ((HF3.out.via hb3).via ((Below.refl w3.heap.size w3).al (.cells #[.bool tb, .int .i64 (tn : Int)] 66)))
            have HM4 := Lib.hid ((HM3.out.via hb3).via ((Below.refl w3.heap.size w3).al (.cells #[.bool tb, .int .i64 (tn : Int)] 66)))
            have BS := Blk.new w3 66 #[.bool tb, .int .i64 (tn : Int)]
            clear hb3 BX
            have cBS := BS.cell
            have fBS := BS.frozen
            have lBS := BS.lt
            go_wp2_with fail
            clear cBS fBS lBS
            refine (cpredict_s HF4.out k l2 (by rw [List.length_set]; exact HK.out) (set_get HL.out) hk2 hR H4.out HC2.out.nd HC2.out.ok tb tn).mono ?_
            rintro e w4 ⟨l3, hG, rfl, s3, hF5, hM5⟩
            rw [List.set_set] at hF5
            have hG' : Grew (PredI R k (tb, tn) R.length) l2 l3 := by rw [← HRN.out]; exact hG
            have HF5 := Lib.hid hF5
            have HM5 := Lib.hid (HM4.out.trans hM5)
            have HC5 := Lib.hid (HC2.out.pred (List.mem_of_getElem? HX.out) HY.out hG')
            have HP5 := Lib.hid (HP2.out.step HX.out hG' (fun hg => Cl0.pred_shut HY.out hg))
            have hle := hG'.le
            clear hG hG' hF5 hM5 BS
            go_wp2_with fail
            exact ⟨⟨i + 1, s3, l3, by go_num, by omega, HC5, HP5, HF5, HM5⟩, by simp [intOf]; omega⟩
          | none =>
            have HY := Lib.hid hy
            clear hy
            have cBX := BX.cell
            have fBX := BX.frozen
            have lBX := BX.lt
            go_wp2_with fail
            clear cBX fBX lBX
            refine (cnexts_n HF3.out H1000.out k x HXO.out HY.out).mono ?_
            rintro e w3 ⟨rfl, hb3⟩
            have hal4 := (Below.refl w3.heap.size w3).al (.cells #[.bool false, .int .i64 0] 66)
            have HF4 := Lib.hid ((HF3.out.via hb3).via hal4)
            have HM4 := Lib.hid ((HM3.out.via hb3).via hal4)
            have HX4 := Lib.hid ((HXB.out.via hb3).via hal4)
            have hbx4 : wr.heap.size < w3.heap.size + 1 := by have := hb3.size; omega
            have hbw4 : wr.heap.size < W1.heap.size := hbx
            clear hb3 BX hal4
            go_upto_region 11 with fail
            generalize hW : w3.alloc (.cells #[.bool false, .int .i64 0] 66) = W4 at *
            have hbx5 : wr.heap.size < W4.heap.size := by rw [← hW]; simp; omega
            clear hW hbx4
            obtain ⟨u, hu, -⟩ := HXO.out.2
            obtain ⟨z, hz⟩ : ∃ z, (L.set k l2)[x.f]? = some z := ⟨_, List.getElem?_eq_getElem (by rw [List.length_set, HK.out]; have := HXO.out.1; omega)⟩
            obtain ⟨gb4, d4, hv4, hcell4⟩ := HF4.out.hdr (fun e => hL0 (by rw [List.set_eq_nil_iff] at e; exact e))
            obtain ⟨zA, zc, gz, hzown⟩ := hcell4 x.f z hz
            have f4 := HF4.out.cv
            rw [hv4, List.length_set, HK.out] at f4
            have hgl : gb4 < W4.heap.size := World.block_lt_of_cell? W4 _ gz
            have hzo : z.length ≤ 100000 ∧ ∀ y ∈ z, ItOk R k y := by
              by_cases e : x.f = k
              · rw [e, set_get HL.out] at hz
                obtain rfl := Option.some.inj hz
                exact ⟨hl2, HC2.out.ok⟩
              · rw [List.getElem?_set_ne (fun h => e h.symm)] at hz
                exact HSO.out _ _ hz
            have HZ := Lib.hid (show z = if x.f = k then l2 else setI L x.f from by
              by_cases e : x.f = k
              · rw [if_pos e]
                rw [e, set_get HL.out] at hz
                exact (Option.some.inj hz).symm
              · rw [if_neg e]
                rw [List.getElem?_set_ne (fun h => e h.symm)] at hz
                simp [setI, List.getD_eq_getElem?_getD, hz])
            have hzl := hzo.1
            have HZO := Lib.hid hzo.2
            have hbf4 : bf < W4.heap.size := HF4.out.lt
            have j0 : (0 : Int) ≤ (x.f : Int) := by omega
            have j1 : (x.f : Int) < ((k : Int) + 1) := by have := HXO.out.1; omega
            have SOF := Lib.hid (show ∀ w', Below W4.heap.size W4 w' → (w'.cell? ⟨bf, 5, none⟩ = some (.slice (some ⟨gb4, 0, none⟩) (k + 1) d4) ∧ w'.cell? ⟨gb4, x.f, none⟩ = some (.slice zA z.length zc) ∧ (∀ i, w'.cell? ⟨wr.heap.size, i, none⟩ = #[.int .i64 (x.r : Int), .int .i64 (x.d : Int), .int .i64 (x.f : Int)][i]?) ∧ Below W4.heap.size W4 w') from fun w' hb => ⟨(hb.cell (p := ⟨bf, 5, none⟩) hbf4).trans f4, (hb.cell (p := ⟨gb4, x.f, none⟩) hgl).trans gz, (HX4.out.via hb).cell, hb⟩)
            have HZS := Lib.hid (show ∀ w', Below W4.heap.size W4 w' → Sl It3E (fun _ => True) w' zA z.length zc z from fun w' hb => (hzown.via hb).toSl (fun _ _ _ => trivial) (fun _ _ => trivial))
            have hb0 := (Below.refl W4.heap.size W4).drew
            clear hv4 hcell4 gz hzown f4 hz hzo hgl
            go_region_held3 (fun w' => w'.cell? ⟨bf, 5, none⟩ = some (.slice (some ⟨gb4, 0, none⟩) (k + 1) d4) ∧ w'.cell? ⟨gb4, x.f, none⟩ = some (.slice zA z.length zc) ∧ (∀ i, w'.cell? ⟨wr.heap.size, i, none⟩ = #[.int .i64 (x.r : Int), .int .i64 (x.d : Int), .int .i64 (x.f : Int)][i]?) ∧ Below W4.heap.size W4 w') (exact SOF.out _ (by assumption)) (first
              | (go_at_call 27; (with_reducible refine (cloneEi_c (fun _ => True) zA z.length zc z _ (HZS.out _ (by assumption)) (by omega)).mono ?_); rintro ee wn ⟨Bc, dc, rfl, hcl, hbn⟩; have hbm : Below W4.heap.size W4 wn := Below.via (by assumption) hbn))
            have HF5 := Lib.hid (HF4.out.via hbm)
            have HM5 := Lib.hid (HM4.out.via hbm)
            have HX5 := Lib.hid (HX4.out.via hbm)
            have hbx6 : wr.heap.size < wn.heap.size := HX5.out.lt
            have HCS := Lib.hid (show Sl It3E (fun b => W4.heap.size ≤ b ∧ b < wn.heap.size) wn Bc z.length dc z from ((hcl.any3 (ok' := fun _ => False)).toSl (ok' := fun b => W4.heap.size ≤ b) (fun _ _ h => h.elim) (fun b hb => hb)).mono fun b hb1 hb2 => ⟨hb2, hb1⟩)
            have HNX := Lib.hid (show ChN k s2 true wr.heap.size from HF2.out.no_ge (Nat.le_refl _))
            have HNC := Lib.hid (show ∀ b, W4.heap.size ≤ b → ChN k s2 true b from fun b hb => HF4.out.no_ge hb)
            clear hbm hcl hbn hb0 SOF HZS
            go_wp2_with fail
            obtain ⟨wi, rfl⟩ : ∃ wi : World, wi = wr := ⟨_, rfl⟩
            go_loopw [78] (fun a wq => ∃ (m : Nat) (s3 : ChSt) (l3 : List It3), a = .int .i64 m ∧ m ≤ z.length ∧ Hid (Grew (CompI R x z m) l2 l3) ∧ Hid (ChS wq base bf c0 c1 c2 AR nR cR R s3 (L.set k l3)) ∧ Hid (Mov (ChN k s2) (ChN k s3) wn wq) ∧ Hid (Blk wq wi.heap.size 47 #[.int .i64 (x.r : Int), .int .i64 (x.d : Int), .int .i64 (x.f : Int)]) ∧ Hid (Sl It3E (fun b => W4.heap.size ≤ b ∧ b < wn.heap.size) wq Bc z.length dc z)) (fun a _ => 100001 - (intOf a).toNat)
            case atStart => exact ⟨0, s2, l2, rfl, Nat.zero_le _, Lib.hid (Grew.none fun q => CompI.zero q), HF5, Lib.hid (Mov.of (Below.refl _ _)), HX5, HCS⟩
            case round =>
              obtain ⟨m, s3, l3, rfl, hm, HG6, HF6, HM6, HX6, HC6⟩ := hrel
              by_cases hmz : m < z.length
              · as_aux_lemma =>
                obtain ⟨b6, o6, y, y', rfl, -, hb6, hy, hyr, hcy⟩ := HC6.out.at_ hmz
                obtain rfl : y = y' := hyr
                have y0 := hcy 0 _ rfl
                have y1 := hcy 1 _ rfl
                have y2 := hcy 2 _ rfl
                simp only [It3E, Nat.add_zero] at y0 y1 y2
                have m0 : (0 : Int) ≤ (m : Int) := by omega
                have m1 : (m : Int) < (z.length : Int) := by omega
                have hal := (Below.refl wr.heap.size wr).al (.cells #[.int .i64 (y.r : Int), .int .i64 (y.d : Int), .int .i64 (y.f : Int)] 47)
                have BY := Blk.new wr 47 #[.int .i64 (y.r : Int), .int .i64 (y.d : Int), .int .i64 (y.f : Int)]
                have HYB := Lib.hid BY
                have HYM := Lib.hid hy
                have HYO := Lib.hid (HZO.out y (List.mem_of_getElem? hy))
                have HF7 := Lib.hid (HF6.out.via hal)
                have HM7 := Lib.hid (HM6.out.via hal)
                have HX7 := Lib.hid (HX6.out.via hal)
                have HC7 := Lib.hid (HC6.out.via hal)
                have hl3 : l3.length ≤ 100000 := lenI hR H4.out hk2 (HG6.out.nd HC2.out.nd) (HG6.out.ok HC2.out.ok fun q hq => CompI.ok HZO.out hq)
                clear hcy hy hal
                go_upto_region 14 with fail
                clear y0 y1 y2
                generalize hW7 : wr.alloc (.cells #[.int .i64 (y.r : Int), .int .i64 (y.d : Int), .int .i64 (y.f : Int)] 47) = W7 at *
                have hby : wr.heap.size < W7.heap.size := by rw [← hW7]; simp
                clear hW7
                obtain ⟨oz, hoz⟩ : ∃ oz, nxtI R y = oz := ⟨_, rfl⟩
                cases oz with
                | none =>
                  have HY2 := Lib.hid hoz
                  clear hoz
                  have cBY := BY.cell
                  have fBY := BY.frozen
                  have lBY := BY.lt
                  go_wp2_with fail
                  clear cBY fBY lBY
                  refine (cnexts_n HF7.out H1000.out k y HYO.out HY2.out).mono ?_
                  rintro e w8 ⟨rfl, hb8⟩
                  have hal8 := (Below.refl w8.heap.size w8).al (.cells #[.bool false, .int .i64 0] 66)
                  have HF8 := Lib.hid ((HF7.out.via hb8).via hal8)
                  have HM8 := Lib.hid ((HM7.out.via hb8).via hal8)
                  have HX8 := Lib.hid ((HX7.out.via hb8).via hal8)
                  have HC8 := Lib.hid ((HC7.out.via hb8).via hal8)
                  clear hb8 BY hal8
                  go_upto_region 15 with fail
                  generalize w8.alloc (.cells #[.bool false, .int .i64 0] 66) = W8 at *
                  go_quiet (fail)
                  go_wp2_with fail
                  have hdn := below_drewN (Below.refl W8.heap.size W8)
                  exact ⟨⟨m + 1, s3, l3, by go_num, by omega, Lib.hid (HG6.out.iff (CompI.miss HYM.out (by rw [HY2.out]; exact fun e => by cases e))), Lib.hid (HF8.out.via (hdn _)), Lib.hid (HM8.out.via (hdn _)), Lib.hid (HX8.out.via (hdn _)), Lib.hid (HC8.out.via (hdn _))⟩, by simp [intOf]; omega⟩
                | some yy =>
                  obtain ⟨tb, tn⟩ := yy
                  have HY2 := Lib.hid hoz
                  obtain ⟨u2, hu2, -, hyd⟩ := nxtI_lt hoz
                  have hyd4 : y.d ≤ 4 := by have := H4.out u2 (List.mem_of_getElem? hu2); omega
                  have HNO := Lib.hid (show ItOk R k ⟨y.r, y.d + 1, y.f⟩ from ⟨HYO.out.1, u2, hu2, hyd⟩)
                  clear hoz hu2
                  have cBY := BY.cell
                  have fBY := BY.frozen
                  have lBY := BY.lt
                  go_wp2_with fail
                  clear cBY fBY lBY
                  refine (cnexts_s HF7.out H1000.out y tb tn HY2.out).mono ?_
                  rintro e w8 ⟨rfl, hb8⟩
                  have hal8 := (Below.refl w8.heap.size w8).al (.cells #[.bool tb, .int .i64 (tn : Int)] 66)
                  have HF8 := Lib.hid ((HF7.out.via hb8).via hal8)
                  have HM8 := Lib.hid ((HM7.out.via hb8).via hal8)
                  have HX8 := Lib.hid ((HX7.out.via hb8).via hal8)
                  have HC8 := Lib.hid ((HC7.out.via hb8).via hal8)
                  have HY8 := Lib.hid ((HYB.out.via hb8).via hal8)
                  have HS8 := Lib.hid (Blk.new w8 66 #[.bool tb, .int .i64 (tn : Int)])
                  clear hb8 BY hal8
                  go_upto_region 15 with fail
                  generalize w8.alloc (.cells #[.bool tb, .int .i64 (tn : Int)] 66) = W8 at *
                  have hxr : x.r < nR := by have := (List.getElem?_eq_some_iff.1 hu).1; have := HRN.out; omega
                  obtain ⟨b9, o9, ⟨xl, xA, xn, xc⟩, u9, hAR, -, hb9, hu9, ⟨e1, -⟩, hc9⟩ := HF8.out.rules.at_ hxr
                  rw [hu] at hu9
                  obtain rfl := Option.some.inj hu9
                  simp only at e1
                  subst e1
                  have HLF := Lib.hid (show lftI R x = u.1 from by unfold lftI; rw [hu])
                  have r0 := hc9 0 _ rfl
                  simp only [RuE, Nat.add_zero] at r0
                  have f3 := HF8.out.c3
                  rw [hAR] at f3
                  have hbf8 : bf < W8.heap.size := HF8.out.lt
                  have k0 : (0 : Int) ≤ (x.r : Int) := by omega
                  have k1 : (x.r : Int) < (nR : Int) := by omega
                  have SOF := Lib.hid (show ∀ w', Below W8.heap.size W8 w' → (w'.cell? ⟨bf, 3, none⟩ = some (.slice (some ⟨b9, o9, none⟩) nR cR) ∧ w'.cell? ⟨b9, o9 + x.r * 2, none⟩ = some (.int .i64 (u.1 : Int)) ∧ (∀ i, w'.cell? ⟨wi.heap.size, i, none⟩ = #[.int .i64 (x.r : Int), .int .i64 (x.d : Int), .int .i64 (x.f : Int)][i]?) ∧ (∀ i, w'.cell? ⟨w8.heap.size, i, none⟩ = #[.bool tb, .int .i64 (tn : Int)][i]?) ∧ Below W8.heap.size W8 w') from fun w' hb => ⟨(hb.cell (p := ⟨bf, 3, none⟩) hbf8).trans f3, (hb.cell (p := ⟨b9, o9 + x.r * 2, none⟩) hb9).trans r0, (HX8.out.via hb).cell, (HS8.out.via hb).cell, hb⟩)
                  have hb0 := (Below.refl W8.heap.size W8).drew
                  clear f3 r0 hc9
                  by_cases ht : tb = false ∧ tn = u.1
                  · obtain ⟨rfl, rfl⟩ := ht
                    have HY3 := Lib.hid (show nxtI R y = some (false, lftI R x) from by rw [HY2.out, HLF.out])
                    go_region_held3 (fun w' => w'.cell? ⟨bf, 3, none⟩ = some (.slice (some ⟨b9, o9, none⟩) nR cR) ∧ w'.cell? ⟨b9, o9 + x.r * 2, none⟩ = some (.int .i64 (u.1 : Int)) ∧ (∀ i, w'.cell? ⟨wi.heap.size, i, none⟩ = #[.int .i64 (x.r : Int), .int .i64 (x.d : Int), .int .i64 (x.f : Int)][i]?) ∧ (∀ i, w'.cell? ⟨w8.heap.size, i, none⟩ = #[.bool false, .int .i64 (u.1 : Int)][i]?) ∧ Below W8.heap.size W8 w') (exact SOF.out _ (by assumption)) (first
                      | (go_at_call 58; (with_reducible refine (gN_c _ _).mono ?_); rintro ee wn2 ⟨rfl, hbn⟩; have hbm : Below W8.heap.size W8 wn2 := Below.via (by assumption) hbn))
                    have HF9 := Lib.hid (HF8.out.via hbm)
                    have HM9 := Lib.hid (HM8.out.via hbm)
                    have HX9 := Lib.hid (HX8.out.via hbm)
                    have HC9 := Lib.hid (HC8.out.via hbm)
                    have BY9 := HY8.out.via hbm
                    have HNB := HM9.out.no _ wi.heap.size hbx6 HNX.out
                    have hA := cadd_o HF9.out k l3 ⟨y.r, y.d + 1, y.f⟩ (by rw [List.length_set]; exact HK.out) (set_get HL.out) (by omega) hl3 HNO.out hR H4.out
                    rw [show (((⟨y.r, y.d + 1, y.f⟩ : It3).d : Nat) : Int) = (y.d : Int) + 1 from by simp] at hA
                    have HA := Lib.hid hA
                    have yd0 : (0 : Int) ≤ (y.d : Int) := by omega
                    have yd1 : (y.d : Int) ≤ 4 := by omega
                    clear hbm hbn hb0 hA hAR
                    have cBY9 := BY9.cell
                    have fBY9 := BY9.frozen
                    have lBY9 := BY9.lt
                    go_wp2_with fail
                    clear cBY9 fBY9 lBY9
                    refine HA.out.mono ?_
                    rintro e w10 ⟨rfl, s4, hF10, hM10⟩
                    rw [List.set_set] at hF10
                    have HF10 := Lib.hid hF10
                    have HM10 := Lib.hid (HM9.out.trans hM10)
                    have HX10 := Lib.hid (hM10.blk HX9.out HNB)
                    have HC10 := Lib.hid (hM10.sl HC9.out fun b hb => HM9.out.no _ b hb.2 (HNC.out b hb.1))
                    clear hF10 hM10 BY9 HNB
                    go_wp2_with fail
                    exact ⟨⟨m + 1, s4, _, by go_num, by omega, Lib.hid ((HG6.out.add _).iff (CompI.hit HYM.out HY3.out)), HF10, HM10, HX10, HC10⟩, by simp [intOf]; omega⟩
                  · have hq : tb = true ∨ ((tn : Int) == (u.1 : Int)) = false := by
                      cases tb with
                      | true => exact Or.inl rfl
                      | false => exact Or.inr (by rw [beq_eq_false_iff_ne]; exact fun e => ht ⟨rfl, by omega⟩)
                    have HT := Lib.hid (show nxtI R y ≠ some (false, lftI R x) from fun e => ht (by
                      rw [HY2.out, HLF.out] at e
                      have e' := Option.some.inj e
                      exact ⟨congrArg Prod.fst e', congrArg Prod.snd e'⟩))
                    clear ht
                    cases tb with
                    | true =>
                      clear hq
                      go_region_held3 (fun w' => w'.cell? ⟨bf, 3, none⟩ = some (.slice (some ⟨b9, o9, none⟩) nR cR) ∧ w'.cell? ⟨b9, o9 + x.r * 2, none⟩ = some (.int .i64 (u.1 : Int)) ∧ (∀ i, w'.cell? ⟨wi.heap.size, i, none⟩ = #[.int .i64 (x.r : Int), .int .i64 (x.d : Int), .int .i64 (x.f : Int)][i]?) ∧ (∀ i, w'.cell? ⟨w8.heap.size, i, none⟩ = #[.bool true, .int .i64 (tn : Int)][i]?) ∧ Below W8.heap.size W8 w') (exact SOF.out _ (by assumption)) (first
                        | (go_at_call 58; (with_reducible refine (gN_c _ _).mono ?_); rintro ee wn2 ⟨rfl, hbn⟩; have hbm : Below W8.heap.size W8 wn2 := Below.via (by assumption) hbn))
                      have HF9 := Lib.hid (HF8.out.via hbm)
                      have HM9 := Lib.hid (HM8.out.via hbm)
                      have HX9 := Lib.hid (HX8.out.via hbm)
                      have HC9 := Lib.hid (HC8.out.via hbm)
                      clear hbm hbn hb0
                      go_wp2_with fail
                      exact ⟨⟨m + 1, s3, l3, by go_num, by omega, Lib.hid (HG6.out.iff (CompI.miss HYM.out HT.out)), HF9, HM9, HX9, HC9⟩, by simp [intOf]; omega⟩
                    | false =>
                      have hq2 : ((tn : Int) == (u.1 : Int)) = false := hq.resolve_left (by simp)
                      clear hq
                      go_region_held3 (fun w' => w'.cell? ⟨bf, 3, none⟩ = some (.slice (some ⟨b9, o9, none⟩) nR cR) ∧ w'.cell? ⟨b9, o9 + x.r * 2, none⟩ = some (.int .i64 (u.1 : Int)) ∧ (∀ i, w'.cell? ⟨wi.heap.size, i, none⟩ = #[.int .i64 (x.r : Int), .int .i64 (x.d : Int), .int .i64 (x.f : Int)][i]?) ∧ (∀ i, w'.cell? ⟨w8.heap.size, i, none⟩ = #[.bool false, .int .i64 (tn : Int)][i]?) ∧ Below W8.heap.size W8 w') (exact SOF.out _ (by assumption)) (first
                        | (go_at_call 58; (with_reducible refine (gN_c _ _).mono ?_); rintro ee wn2 ⟨rfl, hbn⟩; have hbm : Below W8.heap.size W8 wn2 := Below.via (by assumption) hbn))
                      have HF9 := Lib.hid (HF8.out.via hbm)
                      have HM9 := Lib.hid (HM8.out.via hbm)
                      have HX9 := Lib.hid (HX8.out.via hbm)
                      have HC9 := Lib.hid (HC8.out.via hbm)
                      clear hbm hbn hb0
                      go_wp2_with fail
                      exact ⟨⟨m + 1, s3, l3, by go_num, by omega, Lib.hid (HG6.out.iff (CompI.miss HYM.out HT.out)), HF9, HM9, HX9, HC9⟩, by simp [intOf]; omega⟩
              · obtain rfl : m = z.length := by omega
                have hG' := HG6.out
                have HM9 := Lib.hid (HM5.out.trans HM6.out)
                have HC9 := Lib.hid (HC2.out.comp (List.mem_of_getElem? HX.out) HY.out HZ.out HZO.out hG')
                have HP9 := Lib.hid (HP2.out.step HX.out hG' (fun hg => Cl0.comp_shut HY.out HZ.out hg))
                have hle := hG'.le
                clear hG'
                go_wp2_with fail
                exact ⟨⟨i + 1, s3, l3, by go_num, by omega, HC9, HP9, HF6, HM9⟩, by simp [intOf]; omega⟩
        · obtain rfl : i = l2.length := by omega
          clear hown
          go_wp2_with fail
          go_roundg (2 * (100000 - l2.length) + (if (l1.length : Int) = (l2.length : Int) then 0 else 1))
          case measure =>
            have h1 := HP2.out.1
            have h2 := HGK.out
            rw [if_neg HN.out] at h2
            by_cases e : l1.length = l2.length
            · rw [if_pos (by omega)]; omega
            · rw [if_neg (by omega)]; omega
          case rel =>
            refine ⟨(l1.length : Int), s2, l2, rfl, by omega, by omega, HC2, Lib.hid fun e q hq => ?_, HF2, HM2, Lib.hid rfl⟩
            obtain ⟨m, hm⟩ := List.getElem?_of_mem hq
            exact HP2.out.2 (by omega) m q (List.getElem?_eq_some_iff.1 hm).1 hm
end Go.Proofs.YtbfcnfgkccgbiaaGreatDoor




namespace Go.Proofs.YtbfcnfgkccgbiaaGreatDoor
open Go.RowKit

theorem step_append_erow {ops : Array Oper} {o : Oper} {a : Act} {K : Act → World → Prop} {Q : Exit → Act → World → Prop} {F : Prop} (w : World) (hgd : o.guard = none) (s y : Operand)
    (ho : o.op = .call { callee := .builtin .append, args := #[s, y], argTypes := #[28, 28] })
    (base : Nat) (v : Value) (n : Nat) (l : List SlV) (hv : a.eval s = v) (hown : Own SlE 43 (fun _ => False) w base v n l)
    (b : Nat) (x : SlV) (hy : a.eval y = .slice (some ⟨b, 0, none⟩) 1 1) (hcell : Blk w b 43 #[slV x])
    (h63 : n + 1 ≤ 1000000) (hbase : base ≤ w.heap.size)
    (h : ∀ A' c' w', Own SlE 43 (fun _ => False) w' base (.slice A' (n + 1) c') (n + 1) (l ++ [x]) → w.grownBy w' v.ownBlock → ((Value.slice A' (n + 1) c').ownBlock = v.ownBlock ∨ (Value.slice A' (n + 1) c').ownBlock = some w.heap.size) → K (a.put o.dst (.slice A' (n + 1) c')) w') :
    if Region.wanted o (yielded ops a.tmps) = true then Oper.wp Tryz.prog o a w K Q else F := by
  have hinf : (Tryz.prog.info? 43).map (fun i => (i.zero, i.size, i.bytes)) = some (some (.slice none 0 0), 1, 24) := by kernel_rfl
  obtain ⟨i, hi, hz⟩ := Option.map_eq_some_iff.1 hinf
  simp only [Prod.mk.injEq] at hz
  refine step_append_E (E := SlE) w hgd s y 28 43 ho i (.slice none 0 0) 24 (by kernel_rfl) hi hz.1 hz.2.1 hz.2.2 rfl (fun _ => False) base v n l hv hown b x x hy (fun j u hu => ?_) rfl (by simp [maxLen]; omega) (by omega) hbase h
  rw [hcell.cell j]
  rw [List.getElem?_toArray]; exact hu
theorem step_append_map {ops : Array Oper} {o : Oper} {a : Act} {K : Act → World → Prop} {Q : Exit → Act → World → Prop} {F : Prop} (w : World) (hgd : o.guard = none) (s y : Operand)
    (ho : o.op = .call { callee := .builtin .append, args := #[s, y], argTypes := #[77, 77] })
    (base : Nat) (v : Value) (n : Nat) (l : List Nat) (hv : a.eval s = v) (hown : Own MpE 149 (fun _ => False) w base v n l)
    (b : Nat) (x : Nat) (hy : a.eval y = .slice (some ⟨b, 0, none⟩) 1 1) (hcell : Blk w b 149 #[.map (some x)])
    (h63 : n + 1 ≤ 1000000) (hbase : base ≤ w.heap.size)
    (h : ∀ A' c' w', Own MpE 149 (fun _ => False) w' base (.slice A' (n + 1) c') (n + 1) (l ++ [x]) → w.grownBy w' v.ownBlock → ((Value.slice A' (n + 1) c').ownBlock = v.ownBlock ∨ (Value.slice A' (n + 1) c').ownBlock = some w.heap.size) → K (a.put o.dst (.slice A' (n + 1) c')) w') :
    if Region.wanted o (yielded ops a.tmps) = true then Oper.wp Tryz.prog o a w K Q else F := by
  have hinf : (Tryz.prog.info? 149).map (fun i => (i.zero, i.size, i.bytes)) = some (some (.map none), 1, 8) := by kernel_rfl
  obtain ⟨i, hi, hz⟩ := Option.map_eq_some_iff.1 hinf
  simp only [Prod.mk.injEq] at hz
  refine step_append_E (E := MpE) w hgd s y 77 149 ho i (.map none) 8 (by kernel_rfl) hi hz.1 hz.2.1 hz.2.2 rfl (fun _ => False) base v n l hv hown b x x hy (fun j u hu => ?_) rfl (by simp [maxLen]; omega) (by omega) hbase h
  rw [hcell.cell j]
  rw [List.getElem?_toArray]; exact hu
section
variable {e ti : TypeId} {w w' : World} {base : Nat} {v : Value} {hs : List SlV} {L : List (List It3)}
/-- a new empty row at the end -/
theorem Sets.push2 {v' : Value} (h : Sets e ti w base v hs L) (hrow : Own SlE e (fun _ => False) w' base v' (L.length + 1) (hs ++ [(none, 0, 0)])) (hg : Agr (fun b => v.ownBlock ≠ some b ∧ ¬ Sets.no v hs b) w w') (hv : v'.ownBlock = v.ownBlock ∨ ∃ b, w.heap.size ≤ b ∧ v'.ownBlock = some b) :
    Sets e ti w' base v' (hs ++ [(none, 0, 0)]) (L ++ [[]]) := by
  have hlen := h.len
  have hcase : ∀ (j : Nat) (q : SlV), (hs ++ [((none, 0, 0) : SlV)])[j]? = some q → hs[j]? = some q ∨ (j = hs.length ∧ q = (none, 0, 0)) := by
    intro j q hj
    by_cases hlt : j < hs.length
    · rw [List.getElem?_append_left hlt] at hj; exact Or.inl hj
    · have hjl := (List.getElem?_eq_some_iff.1 hj).1
      simp only [List.length_append, List.length_singleton] at hjl
      have ej : j = hs.length := by omega
      subst ej
      rw [List.getElem?_append_right (Nat.le_refl _), Nat.sub_self] at hj
      exact Or.inr ⟨rfl, (Option.some.inj hj).symm⟩
  refine ⟨by simpa using hrow, by simp [hlen], ?_, ?_, ?_⟩
  · intro j q l hq hl
    rcases hcase j q hq with hq' | ⟨ej, eq⟩
    · have hjl := (List.getElem?_eq_some_iff.1 hq').1
      rw [List.getElem?_append_left (by omega)] at hl
      refine (h.items j q l hq' hl).agr (hg.mono fun b hb => ?_)
      rcases hb with hb | hb
      · exact hb.elim
      · exact ⟨h.far j q b hq' hb.symm, fun hn => hn.2 j q hq' hb.symm⟩
    · subst ej; subst eq
      rw [hlen, List.getElem?_append_right (Nat.le_refl _), Nat.sub_self] at hl
      have el : l = [] := (Option.some.inj hl).symm
      subst el
      exact Own.nil w' base
  · intro j j' q q' b hne hq hq' hb
    rcases hcase j q hq with hq | ⟨ej, eq⟩
    · rcases hcase j' q' hq' with hq' | ⟨ej', eq'⟩
      · exact h.apart j j' q q' b hne hq hq' hb
      · subst eq'; exact fun e' => by cases e'
    · subst eq; cases hb
  · intro j q b hq hb
    rcases hcase j q hq with hq | ⟨ej, eq⟩
    · have hjl := (List.getElem?_eq_some_iff.1 hq).1
      have hjl' : j < L.length := by omega
      rcases hv with hv | ⟨b', hb', hv⟩
      · rw [hv]; exact h.far j q b hq hb
      · rw [hv]
        have := ((h.items j q _ hq (List.getElem?_eq_getElem hjl')).lt b hb).2
        exact fun e' => by have := Option.some.inj e'; omega
    · subst eq; cases hb
/-- who is no block of the sets stays none -/
theorem Sets.no_push {v' : Value} {b : Nat} (h : Sets.no v hs b) (hb : b < w.heap.size) (hv : v'.ownBlock = v.ownBlock ∨ ∃ b, w.heap.size ≤ b ∧ v'.ownBlock = some b) : Sets.no v' (hs ++ [(none, 0, 0)]) b := by
  refine ⟨?_, fun j q hq => ?_⟩
  · rcases hv with hv | ⟨b', hb', hv⟩
    · rw [hv]; exact h.1
    · rw [hv]; exact fun e => by have := Option.some.inj e; omega
  · by_cases hlt : j < hs.length
    · rw [List.getElem?_append_left hlt] at hq; exact h.2 j q hq
    · have hjl := (List.getElem?_eq_some_iff.1 hq).1
      simp only [List.length_append, List.length_singleton] at hjl
      have ej : j = hs.length := by omega
      subst ej
      rw [List.getElem?_append_right (Nat.le_refl _), Nat.sub_self] at hq
      obtain rfl := Option.some.inj hq
      exact fun e => by cases e
end
theorem append_set {α : Type} (L : List α) (x y : α) {n : Nat} (hn : n = L.length) : (L ++ [x]).set n y = L ++ [y] := by
  subst hn
  induction L with
  | nil => rfl
  | cons a L ih => simp only [List.cons_append, List.length_cons, List.set_cons_succ, ih]
theorem append_get {α : Type} (L : List α) (x : α) {n : Nat} (hn : n = L.length) : (L ++ [x])[n]? = some x := by
  subst hn; simp
def ChX (bf : Nat) (s : ChSt) : Bool → Nat → Prop := fun _ b => ChF s b ∧ b ≠ bf
theorem Mov.cx {k bf : Nat} {s s' : ChSt} {w w' : World} (h : Mov (ChN k s) (ChN k s') w w') : Mov (ChX bf s) (ChX bf s') w w' :=
  ⟨h.env, fun _ => (h.agr false).mono fun _ hb => hb.1, fun _ b hlt hb => ⟨h.no false b hlt hb.1, hb.2⟩⟩
/-- what going over terminal t gives, by the first m of the items -/
def ScanI (R : List Ru) (t : Nat) (l : List It3) (m : Nat) (z : It3) : Prop := ∃ i x, i < m ∧ l[i]? = some x ∧ nxtI R x = some (true, t) ∧ z = ⟨x.r, x.d + 1, x.f⟩
section
variable {R : List Ru} {t k m : Nat} {l : List It3}
theorem ScanI.zero (z : It3) : ¬ ScanI R t l 0 z := fun ⟨_, _, h, _⟩ => Nat.not_lt_zero _ h
theorem ScanI.hit {x : It3} (hx : l[m]? = some x) (hn : nxtI R x = some (true, t)) (z : It3) : ScanI R t l (m + 1) z ↔ ScanI R t l m z ∨ z = ⟨x.r, x.d + 1, x.f⟩ := by
  constructor
  · rintro ⟨i, y', h1, h2, h3, rfl⟩
    by_cases e : i = m
    · subst e; rw [hx] at h2; cases h2; exact Or.inr rfl
    · exact Or.inl ⟨i, y', by omega, h2, h3, rfl⟩
  · rintro (⟨i, y', h1, h2, h3, rfl⟩ | rfl)
    · exact ⟨i, y', by omega, h2, h3, rfl⟩
    · exact ⟨m, x, by omega, hx, hn, rfl⟩
theorem ScanI.miss {x : It3} (hx : l[m]? = some x) (hn : nxtI R x ≠ some (true, t)) (z : It3) : ScanI R t l (m + 1) z ↔ ScanI R t l m z := by
  constructor
  · rintro ⟨i, y', h1, h2, h3, rfl⟩
    by_cases e : i = m
    · subst e; rw [hx] at h2; cases h2; exact absurd h3 hn
    · exact ⟨i, y', by omega, h2, h3, rfl⟩
  · rintro ⟨i, y', h1, h2, h3, rfl⟩; exact ⟨i, y', by omega, h2, h3, rfl⟩
theorem ItOk.succ {x : It3} (h : ItOk R k x) : ItOk R (k + 1) x := ⟨Nat.le_succ_of_le h.1, h.2⟩
theorem ScanI.ok {z : It3} (hl : ∀ x ∈ l, ItOk R k x) (h : ScanI R t l m z) : ItOk R (k + 1) z := by
  obtain ⟨i, x, h1, h2, h3, rfl⟩ := h
  obtain ⟨u, q1, q2, q3⟩ := nxtI_lt h3
  exact ⟨Nat.le_succ_of_le (hl x (List.mem_of_getElem? h2)).1, u, q1, q3⟩
end
/-- the elements of an own row lie in its own block -/
theorem Own.sl_own {ti : TypeId} {w : World} {base : Nat} {A : Option Addr} {n c : Nat} {l : List It3} (h : Own It3E ti (fun _ => False) w base (.slice A n c) n l) : Sl It3E (fun b => (Value.slice A n c).ownBlock = some b) w A n c l := by
  have hs := h.toSl (ok' := fun b => base ≤ b) (fun _ _ h => h.elim) (fun b hb => hb)
  obtain ⟨h1, raw, h2, h3, h4⟩ := h
  obtain ⟨s1, s2, raw2, s3, s4, s5⟩ := hs
  refine ⟨s1, s2, raw2, s3, fun hn => ?_, s5⟩
  obtain ⟨b, off, e, hb, hc⟩ := s4 hn
  refine ⟨b, off, e, ?_, hc⟩
  rcases h3.2 with ⟨e0, h0⟩ | ⟨g, cap, cur, hv, _⟩
  · cases e0; cases e
  · cases hv; cases e; exact rfl
theorem get_push {α : Type} {l : List α} {x y : α} {j : Nat} (h : (l ++ [x])[j]? = some y) : (l[j]? = some y ∧ j < l.length) ∨ (j = l.length ∧ y = x) := by
  by_cases hlt : j < l.length
  · rw [List.getElem?_append_left hlt] at h; exact Or.inl ⟨h, hlt⟩
  · have hjl := (List.getElem?_eq_some_iff.1 h).1
    simp only [List.length_append, List.length_singleton] at hjl
    have e : j = l.length := by omega
    subst e
    rw [List.getElem?_append_right (Nat.le_refl _), Nat.sub_self] at h
    exact Or.inr ⟨rfl, (Option.some.inj h).symm⟩
section
variable {w w1 wq : World} {base bf : Nat} {c0 c1 c2 : Value} {AR : Option Addr} {nR cR : Nat} {R : List Ru} {v v' vm vm' : Value} {hs : List SlV} {ms : List Nat} {L : List (List It3)}
/-- the chart's sets: an empty one more -/
theorem ChM.push {bm : Nat} (h : ChM w base bf c0 c1 c2 AR nR cR R v hs vm ms L) (hbf : base ≤ bf) (hA : Agr (fun b => vm.ownBlock ≠ some b ∧ v.ownBlock ≠ some b) w wq) (henv : Below 0 w wq)
    (hrow : Own SlE 43 (fun _ => False) wq base v' (L.length + 1) (hs ++ [(none, 0, 0)])) (hmaps : Own MpE 149 (fun _ => False) wq base vm' (L.length + 1) (ms ++ [bm]))
    (hmk : MapK Tryz.prog 47 itVal wq bm (fun _ => none)) (hbm : w.heap.size ≤ bm) (hv : v'.ownBlock = v.ownBlock ∨ ∃ b, w.heap.size ≤ b ∧ v'.ownBlock = some b) (hvm : vm'.ownBlock = vm.ownBlock ∨ ∃ b, w.heap.size ≤ b ∧ vm'.ownBlock = some b)
    (hne : ∀ b, vm'.ownBlock = some b → v'.ownBlock ≠ some b) (hb1 : vm'.ownBlock ≠ some bm) (hb2 : v'.ownBlock ≠ some bm) :
    ChM ((wq.setCell ⟨bf, 4, none⟩ vm').setCell ⟨bf, 5, none⟩ v') base bf c0 c1 c2 AR nR cR R v' (hs ++ [(none, 0, 0)]) vm' (ms ++ [bm]) (L ++ [[]]) ∧
      Mov (ChX bf (v, hs, vm, ms)) (ChX bf (v', hs ++ [(none, 0, 0)], vm', ms ++ [bm])) w ((wq.setCell ⟨bf, 4, none⟩ vm').setCell ⟨bf, 5, none⟩ v') := by
  have hsz : w.heap.size ≤ wq.heap.size := henv.size
  have hml := h.maps.len
  have hno : ∀ b, b < w.heap.size → Sets.no v hs b → Sets.no v' (hs ++ [(none, 0, 0)]) b := fun b hb hn => Sets.no_push hn hb hv
  have hnew : ∀ b, w.heap.size ≤ b → v'.ownBlock ≠ some b → Sets.no v' (hs ++ [(none, 0, 0)]) b := fun b hb hn => ⟨hn, fun j q hq => by
    rcases get_push hq with ⟨hq, -⟩ | ⟨-, rfl⟩
    · exact (h.sets.no_ge hb).2 j q hq
    · exact fun e => by cases e⟩
  have hchf : ∀ b, b < w.heap.size → ChF (v, hs, vm, ms) b → ChF (v', hs ++ [(none, 0, 0)], vm', ms ++ [bm]) b := fun b hlt hb => by
    refine ⟨hno b hlt hb.1, ?_, fun j b' hj => ?_⟩
    · rcases hvm with e | ⟨b', hb', e⟩
      · exact fun e' => hb.2.1 (e ▸ e')
      · exact fun e' => by
          have e2 : some b' = some b := e ▸ e'
          have := Option.some.inj e2; omega
    · rcases get_push hj with ⟨hj, -⟩ | ⟨-, rfl⟩
      · exact hb.2.2 j b' hj
      · omega
  have hbfF := hchf bf h.blk.lt h.far
  have hs1 := h.sets.push2 hrow (hA.mono fun b hb => ⟨fun e => hb.2 (h.vfar b e), hb.1⟩) hv
  have hset : ∀ (ok : Nat → Prop), (∀ b, ok b → b ≠ bf) → Agr ok wq ((wq.setCell ⟨bf, 4, none⟩ vm').setCell ⟨bf, 5, none⟩ v') := fun ok hk => (Agr.setCell _ hk).trans (Agr.setCell _ hk)
  refine ⟨⟨?_, ?_, ?_, ?_, ?_, ?_, ?_, ?_, hbfF, by have := h.base; simp; omega⟩, ⟨?_, fun i => ?_, fun i b hlt hb => ⟨hchf b hlt hb.1, hb.2⟩⟩⟩
  · have h1 : Blk wq bf 79 #[c0, c1, c2, .slice AR nR cR, vm, v] := (hA bf ⟨h.far.2.1, h.far.1.1⟩ h.blk.lt).trans h.blk
    have := (h1.set_ 4 vm').set_ 5 v'; simpa using this
  · exact (h.rules.agr (hA.mono fun b hb => ⟨fun e => by have := (h.maps.lt b e).1; omega, fun e => by have := (h.sets.row.lt b e).1; omega⟩)).agr (hset _ fun b hb => by omega)
  · exact hs1.agr (hset _ fun b hb e => hb (by rw [e]; exact hbfF.1))
  · rw [List.length_append, List.length_singleton]
    exact hmaps.agr (hset _ fun b hb e => by
      rcases hb with hb | hb
      · exact hb
      · exact hbfF.2.1 (by rw [← hb, e]))
  · intro j b l hj hl
    rcases get_push hj with ⟨hj, hjl⟩ | ⟨hjl, rfl⟩
    · rw [List.getElem?_append_left (by omega)] at hl
      have hk := h.mapk j b l hj hl
      have hf := h.mfar j b hj
      exact ⟨hk.1, (hk.2.agr_ (hA b ⟨hf.1, hf.2.1⟩ hk.2.lt)).agr_ (hset (fun b => b ≠ bf) (fun _ h => h) b (h.far.2.2 j b hj) (Nat.lt_of_lt_of_le hk.2.lt hsz))⟩
    · have el : l = [] := by
        rcases get_push hl with ⟨-, hlt⟩ | ⟨-, e⟩
        · omega
        · exact e
      subst el
      refine ⟨Nat.le_trans h.base hbm, MapK.ext (hmk.agr_ (hset (fun b => b ≠ bf) (fun _ h => h) b (by have := h.blk.lt; omega) hmk.lt)) fun y => ?_⟩
      simp [setF3]
  · intro j j' b hne' hj hj'
    rcases get_push hj with ⟨hj, hjl⟩ | ⟨hjl, rfl⟩
    · rcases get_push hj' with ⟨hj', -⟩ | ⟨-, e⟩
      · exact h.mapart j j' b hne' hj hj'
      · have := (h.mlt hj).2; omega
    · rcases get_push hj' with ⟨hj', -⟩ | ⟨hjl', -⟩
      · have := (h.mlt hj').2; omega
      · omega
  · intro j b hj
    rcases get_push hj with ⟨hj, hjl⟩ | ⟨hjl, rfl⟩
    · have hlt := (h.mlt hj).2
      refine ⟨?_, hno b hlt (h.mfar j b hj).2⟩
      rcases hvm with e | ⟨b', hb', e⟩
      · rw [e]; exact (h.mfar j b hj).1
      · rw [e]; exact fun e' => by have := Option.some.inj e'; omega
    · exact ⟨hb1, hnew b hbm hb2⟩
  · intro b hb
    rcases hvm with e | ⟨b', hb', e⟩
    · rw [e] at hb
      exact hno b (h.maps.lt b hb).2 (h.vfar b hb)
    · exact hnew b (by rw [e] at hb; have := Option.some.inj hb; omega) (hne b hb)
  · exact (henv.setCell (Nat.zero_le _) _).setCell (Nat.zero_le _) _
  · exact (hA.mono fun b hb => ⟨hb.1.2.1, hb.1.1.1⟩).trans (hset _ fun b hb => hb.2)
end
end Go.Proofs.YtbfcnfgkccgbiaaGreatDoor

