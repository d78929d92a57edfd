/- Texts OV, laid together. -/
import Derived.Test.YtfmnmgnhanogmaaDoorQ23


namespace Go.Proofs.YtfmnmgnhanogmaaDoor
open Go.RowKit

theorem enC_rule {f : Sy → Nat → Option (List (Tr × Nat))} {n k i : Nat} {u : Ru} {rs : List Ru} {M : List (Tr × Nat)} (hn : u.1 = n) (h : enC f n k i (u :: rs) = some M) :
    ∃ x y, enL f u.2 k = some x ∧ enC f n k (i + 1) rs = some y ∧ M = x.map (fun q => (Tr.node i q.1, q.2)) ++ y := by
  simp only [enC, if_pos hn] at h
  cases hl : enL f u.2 k with
  | none => rw [hl] at h; cases h
  | some x =>
    cases hc : enC f n k (i + 1) rs with
    | none => rw [hl, hc] at h; cases h
    | some y =>
      rw [hl, hc] at h
      exact ⟨x, y, rfl, rfl, (Option.some.inj h).symm⟩
theorem fndT_app {i : Nat} (F : Tr → Nat → Option Tr) (x : List (List Tr × Nat)) (y : List (Tr × Nat)) : fndT F (x.map (fun q => (Tr.node i q.1, q.2)) ++ y) = (fndT (fun ks j => F (.node i ks) j) x).or (fndT F y) := by
  unfold fndT
  rw [List.findSome?_append, List.findSome?_map]; rfl
set_option maxRecDepth 100000 in
set_option maxHeartbeats 8000000 in
theorem try_n (ft fr bs bo bp bw bg bt br : Nat) (hft : Hid (ft = 40)) (her : ∀ (args : Array Value) (w : World), (callFunc fr args).run Tryd.prog w = .ok (.enter fr args) w)
    (g : Gr) (hg : GrOk g) (W : List Nat) (hW : W.length ≤ 2000) (Ag : Option Addr) (ng cg : Nat) (wA : Option Addr) (wc : Nat) (d : Nat) (hrow : ∀ l, RowK ft fr bs bo bp bw bg bt br g W Ag ng cg wA wc d l) : TryK ft fr bs bo bp bw bg bt br g W Ag ng cg wA wc (d + 1) := by
  intro w y k L fid caps F P s ov hok hk hL hm hS hs0 hs1 hthen hP
  obtain ⟨yb, yn⟩ := y
  have hss : IntKind.i64.wrap (s - 1) = s - 1 := IntWalk.i64_in _ (by omega)
  have hal := (Below.refl w.heap.size w).al (.cells #[.bool yb, .int .i64 (yn : Int)] 54)
  have b7 := Blk.new w 54 #[.bool yb, .int .i64 (yn : Int)]
  have HM := Lib.hid (hm.go (Gw2.bel hal))
  have HST := Lib.hid (hS.via hal)
  have HG := Lib.hid (Gw2.bel (bs := bs) (bo := bo) hal)
  have HTH := Lib.hid (hthen.go (Gw2.bel hal))
  have HE := hthen.1
  have HB7 := Lib.hid b7
  have HL := Lib.hid hL
  have HPP := Lib.hid hP
  have HOK := Lib.hid hok
  have HGO := Lib.hid hg
  have HROW := Lib.hid hrow
  have hbs : bs < w.heap.size := hS.s.lt
  have hbo : bo < w.heap.size := hS.o.lt
  have hne := hm.ne
  clear hal b7 hm hS hthen hL hP hok hg hrow
  rw [hft.out]
  go_enter Tryd.func40, Tryd.ntmps40
  go_upto_region 1 with fail
  generalize w.alloc (.cells #[.bool yb, .int .i64 (yn : Int)] 54) = w1 at *
  obtain ⟨n7, hn7⟩ : ∃ b, b = w.heap.size := ⟨_, rfl⟩
  rw [← hn7] at HB7 ⊢
  have hno : okB bs bo n7 := ⟨by omega, by omega⟩
  have HN7 := Lib.hid hn7
  clear hn7
  have BP := HM.out.pb
  have BS := HST.out.s
  have cBP := BP.cell
  have fBP := BP.frozen
  have lBP := BP.lt
  have cBS := BS.cell
  have fBS := BS.frozen
  have lBS := BS.lt
  go_upto_region 2 with fail
  clear cBP fBP lBP cBS fBS lBS
  have hg2 : Gw2 bs bo w1 (w1.setCell ⟨bs, 0, none⟩ (.int .i64 (s - 1))) := Gw2.set bs 0 _ (Or.inl rfl)
  have HST2 := Lib.hid (show BkS bs bo (s - 1) ov (w1.setCell ⟨bs, 0, none⟩ (.int .i64 (s - 1))) from ⟨by have := BS.set_ 0 (.int .i64 (s - 1)); simpa using this, HST.out.o.far (p := ⟨bs, 0, none⟩) (by simpa using (Ne.symm hne.1)) _⟩)
  replace HM := Lib.hid (HM.out.go hg2)
  replace HG := Lib.hid (HG.out.trans hg2)
  replace HTH := Lib.hid (HTH.out.go hg2)
  replace HB7 := Lib.hid (hg2.blk HB7.out hno.1 hno.2)
  clear hg2 BP BS HST
  generalize w1.setCell ⟨bs, 0, none⟩ (.int .i64 (s - 1)) = w2 at *
  have BP := HM.out.pb
  have BS := HST2.out.s
  by_cases hneg : s - 1 < 0
  · have hd : decide (s - 1 < 0) = true := decide_eq_true hneg
    have HNEG := Lib.hid hneg
    clear hneg
    have cBP := BP.cell
    have fBP := BP.frozen
    have lBP := BP.lt
    have cBS := BS.cell
    have fBS := BS.frozen
    have lBS := BS.lt
    go_wp2_with fail
    go_ret
    exact ⟨false, s - 1, ov, rfl, HST2.out, HG.out, by omega, by omega, (fun h => by cases h), fun _ h => absurd HNEG.out (by omega)⟩
  · have hd : decide (s - 1 < 0) = false := decide_eq_false hneg
    have B7 := HB7.out
    cases yb with
    | true =>
      have hLt : L = if W[k]? = some yn then [(Tr.leaf yn, k + 1)] else [] := by
        have := HL.out
        rw [en, if_pos rfl] at this
        exact (Option.some.inj this).symm
      have HLT := Lib.hid hLt
      clear hLt
      have cBP := BP.cell
      have fBP := BP.frozen
      have lBP := BP.lt
      have cBS := BS.cell
      have fBS := BS.frozen
      have lBS := BS.lt
      have cB7 := B7.cell
      have fB7 := B7.frozen
      have lB7 := B7.lt
      go_upto_region 5 with fail
      clear cBP fBP lBP cBS fBS lBS cB7 fB7 lB7
      clear BP BS B7 HL hd HROW HGO HOK
      have hdr := (Below.refl w2.heap.size w2).drew
      replace HM := Lib.hid (HM.out.go (Gw2.bel hdr))
      replace HST2 := Lib.hid (HST2.out.via hdr)
      replace HG := Lib.hid (HG.out.via hdr)
      replace HTH := Lib.hid (HTH.out.go (Gw2.bel hdr))
      replace HB7 := Lib.hid (HB7.out.via hdr)
      clear hdr
      by_cases hkn : k < W.length
      · obtain ⟨b2, o2, r, x, hwA, hob, -, hx, hxr, hxc⟩ := HM.out.word.at_ (i := k) hkn
        obtain rfl : r = x := hxr
        obtain ⟨a, ha⟩ : ∃ a, W[k]? = some a := ⟨_, List.getElem?_eq_getElem hkn⟩
        obtain rfl : (a : Int) = r := by
          have h := hx
          rw [intsN, List.getElem?_map, ha] at h
          exact Option.some.inj h
        have d0 := hxc 0 _ rfl
        simp only [InE, Nat.mul_one, Nat.add_zero] at d0
        subst hwA
        have HHC := Lib.hid d0
        have HOB := Lib.hid hob
        have HKN := Lib.hid hkn
        have e1 : decide (k < W.length) = true := decide_eq_true hkn
        have j1 : (k : Int) < (W.length : Int) := by omega
        have j0 : (0 : Int) ≤ (k : Int) := by omega
        have HHE := Lib.hid (show (∀ x, w2.drew.cell? ⟨bw, x, none⟩ = #[.slice (some ⟨b2, o2, none⟩) W.length wc][x]?) ∧ (∀ x, w2.drew.cell? ⟨n7, x, none⟩ = #[.bool true, .int .i64 (yn : Int)][x]?) ∧ w2.drew.cell? ⟨b2, o2 + k, none⟩ = some (.int .i64 (a : Int)) from ⟨HM.out.wb.cell, HB7.out.cell, d0⟩)
        have hHeld := HHE.out
        clear hx hxc d0 hob
        refine wp_region_noPanic ?_
        refine wp_region_held_drew (S := fun w' => (∀ x, w'.cell? ⟨bw, x, none⟩ = #[.slice (some ⟨b2, o2, none⟩) W.length wc][x]?) ∧ (∀ x, w'.cell? ⟨n7, x, none⟩ = #[.bool true, .int .i64 (yn : Int)][x]?) ∧ w'.cell? ⟨b2, o2 + k, none⟩ = some (.int .i64 (a : Int))) (by kernel_rfl) hHeld (fun hHeld => ?_)
        by_cases hay : a = yn
        · subst hay
          have e2 : ((a : Int) == (a : Int)) = true := by simp
          have HLE := Lib.hid (show L = [(Tr.leaf a, k + 1)] from by rw [HLT.out, if_pos ha])
          have hw1 : IntKind.i64.wrap ((k : Int) + 1) = (k : Int) + 1 := IntWalk.i64_in _ (by omega)
          have hcall := HTH.out.2 w2.drew (-1, (a : Int), none, 0, 0) ov (.leaf a) (k + 1) (s - 1) (Gw2.refl _) (TreeR.leaf a none 0) (by omega) (by have := HPP.out (Tr.leaf a, k + 1); rw [HLE.out] at this; exact this (by simp)) (by omega) (by omega) HST2.out
          have hcast : ((k + 1 : Nat) : Int) = (k : Int) + 1 := by omega
          rw [hcast] at hcall
          simp only [trVal] at hcall
          have HCALL := Lib.hid hcall
          clear hcast hcall ha HPP HLT hkn
          refine wpAnyH_takeD (i := 0) (d := some 24) (v := ?_) rfl (by kernel_rfl) (by kernel_rfl) (by kernel_rfl) rfl (fun _ _ _ h => h) (Or.inl ⟨by rfl, ?_⟩) (by assumption) ?_
          rotate_left
          · intro w hSw; (try dsimp only at hSw); go_simp; try with_reducible rfl
          simp only [Act.put, List.setIfInBounds_toArray, List.set_cons_zero, List.set_cons_succ]
          refine wpAnyH_takeD (i := 1) (d := some 25) (v := ?_) rfl (by kernel_rfl) (by kernel_rfl) (by kernel_rfl) rfl (fun _ _ _ h => h) (Or.inl ⟨by rfl, ?_⟩) (by assumption) ?_
          rotate_left
          · intro w hSw; (try dsimp only at hSw); go_simp; try with_reducible rfl
          simp only [Act.put, List.setIfInBounds_toArray, List.set_cons_zero, List.set_cons_succ]
          refine wpAnyH_takeD (i := 2) (d := some 26) (v := ?_) rfl (by kernel_rfl) (by kernel_rfl) (by kernel_rfl) rfl (fun _ _ _ h => h) (Or.inl ⟨by rfl, ?_⟩) (by assumption) ?_
          rotate_left
          · intro w hSw; (try dsimp only at hSw); go_simp; try with_reducible rfl
          simp only [Act.put, List.setIfInBounds_toArray, List.set_cons_zero, List.set_cons_succ]
          refine wpAnyH_takeD (i := 3) (d := some 27) (v := ?_) rfl (by kernel_rfl) (by kernel_rfl) (by kernel_rfl) rfl (fun _ _ _ h => h) (Or.inl ⟨by rfl, ?_⟩) (by assumption) ?_
          rotate_left
          · intro w hSw; (try dsimp only at hSw); go_simp; try with_reducible rfl
          simp only [Act.put, List.setIfInBounds_toArray, List.set_cons_zero, List.set_cons_succ]
          refine wpAnyH_takeD (i := 4) (d := some 28) (v := ?_) rfl (by kernel_rfl) (by kernel_rfl) (by kernel_rfl) rfl (fun _ _ _ h => h) (Or.inl ⟨by rfl, ?_⟩) (by assumption) ?_
          rotate_left
          · intro w hSw; (try dsimp only at hSw); go_simp; try with_reducible rfl
          simp only [Act.put, List.setIfInBounds_toArray, List.set_cons_zero, List.set_cons_succ]
          refine wpAnyH_takeD (i := 5) (d := some 29) (v := ?_) rfl (by kernel_rfl) (by kernel_rfl) (by kernel_rfl) rfl (fun _ _ _ h => h) (Or.inl ⟨by rfl, ?_⟩) (by assumption) ?_
          rotate_left
          · intro w hSw; (try dsimp only at hSw); go_simp; try with_reducible rfl
          simp only [Act.put, List.setIfInBounds_toArray, List.set_cons_zero, List.set_cons_succ]
          refine wpAnyH_takeD (i := 6) (d := some 30) (v := ?_) rfl (by kernel_rfl) (by kernel_rfl) (by kernel_rfl) rfl (fun _ _ _ h => h) (Or.inl ⟨by rfl, ?_⟩) (by assumption) ?_
          rotate_left
          · intro w hSw; (try dsimp only at hSw); go_simp; try with_reducible rfl
          simp only [Act.put, List.setIfInBounds_toArray, List.set_cons_zero, List.set_cons_succ]
          refine wpAnyH_takeD (i := 7) (d := some 31) (v := ?_) rfl (by kernel_rfl) (by kernel_rfl) (by kernel_rfl) rfl (fun _ _ _ h => h) (Or.inl ⟨by rfl, ?_⟩) (by assumption) ?_
          rotate_left
          · intro w hSw; (try dsimp only at hSw); go_simp; try with_reducible rfl
          simp only [Act.put, List.setIfInBounds_toArray, List.set_cons_zero, List.set_cons_succ]
          refine wpAnyH_takeD (i := 8) (d := some 32) (v := ?_) rfl (by kernel_rfl) (by kernel_rfl) (by kernel_rfl) rfl (fun _ _ _ h => h) (Or.inl ⟨by rfl, ?_⟩) (by assumption) ?_
          rotate_left
          · intro w hSw; (try dsimp only at hSw); go_simp; try with_reducible rfl
          simp only [Act.put, List.setIfInBounds_toArray, List.set_cons_zero, List.set_cons_succ]
          refine wpAnyH_takeD (i := 9) (d := some 33) (v := ?_) rfl (by kernel_rfl) (by kernel_rfl) (by kernel_rfl) rfl (fun _ _ _ h => h) (Or.inl ⟨by rfl, ?_⟩) (by assumption) ?_
          rotate_left
          · intro w hSw; (try dsimp only at hSw); go_simp; try with_reducible rfl
          simp only [Act.put, List.setIfInBounds_toArray, List.set_cons_zero, List.set_cons_succ]
          refine wpAnyH_takeD (i := 10) (d := some 34) (v := ?_) rfl (by kernel_rfl) (by kernel_rfl) (by kernel_rfl) rfl (fun _ _ _ h => h) (Or.inl ⟨by rfl, ?_⟩) (by assumption) ?_
          rotate_left
          · intro w hSw; (try dsimp only at hSw); go_simp; try with_reducible rfl
          simp only [Act.put, List.setIfInBounds_toArray, List.set_cons_zero, List.set_cons_succ]
          refine wpAnyH_takeD (i := 11) (d := some 35) (v := ?_) rfl (by kernel_rfl) (by kernel_rfl) (by kernel_rfl) rfl (fun _ _ _ h => h) (Or.inl ⟨by rfl, ?_⟩) (by assumption) ?_
          rotate_left
          · intro w hSw; (try dsimp only at hSw); go_simp; try with_reducible rfl
          simp only [Act.put, List.setIfInBounds_toArray, List.set_cons_zero, List.set_cons_succ]
          refine wpAnyH_takeD (i := 12) (d := some 36) (v := ?_) rfl (by kernel_rfl) (by kernel_rfl) (by kernel_rfl) rfl (fun _ _ _ h => h) (Or.inl ⟨by rfl, ?_⟩) (by assumption) ?_
          rotate_left
          · intro w hSw; (try dsimp only at hSw); go_simp; try with_reducible rfl
          simp only [Act.put, List.setIfInBounds_toArray, List.set_cons_zero, List.set_cons_succ]
          refine wpAnyH_takeD (i := 13) (d := some 37) (v := ?_) rfl (by kernel_rfl) (by kernel_rfl) (by kernel_rfl) rfl (fun _ _ _ h => h) (Or.inl ⟨by rfl, ?_⟩) (by assumption) ?_
          rotate_left
          · intro w hSw; (try dsimp only at hSw); go_simp; try with_reducible rfl
          simp only [Act.put, List.setIfInBounds_toArray, List.set_cons_zero, List.set_cons_succ]
          refine wpAnyH_takeD (i := 14) (d := some 38) (v := ?_) rfl (by kernel_rfl) (by kernel_rfl) (by kernel_rfl) rfl (fun _ _ _ h => h) (Or.inl ⟨by rfl, ?_⟩) (by assumption) ?_
          rotate_left
          · intro w hSw; (try dsimp only at hSw); go_simp; try with_reducible rfl
          simp only [Act.put, List.setIfInBounds_toArray, List.set_cons_zero, List.set_cons_succ]
          refine wpAnyH_takeD (i := 15) (d := some 39) (v := ?_) rfl (by kernel_rfl) (by kernel_rfl) (by kernel_rfl) rfl (fun _ _ _ h => h) (Or.inl ⟨by rfl, ?_⟩) (by assumption) ?_
          rotate_left
          · intro w hSw; (try dsimp only at hSw); go_simp; try with_reducible rfl
          simp only [Act.put, List.setIfInBounds_toArray, List.set_cons_zero, List.set_cons_succ]
          refine wpAnyH_takeD (i := 16) (d := some 40) (v := ?_) rfl (by kernel_rfl) (by kernel_rfl) (by kernel_rfl) rfl (fun _ _ _ h => h) (Or.inl ⟨by rfl, ?_⟩) (by assumption) ?_
          rotate_left
          · intro w hSw; (try dsimp only at hSw); go_simp; try with_reducible rfl
          simp only [Act.put, List.setIfInBounds_toArray, List.set_cons_zero, List.set_cons_succ]
          refine wpAnyH_takeD (i := 17) (d := some 41) (v := ?_) rfl (by kernel_rfl) (by kernel_rfl) (by kernel_rfl) rfl (fun _ _ _ h => h) (Or.inl ⟨by rfl, ?_⟩) (by assumption) ?_
          rotate_left
          · intro w hSw; (try dsimp only at hSw); go_simp; try with_reducible rfl
          simp only [Act.put, List.setIfInBounds_toArray, List.set_cons_zero, List.set_cons_succ]
          refine wpAnyH_takeD (i := 18) (d := some 42) (v := ?_) rfl (by kernel_rfl) (by kernel_rfl) (by kernel_rfl) rfl (fun _ _ _ h => h) (Or.inl ⟨by rfl, ?_⟩) (by assumption) ?_
          rotate_left
          · intro w hSw; (try dsimp only at hSw); go_simp; try with_reducible rfl
          simp only [Act.put, List.setIfInBounds_toArray, List.set_cons_zero, List.set_cons_succ]
          refine wpAnyH_takeD (i := 19) (d := some 43) (v := ?_) rfl (by kernel_rfl) (by kernel_rfl) (by kernel_rfl) rfl (fun _ _ _ h => h) (Or.inl ⟨by rfl, ?_⟩) (by assumption) ?_
          rotate_left
          · intro w hSw; (try dsimp only at hSw); go_simp; try with_reducible rfl
          simp only [Act.put, List.setIfInBounds_toArray, List.set_cons_zero, List.set_cons_succ]
          refine wpAnyH_ready (rs := [20]) (by kernel_rfl) (by simp) ?_
          refine AllReadyH.cons rfl (fun K hK => ?_) AllReadyH.nil
          go_simp
          refine HCALL.out.mono ?_
          clear HCALL
          rintro e w3 ⟨b, s3, ov3, rfl, hS3, hG3, h1, h2, h3, h4⟩
          have HG3 := Lib.hid (HG.out.trans hG3)
          have hHeld2 : (∀ x, w3.cell? ⟨bw, x, none⟩ = #[.slice (some ⟨b2, o2, none⟩) W.length wc][x]?) ∧ (∀ x, w3.cell? ⟨n7, x, none⟩ = #[.bool true, .int .i64 (a : Int)][x]?) ∧ w3.cell? ⟨b2, o2 + k, none⟩ = some (.int .i64 (a : Int)) :=
            ⟨(HM.out.go hG3).wb.cell, (hG3.blk HB7.out hno.1 hno.2).cell, hG3.agr.cell HOB.out HHE.out.2.2⟩
          clear hG3
          dsimp only
          go_wp2_with fail
          refine hK.out _ _ hHeld2 (fun hHeld3 => ?_)
          clear hK K
          try simp only [Act.put, List.setIfInBounds_toArray, List.set_cons_zero, List.set_cons_succ]
          refine wpAnyH_takeD (i := 21) (d := some 45) (v := ?_) rfl (by kernel_rfl) (by kernel_rfl) (by kernel_rfl) rfl (fun _ _ _ h => h) (Or.inl ⟨by rfl, ?_⟩) (by assumption) ?_
          rotate_left
          · intro w hSw; (try dsimp only at hSw); go_simp; try with_reducible rfl
          simp only [Act.put, List.setIfInBounds_toArray, List.set_cons_zero, List.set_cons_succ]
          refine wpAnyH_takeD (i := 22) (d := some 10) (v := ?_) rfl (by kernel_rfl) (by kernel_rfl) (by kernel_rfl) rfl (fun _ _ _ h => h) (Or.inl ⟨by rfl, ?_⟩) (by assumption) ?_
          rotate_left
          · intro w hSw; (try dsimp only at hSw); go_simp; try with_reducible rfl
          simp only [Act.put, List.setIfInBounds_toArray, List.set_cons_zero, List.set_cons_succ]
          refine wpAnyH_done (by kernel_rfl) ?_ _
          refine NoPanic.normal ?_
          clear hHeld hHeld2 hHeld3
          go_wp2_with fail
          go_ret
          have hfn : fndT F L = F (.leaf a) (k + 1) := by rw [HLE.out]; simp [fndT]
          rw [hfn]
          exact ⟨b, s3, ov3, rfl, hS3, HG3.out, h1, by omega, h3, h4⟩
        · have e2 : ((a : Int) == (yn : Int)) = false := by simp; omega
          have HLE := Lib.hid (show L = [] from by rw [HLT.out, if_neg (by rw [ha]; simpa using hay)])
          clear HPP HLT hkn ha hay
          refine wpAnyH_takeD (i := 0) (d := some 24) (v := ?_) rfl (by kernel_rfl) (by kernel_rfl) (by kernel_rfl) rfl (fun _ _ _ h => h) (Or.inl ⟨by rfl, ?_⟩) (by assumption) ?_
          rotate_left
          · intro w hSw; (try dsimp only at hSw); go_simp; try with_reducible rfl
          simp only [Act.put, List.setIfInBounds_toArray, List.set_cons_zero, List.set_cons_succ]
          refine wpAnyH_takeD (i := 1) (d := some 25) (v := ?_) rfl (by kernel_rfl) (by kernel_rfl) (by kernel_rfl) rfl (fun _ _ _ h => h) (Or.inl ⟨by rfl, ?_⟩) (by assumption) ?_
          rotate_left
          · intro w hSw; (try dsimp only at hSw); go_simp; try with_reducible rfl
          simp only [Act.put, List.setIfInBounds_toArray, List.set_cons_zero, List.set_cons_succ]
          refine wpAnyH_takeD (i := 2) (d := some 26) (v := ?_) rfl (by kernel_rfl) (by kernel_rfl) (by kernel_rfl) rfl (fun _ _ _ h => h) (Or.inl ⟨by rfl, ?_⟩) (by assumption) ?_
          rotate_left
          · intro w hSw; (try dsimp only at hSw); go_simp; try with_reducible rfl
          simp only [Act.put, List.setIfInBounds_toArray, List.set_cons_zero, List.set_cons_succ]
          refine wpAnyH_takeD (i := 3) (d := some 27) (v := ?_) rfl (by kernel_rfl) (by kernel_rfl) (by kernel_rfl) rfl (fun _ _ _ h => h) (Or.inl ⟨by rfl, ?_⟩) (by assumption) ?_
          rotate_left
          · intro w hSw; (try dsimp only at hSw); go_simp; try with_reducible rfl
          simp only [Act.put, List.setIfInBounds_toArray, List.set_cons_zero, List.set_cons_succ]
          refine wpAnyH_takeD (i := 4) (d := some 28) (v := ?_) rfl (by kernel_rfl) (by kernel_rfl) (by kernel_rfl) rfl (fun _ _ _ h => h) (Or.inl ⟨by rfl, ?_⟩) (by assumption) ?_
          rotate_left
          · intro w hSw; (try dsimp only at hSw); go_simp; try with_reducible rfl
          simp only [Act.put, List.setIfInBounds_toArray, List.set_cons_zero, List.set_cons_succ]
          refine wpAnyH_takeD (i := 5) (d := some 29) (v := ?_) rfl (by kernel_rfl) (by kernel_rfl) (by kernel_rfl) rfl (fun _ _ _ h => h) (Or.inl ⟨by rfl, ?_⟩) (by assumption) ?_
          rotate_left
          · intro w hSw; (try dsimp only at hSw); go_simp; try with_reducible rfl
          simp only [Act.put, List.setIfInBounds_toArray, List.set_cons_zero, List.set_cons_succ]
          refine wpAnyH_takeD (i := 6) (d := some 30) (v := ?_) rfl (by kernel_rfl) (by kernel_rfl) (by kernel_rfl) rfl (fun _ _ _ h => h) (Or.inl ⟨by rfl, ?_⟩) (by assumption) ?_
          rotate_left
          · intro w hSw; (try dsimp only at hSw); go_simp; try with_reducible rfl
          simp only [Act.put, List.setIfInBounds_toArray, List.set_cons_zero, List.set_cons_succ]
          refine wpAnyH_takeD (i := 7) (d := some 31) (v := ?_) rfl (by kernel_rfl) (by kernel_rfl) (by kernel_rfl) rfl (fun _ _ _ h => h) (Or.inl ⟨by rfl, ?_⟩) (by assumption) ?_
          rotate_left
          · intro w hSw; (try dsimp only at hSw); go_simp; try with_reducible rfl
          simp only [Act.put, List.setIfInBounds_toArray, List.set_cons_zero, List.set_cons_succ]
          refine wpAnyH_takeD (i := 8) (d := some 32) (v := ?_) rfl (by kernel_rfl) (by kernel_rfl) (by kernel_rfl) rfl (fun _ _ _ h => h) (Or.inl ⟨by rfl, ?_⟩) (by assumption) ?_
          rotate_left
          · intro w hSw; (try dsimp only at hSw); go_simp; try with_reducible rfl
          simp only [Act.put, List.setIfInBounds_toArray, List.set_cons_zero, List.set_cons_succ]
          refine wpAnyH_takeD (i := 9) (d := some 33) (v := ?_) rfl (by kernel_rfl) (by kernel_rfl) (by kernel_rfl) rfl (fun _ _ _ h => h) (Or.inl ⟨by rfl, ?_⟩) (by assumption) ?_
          rotate_left
          · intro w hSw; (try dsimp only at hSw); go_simp; try with_reducible rfl
          simp only [Act.put, List.setIfInBounds_toArray, List.set_cons_zero, List.set_cons_succ]
          refine wpAnyH_takeD (i := 10) (d := some 34) (v := ?_) rfl (by kernel_rfl) (by kernel_rfl) (by kernel_rfl) rfl (fun _ _ _ h => h) (Or.inl ⟨by rfl, ?_⟩) (by assumption) ?_
          rotate_left
          · intro w hSw; (try dsimp only at hSw); go_simp; try with_reducible rfl
          simp only [Act.put, List.setIfInBounds_toArray, List.set_cons_zero, List.set_cons_succ]
          refine wpAnyH_takeD (i := 11) (d := some 35) (v := ?_) rfl (by kernel_rfl) (by kernel_rfl) (by kernel_rfl) rfl (fun _ _ _ h => h) (Or.inl ⟨by rfl, ?_⟩) (by assumption) ?_
          rotate_left
          · intro w hSw; (try dsimp only at hSw); go_simp; try with_reducible rfl
          simp only [Act.put, List.setIfInBounds_toArray, List.set_cons_zero, List.set_cons_succ]
          refine wpAnyH_takeD (i := 12) (d := some 36) (v := ?_) rfl (by kernel_rfl) (by kernel_rfl) (by kernel_rfl) rfl (fun _ _ _ h => h) (Or.inl ⟨by rfl, ?_⟩) (by assumption) ?_
          rotate_left
          · intro w hSw; (try dsimp only at hSw); go_simp; try with_reducible rfl
          simp only [Act.put, List.setIfInBounds_toArray, List.set_cons_zero, List.set_cons_succ]
          refine wpAnyH_takeD (i := 13) (d := some 37) (v := ?_) rfl (by kernel_rfl) (by kernel_rfl) (by kernel_rfl) rfl (fun _ _ _ h => h) (Or.inl ⟨by rfl, ?_⟩) (by assumption) ?_
          rotate_left
          · intro w hSw; (try dsimp only at hSw); go_simp; try with_reducible rfl
          simp only [Act.put, List.setIfInBounds_toArray, List.set_cons_zero, List.set_cons_succ]
          refine wpAnyH_takeD (i := 14) (d := some 38) (v := undef) rfl (by kernel_rfl) (by kernel_rfl) (by kernel_rfl) rfl (fun _ _ _ h => h) (Or.inr ⟨by rfl, rfl⟩) (by assumption) ?_
          simp only [Act.put, List.setIfInBounds_toArray, List.set_cons_zero, List.set_cons_succ]
          refine wpAnyH_takeD (i := 15) (d := some 39) (v := undef) rfl (by kernel_rfl) (by kernel_rfl) (by kernel_rfl) rfl (fun _ _ _ h => h) (Or.inr ⟨by rfl, rfl⟩) (by assumption) ?_
          simp only [Act.put, List.setIfInBounds_toArray, List.set_cons_zero, List.set_cons_succ]
          refine wpAnyH_takeD (i := 16) (d := some 40) (v := undef) rfl (by kernel_rfl) (by kernel_rfl) (by kernel_rfl) rfl (fun _ _ _ h => h) (Or.inr ⟨by rfl, rfl⟩) (by assumption) ?_
          simp only [Act.put, List.setIfInBounds_toArray, List.set_cons_zero, List.set_cons_succ]
          refine wpAnyH_takeD (i := 17) (d := some 41) (v := undef) rfl (by kernel_rfl) (by kernel_rfl) (by kernel_rfl) rfl (fun _ _ _ h => h) (Or.inr ⟨by rfl, rfl⟩) (by assumption) ?_
          simp only [Act.put, List.setIfInBounds_toArray, List.set_cons_zero, List.set_cons_succ]
          refine wpAnyH_takeD (i := 18) (d := some 42) (v := undef) rfl (by kernel_rfl) (by kernel_rfl) (by kernel_rfl) rfl (fun _ _ _ h => h) (Or.inr ⟨by rfl, rfl⟩) (by assumption) ?_
          simp only [Act.put, List.setIfInBounds_toArray, List.set_cons_zero, List.set_cons_succ]
          refine wpAnyH_takeD (i := 19) (d := some 43) (v := undef) rfl (by kernel_rfl) (by kernel_rfl) (by kernel_rfl) rfl (fun _ _ _ h => h) (Or.inr ⟨by rfl, rfl⟩) (by assumption) ?_
          simp only [Act.put, List.setIfInBounds_toArray, List.set_cons_zero, List.set_cons_succ]
          refine wpAnyH_takeD (i := 20) (d := some 44) (v := undef) rfl (by kernel_rfl) (by kernel_rfl) (by kernel_rfl) rfl (fun _ _ _ h => h) (Or.inr ⟨by rfl, rfl⟩) (by assumption) ?_
          simp only [Act.put, List.setIfInBounds_toArray, List.set_cons_zero, List.set_cons_succ]
          refine wpAnyH_takeD (i := 21) (d := some 45) (v := ?_) rfl (by kernel_rfl) (by kernel_rfl) (by kernel_rfl) rfl (fun _ _ _ h => h) (Or.inl ⟨by rfl, ?_⟩) (by assumption) ?_
          rotate_left
          · intro w hSw; (try dsimp only at hSw); go_simp; try with_reducible rfl
          simp only [Act.put, List.setIfInBounds_toArray, List.set_cons_zero, List.set_cons_succ]
          refine wpAnyH_takeD (i := 22) (d := some 10) (v := ?_) rfl (by kernel_rfl) (by kernel_rfl) (by kernel_rfl) rfl (fun _ _ _ h => h) (Or.inl ⟨by rfl, ?_⟩) (by assumption) ?_
          rotate_left
          · intro w hSw; (try dsimp only at hSw); go_simp; try with_reducible rfl
          simp only [Act.put, List.setIfInBounds_toArray, List.set_cons_zero, List.set_cons_succ]
          refine wpAnyH_done (by kernel_rfl) ?_ _
          refine NoPanic.normal ?_
          clear hHeld
          go_wp2_with fail
          go_ret
          exact ⟨false, s - 1, ov, rfl, HST2.out, HG.out, by omega, by omega, (fun h => by cases h), fun _ _ => by rw [HLE.out]; rfl⟩
      · have HKN := Lib.hid hkn
        have e1 : decide (k < W.length) = false := decide_eq_false hkn
        have HLE := Lib.hid (show L = [] from by rw [HLT.out, if_neg (by rw [List.getElem?_eq_none (by omega)]; simp)])
        have hHeld : (∀ x, w2.drew.cell? ⟨bw, x, none⟩ = #[.slice wA W.length wc][x]?) := HM.out.wb.cell
        clear HPP HLT
        refine wp_region_noPanic ?_
        refine wp_region_held_drew (S := fun w' => (∀ x, w'.cell? ⟨bw, x, none⟩ = #[.slice wA W.length wc][x]?)) (by kernel_rfl) hHeld (fun hHeld => ?_)
        refine wpAnyH_takeD (i := 0) (d := some 24) (v := ?_) rfl (by kernel_rfl) (by kernel_rfl) (by kernel_rfl) rfl (fun _ _ _ h => h) (Or.inl ⟨by rfl, ?_⟩) (by assumption) ?_
        rotate_left
        · intro w hSw; (try dsimp only at hSw); go_simp; try with_reducible rfl
        simp only [Act.put, List.setIfInBounds_toArray, List.set_cons_zero, List.set_cons_succ]
        refine wpAnyH_takeD (i := 1) (d := some 25) (v := ?_) rfl (by kernel_rfl) (by kernel_rfl) (by kernel_rfl) rfl (fun _ _ _ h => h) (Or.inl ⟨by rfl, ?_⟩) (by assumption) ?_
        rotate_left
        · intro w hSw; (try dsimp only at hSw); go_simp; try with_reducible rfl
        simp only [Act.put, List.setIfInBounds_toArray, List.set_cons_zero, List.set_cons_succ]
        refine wpAnyH_takeD (i := 2) (d := some 26) (v := ?_) rfl (by kernel_rfl) (by kernel_rfl) (by kernel_rfl) rfl (fun _ _ _ h => h) (Or.inl ⟨by rfl, ?_⟩) (by assumption) ?_
        rotate_left
        · intro w hSw; (try dsimp only at hSw); go_simp; try with_reducible rfl
        simp only [Act.put, List.setIfInBounds_toArray, List.set_cons_zero, List.set_cons_succ]
        refine wpAnyH_takeD (i := 3) (d := some 27) (v := ?_) rfl (by kernel_rfl) (by kernel_rfl) (by kernel_rfl) rfl (fun _ _ _ h => h) (Or.inl ⟨by rfl, ?_⟩) (by assumption) ?_
        rotate_left
        · intro w hSw; (try dsimp only at hSw); go_simp; try with_reducible rfl
        simp only [Act.put, List.setIfInBounds_toArray, List.set_cons_zero, List.set_cons_succ]
        refine wpAnyH_takeD (i := 4) (d := some 28) (v := ?_) rfl (by kernel_rfl) (by kernel_rfl) (by kernel_rfl) rfl (fun _ _ _ h => h) (Or.inl ⟨by rfl, ?_⟩) (by assumption) ?_
        rotate_left
        · intro w hSw; (try dsimp only at hSw); go_simp; try with_reducible rfl
        simp only [Act.put, List.setIfInBounds_toArray, List.set_cons_zero, List.set_cons_succ]
        refine wpAnyH_takeD (i := 5) (d := some 29) (v := undef) rfl (by kernel_rfl) (by kernel_rfl) (by kernel_rfl) rfl (fun _ _ _ h => h) (Or.inr ⟨by rfl, rfl⟩) (by assumption) ?_
        simp only [Act.put, List.setIfInBounds_toArray, List.set_cons_zero, List.set_cons_succ]
        refine wpAnyH_takeD (i := 6) (d := some 30) (v := undef) rfl (by kernel_rfl) (by kernel_rfl) (by kernel_rfl) rfl (fun _ _ _ h => h) (Or.inr ⟨by rfl, rfl⟩) (by assumption) ?_
        simp only [Act.put, List.setIfInBounds_toArray, List.set_cons_zero, List.set_cons_succ]
        refine wpAnyH_takeD (i := 7) (d := some 31) (v := undef) rfl (by kernel_rfl) (by kernel_rfl) (by kernel_rfl) rfl (fun _ _ _ h => h) (Or.inr ⟨by rfl, rfl⟩) (by assumption) ?_
        simp only [Act.put, List.setIfInBounds_toArray, List.set_cons_zero, List.set_cons_succ]
        refine wpAnyH_takeD (i := 8) (d := some 32) (v := undef) rfl (by kernel_rfl) (by kernel_rfl) (by kernel_rfl) rfl (fun _ _ _ h => h) (Or.inr ⟨by rfl, rfl⟩) (by assumption) ?_
        simp only [Act.put, List.setIfInBounds_toArray, List.set_cons_zero, List.set_cons_succ]
        refine wpAnyH_takeD (i := 9) (d := some 33) (v := undef) rfl (by kernel_rfl) (by kernel_rfl) (by kernel_rfl) rfl (fun _ _ _ h => h) (Or.inr ⟨by rfl, rfl⟩) (by assumption) ?_
        simp only [Act.put, List.setIfInBounds_toArray, List.set_cons_zero, List.set_cons_succ]
        refine wpAnyH_takeD (i := 10) (d := some 34) (v := undef) rfl (by kernel_rfl) (by kernel_rfl) (by kernel_rfl) rfl (fun _ _ _ h => h) (Or.inr ⟨by rfl, rfl⟩) (by assumption) ?_
        simp only [Act.put, List.setIfInBounds_toArray, List.set_cons_zero, List.set_cons_succ]
        refine wpAnyH_takeD (i := 11) (d := some 35) (v := undef) rfl (by kernel_rfl) (by kernel_rfl) (by kernel_rfl) rfl (fun _ _ _ h => h) (Or.inr ⟨by rfl, rfl⟩) (by assumption) ?_
        simp only [Act.put, List.setIfInBounds_toArray, List.set_cons_zero, List.set_cons_succ]
        refine wpAnyH_takeD (i := 12) (d := some 36) (v := ?_) rfl (by kernel_rfl) (by kernel_rfl) (by kernel_rfl) rfl (fun _ _ _ h => h) (Or.inl ⟨by rfl, ?_⟩) (by assumption) ?_
        rotate_left
        · intro w hSw; (try dsimp only at hSw); go_simp; try with_reducible rfl
        simp only [Act.put, List.setIfInBounds_toArray, List.set_cons_zero, List.set_cons_succ]
        refine wpAnyH_takeD (i := 13) (d := some 37) (v := ?_) rfl (by kernel_rfl) (by kernel_rfl) (by kernel_rfl) rfl (fun _ _ _ h => h) (Or.inl ⟨by rfl, ?_⟩) (by assumption) ?_
        rotate_left
        · intro w hSw; (try dsimp only at hSw); go_simp; try with_reducible rfl
        simp only [Act.put, List.setIfInBounds_toArray, List.set_cons_zero, List.set_cons_succ]
        refine wpAnyH_takeD (i := 14) (d := some 38) (v := undef) rfl (by kernel_rfl) (by kernel_rfl) (by kernel_rfl) rfl (fun _ _ _ h => h) (Or.inr ⟨by rfl, rfl⟩) (by assumption) ?_
        simp only [Act.put, List.setIfInBounds_toArray, List.set_cons_zero, List.set_cons_succ]
        refine wpAnyH_takeD (i := 15) (d := some 39) (v := undef) rfl (by kernel_rfl) (by kernel_rfl) (by kernel_rfl) rfl (fun _ _ _ h => h) (Or.inr ⟨by rfl, rfl⟩) (by assumption) ?_
        simp only [Act.put, List.setIfInBounds_toArray, List.set_cons_zero, List.set_cons_succ]
        refine wpAnyH_takeD (i := 16) (d := some 40) (v := undef) rfl (by kernel_rfl) (by kernel_rfl) (by kernel_rfl) rfl (fun _ _ _ h => h) (Or.inr ⟨by rfl, rfl⟩) (by assumption) ?_
        simp only [Act.put, List.setIfInBounds_toArray, List.set_cons_zero, List.set_cons_succ]
        refine wpAnyH_takeD (i := 17) (d := some 41) (v := undef) rfl (by kernel_rfl) (by kernel_rfl) (by kernel_rfl) rfl (fun _ _ _ h => h) (Or.inr ⟨by rfl, rfl⟩) (by assumption) ?_
        simp only [Act.put, List.setIfInBounds_toArray, List.set_cons_zero, List.set_cons_succ]
        refine wpAnyH_takeD (i := 18) (d := some 42) (v := undef) rfl (by kernel_rfl) (by kernel_rfl) (by kernel_rfl) rfl (fun _ _ _ h => h) (Or.inr ⟨by rfl, rfl⟩) (by assumption) ?_
        simp only [Act.put, List.setIfInBounds_toArray, List.set_cons_zero, List.set_cons_succ]
        refine wpAnyH_takeD (i := 19) (d := some 43) (v := undef) rfl (by kernel_rfl) (by kernel_rfl) (by kernel_rfl) rfl (fun _ _ _ h => h) (Or.inr ⟨by rfl, rfl⟩) (by assumption) ?_
        simp only [Act.put, List.setIfInBounds_toArray, List.set_cons_zero, List.set_cons_succ]
        refine wpAnyH_takeD (i := 20) (d := some 44) (v := undef) rfl (by kernel_rfl) (by kernel_rfl) (by kernel_rfl) rfl (fun _ _ _ h => h) (Or.inr ⟨by rfl, rfl⟩) (by assumption) ?_
        simp only [Act.put, List.setIfInBounds_toArray, List.set_cons_zero, List.set_cons_succ]
        refine wpAnyH_takeD (i := 21) (d := some 45) (v := ?_) rfl (by kernel_rfl) (by kernel_rfl) (by kernel_rfl) rfl (fun _ _ _ h => h) (Or.inl ⟨by rfl, ?_⟩) (by assumption) ?_
        rotate_left
        · intro w hSw; (try dsimp only at hSw); go_simp; try with_reducible rfl
        simp only [Act.put, List.setIfInBounds_toArray, List.set_cons_zero, List.set_cons_succ]
        refine wpAnyH_takeD (i := 22) (d := some 10) (v := ?_) rfl (by kernel_rfl) (by kernel_rfl) (by kernel_rfl) rfl (fun _ _ _ h => h) (Or.inl ⟨by rfl, ?_⟩) (by assumption) ?_
        rotate_left
        · intro w hSw; (try dsimp only at hSw); go_simp; try with_reducible rfl
        simp only [Act.put, List.setIfInBounds_toArray, List.set_cons_zero, List.set_cons_succ]
        refine wpAnyH_done (by kernel_rfl) ?_ _
        refine NoPanic.normal ?_
        clear hHeld
        go_wp2_with fail
        go_ret
        exact ⟨false, s - 1, ov, rfl, HST2.out, HG.out, by omega, by omega, (fun h => by cases h), fun _ _ => by rw [HLE.out]; rfl⟩
    | false =>
      have cBP := BP.cell
      have fBP := BP.frozen
      have lBP := BP.lt
      have cBS := BS.cell
      have fBS := BS.frozen
      have lBS := BS.lt
      have cB7 := B7.cell
      have fB7 := B7.frozen
      have lB7 := B7.lt
      go_upto_region 6 with fail
      clear cBP fBP lBP cBS fBS lBS cB7 fB7 lB7
      have hL0 : enC (en g.rules W d) yn k 0 g.rules = some L := by have := HL.out; rw [en, if_neg (by simp)] at this; exact this
      have HL0 := Lib.hid hL0
      have HNG := Lib.hid HM.out.rules.len
      have hng32 : ng ≤ 32 := by have h1 := HM.out.rules.len; have h2 := HGO.out.ok.count; omega
      have BGb := HM.out.gb
      clear BP BS B7 HL hd hL0
      have cBGb := BGb.cell
      have fBGb := BGb.frozen
      have lBGb := BGb.lt
      go_wp2_with fail
      clear cBGb fBGb lBGb
      clear BGb
      go_loopw [49] (fun q wr => ∃ (i : Nat) (si : Int) (oi : TrV), q = .int .i64 i ∧ i ≤ ng ∧ -1 ≤ si ∧ si ≤ s - 1 ∧ Hid (Gw2 bs bo w2 wr) ∧ Hid (BkS bs bo si oi wr) ∧ Hid (∃ M, enC (en g.rules W d) yn k i (g.rules.drop i) = some M ∧ (∀ p ∈ M, P p.1 p.2) ∧ (0 ≤ si → fndT F M = fndT F L))) (fun q _ => ng - (intOf q).toNat)
      case atStart => exact ⟨0, s - 1, ov, rfl, Nat.zero_le _, by omega, Int.le_refl _, Lib.hid (Gw2.refl _), HST2, Lib.hid ⟨L, by simpa using HL0.out, HPP.out, fun _ => rfl⟩⟩
      case round =>
        obtain ⟨i, si, oi, rfl, hi, hs2, hs3, HGR, HSR, HMR⟩ := hrel
        clear HST2
        by_cases hin : i < ng
        · have hMr := HM.out.go HGR.out
          obtain ⟨b1, o1, ⟨sl, sA, sn, sc⟩, ⟨sl', rhs⟩, hAg, hob, hbb, hy, ⟨hx1, hx2⟩, hc⟩ := hMr.rules.at_ hin
          simp only at hx1 hx2
          obtain rfl : sl = sl' := hx1
          have d0 := hc 0 _ rfl
          have d1 := hc 1 _ rfl
          simp only [RuE, Nat.add_zero] at d0 d1
          subst hAg
          have i0 : (0 : Int) ≤ (i : Int) := by omega
          have i1 : (i : Int) < (ng : Int) := by omega
          have hmem := List.mem_of_getElem? hy
          have HRT := Lib.hid (HGO.out.ok.right _ hmem)
          have hsn : sn ≤ 4 := by rw [← hx2.len]; exact HRT.out.1
          have HDR := Lib.hid (show g.rules.drop i = (sl, rhs) :: g.rules.drop (i + 1) from by
            obtain ⟨hl, he⟩ := List.getElem?_eq_some_iff.1 hy
            rw [List.drop_eq_getElem_cons hl, he])
          have hal := (Below.refl wr.heap.size wr).al (.cells #[.int .i64 (sl : Int), .slice sA sn sc] 77)
          have HSL := Lib.hid (hx2.via hal)
          have HM5 := Lib.hid (hMr.go (Gw2.bel hal))
          have HS5 := Lib.hid (HSR.out.via hal)
          have HG5 := Lib.hid (HGR.out.via hal)
          have HBX := Lib.hid (Blk.new wr 77 #[.int .i64 (sl : Int), .slice sA sn sc])
          have hbr : bs < wr.heap.size ∧ bo < wr.heap.size := ⟨HSR.out.s.lt, HSR.out.o.lt⟩
          clear hc hy hx2 hmem hbb hob hal hMr HGR HSR
          go_upto_region 9 with fail
          clear d0 d1
          generalize wr.alloc (.cells #[.int .i64 (sl : Int), .slice sA sn sc] 77) = W5 at *
          obtain ⟨b12, hb12⟩ : ∃ b, b = wr.heap.size := ⟨_, rfl⟩
          rw [← hb12] at HBX ⊢
          have hno2 : okB bs bo b12 := ⟨by omega, by omega⟩
          clear hb12 hbr
          have HB75 := Lib.hid (HG5.out.blk HB7.out hno.1 hno.2)
          have BR := HM5.out.rb
          have B75 := HB75.out
          have BX := HBX.out
          by_cases hly : sl = yn
          · have e1 : ((sl : Int) == (yn : Int)) = true := by simp; omega
            obtain ⟨M, hM1, hM2, hM3⟩ := HMR.out
            rw [HDR.out] at hM1
            obtain ⟨x, y, hx1, hx2, rfl⟩ := enC_rule (u := (sl, rhs)) hly hM1
            rw [fndT_app] at hM3
            have HY := Lib.hid hx2
            have HMM := Lib.hid hM2
            have HM3 := Lib.hid hM3
            have HCALL := Lib.hid (HROW.out rhs W5 i sA sn sc none 0 0 [] k x fid caps F P si oi HRT.out.2 hk hx1 HSL.out (Sl.nil _) (by omega) HM5.out HS5.out hs2 (by omega) (HTH.out.go HG5.out) (fun p hp => hM2 _ (List.mem_append_left _ (List.mem_map.2 ⟨p, hp, rfl⟩))))
            clear hM1 hM2 hM3 hx1 hx2 HMR HROW
            have cBR := BR.cell
            have fBR := BR.frozen
            have lBR := BR.lt
            have cB75 := B75.cell
            have fB75 := B75.frozen
            have lB75 := B75.lt
            have cBX := BX.cell
            have fBX := BX.frozen
            have lBX := BX.lt
            repeat (first | go_skip | go_guarded | go_step | go_upon)
            refine HCALL.out.mono ?_
            clear HCALL
            rintro e w6 ⟨b, s6, ov6, rfl, hS6, hG6, h1, h2, h3, h4⟩
            simp only [List.nil_append] at h3 h4
            have HG6 := Lib.hid (HG5.out.trans hG6)
            clear cBR fBR lBR cB75 fB75 lB75 cBX fBX lBX
            clear hG6 BR B75 BX
            have H4 := Lib.hid h4
            have H3 := Lib.hid h3
            clear h3 h4
            cases b with
            | true =>
              go_wp2_with fail
              go_ret
              refine ⟨true, s6, ov6, rfl, hS6, HG.out.trans HG6.out, h1, by omega, fun _ => ?_, fun h => by cases h⟩
              obtain ⟨g1, u, g2, g3⟩ := H3.out (by simp)
              refine ⟨g1, u, ?_, g3⟩
              rw [← HM3.out (by omega), g2]; rfl
            | false =>
              go_wp2_with fail
              refine ⟨⟨i + 1, s6, ov6, by go_num, by omega, h1, by omega, HG6, Lib.hid hS6, Lib.hid ⟨y, HY.out, fun p hp => HMM.out p (List.mem_append_right _ hp), fun h0 => ?_⟩⟩, by simp [intOf]; omega⟩
              rw [← HM3.out (by omega), H4.out (by simp) h0]; rfl
          · have e1 : ((sl : Int) == (yn : Int)) = false := by simp; omega
            have HSK := Lib.hid (show ∃ M, enC (en g.rules W d) yn k (i + 1) (g.rules.drop (i + 1)) = some M ∧ (∀ p ∈ M, P p.1 p.2) ∧ (0 ≤ si → fndT F M = fndT F L) from by
              obtain ⟨M, hM1, hM2⟩ := HMR.out
              rw [HDR.out, fndT_skip (u := (sl, rhs)) hly] at hM1
              exact ⟨M, hM1, hM2⟩)
            clear HMR HROW hly
            have cBR := BR.cell
            have fBR := BR.frozen
            have lBR := BR.lt
            have cB75 := B75.cell
            have fB75 := B75.frozen
            have lB75 := B75.lt
            have cBX := BX.cell
            have fBX := BX.frozen
            have lBX := BX.lt
            repeat (first | go_skip | go_guarded | go_step | go_upon)
            go_wp2_with fail
            exact ⟨⟨i + 1, si, oi, by go_num, by omega, hs2, by omega, HG5, HS5, HSK⟩, by simp [intOf]; omega⟩
        · obtain rfl : ng = i := by omega
          go_wp2_with fail
          go_ret
          obtain ⟨M, hM1, hM2, hM3⟩ := HMR.out
          rw [List.drop_eq_nil_of_le (by have := HNG.out; omega)] at hM1
          simp only [enC, Option.some.injEq] at hM1
          subst hM1
          exact ⟨false, si, oi, rfl, HSR.out, HG.out.trans HGR.out, hs2, by omega, (fun h => by cases h), fun _ h0 => (hM3 h0).symm.trans rfl⟩
end Go.Proofs.YtfmnmgnhanogmaaDoor

