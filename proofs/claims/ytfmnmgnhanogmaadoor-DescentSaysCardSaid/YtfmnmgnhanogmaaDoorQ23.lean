/- Texts OU, laid together. -/
import Derived.Test.YtfmnmgnhanogmaaDoorQ22
import Derived.Laws.EntriesVeiled



namespace Go.Proofs.YtfmnmgnhanogmaaDoor
open Go.RowKit

/-- try at a depth -/
def TryK (ft fr bs bo bp bw bg bt br : Nat) (g : Gr) (W : List Nat) (Ag : Option Addr) (ng cg : Nat) (wA : Option Addr) (wc : Nat) (d : Nat) : Prop :=
  ∀ (w : World) (y : Sy) (k : Nat) (L : List (Tr × Nat)) (fid : Nat) (caps : Array Value) (F : Tr → Nat → Option Tr) (P : Tr → Nat → Prop) (s : Int) (ov : TrV), g.okSy y → k ≤ W.length → en g.rules W d y k = some L → BkM ft fr bs bo bp bw bg bt br g W Ag ng cg wA wc w → BkS bs bo s ov w → 0 ≤ s → s ≤ 10000000 → ThenK bs bo W.length w fid caps F P → (∀ p ∈ L, P p.1 p.2) →
    Calls Tryd.prog ft #[.agg #[.bool y.1, .int .i64 (y.2 : Int)], .int .i64 (k : Int), .func (.func fid) #[] caps, .pointer (some ⟨bp, 0, none⟩), .pointer (some ⟨bw, 0, none⟩), .pointer (some ⟨bg, 0, none⟩), .pointer (some ⟨br, 0, none⟩)] w (BkP bs bo w (fndT F L) s)
/-- row at a depth -/
def RowK (ft fr bs bo bp bw bg bt br : Nat) (g : Gr) (W : List Nat) (Ag : Option Addr) (ng cg : Nat) (wA : Option Addr) (wc : Nat) (d : Nat) (l : List Sy) : Prop :=
  ∀ (w : World) (rn : Nat) (sA : Option Addr) (sn sc : Nat) (kA : Option Addr) (kn kc : Nat) (ts : List Tr) (k : Nat) (M : List (List Tr × Nat)) (fid : Nat) (caps : Array Value) (F : Tr → Nat → Option Tr) (P : Tr → Nat → Prop) (s : Int) (ov : TrV), (∀ y ∈ l, g.okSy y) → k ≤ W.length → enL (en g.rules W d) l k = some M → Sl SyE (okB bs bo) w sA sn sc l → Sl TrE (okK bs bo) w kA kn kc ts → kn + sn ≤ 1000 → BkM ft fr bs bo bp bw bg bt br g W Ag ng cg wA wc w → BkS bs bo s ov w → -1 ≤ s → s ≤ 10000000 → ThenK bs bo W.length w fid caps F P → (∀ p ∈ M, P (.node rn (ts ++ p.1)) p.2) →
    Calls Tryd.prog fr #[.int .i64 (rn : Int), .slice sA sn sc, .slice kA kn kc, .int .i64 (k : Int), .func (.func fid) #[] caps, .pointer (some ⟨bp, 0, none⟩), .pointer (some ⟨bt, 0, none⟩), .pointer (some ⟨br, 0, none⟩)] w (BkP bs bo w (fndT (fun ks j => F (.node rn (ts ++ ks)) j) M) s)
set_option maxRecDepth 100000 in
set_option maxHeartbeats 8000000 in
/-- row's continuation -/
theorem mid_c (ft fr bs bo bp bw bg bt br : Nat) (her : ∀ (args : Array Value) (w : World), (callFunc fr args).run Tryd.prog w = .ok (.enter fr args) w)
    (g : Gr) (W : List Nat) (Ag : Option Addr) (ng cg : Nat) (wA : Option Addr) (wc : Nat) (d : Nat) (y : Sy) (l : List Sy) (hrow : RowK ft fr bs bo bp bw bg bt br g W Ag ng cg wA wc d l) (w1 : World) (rn n1 n2 n3 n4 : Nat) (sA : Option Addr) (sn sc : Nat) (kA : Option Addr) (kn kc : Nat) (ts : List Tr) (fid : Nat) (caps : Array Value) (F : Tr → Nat → Option Tr) (P : Tr → Nat → Prop)
    (hok : ∀ y ∈ l, g.okSy y) (hs : Sl SyE (okB bs bo) w1 sA sn sc (y :: l)) (hts : Sl TrE (okK bs bo) w1 kA kn kc ts) (hkn : kn + sn ≤ 1000) (hm : BkM ft fr bs bo bp bw bg bt br g W Ag ng cg wA wc w1) (hthen : ThenK bs bo W.length w1 fid caps F P)
    (b1 : Blk w1 n1 3 #[.int .i64 (rn : Int)]) (b2 : Blk w1 n2 75 #[.slice sA sn sc]) (b3 : Blk w1 n3 32 #[.slice kA kn kc]) (b4 : Blk w1 n4 91 #[.func (.func fid) #[] caps]) (hn : okB bs bo n1 ∧ okB bs bo n2 ∧ okB bs bo n3 ∧ okB bs bo n4) :
    ThenK bs bo W.length w1 42 #[.pointer (some ⟨br, 0, none⟩), .pointer (some ⟨n1, 0, none⟩), .pointer (some ⟨n2, 0, none⟩), .pointer (some ⟨n3, 0, none⟩), .pointer (some ⟨n4, 0, none⟩)]
      (fun t m => match enL (en g.rules W d) l m with | some Q => fndT (fun ks j => F (.node rn (ts ++ t :: ks)) j) Q | none => none) (fun t j => ∃ Q, enL (en g.rules W d) l j = some Q ∧ ∀ q ∈ Q, P (.node rn (ts ++ t :: q.1)) q.2) := by
  refine ⟨fun args w => by kernel_rfl, fun w v ov t k s hg ht hk hQ hs0 hs1 hS => ?_⟩
  obtain ⟨Q, hq1, hq2⟩ := hQ
  have hF : (match enL (en g.rules W d) l k with | some Q => fndT (fun ks j => F (.node rn (ts ++ t :: ks)) j) Q | none => none) = fndT (fun ks j => F (.node rn ((ts ++ [t]) ++ ks)) j) Q := by rw [hq1]; simp
  dsimp only
  rw [hF]
  have HQ1 := Lib.hid hq1
  have HQ2 := Lib.hid hq2
  clear hF hq1 hq2
  obtain ⟨va, vb, vA, vn, vc⟩ := v
  have hal := (Below.refl w.heap.size w).al (.cells #[.int .i64 va, .int .i64 vb, .slice vA vn vc] 34)
  have BV := Blk.new w 34 #[.int .i64 va, .int .i64 vb, .slice vA vn vc]
  have hgw := hg.via hal
  have HM := Lib.hid (hm.go hgw)
  have HSL := Lib.hid (hs.agr hgw.agr)
  have HKL := Lib.hid (hts.agr hgw.agrT)
  have HTH := Lib.hid (hthen.go hgw)
  have HB1 := Lib.hid (hgw.blk b1 hn.1.1 hn.1.2)
  have HB2 := Lib.hid (hgw.blk b2 hn.2.1.1 hn.2.1.2)
  have HB3 := Lib.hid (hgw.blk b3 hn.2.2.1.1 hn.2.2.1.2)
  have HB4 := Lib.hid (hgw.blk b4 hn.2.2.2.1 hn.2.2.2.2)
  have HST := Lib.hid (hS.via hal)
  have HT := Lib.hid (ht.via hal)
  have HG := Lib.hid (Gw2.bel (bs := bs) (bo := bo) hal)
  have HROW := Lib.hid hrow
  have HOK := Lib.hid hok
  have HN := Lib.hid hn
  have HE := hthen.1
  have hbs : bs < w.heap.size := hS.s.lt
  have hbo : bo < w.heap.size := hS.o.lt
  have HSN := Lib.hid (show sn = l.length + 1 from by have := hs.len; simpa using this.symm)
  clear hrow hok hs hts hm hthen b1 b2 b3 b4 hn hg ht hS hal hgw
  simp only [trVal]
  go_enter Tryd.func42, Tryd.ntmps42
  go_upto_region 1 with fail
  generalize w.alloc (.cells #[.int .i64 va, .int .i64 vb, .slice vA vn vc] 34) = w2 at *
  obtain ⟨bx, hbx⟩ : ∃ b, b = w.heap.size := ⟨_, rfl⟩
  rw [← hbx] at BV ⊢
  have HBX := Lib.hid hbx
  have HZW := Lib.hid (show bs < w2.drew.heap.size ∧ bo < w2.drew.heap.size from ⟨HST.out.s.lt, HST.out.o.lt⟩)
  have HBV := Lib.hid BV
  clear hbx BV
  have hdr := (Below.refl w2.heap.size w2).drew
  replace HM := Lib.hid (HM.out.go (Gw2.bel hdr))
  replace HST := Lib.hid (HST.out.via hdr)
  replace HSL := Lib.hid (HSL.out.via hdr)
  replace HKL := Lib.hid (HKL.out.via hdr)
  replace HG := Lib.hid (HG.out.via hdr)
  replace HTH := Lib.hid (HTH.out.go (Gw2.bel hdr))
  replace HB1 := Lib.hid (HB1.out.via hdr)
  replace HB2 := Lib.hid (HB2.out.via hdr)
  replace HB3 := Lib.hid (HB3.out.via hdr)
  replace HB4 := Lib.hid (HB4.out.via hdr)
  replace HBV := Lib.hid (HBV.out.via hdr)
  replace HT := Lib.hid (HT.out.via hdr)
  clear hdr
  have SO := Lib.hid (show ∀ w', Gw2 bs bo w2.drew w' → (fun w' => (∀ x, w'.cell? ⟨br, x, none⟩ = #[.func (.func fr) #[] #[.pointer (some ⟨bp, 0, none⟩), .pointer (some ⟨bt, 0, none⟩), .pointer (some ⟨br, 0, none⟩)]][x]?) ∧ (∀ x, w'.cell? ⟨n1, x, none⟩ = #[.int .i64 (rn : Int)][x]?) ∧ (∀ x, w'.cell? ⟨n2, x, none⟩ = #[.slice sA sn sc][x]?) ∧ (∀ x, w'.cell? ⟨n3, x, none⟩ = #[.slice kA kn kc][x]?) ∧ (∀ x, w'.cell? ⟨n4, x, none⟩ = #[.func (.func fid) #[] caps][x]?) ∧ (∀ x, w'.cell? ⟨bx, x, none⟩ = #[.int .i64 va, .int .i64 vb, .slice vA vn vc][x]?)) w' from fun w' h => ⟨(HM.out.go h).rb.cell, (h.blk HB1.out HN.out.1.1 HN.out.1.2).cell, (h.blk HB2.out HN.out.2.1.1 HN.out.2.1.2).cell, (h.blk HB3.out HN.out.2.2.1.1 HN.out.2.2.1.2).cell, (h.blk HB4.out HN.out.2.2.2.1 HN.out.2.2.2.2).cell, (h.blk HBV.out (by have := HBX.out; omega) (by have := HBX.out; omega)).cell⟩)
  have hHeld := SO.out _ (Gw2.refl _)
  have j1 : (1 : Int) ≤ (sn : Int) := by have := HSN.out; omega
  have hle := HSL.out.le
  obtain ⟨b2, o2, y1, y2, hsA, -, -, -, -, -⟩ := HSL.out.at_ (i := 0) (by have := HSN.out; omega)
  have HTL := Lib.hid (HSL.out.tailK (l := 1) (by have := HSN.out; omega))
  subst hsA
  by_cases hdd : sc = 1
  · have hsn1 : sn = 1 := by have := HSN.out; omega
    have HTT := Lib.hid (show Sl SyE (okB bs bo) w2.drew (some ⟨b2, o2, none⟩) 0 0 l from by
      have := HTL.out
      rw [hdd, hsn1] at this
      simpa using this)
    clear HTL hle
    subst hdd
    subst hsn1
    refine wp_region_noPanic ?_
    refine wp_region_held_drew (S := fun w' => (∀ x, w'.cell? ⟨br, x, none⟩ = #[.func (.func fr) #[] #[.pointer (some ⟨bp, 0, none⟩), .pointer (some ⟨bt, 0, none⟩), .pointer (some ⟨br, 0, none⟩)]][x]?) ∧ (∀ x, w'.cell? ⟨n1, x, none⟩ = #[.int .i64 (rn : Int)][x]?) ∧ (∀ x, w'.cell? ⟨n2, x, none⟩ = #[.slice (some ⟨b2, o2, none⟩) 1 1][x]?) ∧ (∀ x, w'.cell? ⟨n3, x, none⟩ = #[.slice kA kn kc][x]?) ∧ (∀ x, w'.cell? ⟨n4, x, none⟩ = #[.func (.func fid) #[] caps][x]?) ∧ (∀ x, w'.cell? ⟨bx, x, none⟩ = #[.int .i64 va, .int .i64 vb, .slice vA vn vc][x]?)) (by kernel_rfl) hHeld (fun hHeld => ?_)
    refine wpAnyH_takeD (i := 0) (d := some 10) (v := ?_) rfl (by kernel_rfl) (by kernel_rfl) (by kernel_rfl) rfl (fun _ _ _ h => h) (Or.inl ⟨by rfl, ?_⟩) (by assumption) ?_
    rotate_left
    · intro w hSw; (try dsimp only at hSw); go_simp; try with_reducible rfl
    simp only [Act.put, List.setIfInBounds_toArray, List.set_cons_zero, List.set_cons_succ]
    refine wpAnyH_takeD (i := 1) (d := some 11) (v := ?_) rfl (by kernel_rfl) (by kernel_rfl) (by kernel_rfl) rfl (fun _ _ _ h => h) (Or.inl ⟨by rfl, ?_⟩) (by assumption) ?_
    rotate_left
    · intro w hSw; (try dsimp only at hSw); go_simp; try with_reducible rfl
    simp only [Act.put, List.setIfInBounds_toArray, List.set_cons_zero, List.set_cons_succ]
    refine wpAnyH_takeD (i := 2) (d := some 12) (v := ?_) rfl (by kernel_rfl) (by kernel_rfl) (by kernel_rfl) rfl (fun _ _ _ h => h) (Or.inl ⟨by rfl, ?_⟩) (by assumption) ?_
    rotate_left
    · intro w hSw; (try dsimp only at hSw); go_simp; try with_reducible rfl
    simp only [Act.put, List.setIfInBounds_toArray, List.set_cons_zero, List.set_cons_succ]
    refine wpAnyH_takeD (i := 3) (d := some 13) (v := ?_) rfl (by kernel_rfl) (by kernel_rfl) (by kernel_rfl) rfl (fun _ _ _ h => h) (Or.inl ⟨by rfl, ?_⟩) (by assumption) ?_
    rotate_left
    · intro w hSw; (try dsimp only at hSw); go_simp; try with_reducible rfl
    simp only [Act.put, List.setIfInBounds_toArray, List.set_cons_zero, List.set_cons_succ]
    refine wpAnyH_takeD (i := 4) (d := some 14) (v := ?_) rfl (by kernel_rfl) (by kernel_rfl) (by kernel_rfl) rfl (fun _ _ _ h => h) (Or.inl ⟨by rfl, ?_⟩) (by assumption) ?_
    rotate_left
    · intro w hSw; (try dsimp only at hSw); go_simp; try with_reducible rfl
    simp only [Act.put, List.setIfInBounds_toArray, List.set_cons_zero, List.set_cons_succ]
    refine wpAnyH_takeD (i := 6) (d := some 16) (v := ?_) rfl (by kernel_rfl) (by kernel_rfl) (by kernel_rfl) rfl (fun _ _ _ h => h) (Or.inl ⟨by rfl, ?_⟩) (by assumption) ?_
    rotate_left
    · intro w hSw; (try dsimp only at hSw); go_simp; try with_reducible rfl
    simp only [Act.put, List.setIfInBounds_toArray, List.set_cons_zero, List.set_cons_succ]
    refine wpAnyH_takeD (i := 9) (d := some 19) (v := ?_) rfl (by kernel_rfl) (by kernel_rfl) (by kernel_rfl) rfl (fun _ _ _ h => h) (Or.inl ⟨by rfl, ?_⟩) (by assumption) ?_
    rotate_left
    · intro w hSw; (try dsimp only at hSw); go_simp; try with_reducible rfl
    simp only [Act.put, List.setIfInBounds_toArray, List.set_cons_zero, List.set_cons_succ]
    refine wpAnyH_takeD (i := 10) (d := some 20) (v := ?_) rfl (by kernel_rfl) (by kernel_rfl) (by kernel_rfl) rfl (fun _ _ _ h => h) (Or.inl ⟨by rfl, ?_⟩) (by assumption) ?_
    rotate_left
    · intro w hSw; (try dsimp only at hSw); go_simp; try with_reducible rfl
    simp only [Act.put, List.setIfInBounds_toArray, List.set_cons_zero, List.set_cons_succ]
    refine wpAnyH_ready (rs := [5, 7]) (by kernel_rfl) (by simp) ?_
    refine AllReadyH.cons rfl (fun K hK => ?_) (AllReadyH.cons rfl (fun K hK => ?_) AllReadyH.nil)
    · go_simp
      refine (cloneTr_c (okK bs bo) kA kn kc ts w2.drew HKL.out (by omega)).mono ?_
      rintro e w3 ⟨KB, kd, rfl, hoc, hb3⟩
      dsimp only
      go_wp2_with fail
      refine hK.out _ _ (SO.out _ (Gw2.bel hb3)) (fun hHeld2 => ?_)
      clear hK K
      try simp only [Act.put, List.setIfInBounds_toArray, List.set_cons_zero, List.set_cons_succ]
      refine wpAnyH_ready (rs := [7]) (by kernel_rfl) (by simp) ?_
      refine AllReadyH.cons rfl (fun K hK => ?_) AllReadyH.nil
      go_simp
      have hal := (Below.refl w3.heap.size w3).al (.cells #[.int .i64 va, .int .i64 vb, .slice vA vn vc] 34)
      refine hK.out _ _ (SO.out _ (Gw2.bel (hb3.via hal))) (fun hHeld3 => ?_)
      clear hK K
      try simp only [Act.put, List.setIfInBounds_toArray, List.set_cons_zero, List.set_cons_succ]
      have HOC := Lib.hid (hoc.via hal)
      have HBW := Lib.hid (hb3.via hal)
      have BKY := Lib.hid (Blk.new w3 34 #[.int .i64 va, .int .i64 vb, .slice vA vn vc])
      have HZ3 := Lib.hid (show w2.drew.heap.size ≤ (w3.alloc (.cells #[.int .i64 va, .int .i64 vb, .slice vA vn vc] 34)).heap.size from Nat.le_trans hb3.size hal.size)
      have HW3 := Lib.hid (Nat.le_refl w2.drew.heap.size)
      clear hoc hb3 hal
      refine wpAnyH_ready (rs := [8]) (by kernel_rfl) (by simp) ?_
      refine AllReadyH.cons rfl (fun K hK => ?_) AllReadyH.nil
      refine step_append_tr _ rfl (.tmp 15) (.tmp 17) rfl (okK bs bo) w2.drew.heap.size (.slice KB kn kd) kn ts rfl (HOC.out.mono fun b _ hb => hb.1) w3.heap.size (va, vb, vA, vn, vc) t rfl BKY.out (((HT.out.mono (ok' := fun b => okK bs bo b ∧ b < w2.drew.heap.size) fun b hlt h => ⟨h, hlt⟩).via HBW.out).mono fun b _ hb => ⟨hb.1, fun e => by have h1 := (HOC.out.lt b e.symm).1; have h2 := HW3.out; have h3 := hb.2; omega⟩) (by omega) HZ3.out ?_
      intro Ak ck w4 ho4 hg4 hat4
      have HB4 := Lib.hid (HBW.out.grown hg4 HBW.out.size (fun b e => Nat.le_trans HW3.out (HOC.out.lt b e).1))
      refine hK.out _ _ (SO.out _ (Gw2.bel HB4.out)) (fun hHeld4 => ?_)
      clear hK K
      try dsimp only [Act.put]
      refine wpAnyH_ready (rs := [11]) (by kernel_rfl) (by simp) ?_
      refine AllReadyH.cons rfl (fun K hK => ?_) AllReadyH.nil
      have HSK := Lib.hid (ho4.toSl (ok' := okK bs bo) (fun b _ hb => hb) (fun b hb => by have h2 := HW3.out; have h3 := HZW.out; exact ⟨⟨by omega, by omega⟩, by omega⟩))
      clear ho4 hg4 hat4
      go_simp
      refine (HROW.out w4 rn (some ⟨b2, o2, none⟩) 0 0 Ak (kn + 1) ck (ts ++ [t]) k Q fid caps F P s ov HOK.out hk HQ1.out (HTT.out.via HB4.out) HSK.out (by omega) (HM.out.go (Gw2.bel HB4.out)) (HST.out.via HB4.out) (by omega) hs1 (HTH.out.go (Gw2.bel HB4.out)) (fun q hq => by have := HQ2.out q hq; simpa using this)).mono ?_
      rintro e w5 ⟨b, s5, ov5, rfl, hS5, hG5, h1, h2, h3, h4⟩
      have HG5 := Lib.hid ((Gw2.bel (bs := bs) (bo := bo) HB4.out).trans hG5)
      clear hG5
      dsimp only
      go_wp2_with fail
      refine hK.out _ _ (SO.out _ HG5.out) (fun hHeld5 => ?_)
      clear hK K
      try simp only [Act.put, List.setIfInBounds_toArray, List.set_cons_zero, List.set_cons_succ]
      refine wpAnyH_ready (rs := [12]) (by kernel_rfl) (by simp) ?_
      refine AllReadyH.cons rfl (fun K hK => ?_) AllReadyH.nil
      go_simp
      refine hK.out _ _ hHeld5 (fun hHeld6 => ?_)
      clear hK K
      try simp only [Act.put, List.setIfInBounds_toArray, List.set_cons_zero, List.set_cons_succ]
      refine wpAnyH_done (by kernel_rfl) ?_ _
      refine NoPanic.normal ?_
      clear hHeld hHeld2 hHeld3 hHeld4 hHeld5 hHeld6
      go_wp2_with fail
      go_ret
      exact ⟨b, s5, ov5, rfl, hS5, HG.out.trans HG5.out, h1, h2, h3, h4⟩
    · go_simp
      have hal := (Below.refl w2.drew.heap.size w2.drew).al (.cells #[.int .i64 va, .int .i64 vb, .slice vA vn vc] 34)
      refine hK.out _ _ (SO.out _ (Gw2.bel hal)) (fun hHeld2 => ?_)
      clear hK K
      try simp only [Act.put, List.setIfInBounds_toArray, List.set_cons_zero, List.set_cons_succ]
      have bky := Blk.new w2.drew 34 #[.int .i64 va, .int .i64 vb, .slice vA vn vc]
      refine wpAnyH_ready (rs := [5]) (by kernel_rfl) (by simp) ?_
      refine AllReadyH.cons rfl (fun K hK => ?_) AllReadyH.nil
      go_simp
      refine (cloneTr_c (okK bs bo) kA kn kc ts _ (HKL.out.via hal) (by omega)).mono ?_
      rintro e w3 ⟨KB, kd, rfl, hoc, hb3⟩
      have hb3' := hal.via hb3
      dsimp only
      go_wp2_with fail
      refine hK.out _ _ (SO.out _ (Gw2.bel hb3')) (fun hHeld3 => ?_)
      clear hK K
      try simp only [Act.put, List.setIfInBounds_toArray, List.set_cons_zero, List.set_cons_succ]
      have HOC := Lib.hid hoc
      have HBW := Lib.hid hb3'
      have BKY := Lib.hid (bky.via hb3)
      have HZ3 := Lib.hid hb3.size
      have HW3 := Lib.hid hal.size
      clear hoc hb3 hal hb3' bky
      refine wpAnyH_ready (rs := [8]) (by kernel_rfl) (by simp) ?_
      refine AllReadyH.cons rfl (fun K hK => ?_) AllReadyH.nil
      refine step_append_tr _ rfl (.tmp 15) (.tmp 17) rfl (okK bs bo) (w2.drew.alloc (.cells #[.int .i64 va, .int .i64 vb, .slice vA vn vc] 34)).heap.size (.slice KB kn kd) kn ts rfl (HOC.out.mono fun b _ hb => hb.1) w2.drew.heap.size (va, vb, vA, vn, vc) t rfl BKY.out (((HT.out.mono (ok' := fun b => okK bs bo b ∧ b < w2.drew.heap.size) fun b hlt h => ⟨h, hlt⟩).via HBW.out).mono fun b _ hb => ⟨hb.1, fun e => by have h1 := (HOC.out.lt b e.symm).1; have h2 := HW3.out; have h3 := hb.2; omega⟩) (by omega) HZ3.out ?_
      intro Ak ck w4 ho4 hg4 hat4
      have HB4 := Lib.hid (HBW.out.grown hg4 HBW.out.size (fun b e => Nat.le_trans HW3.out (HOC.out.lt b e).1))
      refine hK.out _ _ (SO.out _ (Gw2.bel HB4.out)) (fun hHeld4 => ?_)
      clear hK K
      try dsimp only [Act.put]
      refine wpAnyH_ready (rs := [11]) (by kernel_rfl) (by simp) ?_
      refine AllReadyH.cons rfl (fun K hK => ?_) AllReadyH.nil
      have HSK := Lib.hid (ho4.toSl (ok' := okK bs bo) (fun b _ hb => hb) (fun b hb => by have h2 := HW3.out; have h3 := HZW.out; exact ⟨⟨by omega, by omega⟩, by omega⟩))
      clear ho4 hg4 hat4
      go_simp
      refine (HROW.out w4 rn (some ⟨b2, o2, none⟩) 0 0 Ak (kn + 1) ck (ts ++ [t]) k Q fid caps F P s ov HOK.out hk HQ1.out (HTT.out.via HB4.out) HSK.out (by omega) (HM.out.go (Gw2.bel HB4.out)) (HST.out.via HB4.out) (by omega) hs1 (HTH.out.go (Gw2.bel HB4.out)) (fun q hq => by have := HQ2.out q hq; simpa using this)).mono ?_
      rintro e w5 ⟨b, s5, ov5, rfl, hS5, hG5, h1, h2, h3, h4⟩
      have HG5 := Lib.hid ((Gw2.bel (bs := bs) (bo := bo) HB4.out).trans hG5)
      clear hG5
      dsimp only
      go_wp2_with fail
      refine hK.out _ _ (SO.out _ HG5.out) (fun hHeld5 => ?_)
      clear hK K
      try simp only [Act.put, List.setIfInBounds_toArray, List.set_cons_zero, List.set_cons_succ]
      refine wpAnyH_ready (rs := [12]) (by kernel_rfl) (by simp) ?_
      refine AllReadyH.cons rfl (fun K hK => ?_) AllReadyH.nil
      go_simp
      refine hK.out _ _ hHeld5 (fun hHeld6 => ?_)
      clear hK K
      try simp only [Act.put, List.setIfInBounds_toArray, List.set_cons_zero, List.set_cons_succ]
      refine wpAnyH_done (by kernel_rfl) ?_ _
      refine NoPanic.normal ?_
      clear hHeld hHeld2 hHeld3 hHeld4 hHeld5 hHeld6
      go_wp2_with fail
      go_ret
      exact ⟨b, s5, ov5, rfl, hS5, HG.out.trans HG5.out, h1, h2, h3, h4⟩
  · have HTT := Lib.hid (show Sl SyE (okB bs bo) w2.drew (some ⟨b2, o2 + 2, none⟩) (sn - 1) (sc - 1) l from by
      have := HTL.out
      rw [if_neg hdd] at this
      simpa [SyE, Addr.add] using this)
    clear HTL
    refine wp_region_noPanic ?_
    refine wp_region_held_drew (S := fun w' => (∀ x, w'.cell? ⟨br, x, none⟩ = #[.func (.func fr) #[] #[.pointer (some ⟨bp, 0, none⟩), .pointer (some ⟨bt, 0, none⟩), .pointer (some ⟨br, 0, none⟩)]][x]?) ∧ (∀ x, w'.cell? ⟨n1, x, none⟩ = #[.int .i64 (rn : Int)][x]?) ∧ (∀ x, w'.cell? ⟨n2, x, none⟩ = #[.slice (some ⟨b2, o2, none⟩) sn sc][x]?) ∧ (∀ x, w'.cell? ⟨n3, x, none⟩ = #[.slice kA kn kc][x]?) ∧ (∀ x, w'.cell? ⟨n4, x, none⟩ = #[.func (.func fid) #[] caps][x]?) ∧ (∀ x, w'.cell? ⟨bx, x, none⟩ = #[.int .i64 va, .int .i64 vb, .slice vA vn vc][x]?)) (by kernel_rfl) hHeld (fun hHeld => ?_)
    refine wpAnyH_takeD (i := 0) (d := some 10) (v := ?_) rfl (by kernel_rfl) (by kernel_rfl) (by kernel_rfl) rfl (fun _ _ _ h => h) (Or.inl ⟨by rfl, ?_⟩) (by assumption) ?_
    rotate_left
    · intro w hSw; (try dsimp only at hSw); go_simp; try with_reducible rfl
    simp only [Act.put, List.setIfInBounds_toArray, List.set_cons_zero, List.set_cons_succ]
    refine wpAnyH_takeD (i := 1) (d := some 11) (v := ?_) rfl (by kernel_rfl) (by kernel_rfl) (by kernel_rfl) rfl (fun _ _ _ h => h) (Or.inl ⟨by rfl, ?_⟩) (by assumption) ?_
    rotate_left
    · intro w hSw; (try dsimp only at hSw); go_simp; try with_reducible rfl
    simp only [Act.put, List.setIfInBounds_toArray, List.set_cons_zero, List.set_cons_succ]
    refine wpAnyH_takeD (i := 2) (d := some 12) (v := ?_) rfl (by kernel_rfl) (by kernel_rfl) (by kernel_rfl) rfl (fun _ _ _ h => h) (Or.inl ⟨by rfl, ?_⟩) (by assumption) ?_
    rotate_left
    · intro w hSw; (try dsimp only at hSw); go_simp; try with_reducible rfl
    simp only [Act.put, List.setIfInBounds_toArray, List.set_cons_zero, List.set_cons_succ]
    refine wpAnyH_takeD (i := 3) (d := some 13) (v := ?_) rfl (by kernel_rfl) (by kernel_rfl) (by kernel_rfl) rfl (fun _ _ _ h => h) (Or.inl ⟨by rfl, ?_⟩) (by assumption) ?_
    rotate_left
    · intro w hSw; (try dsimp only at hSw); go_simp; try with_reducible rfl
    simp only [Act.put, List.setIfInBounds_toArray, List.set_cons_zero, List.set_cons_succ]
    refine wpAnyH_takeD (i := 4) (d := some 14) (v := ?_) rfl (by kernel_rfl) (by kernel_rfl) (by kernel_rfl) rfl (fun _ _ _ h => h) (Or.inl ⟨by rfl, ?_⟩) (by assumption) ?_
    rotate_left
    · intro w hSw; (try dsimp only at hSw); go_simp; try with_reducible rfl
    simp only [Act.put, List.setIfInBounds_toArray, List.set_cons_zero, List.set_cons_succ]
    refine wpAnyH_takeD (i := 6) (d := some 16) (v := ?_) rfl (by kernel_rfl) (by kernel_rfl) (by kernel_rfl) rfl (fun _ _ _ h => h) (Or.inl ⟨by rfl, ?_⟩) (by assumption) ?_
    rotate_left
    · intro w hSw; (try dsimp only at hSw); go_simp; try with_reducible rfl
    simp only [Act.put, List.setIfInBounds_toArray, List.set_cons_zero, List.set_cons_succ]
    refine wpAnyH_takeD (i := 9) (d := some 19) (v := ?_) rfl (by kernel_rfl) (by kernel_rfl) (by kernel_rfl) rfl (fun _ _ _ h => h) (Or.inl ⟨by rfl, ?_⟩) (by assumption) ?_
    rotate_left
    · intro w hSw; (try dsimp only at hSw); go_simp; try with_reducible rfl
    simp only [Act.put, List.setIfInBounds_toArray, List.set_cons_zero, List.set_cons_succ]
    refine wpAnyH_takeD (i := 10) (d := some 20) (v := ?_) rfl (by kernel_rfl) (by kernel_rfl) (by kernel_rfl) rfl (fun _ _ _ h => h) (Or.inl ⟨by rfl, ?_⟩) (by assumption) ?_
    rotate_left
    · intro w hSw; (try dsimp only at hSw); go_simp; try with_reducible rfl
    simp only [Act.put, List.setIfInBounds_toArray, List.set_cons_zero, List.set_cons_succ]
    refine wpAnyH_ready (rs := [5, 7]) (by kernel_rfl) (by simp) ?_
    refine AllReadyH.cons rfl (fun K hK => ?_) (AllReadyH.cons rfl (fun K hK => ?_) AllReadyH.nil)
    · go_simp
      refine (cloneTr_c (okK bs bo) kA kn kc ts w2.drew HKL.out (by omega)).mono ?_
      rintro e w3 ⟨KB, kd, rfl, hoc, hb3⟩
      dsimp only
      go_wp2_with fail
      refine hK.out _ _ (SO.out _ (Gw2.bel hb3)) (fun hHeld2 => ?_)
      clear hK K
      try simp only [Act.put, List.setIfInBounds_toArray, List.set_cons_zero, List.set_cons_succ]
      refine wpAnyH_ready (rs := [7]) (by kernel_rfl) (by simp) ?_
      refine AllReadyH.cons rfl (fun K hK => ?_) AllReadyH.nil
      go_simp
      have hal := (Below.refl w3.heap.size w3).al (.cells #[.int .i64 va, .int .i64 vb, .slice vA vn vc] 34)
      refine hK.out _ _ (SO.out _ (Gw2.bel (hb3.via hal))) (fun hHeld3 => ?_)
      clear hK K
      try simp only [Act.put, List.setIfInBounds_toArray, List.set_cons_zero, List.set_cons_succ]
      have HOC := Lib.hid (hoc.via hal)
      have HBW := Lib.hid (hb3.via hal)
      have BKY := Lib.hid (Blk.new w3 34 #[.int .i64 va, .int .i64 vb, .slice vA vn vc])
      have HZ3 := Lib.hid (show w2.drew.heap.size ≤ (w3.alloc (.cells #[.int .i64 va, .int .i64 vb, .slice vA vn vc] 34)).heap.size from Nat.le_trans hb3.size hal.size)
      have HW3 := Lib.hid (Nat.le_refl w2.drew.heap.size)
      clear hoc hb3 hal
      refine wpAnyH_ready (rs := [8]) (by kernel_rfl) (by simp) ?_
      refine AllReadyH.cons rfl (fun K hK => ?_) AllReadyH.nil
      refine step_append_tr _ rfl (.tmp 15) (.tmp 17) rfl (okK bs bo) w2.drew.heap.size (.slice KB kn kd) kn ts rfl (HOC.out.mono fun b _ hb => hb.1) w3.heap.size (va, vb, vA, vn, vc) t rfl BKY.out (((HT.out.mono (ok' := fun b => okK bs bo b ∧ b < w2.drew.heap.size) fun b hlt h => ⟨h, hlt⟩).via HBW.out).mono fun b _ hb => ⟨hb.1, fun e => by have h1 := (HOC.out.lt b e.symm).1; have h2 := HW3.out; have h3 := hb.2; omega⟩) (by omega) HZ3.out ?_
      intro Ak ck w4 ho4 hg4 hat4
      have HB4 := Lib.hid (HBW.out.grown hg4 HBW.out.size (fun b e => Nat.le_trans HW3.out (HOC.out.lt b e).1))
      refine hK.out _ _ (SO.out _ (Gw2.bel HB4.out)) (fun hHeld4 => ?_)
      clear hK K
      try dsimp only [Act.put]
      refine wpAnyH_ready (rs := [11]) (by kernel_rfl) (by simp) ?_
      refine AllReadyH.cons rfl (fun K hK => ?_) AllReadyH.nil
      have HSK := Lib.hid (ho4.toSl (ok' := okK bs bo) (fun b _ hb => hb) (fun b hb => by have h2 := HW3.out; have h3 := HZW.out; exact ⟨⟨by omega, by omega⟩, by omega⟩))
      clear ho4 hg4 hat4
      go_simp
      refine (HROW.out w4 rn (some ⟨b2, o2 + 2, none⟩) (sn - 1) (sc - 1) Ak (kn + 1) ck (ts ++ [t]) k Q fid caps F P s ov HOK.out hk HQ1.out (HTT.out.via HB4.out) HSK.out (by omega) (HM.out.go (Gw2.bel HB4.out)) (HST.out.via HB4.out) (by omega) hs1 (HTH.out.go (Gw2.bel HB4.out)) (fun q hq => by have := HQ2.out q hq; simpa using this)).mono ?_
      rintro e w5 ⟨b, s5, ov5, rfl, hS5, hG5, h1, h2, h3, h4⟩
      have HG5 := Lib.hid ((Gw2.bel (bs := bs) (bo := bo) HB4.out).trans hG5)
      clear hG5
      dsimp only
      go_wp2_with fail
      refine hK.out _ _ (SO.out _ HG5.out) (fun hHeld5 => ?_)
      clear hK K
      try simp only [Act.put, List.setIfInBounds_toArray, List.set_cons_zero, List.set_cons_succ]
      refine wpAnyH_ready (rs := [12]) (by kernel_rfl) (by simp) ?_
      refine AllReadyH.cons rfl (fun K hK => ?_) AllReadyH.nil
      go_simp
      refine hK.out _ _ hHeld5 (fun hHeld6 => ?_)
      clear hK K
      try simp only [Act.put, List.setIfInBounds_toArray, List.set_cons_zero, List.set_cons_succ]
      refine wpAnyH_done (by kernel_rfl) ?_ _
      refine NoPanic.normal ?_
      clear hHeld hHeld2 hHeld3 hHeld4 hHeld5 hHeld6
      go_wp2_with fail
      go_ret
      exact ⟨b, s5, ov5, rfl, hS5, HG.out.trans HG5.out, h1, h2, h3, h4⟩
    · go_simp
      have hal := (Below.refl w2.drew.heap.size w2.drew).al (.cells #[.int .i64 va, .int .i64 vb, .slice vA vn vc] 34)
      refine hK.out _ _ (SO.out _ (Gw2.bel hal)) (fun hHeld2 => ?_)
      clear hK K
      try simp only [Act.put, List.setIfInBounds_toArray, List.set_cons_zero, List.set_cons_succ]
      have bky := Blk.new w2.drew 34 #[.int .i64 va, .int .i64 vb, .slice vA vn vc]
      refine wpAnyH_ready (rs := [5]) (by kernel_rfl) (by simp) ?_
      refine AllReadyH.cons rfl (fun K hK => ?_) AllReadyH.nil
      go_simp
      refine (cloneTr_c (okK bs bo) kA kn kc ts _ (HKL.out.via hal) (by omega)).mono ?_
      rintro e w3 ⟨KB, kd, rfl, hoc, hb3⟩
      have hb3' := hal.via hb3
      dsimp only
      go_wp2_with fail
      refine hK.out _ _ (SO.out _ (Gw2.bel hb3')) (fun hHeld3 => ?_)
      clear hK K
      try simp only [Act.put, List.setIfInBounds_toArray, List.set_cons_zero, List.set_cons_succ]
      have HOC := Lib.hid hoc
      have HBW := Lib.hid hb3'
      have BKY := Lib.hid (bky.via hb3)
      have HZ3 := Lib.hid hb3.size
      have HW3 := Lib.hid hal.size
      clear hoc hb3 hal hb3' bky
      refine wpAnyH_ready (rs := [8]) (by kernel_rfl) (by simp) ?_
      refine AllReadyH.cons rfl (fun K hK => ?_) AllReadyH.nil
      refine step_append_tr _ rfl (.tmp 15) (.tmp 17) rfl (okK bs bo) (w2.drew.alloc (.cells #[.int .i64 va, .int .i64 vb, .slice vA vn vc] 34)).heap.size (.slice KB kn kd) kn ts rfl (HOC.out.mono fun b _ hb => hb.1) w2.drew.heap.size (va, vb, vA, vn, vc) t rfl BKY.out (((HT.out.mono (ok' := fun b => okK bs bo b ∧ b < w2.drew.heap.size) fun b hlt h => ⟨h, hlt⟩).via HBW.out).mono fun b _ hb => ⟨hb.1, fun e => by have h1 := (HOC.out.lt b e.symm).1; have h2 := HW3.out; have h3 := hb.2; omega⟩) (by omega) HZ3.out ?_
      intro Ak ck w4 ho4 hg4 hat4
      have HB4 := Lib.hid (HBW.out.grown hg4 HBW.out.size (fun b e => Nat.le_trans HW3.out (HOC.out.lt b e).1))
      refine hK.out _ _ (SO.out _ (Gw2.bel HB4.out)) (fun hHeld4 => ?_)
      clear hK K
      try dsimp only [Act.put]
      refine wpAnyH_ready (rs := [11]) (by kernel_rfl) (by simp) ?_
      refine AllReadyH.cons rfl (fun K hK => ?_) AllReadyH.nil
      have HSK := Lib.hid (ho4.toSl (ok' := okK bs bo) (fun b _ hb => hb) (fun b hb => by have h2 := HW3.out; have h3 := HZW.out; exact ⟨⟨by omega, by omega⟩, by omega⟩))
      clear ho4 hg4 hat4
      go_simp
      refine (HROW.out w4 rn (some ⟨b2, o2 + 2, none⟩) (sn - 1) (sc - 1) Ak (kn + 1) ck (ts ++ [t]) k Q fid caps F P s ov HOK.out hk HQ1.out (HTT.out.via HB4.out) HSK.out (by omega) (HM.out.go (Gw2.bel HB4.out)) (HST.out.via HB4.out) (by omega) hs1 (HTH.out.go (Gw2.bel HB4.out)) (fun q hq => by have := HQ2.out q hq; simpa using this)).mono ?_
      rintro e w5 ⟨b, s5, ov5, rfl, hS5, hG5, h1, h2, h3, h4⟩
      have HG5 := Lib.hid ((Gw2.bel (bs := bs) (bo := bo) HB4.out).trans hG5)
      clear hG5
      dsimp only
      go_wp2_with fail
      refine hK.out _ _ (SO.out _ HG5.out) (fun hHeld5 => ?_)
      clear hK K
      try simp only [Act.put, List.setIfInBounds_toArray, List.set_cons_zero, List.set_cons_succ]
      refine wpAnyH_ready (rs := [12]) (by kernel_rfl) (by simp) ?_
      refine AllReadyH.cons rfl (fun K hK => ?_) AllReadyH.nil
      go_simp
      refine hK.out _ _ hHeld5 (fun hHeld6 => ?_)
      clear hK K
      try simp only [Act.put, List.setIfInBounds_toArray, List.set_cons_zero, List.set_cons_succ]
      refine wpAnyH_done (by kernel_rfl) ?_ _
      refine NoPanic.normal ?_
      clear hHeld hHeld2 hHeld3 hHeld4 hHeld5 hHeld6
      go_wp2_with fail
      go_ret
      exact ⟨b, s5, ov5, rfl, hS5, HG.out.trans HG5.out, h1, h2, h3, h4⟩
set_option maxRecDepth 100000 in
set_option maxHeartbeats 8000000 in
theorem row_n (ft fr bs bo bp bw bg bt br : Nat) (hfr : Hid (fr = 41)) (het : ∀ (args : Array Value) (w : World), (callFunc ft args).run Tryd.prog w = .ok (.enter ft args) w) (her : ∀ (args : Array Value) (w : World), (callFunc fr args).run Tryd.prog w = .ok (.enter fr args) w)
    (g : Gr) (W : List Nat) (Ag : Option Addr) (ng cg : Nat) (wA : Option Addr) (wc : Nat) (d : Nat) (hTry : TryK ft fr bs bo bp bw bg bt br g W Ag ng cg wA wc d) (l : List Sy) : RowK ft fr bs bo bp bw bg bt br g W Ag ng cg wA wc d l := by
  have HTRY := Lib.hid hTry
  clear hTry
  induction l with
  | nil =>
    intro w rn sA sn sc kA kn kc ts k M fid caps F P s ov _ hk hM hs hts hkn hm hS hs0 hs1 hthen hP
    have HSN := Lib.hid (show sn = 0 from by have := hs.len; simpa using this.symm)
    simp only [enL, Option.some.injEq] at hM
    subst hM
    have hfnd : fndT (fun ks j => F (.node rn (ts ++ ks)) j) [([], k)] = F (.node rn ts) k := by simp [fndT]
    rw [hfnd]
    have hPk : P (.node rn ts) k := by have := hP ([], k) (by simp); simpa using this
    have e1 : ((sn : Int) == 0) = true := by simp [HSN.out]
    have hal := ((((Below.refl w.heap.size w).al (.cells #[.int .i64 (rn : Int)] 3)).al (.cells #[.slice sA sn sc] 75)).al (.cells #[.slice kA kn kc] 32)).al (.cells #[.func (.func fid) #[] caps] 91)
    have b1 := (((Blk.new w 3 #[.int .i64 (rn : Int)]).al (.cells #[.slice sA sn sc] 75)).al (.cells #[.slice kA kn kc] 32)).al (.cells #[.func (.func fid) #[] caps] 91)
    have b2 := ((Blk.newAt (w.alloc (.cells #[.int .i64 (rn : Int)] 3)) 75 #[.slice sA sn sc] (w.heap.size + 1) (by simp)).al (.cells #[.slice kA kn kc] 32)).al (.cells #[.func (.func fid) #[] caps] 91)
    have b3 := (Blk.newAt ((w.alloc (.cells #[.int .i64 (rn : Int)] 3)).alloc (.cells #[.slice sA sn sc] 75)) 32 #[.slice kA kn kc] (w.heap.size + 1 + 1) (by simp)).al (.cells #[.func (.func fid) #[] caps] 91)
    have b4 := Blk.newAt (((w.alloc (.cells #[.int .i64 (rn : Int)] 3)).alloc (.cells #[.slice sA sn sc] 75)).alloc (.cells #[.slice kA kn kc] 32)) 91 #[.func (.func fid) #[] caps] (w.heap.size + 1 + 1 + 1) (by simp)
    have HM := Lib.hid (hm.go (Gw2.bel hal))
    have HST := Lib.hid (hS.via hal)
    have HSL := Lib.hid (hs.via hal)
    have HKL := Lib.hid (hts.via hal)
    have HG := Lib.hid (Gw2.bel (bs := bs) (bo := bo) hal)
    have hbs : bs < w.heap.size := hS.s.lt
    have hbo : bo < w.heap.size := hS.o.lt
    have hne := hm.ne
    have HE := hthen.1
    have HTH := Lib.hid (hthen.go (Gw2.bel hal))
    have HB1 := Lib.hid b1
    have HB2 := Lib.hid b2
    have HB3 := Lib.hid b3
    have HB4 := Lib.hid b4
    have HPP := Lib.hid hP
    have HFR := hfr
    clear hal b1 b2 b3 b4 hm hS hs hts hthen hP
    rw [hfr.out]
    go_enter Tryd.func41, Tryd.ntmps41
    go_upto_region 1 with fail
    generalize (((w.alloc (.cells #[.int .i64 (rn : Int)] 3)).alloc (.cells #[.slice sA sn sc] 75)).alloc (.cells #[.slice kA kn kc] 32)).alloc (.cells #[.func (.func fid) #[] caps] 91) = w1 at *
    obtain ⟨n1, hn1⟩ : ∃ b, b = w.heap.size := ⟨_, rfl⟩
    obtain ⟨n2, hn2⟩ : ∃ b, b = w.heap.size + 1 := ⟨_, rfl⟩
    obtain ⟨n3, hn3⟩ : ∃ b, b = w.heap.size + 1 + 1 := ⟨_, rfl⟩
    obtain ⟨n4, hn4⟩ : ∃ b, b = w.heap.size + 1 + 1 + 1 := ⟨_, rfl⟩
    rw [← hn4] at HB4 ⊢
    rw [← hn3] at HB3 ⊢
    rw [← hn2] at HB2 ⊢
    rw [← hn1] at HB1 ⊢
    have hnn : n1 = w.heap.size ∧ n1 < n2 ∧ n2 < n3 ∧ n3 < n4 := by omega
    have HNN := Lib.hid hnn
    clear hn1 hn2 hn3 hn4 hnn
    have BP := HM.out.pb
    have BS := HST.out.s
    by_cases hneg : s < 0
    · have hd : decide (s < 0) = true := decide_eq_true hneg
      have HNEG := Lib.hid hneg
      clear hneg
      have cBP := BP.cell
      have fBP := BP.frozen
      have lBP := BP.lt
      have cBS := BS.cell
      have fBS := BS.frozen
      have lBS := BS.lt
      go_wp2_with fail
      go_ret
      exact ⟨false, s, ov, rfl, HST.out, HG.out, hs0, Int.le_refl _, (fun h => by cases h), fun _ h => absurd HNEG.out (by omega)⟩
    have hd : decide (s < 0) = false := decide_eq_false hneg
    have BR := HB2.out
    have cBP := BP.cell
    have fBP := BP.frozen
    have lBP := BP.lt
    have cBS := BS.cell
    have fBS := BS.frozen
    have lBS := BS.lt
    have cBR := BR.cell
    have fBR := BR.frozen
    have lBR := BR.lt
    go_upto_region 4 with fail
    clear cBP fBP lBP cBS fBS lBS cBR fBR lBR
    clear BP BS BR hd
    have hcall := HTH.out.2 w1 ((rn : Int), 0, kA, kn, kc) ov (.node rn ts) k s (Gw2.refl _) (TreeR.mk rn HKL.out) hk hPk (by omega) hs1 HST.out
    have B1 := HB1.out
    have B3 := HB3.out
    have B4 := HB4.out
    clear HTRY HPP
    have cB1 := B1.cell
    have fB1 := B1.frozen
    have lB1 := B1.lt
    have cB3 := B3.cell
    have fB3 := B3.frozen
    have lB3 := B3.lt
    have cB4 := B4.cell
    have fB4 := B4.frozen
    have lB4 := B4.lt
    iterate 18 go_step
    refine hcall.mono ?_
    rintro e w2 ⟨b, s2, ov2, rfl, hS2, hG2, h1, h2, h3, h4⟩
    have HG3 := Lib.hid (HG.out.trans hG2)
    clear cB1 fB1 lB1 cB3 fB3 lB3 cB4 fB4 lB4
    clear hG2 B1 B3 B4 hcall
    go_wp2_with fail
    go_ret
    exact ⟨b, s2, ov2, rfl, hS2, HG3.out, h1, h2, h3, h4⟩
  | cons y l ih =>
    intro w rn sA sn sc kA kn kc ts k M fid caps F P s ov hoks hk hM hs hts hkn hm hS hs0 hs1 hthen hP
    have HSN := Lib.hid (show sn = l.length + 1 from by have := hs.len; simpa using this.symm)
    obtain ⟨L, hL⟩ : ∃ L, en g.rules W d y k = some L := by
      cases h : en g.rules W d y k with
      | none => simp [enL, h] at hM
      | some L => exact ⟨L, rfl⟩
    obtain ⟨-, hfn⟩ := fndT_cons hL hM (fun ks j => F (.node rn (ts ++ ks)) j)
    have HCO := Lib.hid (enL_cons hL hM)
    rw [hfn]
    have HLL := Lib.hid hL
    have HOK := Lib.hid hoks
    have HIH := Lib.hid ih
    have e1 : ((sn : Int) == 0) = false := by have := HSN.out; simp; omega
    clear hfn hL hM hoks ih
    have hal := ((((Below.refl w.heap.size w).al (.cells #[.int .i64 (rn : Int)] 3)).al (.cells #[.slice sA sn sc] 75)).al (.cells #[.slice kA kn kc] 32)).al (.cells #[.func (.func fid) #[] caps] 91)
    have b1 := (((Blk.new w 3 #[.int .i64 (rn : Int)]).al (.cells #[.slice sA sn sc] 75)).al (.cells #[.slice kA kn kc] 32)).al (.cells #[.func (.func fid) #[] caps] 91)
    have b2 := ((Blk.newAt (w.alloc (.cells #[.int .i64 (rn : Int)] 3)) 75 #[.slice sA sn sc] (w.heap.size + 1) (by simp)).al (.cells #[.slice kA kn kc] 32)).al (.cells #[.func (.func fid) #[] caps] 91)
    have b3 := (Blk.newAt ((w.alloc (.cells #[.int .i64 (rn : Int)] 3)).alloc (.cells #[.slice sA sn sc] 75)) 32 #[.slice kA kn kc] (w.heap.size + 1 + 1) (by simp)).al (.cells #[.func (.func fid) #[] caps] 91)
    have b4 := Blk.newAt (((w.alloc (.cells #[.int .i64 (rn : Int)] 3)).alloc (.cells #[.slice sA sn sc] 75)).alloc (.cells #[.slice kA kn kc] 32)) 91 #[.func (.func fid) #[] caps] (w.heap.size + 1 + 1 + 1) (by simp)
    have HM := Lib.hid (hm.go (Gw2.bel hal))
    have HST := Lib.hid (hS.via hal)
    have HSL := Lib.hid (hs.via hal)
    have HKL := Lib.hid (hts.via hal)
    have HG := Lib.hid (Gw2.bel (bs := bs) (bo := bo) hal)
    have hbs : bs < w.heap.size := hS.s.lt
    have hbo : bo < w.heap.size := hS.o.lt
    have hne := hm.ne
    have HE := hthen.1
    have HTH := Lib.hid (hthen.go (Gw2.bel hal))
    have HB1 := Lib.hid b1
    have HB2 := Lib.hid b2
    have HB3 := Lib.hid b3
    have HB4 := Lib.hid b4
    have HPP := Lib.hid hP
    have HFR := hfr
    clear hal b1 b2 b3 b4 hm hS hs hts hthen hP
    rw [hfr.out]
    go_enter Tryd.func41, Tryd.ntmps41
    go_upto_region 1 with fail
    generalize (((w.alloc (.cells #[.int .i64 (rn : Int)] 3)).alloc (.cells #[.slice sA sn sc] 75)).alloc (.cells #[.slice kA kn kc] 32)).alloc (.cells #[.func (.func fid) #[] caps] 91) = w1 at *
    obtain ⟨n1, hn1⟩ : ∃ b, b = w.heap.size := ⟨_, rfl⟩
    obtain ⟨n2, hn2⟩ : ∃ b, b = w.heap.size + 1 := ⟨_, rfl⟩
    obtain ⟨n3, hn3⟩ : ∃ b, b = w.heap.size + 1 + 1 := ⟨_, rfl⟩
    obtain ⟨n4, hn4⟩ : ∃ b, b = w.heap.size + 1 + 1 + 1 := ⟨_, rfl⟩
    rw [← hn4] at HB4 ⊢
    rw [← hn3] at HB3 ⊢
    rw [← hn2] at HB2 ⊢
    rw [← hn1] at HB1 ⊢
    have hnn : n1 = w.heap.size ∧ n1 < n2 ∧ n2 < n3 ∧ n3 < n4 := by omega
    have HNN := Lib.hid hnn
    clear hn1 hn2 hn3 hn4 hnn
    have BP := HM.out.pb
    have BS := HST.out.s
    by_cases hneg : s < 0
    · have hd : decide (s < 0) = true := decide_eq_true hneg
      have HNEG := Lib.hid hneg
      clear hneg
      have cBP := BP.cell
      have fBP := BP.frozen
      have lBP := BP.lt
      have cBS := BS.cell
      have fBS := BS.frozen
      have lBS := BS.lt
      go_wp2_with fail
      go_ret
      exact ⟨false, s, ov, rfl, HST.out, HG.out, hs0, Int.le_refl _, (fun h => by cases h), fun _ h => absurd HNEG.out (by omega)⟩
    have hd : decide (s < 0) = false := decide_eq_false hneg
    have BR := HB2.out
    have cBP := BP.cell
    have fBP := BP.frozen
    have lBP := BP.lt
    have cBS := BS.cell
    have fBS := BS.frozen
    have lBS := BS.lt
    have cBR := BR.cell
    have fBR := BR.frozen
    have lBR := BR.lt
    go_upto_region 5 with fail
    clear cBP fBP lBP cBS fBS lBS cBR fBR lBR
    clear BP BS BR hd
    have hdr := (Below.refl w1.heap.size w1).drew
    replace HM := Lib.hid (HM.out.go (Gw2.bel hdr))
    replace HST := Lib.hid (HST.out.via hdr)
    replace HSL := Lib.hid (HSL.out.via hdr)
    replace HKL := Lib.hid (HKL.out.via hdr)
    replace HG := Lib.hid (HG.out.via hdr)
    replace HTH := Lib.hid (HTH.out.go (Gw2.bel hdr))
    replace HB1 := Lib.hid (HB1.out.via hdr)
    replace HB2 := Lib.hid (HB2.out.via hdr)
    replace HB3 := Lib.hid (HB3.out.via hdr)
    replace HB4 := Lib.hid (HB4.out.via hdr)
    clear hdr
    have hnb : okB bs bo n1 ∧ okB bs bo n2 ∧ okB bs bo n3 ∧ okB bs bo n4 := by
      have := HNN.out
      exact ⟨⟨by omega, by omega⟩, ⟨by omega, by omega⟩, ⟨by omega, by omega⟩, ⟨by omega, by omega⟩⟩
    have HMID := Lib.hid (mid_c ft fr bs bo bp bw bg bt br her g W Ag ng cg wA wc d y l HIH.out w1.drew rn n1 n2 n3 n4 sA sn sc kA kn kc ts fid caps F P (fun z hz => HOK.out z (List.mem_cons_of_mem _ hz)) HSL.out HKL.out hkn HM.out HTH.out HB1.out HB2.out HB3.out HB4.out hnb)
    have hcall := HTRY.out w1.drew y k L _ _ _ _ s ov (HOK.out y (List.mem_cons_self ..)) hk HLL.out HM.out HST.out (by omega) hs1 HMID.out (fun p hp => by
      obtain ⟨Q, h1, h2⟩ := HCO.out p hp
      exact ⟨Q, h1, fun q hq => HPP.out _ (h2 q hq)⟩)
    obtain ⟨b2, o2, ⟨yb, yn⟩, y', hsA, hob, -, hy, hyr, hyc⟩ := HSL.out.at_ (i := 0) (by have := HSN.out; omega)
    obtain rfl : y = y' := by simpa using hy
    obtain rfl : (yb, yn) = y := hyr
    have d0 := hyc 0 _ rfl
    have d1 := hyc 1 _ rfl
    simp only [SyE, Nat.zero_mul, Nat.add_zero] at d0 d1
    subst hsA
    have j1 : (0 : Int) < (sn : Int) := by have := HSN.out; omega
    have j2 : 0 < sn := by have := HSN.out; omega
    have hHeld : (∀ x, w1.drew.cell? ⟨bt, x, none⟩ = #[.func (.func ft) #[] #[.pointer (some ⟨bp, 0, none⟩), .pointer (some ⟨bw, 0, none⟩), .pointer (some ⟨bg, 0, none⟩), .pointer (some ⟨br, 0, none⟩)]][x]?) ∧ (∀ x, w1.drew.cell? ⟨n2, x, none⟩ = #[.slice (some ⟨b2, o2, none⟩) sn sc][x]?) ∧ w1.drew.cell? ⟨b2, o2, none⟩ = some (.bool yb) ∧ w1.drew.cell? ⟨b2, o2 + 1, none⟩ = some (.int .i64 (yn : Int)) := ⟨HM.out.tb.cell, HB2.out.cell, d0, d1⟩
    have HHE := Lib.hid hHeld
    have HNB := Lib.hid hnb
    clear HTRY HPP HMID HCO HLL HOK HIH hyc hy HTH d0 d1 hnb
    refine wp_region_noPanic ?_
    refine wp_region_held_drew (S := fun w' => (∀ x, w'.cell? ⟨bt, x, none⟩ = #[.func (.func ft) #[] #[.pointer (some ⟨bp, 0, none⟩), .pointer (some ⟨bw, 0, none⟩), .pointer (some ⟨bg, 0, none⟩), .pointer (some ⟨br, 0, none⟩)]][x]?) ∧ (∀ x, w'.cell? ⟨n2, x, none⟩ = #[.slice (some ⟨b2, o2, none⟩) sn sc][x]?) ∧ w'.cell? ⟨b2, o2, none⟩ = some (.bool yb) ∧ w'.cell? ⟨b2, o2 + 1, none⟩ = some (.int .i64 (yn : Int))) (by kernel_rfl) hHeld (fun hHeld => ?_)
    refine wpAnyH_takeD (i := 0) (d := some 27) (v := ?_) rfl (by kernel_rfl) (by kernel_rfl) (by kernel_rfl) rfl (fun _ _ _ h => h) (Or.inl ⟨by rfl, ?_⟩) (by assumption) ?_
    rotate_left
    · intro w hSw; (try dsimp only at hSw); go_simp; try with_reducible rfl
    simp only [Act.put, List.setIfInBounds_toArray, List.set_cons_zero, List.set_cons_succ]
    refine wpAnyH_takeD (i := 1) (d := some 28) (v := ?_) rfl (by kernel_rfl) (by kernel_rfl) (by kernel_rfl) rfl (fun _ _ _ h => h) (Or.inl ⟨by rfl, ?_⟩) (by assumption) ?_
    rotate_left
    · intro w hSw; (try dsimp only at hSw); go_simp; try with_reducible rfl
    simp only [Act.put, List.setIfInBounds_toArray, List.set_cons_zero, List.set_cons_succ]
    refine wpAnyH_takeD (i := 2) (d := some 29) (v := ?_) rfl (by kernel_rfl) (by kernel_rfl) (by kernel_rfl) rfl (fun _ _ _ h => h) (Or.inl ⟨by rfl, ?_⟩) (by assumption) ?_
    rotate_left
    · intro w hSw; (try dsimp only at hSw); go_simp; try with_reducible rfl
    simp only [Act.put, List.setIfInBounds_toArray, List.set_cons_zero, List.set_cons_succ]
    refine wpAnyH_takeD (i := 3) (d := some 30) (v := ?_) rfl (by kernel_rfl) (by kernel_rfl) (by kernel_rfl) rfl (fun _ _ _ h => h) (Or.inl ⟨by rfl, ?_⟩) (by assumption) ?_
    rotate_left
    · intro w hSw; (try dsimp only at hSw); go_simp; try with_reducible rfl
    simp only [Act.put, List.setIfInBounds_toArray, List.set_cons_zero, List.set_cons_succ]
    refine wpAnyH_takeD (i := 4) (d := some 31) (v := ?_) rfl (by kernel_rfl) (by kernel_rfl) (by kernel_rfl) rfl (fun _ _ _ h => h) (Or.inl ⟨by rfl, ?_⟩) (by assumption) ?_
    rotate_left
    · intro w hSw; (try dsimp only at hSw); go_simp; try with_reducible rfl
    simp only [Act.put, List.setIfInBounds_toArray, List.set_cons_zero, List.set_cons_succ]
    refine wpAnyH_takeD (i := 5) (d := some 32) (v := ?_) rfl (by kernel_rfl) (by kernel_rfl) (by kernel_rfl) rfl (fun _ _ _ h => h) (Or.inl ⟨by rfl, ?_⟩) (by assumption) ?_
    rotate_left
    · intro w hSw; (try dsimp only at hSw); go_simp; try with_reducible rfl
    simp only [Act.put, List.setIfInBounds_toArray, List.set_cons_zero, List.set_cons_succ]
    refine wpAnyH_ready (rs := [6]) (by kernel_rfl) (by simp) ?_
    refine AllReadyH.cons rfl (fun K hK => ?_) AllReadyH.nil
    go_simp
    refine hcall.mono ?_
    rintro e w2 ⟨b, s2, ov2, rfl, hS2, hG2, h1, h2, h3, h4⟩
    have HG3 := Lib.hid (HG.out.trans hG2)
    have hHeld2 : (∀ x, w2.cell? ⟨bt, x, none⟩ = #[.func (.func ft) #[] #[.pointer (some ⟨bp, 0, none⟩), .pointer (some ⟨bw, 0, none⟩), .pointer (some ⟨bg, 0, none⟩), .pointer (some ⟨br, 0, none⟩)]][x]?) ∧ (∀ x, w2.cell? ⟨n2, x, none⟩ = #[.slice (some ⟨b2, o2, none⟩) sn sc][x]?) ∧ w2.cell? ⟨b2, o2, none⟩ = some (.bool yb) ∧ w2.cell? ⟨b2, o2 + 1, none⟩ = some (.int .i64 (yn : Int)) :=
      ⟨(HM.out.go hG2).tb.cell, (hG2.blk HB2.out HNB.out.2.1.1 HNB.out.2.1.2).cell, hG2.agr.cell hob HHE.out.2.2.1, hG2.agr.cell hob HHE.out.2.2.2⟩
    clear hG2
    dsimp only
    go_wp2_with fail
    refine hK.out _ _ hHeld2 (fun hHeld3 => ?_)
    clear hK K
    try simp only [Act.put, List.setIfInBounds_toArray, List.set_cons_zero, List.set_cons_succ]
    refine wpAnyH_ready (rs := [7]) (by kernel_rfl) (by simp) ?_
    refine AllReadyH.cons rfl (fun K hK => ?_) AllReadyH.nil
    go_simp
    refine hK.out _ _ hHeld3 (fun hHeld4 => ?_)
    clear hK K
    try simp only [Act.put, List.setIfInBounds_toArray, List.set_cons_zero, List.set_cons_succ]
    refine wpAnyH_done (by kernel_rfl) ?_ _
    refine NoPanic.normal ?_
    clear hHeld hHeld2 hHeld3 hHeld4
    go_wp2_with fail
    go_ret
    exact ⟨b, s2, ov2, rfl, hS2, HG3.out, h1, h2, h3, h4⟩
end Go.Proofs.YtfmnmgnhanogmaaDoor

