/- Texts SH, VD, VE, PR, laid together. -/
import Derived.Test.YtbfcnfgkccgbiaaGreatDoorQ24
import Derived.Test.YtbfcnfgkccgbiaaGreatDoorQ9
import Derived.Test.YtbfcnfgkccgbiaaGreatDoorQ8
import Derived.Laws.StructEq



namespace Go.Proofs.YtbfcnfgkccgbiaaGreatDoor
open Go.RowKit
open Go.Sort (grow alloc_eq_grow grow_grow grow_empty SWO)

set_option maxRecDepth 100000 in
theorem sortSpan_c (ok : Nat → Prop) (w : World) (base n : Nat) (A : Option Addr) (c : Nat) (l : List Ky) (hn : n ≤ 1000000) (hl : ∀ x ∈ l, x.1.2 ≤ 1000000) (hown : Own KyE 68 ok w base (.slice A n c) n l) :
    Calls Tryz.prog 44 #[.slice A n c, .func (.func 45) #[] #[]] w (SortPX KyE 68 ok base n A c l befCmp w) := by
  refine sort_x KyE laysSpan Tryz.isAgg68 Tryz.sizeOf68 45 #[] (enters_c (c := _) (fn := Tryz.f45) rfl (by kernel_rfl) rfl) befCmp (fun p => swoKey befK befCmp (fun _ _ => rfl) p) (antiKey befK befCmp fun _ _ => rfl) 68 ok (fun x => x.1.2 ≤ 1000000) w base n A c l hn hl hown ?_
  rintro g - W - - ⟨⟨r, x⟩, h, hx⟩ ⟨⟨r', y⟩, h', hy⟩
  obtain rfl : r = x := h
  obtain rfl : r' = y := h'
  exact before_c r r' hx hy W
/-! ### the index -/
theorem span_eql (a b : Ky) (w : World) : (binOp .eql 68 (.agg (kyC a)) (.agg (kyC b))).run Tryz.prog w = .ok (.bool (decide (a = b))) w := by
  obtain ⟨⟨ab, an⟩, ai, aj⟩ := a
  obtain ⟨⟨bb, bn⟩, bi, bj⟩ := b
  simp [kyC, go_sem]
  by_cases h1 : ab = bb <;> by_cases h2 : an = bn <;> by_cases h3 : ai = bi <;> by_cases h4 : aj = bj <;> simp [h1, h2, h3, h4] <;> (intros; omega)
def IdxP (w : World) (i : Nat) (e : Ending) (w' : World) : Prop := e = .returned (.int .i64 (i : Int)) ∧ Below w.heap.size w w'
set_option maxRecDepth 100000 in
set_option maxHeartbeats 4000000 in
theorem index_c (ok : Nat → Prop) (A : Option Addr) (n c : Nat) (l : List Ky) (k : Ky) (w : World) (h : Sl KyE ok w A n c l) (hk : k ∈ l) (hn : n ≤ 1000000) :
    Calls Tryz.prog 47 #[.slice A n c, kyVal k] w (IdxP w (idxK l k)) := by
  have hlen := h.len
  have hix := idxK_lt hk
  have HAT := Lib.hid (idxK_get hk)
  have HBF := Lib.hid (show ∀ m x, m < idxK l k → l[m]? = some x → x ≠ k from fun m x hm hx e => by
    subst e
    have h0 := (List.getElem?_eq_some_iff.1 hx)
    have h1 := List.not_of_lt_findIdx (p := (· == x)) (xs := l) (i := m) hm
    simp [h0.2] at h1)
  obtain ⟨ix, hixe⟩ : ∃ ix, ix = idxK l k := ⟨_, rfl⟩
  rw [← hixe] at HAT HBF hix ⊢
  clear hixe
  have HS := Lib.hid h
  obtain ⟨⟨kb, kN⟩, ki, kj⟩ := k
  have B0 := Blk.new w 68 #[.bool kb, .int .i64 (kN : Int), .int .i64 (ki : Int), .int .i64 (kj : Int)]
  have hb0 := (Below.refl w.heap.size w).al (.cells #[.bool kb, .int .i64 (kN : Int), .int .i64 (ki : Int), .int .i64 (kj : Int)] 68)
  simp only [kyVal]
  clear h hk
  go_enter Tryz.func47, Tryz.ntmps47
  go_wp2_with fail
  generalize w.alloc (.cells #[.bool kb, .int .i64 (kN : Int), .int .i64 (ki : Int), .int .i64 (kj : Int)] 68) = W at *
  go_loopw [8] (fun q wr => ∃ i : Nat, q = .int .i64 i ∧ i ≤ ix ∧ Hid (Below W.heap.size W wr)) (fun q _ => n - (intOf q).toNat)
  case atStart => exact ⟨0, rfl, Nat.zero_le _, Lib.hid (Below.refl _ _)⟩
  case round =>
    obtain ⟨i, rfl, hi, hB⟩ := hrel
    have hin : i < n := by omega
    obtain ⟨b1, o1, k0, k1, hA, -, hb1, hk, hkk, hcl⟩ := HS.out.at_ hin
    obtain rfl : k0 = k1 := hkk
    subst hA
    obtain ⟨⟨qb, qN⟩, qi, qj⟩ := k0
    have i0 : (0 : Int) ≤ (i : Int) := by omega
    have i1 : (i : Int) < (n : Int) := by omega
    have hbw := hb0.via hB.out
    have BK := B0.via hB.out
    have d1 := (hbw.cell (p := ⟨b1, o1 + i * KyE.k + 0, none⟩) hb1).trans (hcl 0 _ rfl)
    have d2 := (hbw.cell (p := ⟨b1, o1 + i * KyE.k + 1, none⟩) hb1).trans (hcl 1 _ rfl)
    have d3 := (hbw.cell (p := ⟨b1, o1 + i * KyE.k + 2, none⟩) hb1).trans (hcl 2 _ rfl)
    have d4 := (hbw.cell (p := ⟨b1, o1 + i * KyE.k + 3, none⟩) hb1).trans (hcl 3 _ rfl)
    simp only [KyE, Nat.add_zero] at d1 d2 d3 d4
    have HBW := Lib.hid hbw
    have HK := Lib.hid hk
    clear hcl hbw hk hb0 B0
    have cBK := BK.cell
    have fBK := BK.frozen
    have lBK := BK.lt
    go_upto_region 4 with fail
    by_cases hii : i = ix
    · subst hii
      have hkq : ((qb, qN), qi, qj) = ((kb, kN), ki, kj) := Option.some.inj (HK.out.symm.trans HAT.out)
      have he := fun wx => span_eql ((kb, kN), ki, kj) ((qb, qN), qi, qj) wx
      simp only [hkq, kyC, decide_true] at he
      have h1 := congrArg (fun x : Ky => x.1.1) hkq
      have h2 := congrArg (fun x : Ky => x.1.2) hkq
      have h3 := congrArg (fun x : Ky => x.2.1) hkq
      have h4 := congrArg (fun x : Ky => x.2.2) hkq
      simp only at h1 h2 h3 h4
      subst h1 h2 h3 h4
      clear hkq
      go_quiet (fail)
      clear cBK fBK lBK
      clear BK d1 d2 d3 d4 he
      go_wp2_with fail
      go_ret
      exact ⟨rfl, HBW.out.trans ((below_drewN (Below.refl _ _) nq).mono HBW.out.size)⟩
    · have hne : ((kb, kN), ki, kj) ≠ ((qb, qN), qi, qj) := fun e => HBF.out i _ (by omega) HK.out e.symm
      have he := fun wx => span_eql ((kb, kN), ki, kj) ((qb, qN), qi, qj) wx
      simp only [hne, kyC, decide_false] at he
      clear hne
      go_quiet (fail)
      clear cBK fBK lBK
      clear BK d1 d2 d3 d4 he
      have hb2 := Lib.hid (hB.out.trans ((below_drewN (Below.refl wr.heap.size wr) nq).mono hB.out.size))
      go_wp2_with fail
      exact ⟨⟨i + 1, by go_num, by omega, hb2⟩, by simp [intOf]; omega⟩
set_option maxRecDepth 100000 in
theorem at_c (ok : Nat → Prop) (ba : Nat) (A : Option Addr) (n c : Nat) (l : List Ky) (k : Ky) (w : World) (hb : Blk w ba 105 #[.slice A n c]) (h : Sl KyE ok w A n c l) (hk : k ∈ l) (hn : n ≤ 1000000) :
    Calls Tryz.prog 46 #[kyVal k, .pointer (some ⟨ba, 0, none⟩)] w (IdxP w (idxK l k)) := by
  have hal := (Below.refl w.heap.size w).al (.cells (kyC k) 68)
  have JI := Lib.hid (index_c ok A n c l k (w.alloc (.cells (kyC k) 68)) (h.via hal) hk hn)
  have B0 := Blk.new w 68 (kyC k)
  have B1 := hb.via hal
  have HB := Lib.hid hal
  clear h hk hal hb
  obtain ⟨ix, hix⟩ : ∃ ix, ix = idxK l k := ⟨_, rfl⟩
  rw [← hix] at JI ⊢
  clear hix
  obtain ⟨⟨kb, kN⟩, ki, kj⟩ := k
  simp only [kyVal, kyC] at *
  go_enter Tryz.func46, Tryz.ntmps46
  have cB0 := B0.cell
  have fB0 := B0.frozen
  have lB0 := B0.lt
  have cB1 := B1.cell
  have fB1 := B1.frozen
  have lB1 := B1.lt
  go_wp2_with fail
  refine JI.out.mono ?_
  rintro e w1 ⟨rfl, hb1⟩
  dsimp only
  have HB1 := Lib.hid (HB.out.via hb1)
  clear JI B0 B1 hb1 HB
  go_wp2_with fail
  go_ret
  exact ⟨rfl, HB1.out⟩
def RootP (w : World) (g : Gr) (n : Nat) (e : Ending) (w' : World) : Prop := e = .returned (kyVal ((false, g.start), 0, n)) ∧ Below w.heap.size w w'
set_option maxRecDepth 100000 in
set_option maxHeartbeats 2000000 in
theorem root_c (g : Gr) (Ag : Option Addr) (ng cg : Nat) (A : Option Addr) (n c bs bm : Nat) (S : Ky → Bool) (w : World) (hR : SpR w g Ag ng cg A n c bs bm S) :
    Calls Tryz.prog 42 #[.pointer (some ⟨bs, 0, none⟩)] w (RootP w g n) := by
  have BS := hR.blk.al (.cells #[.bool false, .int .i64 0, .int .i64 0, .int .i64 0] 68)
  have B2 := Blk.new w 68 #[.bool false, .int .i64 0, .int .i64 0, .int .i64 0]
  have HB := Lib.hid ((Below.refl w.heap.size w).al (.cells #[.bool false, .int .i64 0, .int .i64 0, .int .i64 0] 68))
  clear hR
  go_enter Tryz.func42, Tryz.ntmps42
  go_upto_region 1 with fail
  generalize w.alloc (.cells #[.bool false, .int .i64 0, .int .i64 0, .int .i64 0] 68) = W at *
  have cBS := BS.cell
  have fBS := BS.frozen
  have lBS := BS.lt
  have cB2 := B2.cell
  have fB2 := B2.frozen
  have lB2 := B2.lt
  go_still_tail 12, (by kernel_rfl)
  clear cBS fBS lBS cB2 fB2 lB2
  have HDW := Lib.hid (HB.out.via (Below.refl W.heap.size W).drew)
  have B3 := B2.via (Below.refl W.heap.size W).drew
  change wpList _ _ _ _ _ W.drew
  generalize W.drew = W2 at *
  clear BS B2 HB
  have cB3 := B3.cell
  have fB3 := B3.frozen
  have lB3 := B3.lt
  go_wp2_with fail
  have B4 := (((B3.set_ 0 (.bool false)).set_ 1 (.int .i64 (g.start : Int))).set_ 2 (.int .i64 0)).set_ 3 (.int .i64 (n : Int))
  simp only [List.setIfInBounds_toArray, List.set_cons_zero, List.set_cons_succ] at B4
  have c4 := B4.cell
  refine bodyPost_ret (v := kyVal ((false, g.start), 0, n)) (by simp [results, Tryz.results42, go_sem, c4, kyVal]) rfl ⟨rfl, ?_⟩
  exact (((HDW.out.setCell (p := ⟨w.heap.size, 0, none⟩) (Nat.le_refl _) _).setCell (p := ⟨w.heap.size, 1, none⟩) (Nat.le_refl _) _).setCell (p := ⟨w.heap.size, 2, none⟩) (Nat.le_refl _) _).setCell (p := ⟨w.heap.size, 3, none⟩) (Nat.le_refl _) _
end Go.Proofs.YtbfcnfgkccgbiaaGreatDoor




namespace Go.Proofs.YtbfcnfgkccgbiaaGreatDoor
open Go.RowKit
open Go.Sort (grow alloc_eq_grow grow_grow grow_empty SWO)
open Go.Proofs (ltOf)

def itK (a : It3) : List Int := [(a.r : Int), (a.d : Int), (a.f : Int)]
def itCmp (a b : It3) : Int := cmpL (itK a) (itK b)
theorem itCmp_or (a b : It3) : orL [cmpI (a.r : Int) (b.r : Int), cmpI (a.d : Int) (b.d : Int), cmpI (a.f : Int) (b.f : Int)] = itCmp a b := by
  obtain ⟨ar, ad, af⟩ := a
  obtain ⟨br, bd, bf⟩ := b
  simp only [orL, itCmp, itK, cmpL]
  repeat' split
  all_goals first | rfl | omega
theorem itCmp_zero {a b : It3} (h : itCmp a b = 0) : a = b := by
  have := cmpL_zero.1 h
  obtain ⟨ar, ad, af⟩ := a
  obtain ⟨br, bd, bf⟩ := b
  simp only [itK, List.cons.injEq] at this
  simp only [It3.mk.injEq]
  omega
/-- a sorted list of the same items is the same list -/
theorem it_sorted {l m : List It3} (h : l.Perm m) (hl : l.Pairwise fun a b => itCmp a b ≤ 0) (hm : m.Pairwise fun a b => itCmp a b ≤ 0) : l = m := by
  refine List.Perm.eq_of_pairwise (le := fun a b => itCmp a b ≤ 0) (fun a b _ _ h1 h2 => ?_) hl hm h
  have := cmpL_anti (itK a) (itK b)
  have h3 : itCmp a b = cmpL (itK a) (itK b) := rfl
  have h4 : itCmp b a = cmpL (itK b) (itK a) := rfl
  exact itCmp_zero (by omega)
set_option maxRecDepth 100000 in
set_option maxHeartbeats 4000000 in
theorem ecmp_c (a b : It3) (w : World) : Calls Tryz.prog 29 #[itVal a, itVal b] w (GrwI w (itCmp a b)) := by
  obtain ⟨ar, ad, af⟩ := a
  obtain ⟨br, bd, bf⟩ := b
  have B0 := (Blk.new w 47 #[.int .i64 (ar : Int), .int .i64 (ad : Int), .int .i64 (af : Int)]).al (.cells #[.int .i64 (br : Int), .int .i64 (bd : Int), .int .i64 (bf : Int)] 47)
  have B1 := Blk.newAt (w.alloc (.cells #[.int .i64 (ar : Int), .int .i64 (ad : Int), .int .i64 (af : Int)] 47)) 47 #[.int .i64 (br : Int), .int .i64 (bd : Int), .int .i64 (bf : Int)] (w.heap.size + 1) (by simp)
  have HG := Lib.hid (((Grw.refl w).al (.cells #[.int .i64 (ar : Int), .int .i64 (ad : Int), .int .i64 (af : Int)] 47)).al (.cells #[.int .i64 (br : Int), .int .i64 (bd : Int), .int .i64 (bf : Int)] 47))
  have HV := Lib.hid (itCmp_or ⟨ar, ad, af⟩ ⟨br, bd, bf⟩)
  simp only [itVal] at *
  go_enter Tryz.func29, Tryz.ntmps29
  go_upto_region 1 with fail
  generalize (w.alloc (.cells #[.int .i64 (ar : Int), .int .i64 (ad : Int), .int .i64 (af : Int)] 47)).alloc (.cells #[.int .i64 (br : Int), .int .i64 (bd : Int), .int .i64 (bf : Int)] 47) = W at *
  have SOF := Lib.hid (show ∀ w', Grw W w' → ((∀ i, w'.cell? ⟨w.heap.size, i, none⟩ = #[.int .i64 (ar : Int), .int .i64 (ad : Int), .int .i64 (af : Int)][i]?) ∧ (∀ i, w'.cell? ⟨w.heap.size + 1, i, none⟩ = #[.int .i64 (br : Int), .int .i64 (bd : Int), .int .i64 (bf : Int)][i]?) ∧ Grw W w') from fun w' hb => ⟨(B0.via hb.below).cell, (B1.via hb.below).cell, hb⟩)
  have hb0 := (Grw.refl W).dr
  clear B0 B1
  go_region_held3 (fun w' => (∀ i, w'.cell? ⟨w.heap.size, i, none⟩ = #[.int .i64 (ar : Int), .int .i64 (ad : Int), .int .i64 (af : Int)][i]?) ∧ (∀ i, w'.cell? ⟨w.heap.size + 1, i, none⟩ = #[.int .i64 (br : Int), .int .i64 (bd : Int), .int .i64 (bf : Int)][i]?) ∧ Grw W w') (exact SOF.out _ (by first | assumption | exact Grw.al (by assumption) _)) (first
    | (go_at_call 31; (with_reducible refine (cmp_c _ _ _).mono ?_); rintro ee wk ⟨rfl, rfl⟩)
    | (go_at_call 30; (with_reducible refine (or_c (some ⟨_, 0, none⟩) 3 3 [_, _, _] _ (Ints.threeB _ _ _ _ _).dr (by omega)).mono ?_); rintro ee wk ⟨rfl, rfl⟩))
  go_wp2_with fail
  go_ret
  exact ⟨by rw [← HV.out]; rfl, HG.out.trans ((Grw.refl W).al _).dr⟩
set_option maxRecDepth 100000 in
set_option maxHeartbeats 4000000 in
theorem rcmp_c (a b : It3) (w : World) : Calls Tryz.prog 39 #[itVal a, itVal b] w (GrwI w (itCmp a b)) := by
  obtain ⟨ar, ad, af⟩ := a
  obtain ⟨br, bd, bf⟩ := b
  have B0 := (Blk.new w 48 #[.int .i64 (ar : Int), .int .i64 (ad : Int), .int .i64 (af : Int)]).al (.cells #[.int .i64 (br : Int), .int .i64 (bd : Int), .int .i64 (bf : Int)] 48)
  have B1 := Blk.newAt (w.alloc (.cells #[.int .i64 (ar : Int), .int .i64 (ad : Int), .int .i64 (af : Int)] 48)) 48 #[.int .i64 (br : Int), .int .i64 (bd : Int), .int .i64 (bf : Int)] (w.heap.size + 1) (by simp)
  have HG := Lib.hid (((Grw.refl w).al (.cells #[.int .i64 (ar : Int), .int .i64 (ad : Int), .int .i64 (af : Int)] 48)).al (.cells #[.int .i64 (br : Int), .int .i64 (bd : Int), .int .i64 (bf : Int)] 48))
  simp only [itVal] at *
  go_enter Tryz.func39, Tryz.ntmps39
  go_upto_region 1 with fail
  generalize (w.alloc (.cells #[.int .i64 (ar : Int), .int .i64 (ad : Int), .int .i64 (af : Int)] 48)).alloc (.cells #[.int .i64 (br : Int), .int .i64 (bd : Int), .int .i64 (bf : Int)] 48) = W at *
  have I1 := Lib.hid ((Ints.threeB W (ar : Int) (ad : Int) (af : Int) 3).al (.cells #[.int .i64 (br : Int), .int .i64 (bd : Int), .int .i64 (bf : Int)] 3))
  have I2 := Lib.hid (Ints.threeA (W.alloc (.cells #[.int .i64 (ar : Int), .int .i64 (ad : Int), .int .i64 (af : Int)] 3)) (W.heap.size + 1) (br : Int) (bd : Int) (bf : Int) 3 (by simp))
  have HGG := Lib.hid (((Grw.refl W).al (.cells #[.int .i64 (ar : Int), .int .i64 (ad : Int), .int .i64 (af : Int)] 3)).al (.cells #[.int .i64 (br : Int), .int .i64 (bd : Int), .int .i64 (bf : Int)] 3))
  have cB0 := B0.cell
  have fB0 := B0.frozen
  have lB0 := B0.lt
  have cB1 := B1.cell
  have fB1 := B1.frozen
  have lB1 := B1.lt
  go_wp2_with (go_at_call 40; (with_reducible refine (cmpL_c (some ⟨_, 0, none⟩) (some ⟨_, 0, none⟩) 3 3 3 3 [(ar : Int), (ad : Int), (af : Int)] [(br : Int), (bd : Int), (bf : Int)] _ I1.out I2.out (by omega)).mono ?_); rintro ee wk ⟨rfl, rfl⟩)
  go_ret
  exact ⟨rfl, HG.out.trans HGG.out⟩
set_option maxRecDepth 100000 in
theorem sortEI_c (ok : Nat → Prop) (w : World) (base n : Nat) (A : Option Addr) (c : Nat) (l : List It3) (hn : n ≤ 1000000) (hown : Own It3E 47 ok w base (.slice A n c) n l) :
    Calls Tryz.prog 28 #[.slice A n c, .func (.func 29) #[] #[]] w (SortPX It3E 47 ok base n A c l itCmp w) := by
  refine sort_x It3E laysEIt Tryz.isAgg47 Tryz.sizeOf47 29 #[] (enters_c (c := _) (fn := Tryz.f29) rfl (by kernel_rfl) rfl) itCmp (fun p => swoKey itK itCmp (fun _ _ => rfl) p) (antiKey itK itCmp fun _ _ => rfl) 47 ok (fun _ => True) w base n A c l hn (fun _ _ => trivial) hown ?_
  rintro g - W - - ⟨⟨r, x⟩, h, -⟩ ⟨⟨r', y⟩, h', -⟩
  obtain rfl : r = x := h
  obtain rfl : r' = y := h'
  exact ecmp_c r r' W
set_option maxRecDepth 100000 in
theorem sortRI_c (ok : Nat → Prop) (w : World) (base n : Nat) (A : Option Addr) (c : Nat) (l : List It3) (hn : n ≤ 1000000) (hown : Own It3E 48 ok w base (.slice A n c) n l) :
    Calls Tryz.prog 38 #[.slice A n c, .func (.func 39) #[] #[]] w (SortPX It3E 48 ok base n A c l itCmp w) := by
  refine sort_x It3E laysRIt Tryz.isAgg48 Tryz.sizeOf48 39 #[] (enters_c (c := _) (fn := Tryz.f39) rfl (by kernel_rfl) rfl) itCmp (fun p => swoKey itK itCmp (fun _ _ => rfl) p) (antiKey itK itCmp fun _ _ => rfl) 48 ok (fun _ => True) w base n A c l hn (fun _ _ => trivial) hown ?_
  rintro g - W - - ⟨⟨r, x⟩, h, -⟩ ⟨⟨r', y⟩, h', -⟩
  obtain rfl : r = x := h
  obtain rfl : r' = y := h'
  exact rcmp_c r r' W
end Go.Proofs.YtbfcnfgkccgbiaaGreatDoor



namespace Go.Proofs.YtbfcnfgkccgbiaaGreatDoor
open Go.RowKit
open Go.MapKept

theorem nodup_sub_len {α : Type} : ∀ (l m : List α), l.Nodup → (∀ x ∈ l, x ∈ m) → l.length ≤ m.length := by
  intro l
  induction l with
  | nil => intro m _ _; simp
  | cons a l ih =>
    intro m hnd hs
    obtain ⟨p, q, rfl⟩ := List.append_of_mem (hs a (List.mem_cons_self ..))
    have := ih (p ++ q) (List.nodup_cons.1 hnd).2 fun x hx => by
      have h1 := hs x (List.mem_cons_of_mem _ hx)
      have h2 : x ≠ a := fun e => (List.nodup_cons.1 hnd).1 (e ▸ hx)
      simp only [List.mem_append, List.mem_cons] at h1 ⊢
      rcases h1 with h1 | h1 | h1
      · exact Or.inl h1
      · exact absurd h1 h2
      · exact Or.inr h1
    simp only [List.length_append, List.length_cons] at this ⊢; omega
theorem MapK.len3 {P : Program} {k t e : TypeId} {w : World} {b : Nat} {l : List It3} (h : MapK P k itVal w b (setF3 l)) (hn : l.Nodup) (ht : P.underlying t = some (.map k e)) (ty : TypeId) : (Builtin.len_ #[t] ty #[.map (some b)]).run P w = .ok (.int .i64 (l.length : Int)) w := by
  have hr := h.room3
  obtain ⟨es, clock, hb, F, hk, hf⟩ := h
  have h1 := hr es clock hb
  have h2 : l.length ≤ es.size := by
    have := nodup_sub_len (l.map itVal) (es.toList.map (·.key)) (by
      rw [List.nodup_iff_pairwise_ne, List.pairwise_map]
      rw [List.nodup_iff_pairwise_ne] at hn
      exact hn.imp fun {a b} hab e => hab (itVal_inj a b e)) fun v hv => by
      obtain ⟨x, hx, rfl⟩ := List.mem_map.1 hv
      obtain ⟨z, hz, hz1, -⟩ := (hf x (.bool true)).1 (by unfold setF3; rw [if_pos hx])
      exact List.mem_map.2 ⟨z, hz, hz1⟩
    simpa using this
  have h3 : es.size = l.length := by omega
  simp [Builtin.len_, run_underlying ht, MapKept.run_getObj_map hb, goInt, Result.andThen, h3]
/-! ### the maps, made one by one -/
structure MkI (w0 : World) (bi n k : Nat) (ms : Nat → Nat) (wr : World) : Prop where
  top : ∃ C : Array Value, Blk wr bi 94 C ∧ C.size = n + 1 ∧ ∀ j, j < k → C[j]? = some (.map (some (ms j)))
  map : ∀ j, j < k → MapK Tryz.prog 48 itVal wr (ms j) (fun _ => none)
  inj : ∀ j j', j < k → j' < k → ms j = ms j' → j = j'
  lo : ∀ j, j < k → bi < ms j
  bel : Below bi w0 wr
theorem MkI.next {w0 wr : World} {bi n k : Nat} {ms : Nat → Nat} (h : MkI w0 bi n k ms wr) (hk : k ≤ n) : MkI w0 bi n (k + 1) (fun j => if j = k then wr.heap.size else ms j) ((wr.alloc (.map #[] 0)).setCell ⟨bi, k, none⟩ (.map (some wr.heap.size))) := by
  obtain ⟨⟨C, c1, c2, c3⟩, h2, h3, h4, h5⟩ := h
  have hbi := c1.lt
  refine ⟨⟨_, (c1.al (.map #[] 0)).set_ k (.map (some wr.heap.size)), by simp [c2], fun j hj => ?_⟩, fun j hj => ?_, fun j j' hj hj' e => ?_, fun j hj => ?_, (h5.alloc (Nat.le_of_lt hbi) _).setCell (p := ⟨bi, k, none⟩) (Nat.le_refl _) _⟩
  · rw [Array.getElem?_setIfInBounds]
    by_cases e : j = k
    · subst e; rw [if_pos rfl, if_pos (by omega), if_pos rfl]
    · rw [if_neg (Ne.symm e), if_neg e]; exact c3 j (by omega)
  · by_cases e : j = k
    · subst e; rw [if_pos rfl]
      exact (MapK.made wr Tryz.prog 48 itVal).far (p := ⟨bi, j, none⟩) (by show wr.heap.size ≠ bi; omega) _
    · rw [if_neg e]
      have := h4 j (by omega)
      exact ((h2 j (by omega)).al _).far (p := ⟨bi, k, none⟩) (by show ms j ≠ bi; omega) _
  · have hl : ∀ i, i < k → ms i < wr.heap.size := fun i hi => (h2 i hi).lt
    by_cases e1 : j = k <;> by_cases e2 : j' = k
    · omega
    · rw [if_pos e1, if_neg e2] at e; have := hl j' (by omega); omega
    · rw [if_neg e1, if_pos e2] at e; have := hl j (by omega); omega
    · rw [if_neg e1, if_neg e2] at e; exact h3 j j' (by omega) (by omega) e
  · by_cases e : j = k
    · subst e; rw [if_pos rfl]; exact hbi
    · rw [if_neg e]; exact h4 j (by omega)
theorem atI_rep (m j : Nat) : atI (List.replicate m ([] : List It3)) j = [] := by
  unfold atI
  rw [List.getD_eq_getElem?_getD, List.getElem?_replicate]
  split <;> rfl
theorem MkI.fin {w0 wr : World} {bi n : Nat} {ms : Nat → Nat} (h : MkI w0 bi n (n + 1) ms wr) : MsI wr bi n ms (List.replicate (n + 1) []) := by
  obtain ⟨⟨C, c1, c2, c3⟩, h2, h3, h4, h5⟩ := h
  refine ⟨fun j hj => by rw [c1.cell]; exact c3 j (by omega), fun j hj => ?_, fun j j' hj hj' => h3 j j' (by omega) (by omega), fun j hj e => by have := h4 j (by omega); omega, by simp⟩
  rw [atI_rep]
  exact (h2 j (by omega)).ext fun y => by unfold setF3; simp
theorem SndI.rep {R : List Ru} {s : Nat} {w : List Nat} (m : Nat) : SndI R s w (List.replicate m []) :=
  ⟨fun j => by rw [atI_rep]; exact List.nodup_nil, fun j x hx => by rw [atI_rep] at hx; cases hx⟩
theorem map2_info : (Tryz.prog.info? 94).map (fun i => (i.zero, i.size, i.bytes)) = some (some (.map none), 1, 8) := by kernel_rfl
theorem mk_maps2 (n : Nat) (hn : n ≤ 1000000) : ∀ w : World, (Instr.makeSlice 93 (.int .i64 ((n : Int) + 1)) (.int .i64 ((n : Int) + 1))).run Tryz.prog w = .ok (.slice (some ⟨w.heap.size, 0, none⟩) (n + 1) (n + 1)) (w.alloc (.cells (mkCells (.map none) (n + 1)) 94)) := by
  intro w
  obtain ⟨i, hi, hz, hs, hb⟩ := info_parts map2_info
  have := run_make (P := Tryz.prog) w 93 94 i _ Tryz.underlying93 hi hz .i64 .i64 ((n : Int) + 1) ((n : Int) + 1) (by omega) (by omega) (by rw [hb]; omega) (by omega)
  rw [show ((n : Int) + 1).toNat = n + 1 from by omega, hs, Nat.mul_one] at this
  exact this
theorem itr_info : (Tryz.prog.info? 44).map (fun i => (i.zero, i.size, i.bytes)) = some (some (.slice none 0 0), 1, 24) := by kernel_rfl
theorem mk_itrs (n : Nat) (hn : n ≤ 1000000) : ∀ w : World, (Instr.makeSlice 40 (.int .i64 ((n : Int) + 1)) (.int .i64 ((n : Int) + 1))).run Tryz.prog w = .ok (.slice (some ⟨w.heap.size, 0, none⟩) (n + 1) (n + 1)) (w.alloc (.cells (mkCells (.slice none 0 0) (n + 1)) 44)) := by
  intro w
  obtain ⟨i, hi, hz, hs, hb⟩ := info_parts itr_info
  have := run_make (P := Tryz.prog) w 40 44 i _ Tryz.underlying40 hi hz .i64 .i64 ((n : Int) + 1) ((n : Int) + 1) (by omega) (by omega) (by rw [hb]; omega) (by omega)
  rw [show ((n : Int) + 1).toNat = n + 1 from by omega, hs, Nat.mul_one] at this
  exact this
/-! ### what is handed back -/
def RwI : Elem (List It3) SlV where
  k := 1
  cells s := [.slice s.1 s.2.1 s.2.2]
  rel ok w r x := Sl It3E ok w r.1 r.2.1 r.2.2 x
  pos := by omega
  len _ := rfl
  one r u hu := by simp at hu; subst hu; rfl
  agr h k := h.agr k
  mono h k := h.mono k
/-- the sets, each in order -/
structure SrtI (R : List Ru) (s : Nat) (xw : List Nat) (n : Nat) (LL : List (List It3)) : Prop where
  len : LL.length = n + 1
  srt : ∀ (j : Nat) l, LL[j]? = some l → l.Pairwise fun a b => itCmp a b ≤ 0
  nd : ∀ (j : Nat) l, LL[j]? = some l → l.Nodup
  iff : ∀ (j : Nat) l, LL[j]? = some l → ∀ x, x ∈ l ↔ EIt R s xw j x
theorem SrtI.uniq {R : List Ru} {s : Nat} {xw : List Nat} {n : Nat} {L1 L2 : List (List It3)} (h1 : SrtI R s xw n L1) (h2 : SrtI R s xw n L2) : L1 = L2 := by
  refine List.ext_getElem (by rw [h1.len, h2.len]) fun j hj1 hj2 => ?_
  have e1 := List.getElem?_eq_getElem hj1
  have e2 := List.getElem?_eq_getElem hj2
  exact it_sorted ((List.perm_ext_iff_of_nodup (h1.nd j _ e1) (h2.nd j _ e2)).2 fun x => by rw [h1.iff j _ e1 x, h2.iff j _ e2 x]) (h1.srt j _ e1) (h2.srt j _ e2)
def SetsP (R : List Ru) (s : Nat) (xw : List Nat) (n : Nat) (w : World) (e : Ending) (w' : World) : Prop :=
  ∃ (A : Option Addr) (c : Nat) (LL : List (List It3)), e = .returned (.slice A (n + 1) c) ∧ Sl RwI (fun b => w.heap.size ≤ b) w' A (n + 1) c LL ∧ SrtI R s xw n LL ∧ Below w.heap.size w w'
end Go.Proofs.YtbfcnfgkccgbiaaGreatDoor



namespace Go.Proofs.YtbfcnfgkccgbiaaGreatDoor
open Go.RowKit

section
variable {w w' : World} {base bf : Nat} {c0 c1 c2 : Value} {AR : Option Addr} {nR cR : Nat} {R : List Ru} {s : ChSt} {L : List (List It3)}
theorem ChS.via (h : ChS w base bf c0 c1 c2 AR nR cR R s L) (hb : Below w.heap.size w w') : ChS w' base bf c0 c1 c2 AR nR cR R s L := ChM.via h hb
theorem ChS.rules (h : ChS w base bf c0 c1 c2 AR nR cR R s L) : Sl RuE (fun b => b < base) w AR nR cR R := ChM.rules h
theorem ChS.bs (h : ChS w base bf c0 c1 c2 AR nR cR R s L) : base ≤ w.heap.size := ChM.base h
theorem ChS.c3 (h : ChS w base bf c0 c1 c2 AR nR cR R s L) : w.cell? ⟨bf, 3, none⟩ = some (.slice AR nR cR) := (ChM.blk h).cell 3
theorem ChS.cm (h : ChS w base bf c0 c1 c2 AR nR cR R s L) : w.cell? ⟨bf, 4, none⟩ = some s.2.2.1 := (ChM.blk h).cell 4
theorem ChS.cv (h : ChS w base bf c0 c1 c2 AR nR cR R s L) : w.cell? ⟨bf, 5, none⟩ = some s.1 := (ChM.blk h).cell 5
theorem ChS.lt (h : ChS w base bf c0 c1 c2 AR nR cR R s L) : bf < w.heap.size := (ChM.blk h).lt
theorem ChS.no_ge (h : ChS w base bf c0 c1 c2 AR nR cR R s L) {k b : Nat} {i : Bool} (hb : w.heap.size ≤ b) : ChN k s i b := (ChM.no_of h (Or.inr hb)).chn
theorem ChS.no_lt (h : ChS w base bf c0 c1 c2 AR nR cR R s L) {k b : Nat} {i : Bool} (hb : b < base) : ChN k s i b := (ChM.no_of h (Or.inl hb)).chn
theorem ChS.hdr (h : ChS w base bf c0 c1 c2 AR nR cR R s L) (h0 : L ≠ []) : Hdr 47 w base s.1 L := (ChM.sets h).hdr h0
theorem ChS.mform (h : ChS w base bf c0 c1 c2 AR nR cR R s L) : ∃ A c, s.2.2.1 = .slice A L.length c ∧ L.length ≤ c := (ChM.maps h).form
theorem cadd_s (h : ChS w base bf c0 c1 c2 AR nR cR R s L) (k : Nat) (l : List It3) (x : It3) (hk : L.length = k + 1) (hl : L[k]? = some l) (hk2 : k ≤ 1000) (hl2 : l.length ≤ 100000) (hx1 : x.r ≤ 1000000) (hx2 : x.d ≤ 1000000) (hx3 : x.f ≤ 1000000) :
    Calls Tryz.prog 62 #[.pointer (some ⟨bf, 0, none⟩), .agg #[.int .i64 (x.r : Int), .int .i64 (x.d : Int), .int .i64 (x.f : Int)]] w (AddC k w base bf c0 c1 c2 AR nR cR R s (L.set k (addI l x))) :=
  cadd_c w base bf k c0 c1 c2 AR nR cR R s.1 s.2.1 s.2.2.1 s.2.2.2 L l x h hk hl hk2 hl2 hx1 hx2 hx3
theorem cnexts_s (h : ChS w base bf c0 c1 c2 AR nR cR R s L) (hR : ∀ u ∈ R, u.2.length ≤ 1000) (x : It3) (tb : Bool) (tn : Nat) (hn : nxtI R x = some (tb, tn)) :
    Calls Tryz.prog 60 #[.pointer (some ⟨bf, 0, none⟩), .agg #[.int .i64 (x.r : Int), .int .i64 (x.d : Int), .int .i64 (x.f : Int)]] w fun e w' => e = .returned (.tuple #[.agg #[.bool tb, .int .i64 (tn : Int)], .bool true]) ∧ Below w.heap.size w w' :=
  cnext_s w base bf _ AR nR cR R (ChM.blk h) rfl (ChM.rules h) (ChM.base h) hR x tb tn hn
theorem cnexts_n (h : ChS w base bf c0 c1 c2 AR nR cR R s L) (hR : ∀ u ∈ R, u.2.length ≤ 1000) (k : Nat) (x : It3) (hx : ItOk R k x) (hn : nxtI R x = none) :
    Calls Tryz.prog 60 #[.pointer (some ⟨bf, 0, none⟩), .agg #[.int .i64 (x.r : Int), .int .i64 (x.d : Int), .int .i64 (x.f : Int)]] w fun e w' => e = .returned (.tuple #[.agg #[.bool false, .int .i64 0], .bool false]) ∧ Below w.heap.size w w' :=
  cnext_n w base bf _ AR nR cR R (ChM.blk h) rfl (ChM.rules h) (ChM.base h) hR k x hx hn
end
/-- set k has grown by what P says -/
def GrewC (P : It3 → Prop) (k : Nat) (l : List It3) (w : World) (base bf : Nat) (c0 c1 c2 : Value) (AR : Option Addr) (nR cR : Nat) (R : List Ru) (s : ChSt) (L : List (List It3)) (e : Ending) (w' : World) : Prop :=
  ∃ l', Grew P l l' ∧ AddC k w base bf c0 c1 c2 AR nR cR R s (L.set k l') e w'
set_option maxRecDepth 100000 in
set_option maxHeartbeats 2000000 in
theorem cpredict_s {w : World} {base bf : Nat} {c0 c1 c2 : Value} {AR : Option Addr} {nR cR : Nat} {R : List Ru} {s : ChSt} {L : List (List It3)} (h : ChS w base bf c0 c1 c2 AR nR cR R s L) (k : Nat) (l : List It3) (hk : L.length = k + 1) (hl : L[k]? = some l) (hk2 : k ≤ 100) (hR : R.length ≤ 32) (h4 : ∀ u ∈ R, u.2.length ≤ 4) (hnd : l.Nodup) (hok : ∀ x ∈ l, ItOk R k x) (tb : Bool) (tn : Nat) :
    Calls Tryz.prog 57 #[.pointer (some ⟨bf, 0, none⟩), .agg #[.bool tb, .int .i64 (tn : Int)]] w (GrewC (PredI R k (tb, tn) nR) k l w base bf c0 c1 c2 AR nR cR R s L) := by
  have hb := (Below.refl w.heap.size w).al (.cells #[.bool tb, .int .i64 (tn : Int)] 66)
  have HS := Lib.hid (Blk.new w 66 #[.bool tb, .int .i64 (tn : Int)])
  have hM := h.via hb
  have f3 := hM.c3
  have hRn : nR ≤ 32 := by have := h.rules.len; omega
  have HSN := Lib.hid (h.no_ge (k := k) (i := true) (Nat.le_refl _))
  have HM := Lib.hid hM
  have HB := Lib.hid (Mov.of (N := ChN k s) hb)
  have HK := Lib.hid hk
  have HL := Lib.hid hl
  have HND := Lib.hid hnd
  have HOK := Lib.hid hok
  have H4 := Lib.hid h4
  clear hb hM h hk hl hnd hok h4
  go_enter Tryz.func57, Tryz.ntmps57
  go_wp2_with fail
  generalize hW : w.alloc (.cells #[.bool tb, .int .i64 (tn : Int)] 66) = W at *
  have hWs : w.heap.size < W.heap.size := by rw [← hW]; simp
  clear hW f3
  go_loopw [12] (fun i wr => ∃ (j : Nat) (s1 : ChSt) (l1 : List It3), i = .int .i64 j ∧ j ≤ nR ∧ Hid (Grew (PredI R k (tb, tn) j) l l1) ∧ Hid (ChS wr base bf c0 c1 c2 AR nR cR R s1 (L.set k l1)) ∧ Hid (Mov (ChN k s) (ChN k s1) W wr) ∧ Hid (Blk wr w.heap.size 66 #[.bool tb, .int .i64 (tn : Int)])) (fun i _ => nR - (intOf i).toNat)
  case atStart =>
    refine ⟨0, s, l, rfl, Nat.zero_le _, Lib.hid (Grew.none fun x => PredI.zero x), Lib.hid ?_, Lib.hid (Mov.of (Below.refl _ _)), HS⟩
    rw [set_same HL.out]; exact HM.out
  case round =>
    obtain ⟨j, s1, l1, rfl, hj, HG, HF, HMV, HSB⟩ := hrel
    obtain ⟨A1, d1, hv1, -⟩ := HF.out.mform
    rw [List.length_set, HK.out] at hv1
    by_cases hjl : j < nR
    · obtain ⟨b1, o1, ⟨xl, xA, xn, xc⟩, y, rfl, hbb, hb1, hy, ⟨e1, -⟩, hc⟩ := HF.out.rules.at_ hjl
      simp only at e1
      have r0 := hc 0 _ rfl
      have r1 := hc 1 _ rfl
      simp only [RuE, Nat.add_zero] at r0 r1
      have i0 : (0 : Int) ≤ (j : Int) := by omega
      have i1 : (j : Int) < (nR : Int) := by omega
      have HY := Lib.hid hy
      have HE := Lib.hid e1
      have hal := (Below.refl wr.heap.size wr).al (.cells #[.int .i64 (xl : Int), .slice xA xn xc] 97)
      have BRB := Blk.new wr 97 #[.int .i64 (xl : Int), .slice xA xn xc]
      have HF1 := Lib.hid (HF.out.via hal)
      have BS1 := HSB.out.via hal
      have HS1 := Lib.hid BS1
      have HM1 := Lib.hid (HMV.out.via hal)
      have f4 := HF1.out.cm
      rw [hv1] at f4
      have HV1 := Lib.hid hv1
      clear hc hy e1 hbb hal hv1
      by_cases ht : tb = false ∧ tn = xl
      · obtain ⟨rfl, rfl⟩ := ht
        have hlen : l1.length ≤ 100000 := lenI hR H4.out hk2 (HG.out.nd HND.out) (HG.out.ok HOK.out fun x hx => hx.ok)
        have HNS := Lib.hid (HMV.out.no _ _ hWs HSN.out)
        have e1 : ((k + 1 : Nat) : Int) - 1 = (k : Int) := by omega
        have cBS1 := BS1.cell
        have fBS1 := BS1.frozen
        have lBS1 := BS1.lt
        have cBRB := BRB.cell
        have fBRB := BRB.frozen
        have lBRB := BRB.lt
        go_wp2_with fail
        clear cBS1 fBS1 lBS1 cBRB fBRB lBRB
        clear f4 e1 r0 r1 BS1 BRB
        refine (cadd_s HF1.out k l1 ⟨j, 0, k⟩ (by rw [List.length_set]; exact HK.out) (set_get HL.out) (by omega) hlen (by simp only; omega) (by simp only; omega) (by simp only; omega)).mono ?_
        rintro e w2 ⟨rfl, s2, hF3, hM3⟩
        rw [List.set_set] at hF3
        have HF3 := Lib.hid hF3
        have HS3 := Lib.hid (hM3.blk HS1.out HNS.out)
        have HM3 := Lib.hid (HM1.out.trans hM3)
        clear hF3 hM3
        go_wp2_with fail
        exact ⟨⟨j + 1, s2, _, by go_num, by omega, Lib.hid ((HG.out.add _).iff (PredI.hit HY.out (by rw [HE.out]))), HF3, HM3, HS3⟩, by simp [intOf]; omega⟩
      · have hq : tb = true ∨ ((xl : Int) == (tn : Int)) = false := by
          cases tb with
          | true => exact Or.inl rfl
          | false => exact Or.inr (by rw [beq_eq_false_iff_ne]; exact fun e => ht ⟨rfl, by omega⟩)
        have HT := Lib.hid (show (tb, tn) ≠ (false, y.1) from fun e => ht ⟨congrArg Prod.fst e, by rw [HE.out]; exact congrArg Prod.snd e⟩)
        clear ht f4
        cases tb with
        | true =>
          clear hq
          have cBS1 := BS1.cell
          have fBS1 := BS1.frozen
          have lBS1 := BS1.lt
          have cBRB := BRB.cell
          have fBRB := BRB.frozen
          have lBRB := BRB.lt
          go_wp2_with fail
          exact ⟨⟨j + 1, _, l1, by go_num, by omega, Lib.hid (HG.out.iff (PredI.miss HY.out HT.out)), HF1, HM1, HS1⟩, by simp [intOf]; omega⟩
        | false =>
          have hq2 : ((xl : Int) == (tn : Int)) = false := hq.resolve_left (by simp)
          clear hq
          have cBS1 := BS1.cell
          have fBS1 := BS1.frozen
          have lBS1 := BS1.lt
          have cBRB := BRB.cell
          have fBRB := BRB.frozen
          have lBRB := BRB.lt
          go_wp2_with fail
          exact ⟨⟨j + 1, _, l1, by go_num, by omega, Lib.hid (HG.out.iff (PredI.miss HY.out HT.out)), HF1, HM1, HS1⟩, by simp [intOf]; omega⟩
    · obtain rfl : j = nR := by omega
      go_wp2_with fail
      exact bodyPost_ret (v := .tuple #[]) (by simp [results, Tryz.results57, go_sem]) rfl ⟨l1, HG.out, rfl, _, HF.out, HB.out.trans HMV.out⟩
end Go.Proofs.YtbfcnfgkccgbiaaGreatDoor

