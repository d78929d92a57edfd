/- Texts DQ, laid together. -/
import Derived.Test.YtbhenicldddlfaaE2


namespace Go.Proofs.Ytbhenicldddlfaa
open Go.RowKit

theorem bts_back (s : ByteArray) : (⟨(bts s).toArray⟩ : ByteArray) = s := by cases s; simp [bts]
theorem group_flat {W : Nat} {t : Dc} (hk : t.kind = 6) (hb : hasB [3] t = false) (hs : t.flat.size ≤ W) : BestR W t = ⟨0, 0, [0], bts t.flat, 1⟩ := by
  unfold BestR
  rw [Dc.ops_6 hk]
  exact best_flat rfl (by simp [hb]) (by simp only; omega) hs
set_option maxRecDepth 100000 in
set_option maxHeartbeats 8000000 in
theorem docWider_walk (A : Option Addr) (n c : Nat) (l : List Int) (width : Int) (w : World) (h : Ints w A n c l) :
    Calls Try.prog 3 #[.slice A n c, .int .i64 width] w fun e w' => e = .returned (.bool true) ∧ Below w.heap.size w w' := by
  have HI := Lib.hid h
  clear h
  go_enter Try.func3, Try.ntmps3
  go_wp2_with fail
  refine (pair_c w).mono ?_
  rintro e W1 ⟨v1, t1, rfl, h1, rfl, hb1⟩
  have HB1 := Lib.hid hb1
  have HI1 := Lib.hid (HI.out.via hb1)
  clear hb1 HI
  go_wp2_with fail
  refine (Best_c _ v1 pairD 4 W1 h1 pairD_ok (by rw [pairD_size]; omega) (by omega) (by omega)).mono ?_
  rintro e W2 ⟨A2, n2, c2, rfl, hb2⟩
  have HB2 := Lib.hid (HB1.out.via hb2)
  have HI2 := Lib.hid (HI1.out.via hb2)
  have HP := Lib.hid pairD_best
  clear hb2 HB1 HI1 h1
  generalize BestR 4 pairD = L0 at *
  obtain ⟨ex0, ln0, xs0, tx0, k0⟩ := L0
  have hl0 : ln0 = 1 := HP.out
  subst hl0
  dsimp only [LyV]
  have HB3 := Lib.hid (HB2.out.al (.cells #[.int .i64 (ex0 : Int), .int .i64 1, .slice A2 n2 c2, .string ⟨tx0.toArray⟩] 24))
  have HI3 := Lib.hid (HI2.out.al (.cells #[.int .i64 (ex0 : Int), .int .i64 1, .slice A2 n2 c2, .string ⟨tx0.toArray⟩] 24))
  go_wp2_with fail
  generalize W2.alloc (.cells #[.int .i64 (ex0 : Int), .int .i64 1, .slice A2 n2 c2, .string ⟨tx0.toArray⟩] 24) = W3 at *
  clear HB2 HI2 HP
  refine (Doc_c A n c l W3 HI3.out).mono ?_
  rintro e W4 ⟨v, t, rfl, h4, ⟨h5, h6⟩, hb4⟩
  obtain ⟨k, s, i, B, m, d⟩ := v
  have T1 := (Blk.new W4 30 #[.int .i64 (k : Int), .string s, .int .i64 (i : Int), .slice B m d]).al (.cells #[.int .i64 6, .string ⟨#[]⟩, .int .i64 0, .slice (some ⟨W4.heap.size, 0, none⟩) 1 1] 30)
  have T2 := Blk.new1 W4 (.cells #[.int .i64 (k : Int), .string s, .int .i64 (i : Int), .slice B m d] 30) 30 #[.int .i64 6, .string ⟨#[]⟩, .int .i64 0, .slice (some ⟨W4.heap.size, 0, none⟩) 1 1]
  have hT := DcR.of 6 ⟨#[]⟩ 0 (Sl.oneD (v := (k, s, i, B, m, d)) (ok := fun _ => True) T1 ((h4.al _).al _) trivial)
  have hz : W4.heap.size + 2 ≤ ((W4.alloc (.cells #[.int .i64 (k : Int), .string s, .int .i64 (i : Int), .slice B m d] 30)).alloc (.cells #[.int .i64 6, .string ⟨#[]⟩, .int .i64 0, .slice (some ⟨W4.heap.size, 0, none⟩) 1 1] 30)).heap.size := by simp
  have hok : (Dc.node 6 ⟨#[]⟩ 0 [t]).Ok := .group t h5
  have hsz : (Dc.node 6 ⟨#[]⟩ 0 [t]).size ≤ 400 := by simp only [Dc.size, Dc.sizes]; omega
  have hkd : (Dc.node 6 ⟨#[]⟩ 0 [t]).kind = 6 := rfl
  generalize (Dc.node 6 ⟨#[]⟩ 0 [t]) = D at *
  have HT := Lib.hid hT
  have HB5 := Lib.hid (((HB3.out.via hb4).al (.cells #[.int .i64 (k : Int), .string s, .int .i64 (i : Int), .slice B m d] 30)).al (.cells #[.int .i64 6, .string ⟨#[]⟩, .int .i64 0, .slice (some ⟨W4.heap.size, 0, none⟩) 1 1] 30))
  have HO := Lib.hid hok
  have HK := Lib.hid hkd
  have x1 := belowI_lo width 30 (by omega)
  have x2 := belowI_hi width 30 (by omega)
  obtain ⟨W, hW⟩ : ∃ W : Nat, (W : Int) = 1 + belowI width 30 := ⟨(1 + belowI width 30).toNat, by omega⟩
  have wW : IntKind.i64.wrap (1 + belowI width 30) = (W : Int) := (IntWalk.i64_in _ (by omega)).trans hW.symm
  have hW1 : 1 ≤ W := by omega
  have hW2 : W ≤ 30 := by omega
  clear h4 h5 h6 hb4 hT T1 HB3 HI3 hok hkd hW x1 x2
  dsimp only [dcVal]
  go_wp2_with (go_at_call 8; refine (below_c width 30 _ (by omega) (by omega)).mono ?_; rintro e w' ⟨rfl, rfl⟩)
  generalize (W4.alloc (.cells #[.int .i64 (k : Int), .string s, .int .i64 (i : Int), .slice B m d] 30)).alloc (.cells #[.int .i64 6, .string ⟨#[]⟩, .int .i64 0, .slice (some ⟨W4.heap.size, 0, none⟩) 1 1] 30) = W5 at *
  generalize W4.heap.size = b4 at *
  refine (Best_c _ (6, ⟨#[]⟩, 0, some ⟨b4, 0, none⟩, 1, 1) D W W5 HT.out HO.out hsz hW1 (by omega)).mono ?_
  rintro e W6 ⟨Aa, na, ca, rfl, hb6⟩
  obtain ⟨La, hLa⟩ : ∃ La, La = BestR W D := ⟨_, rfl⟩
  rw [← hLa]
  have HLA := Lib.hid hLa
  clear hLa
  obtain ⟨exa, lna, xsa, txa, ka⟩ := La
  dsimp only [LyV]
  have ha := (Below.refl W6.heap.size W6).al (.cells #[.int .i64 (exa : Int), .int .i64 (lna : Int), .slice Aa na ca, .string ⟨txa.toArray⟩] 24)
  have B9 := Blk.new W6 24 #[.int .i64 (exa : Int), .int .i64 (lna : Int), .slice Aa na ca, .string ⟨txa.toArray⟩]
  replace T2 := (T2.via hb6).via ha
  have HB7 := Lib.hid ((HB5.out.via hb6).via ha)
  have HT7 := Lib.hid ((HT.out.via hb6).via ha)
  have hz7 : b4 + 2 ≤ W6.heap.size := Nat.le_trans hz hb6.size
  clear hb6 ha HB5 HT wW
  obtain ⟨W', hW'⟩ : ∃ W', W' = W + 1 := ⟨_, rfl⟩
  have wW : IntKind.i64.wrap ((W : Int) + 1) = (W' : Int) := (IntWalk.i64_in _ (by omega)).trans (by omega)
  have HW' := Lib.hid hW'
  have hW3 : 1 ≤ W' := by omega
  have hW4 : W' ≤ 200 := by omega
  clear hW'
  have cT2 := T2.cell
  have fT2 := T2.frozen
  have lT2 := T2.lt
  go_wp2_with fail
  clear cT2 fT2 lT2
  clear wW
  generalize W6.alloc (.cells #[.int .i64 (exa : Int), .int .i64 (lna : Int), .slice Aa na ca, .string ⟨txa.toArray⟩] 24) = W7 at *
  generalize W6.heap.size = b9 at *
  refine (Best_c _ (6, ⟨#[]⟩, 0, some ⟨b4, 0, none⟩, 1, 1) D W' W7 HT7.out HO.out hsz hW3 hW4).mono ?_
  rintro e W8 ⟨Ab, nb, cb, rfl, hb8⟩
  obtain ⟨Lb, hLb⟩ : ∃ Lb, Lb = BestR W' D := ⟨_, rfl⟩
  have hwd : Lb.ex ≤ exa := by
    have h1 := best_wider (W := W) (W' := W') (by have := HW'.out; omega) (Dc.opsOk HO.out hsz)
    have h2 : (BestR W D).ex = exa := by rw [← HLA.out]
    rw [hLb, ← h2]; exact h1
  rw [← hLb]
  clear hLb
  obtain ⟨exb, lnb, xsb, txb, kb⟩ := Lb
  simp only at hwd
  have hwd2 : decide ((exb : Int) > (exa : Int)) = false := by simp; omega
  dsimp only [LyV]
  have hb := (Below.refl W8.heap.size W8).al (.cells #[.int .i64 (exb : Int), .int .i64 (lnb : Int), .slice Ab nb cb, .string ⟨txb.toArray⟩] 24)
  have B11 := Blk.new W8 24 #[.int .i64 (exb : Int), .int .i64 (lnb : Int), .slice Ab nb cb, .string ⟨txb.toArray⟩]
  replace T2 := (T2.via hb8).via hb
  replace B9 := (B9.via hb8).via hb
  have HB9 := Lib.hid ((HB7.out.via hb8).via hb)
  have HT9 := Lib.hid ((HT7.out.via hb8).via hb)
  clear hb8 hb HB7 HT7
  have cT2 := T2.cell
  have fT2 := T2.frozen
  have lT2 := T2.lt
  have cB9 := B9.cell
  have fB9 := B9.frozen
  have lB9 := B9.lt
  go_wp2_with fail
  clear cT2 fT2 lT2 cB9 fB9 lB9
  generalize W8.alloc (.cells #[.int .i64 (exb : Int), .int .i64 (lnb : Int), .slice Ab nb cb, .string ⟨txb.toArray⟩] 24) = W9 at *
  refine (Flat_c _ (6, ⟨#[]⟩, 0, some ⟨b4, 0, none⟩, 1, 1) D W9 HT9.out HO.out hsz).mono ?_
  rintro e W10 ⟨rfl, hb10⟩
  replace B9 := B9.via hb10
  have HF := Lib.hid (HB9.out.via hb10)
  have HGF := Lib.hid (fun hb hs => group_flat (W := W) HK.out hb hs)
  clear hb10 HB9 HT9 T2 B11 hwd hwd2
  cases hh : hasB [3] D
  case true =>
    rw [if_pos rfl]
    clear HGF
    go_wp2_with fail
    go_ret
    exact ⟨rfl, HF.out⟩
  case false =>
    rw [if_neg (by decide)]
    by_cases hs : D.flat.size ≤ W
    · have e1 := HLA.out.trans (HGF.out hh hs)
      simp only [Ly.mk.injEq] at e1
      obtain ⟨rfl, rfl, -, rfl, -⟩ := e1
      have hbk := bts_back D.flat
      have hd : decide ((D.flat.size : Int) > (W : Int)) = false := by simp; omega
      rw [hbk] at B9
      clear HGF HLA hbk
      generalize D.flat = f at *
      have cB9 := B9.cell
      have fB9 := B9.frozen
      have lB9 := B9.lt
      go_wp2_with fail
      go_ret
      exact ⟨rfl, HF.out⟩
    · have hd : decide ((D.flat.size : Int) > (W : Int)) = true := by simp; omega
      clear HGF
      generalize D.flat = f at *
      go_wp2_with fail
      go_ret
      exact ⟨rfl, HF.out⟩
end Go.Proofs.Ytbhenicldddlfaa

