/- Texts NP, laid together. -/
import Derived.Test.YtbhenicldddlfaaNK
import Derived.Test.YtbhenicldddlfaaNL
import Derived.Test.YtbhenicldddlfaaNG
import Derived.Test.YtbhenicldddlfaaNH
import Derived.Test.YtbhenicldddlfaaN6
import Derived.Test.YtbhenicldddlfaaE2
import Derived.Test.YtbhenicldddlfaaF3








namespace Go.Proofs.Ytbhenicldddlfaa
open Go.RowKit

theorem pair_nrm : (Dc.node 4 ⟨#[]⟩ 0 [pairD]).nrm.kind = 6 := by
  have h6 : pairD.nrm.kind = 6 := by rw [nrm_else (by simp [pairD, Dc.kind]) (by simp [pairD, Dc.kind])]; rfl
  rw [nrm_4 rfl]
  have e1 : Dc.nrms (Dc.node 4 ⟨#[]⟩ 0 [pairD]).args = [pairD.nrm] := rfl
  rw [e1]
  generalize pairD.nrm = x at *
  have e2 : spliceD [x] = [x] := spliceD_same fun t ht => by rw [List.mem_singleton.1 ht]; omega
  have e3 : mergeD [x] = [x] := pushD_kind (out := []) (by omega)
  rw [e2, e3]; exact h6
theorem allN_ch {W n : Nat} {t : Dc} (ho : t.Ok) (hs : t.size ≤ 400) : ∀ x ∈ allN W (t.ops 0 0) n, x.ch.length ≤ 1000000 := by
  intro x hx
  obtain ⟨a, -, rfl⟩ := List.mem_map.1 hx
  have := (setF_len (W := W) (p := maskP a) (Dc.opsOk ho hs) _ 0 0 0 (Nat.le_refl _)).1
  have h2 := Dc.ops_len 0 t 0
  show (layM W (t.ops 0 0) a).ch.length ≤ _
  unfold layM
  omega
/-- what All's list holds -/
def AllK (W : Nat) (t : Dc) (E : Nat) (ks : List Lz) : Prop :=
  if 12 < grpN (t.ops 0 0) then E = 2 ∧ ks = [] else E = 0 ∧ ks.Perm (allN W (t.ops 0 0) (2 ^ grpN (t.ops 0 0))) ∧ ks.Pairwise (fun x y => lzC x y ≤ 0)
theorem AllP.form {W : Nat} {t : Dc} {w w' : World} {e : Ending} (h : AllP W t w e w') :
    ∃ (A : Option Addr) (n c E : Nat) (ks : List Lz), e = .returned (.tuple #[.slice A n c, .int .i64 (E : Int)]) ∧ Sl LzE (fun _ => True) w' A n c ks ∧ AllK W t E ks ∧ Below w.heap.size w w' := by
  unfold AllP at h
  unfold AllK
  split at h
  · rename_i hg
    simp only [if_pos hg]
    exact ⟨none, 0, 0, 2, [], h.1, Sl.nil 0, ⟨rfl, rfl⟩, h.2⟩
  · rename_i hg
    simp only [if_neg hg]
    obtain ⟨A, n, c, ys, h1, h2, h3, h4, h5⟩ := h
    exact ⟨A, n, c, 0, ys, h1, h4, ⟨rfl, h2, h3⟩, h5⟩
theorem AllK.same {W : Nat} {t : Dc} {E E' : Nat} {ks ks' : List Lz} (ho : t.Ok) (hs : t.size ≤ 400) (h1 : AllK W t E ks) (h2 : AllK W t.nrm E' ks') : E' = E ∧ ks' = ks := by
  unfold AllK at h1 h2
  rw [grpN_nrm ho] at h2
  split at h1
  · rename_i hg
    rw [if_pos hg] at h2
    exact ⟨h2.1.trans h1.1.symm, h2.2.trans h1.2.symm⟩
  · rename_i hg
    rw [if_neg hg] at h2
    rw [allN_nrm W ho] at h2
    exact ⟨h2.1.trans h1.1.symm, sorted_only (Dc.opsOk ho hs) h2.2.1 h1.2.1 h2.2.2 h1.2.2⟩
theorem AllK.small {W : Nat} {t : Dc} {E : Nat} {ks : List Lz} (ho : t.Ok) (hs : t.size ≤ 400) (h : AllK W t E ks) : ks.length ≤ 1000000 ∧ ∀ x ∈ ks, x.ch.length ≤ 1000000 := by
  unfold AllK at h
  split at h
  · rw [h.2]; simp
  · rename_i hg
    have h12 : 2 ^ grpN (t.ops 0 0) ≤ 2 ^ 12 := Nat.pow_le_pow_right (by omega) (by omega)
    have hl := allN_len W (t.ops 0 0) (2 ^ grpN (t.ops 0 0))
    exact ⟨by rw [h.2.1.length_eq]; omega, fun x hx => allN_ch ho hs x (h.2.1.mem_iff.1 hx)⟩

set_option maxRecDepth 100000 in
set_option maxHeartbeats 8000000 in
theorem docNormSame_walk (A : Option Addr) (n c : Nat) (l : List Int) (width : Int) (w : World) (h : Ints w A n c l) :
    Calls Try.prog 4 #[.slice A n c, .int .i64 width] w fun e w' => e = .returned (.bool true) ∧ Below w.heap.size w w' := by
  have HI := Lib.hid h
  clear h
  go_enter Try.func4, Try.ntmps4
  go_wp2_with fail
  refine (pair_c w).mono ?_
  rintro e W1 ⟨⟨k, s, i, B, m, d⟩, t1, rfl, h1, rfl, hb1⟩
  have hB := (Below.refl W1.heap.size W1).al (.cells #[.int .i64 (k : Int), .string s, .int .i64 (i : Int), .slice B m d] 30)
  have T1 := Blk.new W1 30 #[.int .i64 (k : Int), .string s, .int .i64 (i : Int), .slice B m d]
  have hT := DcR.of 4 ⟨#[]⟩ 0 (Sl.oneD (v := (k, s, i, B, m, d)) (ok := fun _ => True) T1 (h1.via hB) trivial)
  have HB1 := Lib.hid (hb1.via hB)
  have HI1 := Lib.hid ((HI.out.via hb1).via hB)
  have HT := Lib.hid hT
  clear hb1 HI hB hT h1 T1
  dsimp only [dcVal]
  go_wp2_with fail
  generalize hW2 : W1.alloc (.cells #[.int .i64 (k : Int), .string s, .int .i64 (i : Int), .slice B m d] 30) = W2 at *
  clear hW2
  generalize W1.heap.size = b1 at *
  have hO1 : (Dc.node 4 ⟨#[]⟩ 0 [pairD]).Ok := .cat _ fun x hx => by rw [List.mem_singleton.1 hx]; exact pairD_ok
  have hS1 : (Dc.node 4 ⟨#[]⟩ 0 [pairD]).size ≤ 400 := by have := pairD_size; simp only [Dc.size, Dc.sizes]; omega
  refine (Norm_c (4, ⟨#[]⟩, 0, some ⟨b1, 0, none⟩, 1, 1) _ W2 HT.out hO1 hS1).mono ?_
  rintro e W3 ⟨⟨k3, s3, i3, B3, m3, d3⟩, rfl, h3, hb3⟩
  have hk3 : k3 = 6 := h3.parts.1.trans pair_nrm
  subst hk3
  have hB3 := (Below.refl W3.heap.size W3).al (.cells #[.int .i64 6, .string s3, .int .i64 (i3 : Int), .slice B3 m3 d3] 30)
  have T3 := Blk.new W3 30 #[.int .i64 6, .string s3, .int .i64 (i3 : Int), .slice B3 m3 d3]
  have HB3 := Lib.hid ((HB1.out.via hb3).via hB3)
  have HI3 := Lib.hid ((HI1.out.via hb3).via hB3)
  have x1 := belowI_lo width 20 (by omega)
  have x2 := belowI_hi width 20 (by omega)
  obtain ⟨W, hW⟩ : ∃ W : Nat, (W : Int) = 1 + belowI width 20 := ⟨(1 + belowI width 20).toNat, by omega⟩
  have wW : IntKind.i64.wrap (1 + belowI width 20) = (W : Int) := (IntWalk.i64_in _ (by omega)).trans hW.symm
  have hW1 : 1 ≤ W := by omega
  have hW2 : W ≤ 200 := by omega
  clear hb3 hB3 h3 HB1 HI1 hO1 hS1 HT hW x1 x2
  dsimp only [dcVal]
  have cT3 := T3.cell
  have fT3 := T3.frozen
  have lT3 := T3.lt
  go_wp2_with (go_at_call 8; refine (below_c width 20 _ (by omega) (by omega)).mono ?_; rintro e w' ⟨rfl, rfl⟩)
  clear cT3 fT3 lT3
  clear wW T3
  generalize W3.alloc (.cells #[.int .i64 6, .string s3, .int .i64 (i3 : Int), .slice B3 m3 d3] 30) = W4 at *
  refine (Doc_c A n c l W4 HI3.out).mono ?_
  rintro e W5 ⟨⟨k5, s5, i5, B5, m5, d5⟩, t, rfl, h5, ⟨ho, hs⟩, hb5⟩
  have hB5 := (Below.refl W5.heap.size W5).al (.cells #[.int .i64 (k5 : Int), .string s5, .int .i64 (i5 : Int), .slice B5 m5 d5] 30)
  have T5 := Blk.new W5 30 #[.int .i64 (k5 : Int), .string s5, .int .i64 (i5 : Int), .slice B5 m5 d5]
  have HT := Lib.hid (h5.via hB5)
  have HB5 := Lib.hid ((HB3.out.via hb5).via hB5)
  have HO := Lib.hid ho
  have hs4 : t.size ≤ 400 := by omega
  have HO2 := Lib.hid (Dc.nrm_ok t ho)
  have hs5 : t.nrm.size ≤ 400 := by have := Dc.nrm_size t; omega
  have HNN := Lib.hid (Dc.nrm_nrm ho)
  clear hb5 hB5 h5 ho HB3 HI3
  dsimp only [dcVal]
  have cT5 := T5.cell
  have fT5 := T5.frozen
  have lT5 := T5.lt
  go_wp2_with fail
  clear cT5 fT5 lT5
  generalize W5.alloc (.cells #[.int .i64 (k5 : Int), .string s5, .int .i64 (i5 : Int), .slice B5 m5 d5] 30) = W6 at *
  generalize W5.heap.size = b5 at *
  refine (Norm_c (k5, s5, i5, B5, m5, d5) t W6 HT.out HO.out hs4).mono ?_
  rintro e W7 ⟨⟨k7, s7, i7, B7, m7, d7⟩, rfl, h7, hb7⟩
  have hB7 := (Below.refl W7.heap.size W7).al (.cells #[.int .i64 (k7 : Int), .string s7, .int .i64 (i7 : Int), .slice B7 m7 d7] 30)
  have T7 := Blk.new W7 30 #[.int .i64 (k7 : Int), .string s7, .int .i64 (i7 : Int), .slice B7 m7 d7]
  replace T5 := (T5.via hb7).via hB7
  replace HT := Lib.hid ((HT.out.via hb7).via hB7)
  have HT7 := Lib.hid (h7.via hB7)
  have HB7 := Lib.hid ((HB5.out.via hb7).via hB7)
  clear hb7 hB7 h7 HB5
  dsimp only [dcVal]
  have cT7 := T7.cell
  have fT7 := T7.frozen
  have lT7 := T7.lt
  go_wp2_with fail
  clear cT7 fT7 lT7
  generalize W7.alloc (.cells #[.int .i64 (k7 : Int), .string s7, .int .i64 (i7 : Int), .slice B7 m7 d7] 30) = W8 at *
  generalize W7.heap.size = b7 at *
  refine (Norm_c (k7, s7, i7, B7, m7, d7) t.nrm W8 HT7.out HO2.out hs5).mono ?_
  rintro e W9 ⟨⟨k9, s9, i9, B9, m9, d9⟩, rfl, h9, hb9⟩
  rw [HNN.out] at h9
  have hB9 := (Below.refl W9.heap.size W9).al (.cells #[.int .i64 (k9 : Int), .string s9, .int .i64 (i9 : Int), .slice B9 m9 d9] 30)
  have T9 := Blk.new W9 30 #[.int .i64 (k9 : Int), .string s9, .int .i64 (i9 : Int), .slice B9 m9 d9]
  replace T5 := (T5.via hb9).via hB9
  replace T7 := (T7.via hb9).via hB9
  replace HT := Lib.hid ((HT.out.via hb9).via hB9)
  replace HT7 := Lib.hid ((HT7.out.via hb9).via hB9)
  have HT9 := Lib.hid (h9.via hB9)
  have HB9 := Lib.hid ((HB7.out.via hb9).via hB9)
  clear hb9 hB9 h9 HB7
  dsimp only [dcVal]
  have cT5 := T5.cell
  have fT5 := T5.frozen
  have lT5 := T5.lt
  go_wp2_with fail
  clear cT5 fT5 lT5
  generalize W9.alloc (.cells #[.int .i64 (k9 : Int), .string s9, .int .i64 (i9 : Int), .slice B9 m9 d9] 30) = W10 at *
  generalize W9.heap.size = b9 at *
  refine (All_c _ (k5, s5, i5, B5, m5, d5) t W W10 HT.out HO.out hs4 hW1 hW2).mono ?_
  intro e1 W11 hA1
  obtain ⟨A1, n1, c1, E, ks, rfl, hL1, hK1, hb11⟩ := hA1.form
  replace T5 := T5.via hb11
  replace T7 := T7.via hb11
  replace T9 := T9.via hb11
  replace HT7 := Lib.hid (HT7.out.via hb11)
  replace HT9 := Lib.hid (HT9.out.via hb11)
  have HL1 := Lib.hid hL1
  have HB11 := Lib.hid (HB9.out.via hb11)
  have HK1 := Lib.hid hK1
  clear hA1 hb11 hL1 hK1 HB9 HT
  have cT7 := T7.cell
  have fT7 := T7.frozen
  have lT7 := T7.lt
  go_wp2_with fail
  clear cT7 fT7 lT7
  refine (All_c _ (k7, s7, i7, B7, m7, d7) t.nrm W W11 HT7.out HO2.out hs5 hW1 hW2).mono ?_
  intro e2 W12 hA2
  obtain ⟨A2, n2, c2, E2, ks2, rfl, hL2, hK2, hb12⟩ := hA2.form
  obtain ⟨rfl, rfl⟩ := AllK.same HO.out hs4 HK1.out hK2
  obtain rfl : n2 = n1 := hL2.len.symm.trans HL1.out.len
  obtain ⟨hn, hch⟩ := HK1.out.small HO.out hs4
  rw [hL2.len] at hn
  replace T7 := T7.via hb12
  replace T9 := T9.via hb12
  replace HT7 := Lib.hid (HT7.out.via hb12)
  replace HT9 := Lib.hid (HT9.out.via hb12)
  replace HL1 := Lib.hid (HL1.out.via hb12)
  have HL2 := Lib.hid hL2
  have HB12 := Lib.hid (HB11.out.via hb12)
  have HCH := Lib.hid hch
  clear hA2 hb12 hL2 hK2 HB11 hch T5
  go_wp2_with fail
  refine (eqLay_c _ A1 A2 n2 c1 c2 ks2 W12 HL1.out HL2.out hn HCH.out).mono ?_
  rintro e W13 ⟨rfl, hb13⟩
  replace T7 := T7.via hb13
  replace T9 := T9.via hb13
  replace HT7 := Lib.hid (HT7.out.via hb13)
  replace HT9 := Lib.hid (HT9.out.via hb13)
  have HB13 := Lib.hid (HB12.out.via hb13)
  clear hb13 HB12 HL1 HL2
  have cT7 := T7.cell
  have fT7 := T7.frozen
  have lT7 := T7.lt
  have cT9 := T9.cell
  have fT9 := T9.frozen
  have lT9 := T9.lt
  go_wp2_with fail
  clear cT7 fT7 lT7 cT9 fT9 lT9
  refine (same_n _ 1000000 (k9, s9, i9, B9, m9, d9) (k7, s7, i7, B7, m7, d7) t.nrm W13 HT9.out HT7.out (by omega) (Nat.le_refl _)).mono ?_
  rintro e W14 ⟨rfl, hb14⟩
  have HB14 := Lib.hid (HB13.out.via hb14)
  clear hb14
  go_wp2_with fail
  go_ret
  exact ⟨rfl, HB14.out⟩
end Go.Proofs.Ytbhenicldddlfaa

