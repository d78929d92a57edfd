/- Cover, contains: the walks. -/
import Derived.Test.YtdccgeiniockpaaII
namespace Go.Proofs.Ytdccgeiniockpaa
open Go.RowKit

def CoverP (w : World) (t : Tr) (f g : Nat) (e : Ending) (w' : World) : Prop :=
  ∃ (A : Option Addr) (k c : Nat) (q : List Nat) (x : Tr) (off : Nat), e = .returned (.tuple #[.slice A k c, .int .i64 0]) ∧ Ints w' A k c (q.map fun i : Nat => (i : Int)) ∧ t.at? q = some x ∧ Tr.Part t x off ∧ off ≤ f ∧ g ≤ off + x.wds.length ∧ Below w.heap.size w w'

set_option maxRecDepth 100000 in
set_option maxHeartbeats 8000000 in
theorem cover_c (ok : Nat → Prop) (v : TrV) (t : Tr) (w : World) (h : TreeR ok w v t) (hM : t.size ≤ 1000000) (f g : Nat) (hfg : f ≤ g) (hgn : g ≤ t.wds.length) :
    Calls Try.prog 33 #[trVal v, .int .i64 (f : Int), .int .i64 (g : Int)] w (CoverP w t f g) := by
  obtain ⟨ra, rb, rA, rn, rc⟩ := v
  have hT := ((h.mono (ok' := fun b => b < w.heap.size) fun b hb _ => hb).al (.cells #[.int .i64 ra, .int .i64 rb, .slice rA rn rc] 36))
  have B0 := Blk.new w 36 #[.int .i64 ra, .int .i64 rb, .slice rA rn rc]
  have hB := (Below.refl w.heap.size w).al (.cells #[.int .i64 ra, .int .i64 rb, .slice rA rn rc] 36)
  have hR : GoR w t [] (.slice none 0 0) t (ra, rb, rA, rn, rc) _ := ⟨B0, OwnI.nil _ _, hT, hB, by simp, rfl, by simp⟩
  have HR := Lib.hid hR
  have hwl := t.wds_len
  clear h hT B0 hB hR
  simp only [trVal]
  have k0 : decide (t.wds.length < g) = false := by simp; omega
  have k1 : decide (g < f) = false := by simp; omega
  go_enter Try.func33, Try.ntmps33
  go_wp2_with fail
  generalize w.alloc (.cells #[.int .i64 ra, .int .i64 rb, .slice rA rn rc] 36) = W at *
  refine (leaves_c _ (ra, rb, rA, rn, rc) t W HR.out.tree hM).mono ?_
  rintro e w1 ⟨rfl, hb⟩
  have HR1 := Lib.hid (HR.out.via hb)
  clear HR hb
  go_wp2_with fail
  clear k0 k1
  go_loopw [8, 9] (fun v i wr => ∃ (off : Nat) (q : List Nat) (x : Tr) (raw : TrV), i = .int .i64 off ∧ GoR w t q v x raw wr ∧ off ≤ f ∧ g ≤ off + x.wds.length ∧ Hid (Tr.Part t x off)) (fun v _ _ => t.size - lenOf v)
  case atStart => exact ⟨0, [], t, _, rfl, HR1.out, by omega, by omega, Lib.hid (Tr.Part.self t)⟩
  case round =>
    obtain ⟨off, q, x, raw, rfl, hr, hof, hgo, HE⟩ := hrel
    clear HR1
    obtain ⟨Av, cv, rfl, -⟩ := hr.own.form
    obtain ⟨ra2, rb2, rA2, rn2, rc2⟩ := raw
    have hsum := hr.sum
    have hszr := hr.size
    have B0 := hr.b0
    simp only at B0
    have HR := Lib.hid hr
    have hxl := x.wds_len
    have hkl := x.kids_len
    clear hr
    have cB0 := B0.cell
    have fB0 := B0.frozen
    have lB0 := B0.lt
    go_wp2_with fail
    clear cB0 fB0 lB0
    refine (kids_c _ (ra2, rb2, rA2, rn2, rc2) x wr HR.out.tree).mono ?_
    rintro e w2 ⟨A2, n2, c2, rfl, hS, hb2⟩
    have HR2 := Lib.hid (HR.out.via hb2)
    have hS2 := hS.via hb2
    have HS := Lib.hid hS2
    have hln : n2 < x.size := by rw [← hS.len]; exact hkl
    clear hS hS2 hb2 HR B0
    go_wp2_with fail
    go_loopw [10, 11, 32] (fun nx s ii wr => ∃ (j : Nat), nx = .int .i64 (-1) ∧ s = .int .i64 ((off + (wdsL (x.kids.take j)).length : Nat) : Int) ∧ ii = .int .i64 j ∧ j ≤ n2 ∧ GoR w t q (.slice Av q.length cv) x (ra2, rb2, rA2, rn2, rc2) wr ∧ Below w2.heap.size w2 wr) (fun _ _ ii _ => n2 - (intOf ii).toNat)
    case atStart => exact ⟨0, rfl, by simp [wdsL], rfl, Nat.zero_le _, HR2.out, Below.refl _ _⟩
    case round =>
      obtain ⟨j, rfl, rfl, rfl, hj, hr, hbr⟩ := hrel
      by_cases hlt : j < n2
      · obtain ⟨bk, ok2, xk, y, rfl, hob, hbk, hy, hxy, hc⟩ := HS.out.at_ hlt
        have hxy' : TreeR (fun b => b < w.heap.size) w2 xk y := hxy
        have c0 := (hbr.cell (p := ⟨bk, ok2 + j * 3, none⟩) hbk).trans (hc 0 _ rfl)
        have c1 := (hbr.cell (p := ⟨bk, ok2 + j * 3 + 1, none⟩) hbk).trans (hc 1 _ rfl)
        have c2 := (hbr.cell (p := ⟨bk, ok2 + j * 3 + 2, none⟩) hbk).trans (hc 2 _ rfl)
        obtain ⟨xa, xb, xA, xn, xc⟩ := xk
        simp only at c0 c1 c2
        have j0 : (0 : Int) ≤ (j : Int) := by omega
        have j1 : (j : Int) < (n2 : Int) := by omega
        have HR3 := Lib.hid (hr.al (.cells #[.int .i64 xa, .int .i64 xb, .slice xA xn xc] 36))
        have HX := Lib.hid ((hxy'.agr (Agr.below hbr)).al (.cells #[.int .i64 xa, .int .i64 xb, .slice xA xn xc] 36))
        have HY := Lib.hid hy
        have HB := Lib.hid (hbr.al (.cells #[.int .i64 xa, .int .i64 xb, .slice xA xn xc] 36))
        have hys := Tr.size_kid (List.mem_of_getElem? hy)
        have hyw := y.wds_len
        have hszw := hr.size
        have htl := wdsL_take_le hy
        have hxr := Tr.kid_rl hy
        have hxw := Lib.hid (show (wdsL x.kids).length ≤ x.size by rw [← Tr.wds_kids hxr]; exact hxl)
        have HXR := Lib.hid hxr
        have hnx := Lib.hid (wdsL_take hy)
        clear hr hxy hxy' hc hy hbr hbk hxr
        go_wp2_with fail
        clear c0 c1 c2
        generalize hW : wr.alloc (.cells #[.int .i64 xa, .int .i64 xb, .slice xA xn xc] 36) = W2 at *
        clear hW
        refine (leaves_c _ (xa, xb, xA, xn, xc) y W2 HX.out (by omega)).mono ?_
        rintro e w3 ⟨rfl, hb⟩
        have HR4 := Lib.hid (HR3.out.via hb)
        have HX3 := Lib.hid (HX.out.via hb)
        have HB3 := Lib.hid (HB.out.via hb)
        clear HR3 HX hb HB
        have hsx : off + (wdsL (x.kids.take j)).length ≤ 3000000 := by have := hxw.out; omega
        have hpt := Lib.hid (fun (h : x.rl ≠ -1) => Tr.Part.kid HE.out h HY.out)
        have HNX : Hid (((off + (wdsL (x.kids.take j)).length : Nat) : Int) + (y.wds.length : Int) = ((off + (wdsL (x.kids.take (j + 1))).length : Nat) : Int)) := Lib.hid (by rw [hnx.out, List.length_append]; omega)
        generalize off + (wdsL (x.kids.take j)).length = s at *
        by_cases g1 : s ≤ f
        · have g1' : decide (s ≤ f) = true := by simpa using g1
          by_cases g2 : g ≤ s + y.wds.length
          · have g2' : decide ((g : Int) ≤ (s : Int) + (y.wds.length : Int)) = true := by simp; omega
            have hown := HR4.out.own
            have HO := Lib.hid hown
            have hs3 := HR4.out.size
            have B0 := HR4.out.b0
            have hq : q.length + 1 ≤ 17592186044416 := by omega
            have hj2 : j < rn2 := by have h1 := HR4.out.tree.parts.2.2.len; have h2 := HS.out.len; simp only at h1; omega
            obtain ⟨bk3, ok3, xk3, y3, hA3, hob3, hbk3, hy3, hxy3, hc3⟩ := HR4.out.tree.parts.2.2.at_ hj2
            simp only at hA3
            subst hA3
            have hyy : y3 = y := by have h1 := HY.out; rw [hy3] at h1; exact Option.some.inj h1
            subst hyy
            have hxy3' : TreeR (fun b => b < w.heap.size) w3 xk3 y3 := hxy3
            have c0 := hc3 0 _ rfl
            have c1 := hc3 1 _ rfl
            have c2 := hc3 2 _ rfl
            obtain ⟨xa3, xb3, xA3, xn3, xc3⟩ := xk3
            simp only [TrE, Nat.add_zero] at c0 c1 c2
            have HX4 := Lib.hid hxy3'
            have hne1 := Lib.hid (show ∀ j, j < w.heap.size + 1 → some j ≠ Value.ownBlock (.slice Av q.length cv) from fun j hj e => by have := (hown.lt j e.symm).1; omega)
            have j2 : (j : Int) < (rn2 : Int) := by omega
            clear hxy3 hxy3' hc3 hy3 hown
            simp only at B0
            have cB0 := B0.cell
            have fB0 := B0.frozen
            have lB0 := B0.lt
            go_wp2_with (at_builtin; refine wpList_append_ints _ rfl (.tmp 57) (.tmp 59) rfl (w.heap.size + 1) (.slice Av q.length cv) q.length _ rfl (HO.out.alloc _) (some ⟨w3.heap.size, 0, none⟩) 1 1 [(j : Int)] rfl (Ints.one _ _ _) hq (by simp; omega) ?_; intro Av1 cv1 w4 ho1 hg1 hat1; have B0g := (B0.al (.cells #[.int .i64 (j : Int)] 3)).grown hg1 (hne1.out _ (by omega)); have c0g := B0g.cell; have f0g := B0g.frozen; have hAg : Agr (fun b => b < w.heap.size) w3 w4 := (Agr.below ((Below.refl w3.heap.size w3).alloc (Nat.le_refl _) (.cells #[.int .i64 (j : Int)] 3))).trans (Agr.grown hg1 fun b hb => hne1.out b (Nat.lt_of_lt_of_le hb (Nat.le_add_right _ _))); have k0 := hAg.cell hob3 c0; have k1 := hAg.cell hob3 c1; have k2 := hAg.cell hob3 c2)
            have HQ := Lib.hid (GoR.push (r2 := (xa3, xb3, xA3, xn3, xc3)) (HR4.out.al (.cells #[.int .i64 (j : Int)] 3)) ho1 hg1 HY.out (HX4.out.al _))
            refine ⟨⟨s, q ++ [j], y3, _, rfl, HQ.out, g1, g2, Lib.hid (hpt.out HXR.out)⟩, ?_⟩
            simp only [lenOf]; have h1 := HQ.out.sum; simp only [List.length_append, List.length_singleton] at h1; have := y3.size_pos; omega
          · have g2' : decide ((g : Int) ≤ (s : Int) + (y.wds.length : Int)) = false := by simp; omega
            go_wp2_with fail
            exact ⟨⟨j + 1, rfl, by rw [← HNX.out], by go_num, by omega, HR4.out, HB3.out⟩, by simp [intOf]; omega⟩
        · have g1' : decide (s ≤ f) = false := by simpa using g1
          go_wp2_with fail
          exact ⟨⟨j + 1, rfl, by rw [← HNX.out], by go_num, by omega, HR4.out, HB3.out⟩, by simp [intOf]; omega⟩
      · have HR3 := Lib.hid hr
        clear hr hbr
        have HFIN : Hid (CoverP w t f g (.returned (.tuple #[.slice Av q.length cv, .int .i64 0])) wr) := Lib.hid ⟨Av, _, cv, q, x, off, rfl, HR3.out.own.toInts, HR3.out.path, HE.out, hof, hgo, HR3.out.bel⟩
        go_wp2_with fail
        go_ret2
        exact HFIN.out

set_option maxRecDepth 100000 in
set_option maxHeartbeats 2000000 in
theorem contains_c (A B : Option Addr) (n c m d : Nat) (xs ys : List Int) (w : World) (h1 : Ints w A n c xs) (h2 : Ints w B m d ys) (hn : n ≤ 1000000) (i0 : Nat) (hi : i0 + m ≤ n) (he : (xs.take (i0 + m)).drop i0 = ys) :
    Calls Try.prog 34 #[.slice A n c, .slice B m d] w (BoolB w true) := by
  have H1 := Lib.hid h1
  have H2 := Lib.hid h2
  have HE := Lib.hid he
  have hle := h1.le
  clear h1 h2 he
  go_enter Try.func34, Try.ntmps34
  go_wp2_with fail
  go_loopw [12] (fun i wr => ∃ k : Nat, i = .int .i64 k ∧ k ≤ i0 ∧ Below w.heap.size w wr) (fun i _ => n - (intOf i).toNat)
  case atStart => exact ⟨0, rfl, Nat.zero_le _, Below.refl _ _⟩
  case round =>
    obtain ⟨k, rfl, hk, hr⟩ := hrel
    have g1 : decide ((k : Int) < (n : Int) - (m : Int) + 1) = true := by simp; omega
    obtain ⟨A', hA', hI'⟩ := (H1.out.keep hr (Nat.le_refl _)).mid (l := k) (m := k + m) (by omega) (by omega)
    rw [Nat.add_sub_cancel_left] at hI'
    have HI2 := Lib.hid (H2.out.keep hr (Nat.le_refl _))
    have hHI := Lib.hid hI'
    have q1 : (0 : Int) ≤ (k : Int) := by omega
    have q2 : (k : Int) ≤ (k : Int) + (m : Int) := by omega
    have q3 : (k : Int) + (m : Int) ≤ (c : Int) := by omega
    have HR := Lib.hid hr
    have hsub : (k : Int) + (m : Int) - (k : Int) = (m : Int) := by omega
    clear hr hI'
    go_wp2_with fail
    by_cases hd : (xs.take (k + m)).drop k = ys
    · refine (equal_c A' B m (c - k) m d _ ys _ hHI.out HI2.out (by omega)).mono ?_
      rintro e w2 hp
      obtain ⟨rfl, hb⟩ := hp.below
      rw [show decide ((xs.take (k + m)).drop k = ys) = true by simpa using hd]
      have HF := Lib.hid (HR.out.via hb)
      clear hp hb hd
      go_wp2_with fail
      go_ret
      exact ⟨rfl, HF.out⟩
    · refine (equal_c A' B m (c - k) m d _ ys _ hHI.out HI2.out (by omega)).mono ?_
      rintro e w2 hp
      obtain ⟨rfl, hb⟩ := hp.below
      rw [show decide ((xs.take (k + m)).drop k = ys) = false by simpa using hd]
      have HF := Lib.hid (HR.out.via hb)
      have hk2 : k + 1 ≤ i0 := by
        rcases Nat.lt_or_ge k i0 with h | h
        · exact h
        · exfalso; have : k = i0 := by omega
          subst this; exact hd HE.out
      clear hp hb hd
      go_wp2_with fail
      exact ⟨⟨k + 1, by go_num, hk2, HF.out⟩, by simp [intOf]; omega⟩
end Go.Proofs.Ytdccgeiniockpaa
