/- leaves, Leaf: the walks. -/
import Derived.Test.YtdccgeiniockpaaHH
namespace Go.Proofs.Ytdccgeiniockpaa
open Go.RowKit

set_option maxRecDepth 100000 in
set_option maxHeartbeats 1000000 in
theorem leaves_c (ok : Nat → Prop) (v : TrV) (t : Tr) (w : World) (h : TreeR ok w v t) (hM : t.size ≤ 1000000) :
    Calls Try.prog 60 #[trVal v] w (IntB w t.wds.length) := by
  obtain ⟨a, b, A, n, c⟩ := v
  have hT := h.al (.cells #[.int .i64 a, .int .i64 b, .slice A n c] 36)
  have HT := Lib.hid hT
  have hB := (Below.refl w.heap.size w).al (.cells #[.int .i64 a, .int .i64 b, .slice A n c] 36)
  clear h hT
  simp only [trVal]
  go_enter Try.func60, Try.ntmps60
  go_wp2_with fail
  generalize w.alloc (.cells #[.int .i64 a, .int .i64 b, .slice A n c] 36) = W at *
  refine (word_t ok (a, b, A, n, c) t W HT.out hM).mono ?_
  rintro e w2 ⟨A2, n2, c2, rfl, ho, hb⟩
  have hl := Lib.hid ho.toInts.len
  have HF := Lib.hid (hB.trans (hb.mono hB.size))
  clear ho hb hB
  go_wp2_with fail
  go_ret
  refine ⟨?_, HF.out⟩
  rw [show t.wds.length = n2 from hl.out]
  rfl

/-- on the way down from t: the subtree x at the path q, in the box of the first parameter; the path in a row -/
structure GoR (w : World) (t : Tr) (q : List Nat) (v : Value) (x : Tr) (raw : TrV) (wr : World) : Prop where
  b0 : Blk wr w.heap.size 36 #[.int .i64 raw.1, .int .i64 raw.2.1, .slice raw.2.2.1 raw.2.2.2.1 raw.2.2.2.2]
  own : OwnI wr (w.heap.size + 1) v q.length (q.map fun i : Nat => (i : Int))
  tree : TreeR (fun b => b < w.heap.size) wr raw x
  bel : Below w.heap.size w wr
  size : w.heap.size + 1 ≤ wr.heap.size
  path : t.at? q = some x
  sum : x.size + q.length ≤ t.size
theorem GoR.via {w wr wa : World} {t x : Tr} {q : List Nat} {v : Value} {raw : TrV} (h : GoR w t q v x raw wr) (hb : Below wr.heap.size wr wa) : GoR w t q v x raw wa :=
  ⟨h.b0.via hb, OwnI.keep h.own hb (Nat.le_refl _), h.tree.via hb, h.bel.via hb, Nat.le_trans h.size hb.size, h.path, h.sum⟩
theorem GoR.al {w wr : World} {t x : Tr} {q : List Nat} {v : Value} {raw : TrV} (h : GoR w t q v x raw wr) (o : Obj) : GoR w t q v x raw (wr.alloc o) := h.via ((Below.refl wr.heap.size wr).alloc (Nat.le_refl _) o)
theorem GoR.push {w wr w1 : World} {t x y : Tr} {q : List Nat} {g : Nat} {v v' : Value} {raw r2 : TrV} (h : GoR w t q v x raw wr)
    (ho : OwnI w1 (w.heap.size + 1) v' (q.length + 1) (q.map (fun i : Nat => (i : Int)) ++ [(g : Int)])) (hg : wr.grownBy w1 v.ownBlock) (hy : x.kids[g]? = some y) (hty : TreeR (fun b => b < w.heap.size) wr r2 y) :
    GoR w t (q ++ [g]) v' y r2 (((w1.setCell ⟨w.heap.size, 0, none⟩ (.int .i64 r2.1)).setCell ⟨w.heap.size, 1, none⟩ (.int .i64 r2.2.1)).setCell ⟨w.heap.size, 2, none⟩ (.slice r2.2.2.1 r2.2.2.2.1 r2.2.2.2.2)) := by
  have hne : ∀ j, j < w.heap.size + 1 → some j ≠ v.ownBlock := fun j hj e => by have := (h.own.lt j e.symm).1; omega
  have hsz := h.size
  refine ⟨?_, ?_, ?_, ?_, ?_, ?_, ?_⟩
  · have := (((h.b0.grown hg (hne _ (by omega))).set_ 0 (.int .i64 r2.1)).set_ 1 (.int .i64 r2.2.1)).set_ 2 (.slice r2.2.2.1 r2.2.2.2.1 r2.2.2.2.2)
    simpa using this
  · rw [List.map_append, List.length_append]
    exact ((OwnI.setCell ho (by simp) _).setCell (by simp) _).setCell (by simp) _
  · refine (hty.agr (Agr.grown hg fun b hb => hne b (by omega))).set3 (fun b hb => by omega) _ _ _
  · exact below_set3 (h.bel.grown hg h.bel.size fun k hk => by have := (h.own.lt k hk).1; omega) (Nat.le_refl _) _ _ _
  · have := hg.size; simp; omega
  · rw [Tr.at_append, h.path, Option.bind_some, Tr.at_one]; exact hy
  · have h1 := Tr.size_kid (List.mem_of_getElem? hy)
    have h2 := h.sum
    simp only [List.length_append, List.length_singleton]; omega

def LeafP (w : World) (t : Tr) (n : Nat) (e : Ending) (w' : World) : Prop :=
  ∃ A k c, e = .returned (.tuple #[.slice A k c, .int .i64 0]) ∧ Ints w' A k c ((t.leafQ n).map fun i : Nat => (i : Int)) ∧ Below w.heap.size w w'

set_option maxRecDepth 100000 in
set_option maxHeartbeats 4000000 in
theorem leaf_c (ok : Nat → Prop) (v : TrV) (t : Tr) (w : World) (h : TreeR ok w v t) (hM : t.size ≤ 1000000) (n : Nat) (hn : n < t.wds.length) :
    Calls Try.prog 30 #[trVal v, .int .i64 (n : Int)] w (LeafP w t n) := by
  obtain ⟨ra, rb, rA, rn, rc⟩ := v
  have hT := ((h.mono (ok' := fun b => b < w.heap.size) fun b hb _ => hb).al (.cells #[.int .i64 ra, .int .i64 rb, .slice rA rn rc] 36))
  have B0 := Blk.new w 36 #[.int .i64 ra, .int .i64 rb, .slice rA rn rc]
  have hB := (Below.refl w.heap.size w).al (.cells #[.int .i64 ra, .int .i64 rb, .slice rA rn rc] 36)
  have hR : GoR w t [] (.slice none 0 0) t (ra, rb, rA, rn, rc) _ := ⟨B0, OwnI.nil _ _, hT, hB, by simp, rfl, by simp⟩
  have HR := Lib.hid hR
  have hwl := t.wds_len
  clear h hT B0 hB hR
  simp only [trVal]
  go_enter Try.func30, Try.ntmps30
  go_wp2_with fail
  generalize w.alloc (.cells #[.int .i64 ra, .int .i64 rb, .slice rA rn rc] 36) = W at *
  refine (leaves_c _ (ra, rb, rA, rn, rc) t W HR.out.tree hM).mono ?_
  rintro e w1 ⟨rfl, hb⟩
  have HR1 := Lib.hid (HR.out.via hb)
  clear HR hb
  have k0 : decide (t.wds.length ≤ n) = false := by simp; omega
  go_wp2_with fail
  clear k0
  go_loopw [1, 6] (fun i v wr => ∃ (k : Nat) (q : List Nat) (x : Tr) (raw : TrV), i = .int .i64 k ∧ GoR w t q v x raw wr ∧ k < x.wds.length ∧ Hid (q ++ x.leafQ k = t.leafQ n)) (fun _ v _ => t.size - lenOf v)
  case atStart => exact ⟨n, [], t, _, rfl, HR1.out, hn, Lib.hid (List.nil_append _)⟩
  case round =>
    obtain ⟨k, q, x, raw, rfl, hr, hk, HE⟩ := hrel
    clear HR1
    obtain ⟨Av, cv, rfl, -⟩ := hr.own.form
    obtain ⟨ra2, rb2, rA2, rn2, rc2⟩ := raw
    obtain ⟨t1, t2, t3⟩ := hr.tree.parts
    simp only at t1 t2 t3
    have hlen := Lib.hid t3.len
    have hsum := hr.sum
    have hszr := hr.size
    have B0 := hr.b0
    simp only at B0
    have HR := Lib.hid hr
    have hxl := x.wds_len
    have hkl := x.kids_len
    clear hr t3
    cases x with
    | leaf a =>
      have e1 : ra2 = -1 := t1
      subst e1
      clear t1 t2
      have HE2 := Lib.hid (show q = t.leafQ n by have := HE.out; simpa [Tr.leafQ] using this)
      have cB0 := B0.cell
      have fB0 := B0.frozen
      have lB0 := B0.lt
      go_wp2_with fail
      go_ret2
      refine ⟨Av, _, cv, rfl, ?_, HR.out.bel⟩
      rw [← HE2.out]
      exact HR.out.own.toInts
    | node r ks =>
      have e1 : ra2 = (r : Int) := t1
      subst e1
      have d1 : ((r : Int) != -1) = true := by rw [bne_iff_ne]; omega
      clear t1 t2
      simp only [Tr.kids] at hlen hkl
      rw [hlen.out] at hkl
      have cB0 := B0.cell
      have fB0 := B0.frozen
      have lB0 := B0.lt
      go_wp2_with fail
      clear cB0 fB0 lB0
      obtain ⟨wo, rfl⟩ : ∃ wo : World, wo = wr := ⟨_, rfl⟩
      have HK := Lib.hid hk
      clear hk B0
      go_loopw [1, 6, 24] (fun i v ii wr => ∃ (j k : Nat), i = .int .i64 k ∧ v = .slice Av q.length cv ∧ ii = .int .i64 j ∧ j ≤ rn2 ∧ GoR w t q (.slice Av q.length cv) (.node r ks) ((r : Int), rb2, rA2, rn2, rc2) wr ∧ Hid (k < (wdsL (ks.drop j)).length) ∧ Hid (q ++ Tr.leafQs (ks.drop j) j k = t.leafQ n) ∧ k ≤ 1000000) (fun _ _ ii _ => rn2 - (intOf ii).toNat)
      case atStart => exact ⟨0, k, rfl, rfl, rfl, Nat.zero_le _, HR.out, Lib.hid (by have := HK.out; rwa [Tr.wds_node] at this), Lib.hid HE.out, by have := HK.out; omega⟩
      case round =>
        obtain ⟨j, k2, rfl, rfl, rfl, hj, hr, HK2, HE2, hk2⟩ := hrel
        by_cases hlt : j < rn2
        · obtain ⟨bk, ok2, xk, y, rfl, hob, hbk, hy, hxy, hc⟩ := hr.tree.kids.2.2.at_ hlt
          have hxy' : TreeR (fun b => b < w.heap.size) wr xk y := hxy
          have c0 := hc 0 _ rfl
          have c1 := hc 1 _ rfl
          have c2 := hc 2 _ rfl
          obtain ⟨xa, xb, xA, xn, xc⟩ := xk
          simp only [TrE, Nat.add_zero] at c0 c1 c2
          have j0 : (0 : Int) ≤ (j : Int) := by omega
          have j1 : (j : Int) < (rn2 : Int) := by omega
          have HR2 := Lib.hid (hr.al (.cells #[.int .i64 xa, .int .i64 xb, .slice xA xn xc] 36))
          have HX := Lib.hid (hxy'.al (.cells #[.int .i64 xa, .int .i64 xb, .slice xA xn xc] 36))
          have Bk := Blk.new wr 36 #[.int .i64 xa, .int .i64 xb, .slice xA xn xc]
          have HY := Lib.hid hy
          have hys := Tr.size_kid (t := .node r ks) (List.mem_of_getElem? hy)
          have hyw := y.wds_len
          have hszw := hr.size
          have hneb : some wr.heap.size ≠ Value.ownBlock (.slice Av q.length cv) := fun e => by have := (hr.own.lt _ e.symm).2; omega
          have hne0 : some w.heap.size ≠ Value.ownBlock (.slice Av q.length cv) := fun e => by have := (hr.own.lt _ e.symm).1; omega
          clear hr hxy hxy' hc hy
          go_wp2_with fail
          clear c0 c1 c2
          generalize hW : wr.alloc (.cells #[.int .i64 xa, .int .i64 xb, .slice xA xn xc] 36) = W2 at *
          clear hW
          refine (leaves_c _ (xa, xb, xA, xn, xc) y W2 HX.out (by omega)).mono ?_
          rintro e w3 ⟨rfl, hb⟩
          have HR3 := Lib.hid (HR2.out.via hb)
          have HX3 := Lib.hid (HX.out.via hb)
          replace Bk := Bk.via hb
          have hstep := Tr.leafQ_step (i := j) (n := k2) HY.out
          clear HR2 HX hb
          by_cases hkm : k2 < y.wds.length
          · rw [if_pos hkm] at hstep
            have HS := Lib.hid hstep
            have hown := HR3.out.own
            have HO := Lib.hid hown
            have hs3 := HR3.out.size
            have B0 := HR3.out.b0
            simp only at B0
            clear hstep hown
            have hq : q.length + 1 ≤ 17592186044416 := by omega
            have cBk := Bk.cell
            have fBk := Bk.frozen
            have lBk := Bk.lt
            have cB0 := B0.cell
            have fB0 := B0.frozen
            have lB0 := B0.lt
            go_wp2_with (at_builtin; refine wpList_append_ints _ rfl (.tmp 34) (.tmp 36) rfl (w.heap.size + 1) (.slice Av q.length cv) q.length _ rfl (HO.out.alloc _) (some ⟨w3.heap.size, 0, none⟩) 1 1 [(j : Int)] rfl (Ints.one _ _ _) hq (by simp; omega) ?_; intro Av1 cv1 w4 ho1 hg1 hat1; have Bkg := (Bk.al (.cells #[.int .i64 (j : Int)] 3)).grown hg1 hneb; have B0g := (B0.al (.cells #[.int .i64 (j : Int)] 3)).grown hg1 hne0; have ckg := Bkg.cell; have fkg := Bkg.frozen; have c0g := B0g.cell; have f0g := B0g.frozen)
            have HQ := Lib.hid (GoR.push (r2 := (xa, xb, xA, xn, xc)) (HR3.out.al (.cells #[.int .i64 (j : Int)] 3)) ho1 hg1 HY.out (HX3.out.al _))
            have HE3 := Lib.hid (show (q ++ [j]) ++ y.leafQ k2 = t.leafQ n by rw [← HE2.out, HS.out, List.append_assoc]; rfl)
            refine ⟨⟨k2, q ++ [j], y, _, rfl, HQ.out, hkm, HE3⟩, ?_⟩
            simp only [lenOf]; have h1 := HQ.out.sum; simp only [List.length_append, List.length_singleton] at h1; have := y.size_pos; omega
          · rw [if_neg hkm] at hstep
            have HS := Lib.hid hstep
            have hd := Lib.hid (show wdsL (ks.drop j) = y.wds ++ wdsL (ks.drop (j + 1)) by have hl := List.getElem?_eq_some_iff.1 HY.out; rw [List.drop_eq_getElem_cons hl.1, hl.2, wdsL_cons])
            have k1 : decide ((k2 : Int) < (y.wds.length : Int)) = false := by simp; omega
            have hsub : (k2 : Int) - (y.wds.length : Int) = ((k2 - y.wds.length : Nat) : Int) := by omega
            have hle2 : k2 - y.wds.length ≤ 1000000 := by omega
            have HK3 := Lib.hid (show k2 - y.wds.length < (wdsL (ks.drop (j + 1))).length by have := HK2.out; rw [hd.out, List.length_append] at this; omega)
            have HE3 := Lib.hid (show q ++ Tr.leafQs (ks.drop (j + 1)) (j + 1) (k2 - y.wds.length) = t.leafQ n by rw [← HE2.out, HS.out])
            clear hstep
            generalize k2 - y.wds.length = k3 at *
            go_wp2_with fail
            exact ⟨⟨j + 1, k3, rfl, rfl, by go_num, by omega, HR3.out, HK3, HE3, hle2⟩, by simp [intOf]; omega⟩
        · exfalso
          have := HK2.out
          have hl := hlen.out
          rw [List.drop_of_length_le (by omega)] at this
          simp [wdsL] at this
end Go.Proofs.Ytdccgeiniockpaa
