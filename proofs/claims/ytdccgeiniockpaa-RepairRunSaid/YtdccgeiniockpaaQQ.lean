/- RepairRun: the walk. -/
import Derived.Test.YtdccgeiniockpaaPP
namespace Go.Proofs.Ytdccgeiniockpaa
open Go.RowKit

theorem opsCost_bound {c0 c1 c2 : Int} (h0 : 0 ≤ c0) (h1 : 0 ≤ c1) (h2 : 0 ≤ c2) (k0 : c0 ≤ 100) (k1 : c1 ≤ 100) (k2 : c2 ≤ 100) : ∀ os : List OpV, 0 ≤ opsCost c0 c1 c2 os ∧ opsCost c0 c1 c2 os ≤ 100 * (os.length : Int)
  | [] => by simp [opsCost]
  | o :: os => by
    have := opsCost_bound h0 h1 h2 k0 k1 k2 os
    simp only [opsCost, List.length_cons]
    have h : 0 ≤ opCost c0 c1 c2 o ∧ opCost c0 c1 c2 o ≤ 100 := by unfold opCost; (repeat' split) <;> omega
    omega
theorem opsOne : OpsOk [4] [5] [(3, 0, 5)] := by
  have h : OpOk [4] [5] (iOf []) (jOf []) (3, 0, 5) := ⟨rfl, Or.inr (Or.inr (Or.inr ⟨rfl, by decide, rfl⟩))⟩
  have := (OpsOk.nil [4] [5]).snoc h
  simpa using this
theorem OpsOk.kind {xs ys : List Int} {os : List OpV} {k : Nat} {o : OpV} (h : OpsOk xs ys os) (ho : os[k]? = some o) : o.1 = 0 ∨ o.1 = 1 ∨ o.1 = 2 ∨ o.1 = 3 := by
  have := (h k o ho).2
  rcases this with h | h | h | h
  · exact Or.inl h.1
  · exact Or.inr (Or.inl h.1)
  · exact Or.inr (Or.inr (Or.inl h.1))
  · exact Or.inr (Or.inr (Or.inr h.1))
theorem Sl.oneOp {ok : Nat → Prop} {w : World} {b : Nat} {x : OpV} (h : Blk w b 55 #[.int .i64 x.1, .int .i64 x.2.1, .int .i64 x.2.2]) (hb : ok b) : Sl OpE ok w (some ⟨b, 0, none⟩) 1 1 [x] :=
  ⟨rfl, Nat.le_refl _, [x], rfl, Cel.ofBlk (cs := [.int .i64 x.1, .int .i64 x.2.1, .int .i64 x.2.2]) h hb, fun i r y hr hy => by
    cases i with
    | zero => simp at hr hy; subst hr; subst hy; rfl
    | succ i => simp at hr⟩

set_option maxRecDepth 100000 in
set_option maxHeartbeats 8000000 in
theorem repairRun_walk (A B C : Option Addr) (n c m d p e' : Nat) (l1 l2 l3 : List Int) (w : World) (h1 : Ints w A n c l1) (h2 : Ints w B m d l2) (h3 : Ints w C p e' l3) :
    Calls Try.prog 7 #[.slice A n c, .slice B m d, .slice C p e'] w fun e w' => e = .returned (.bool true) ∧ Below w.heap.size w w' := by
  go_enter Try.func7, Try.ntmps7
  go_wp2_with fail
  have hI0 := (Ints.one w 4 3).al (.cells #[.int .i64 3, .int .i64 0, .int .i64 5] 55)
  have hS0 : Sl OpE (fun _ => True) ((w.alloc (.cells #[.int .i64 4] 3)).alloc (.cells #[.int .i64 3, .int .i64 0, .int .i64 5] 55)) (some ⟨w.heap.size + 1, 0, none⟩) 1 1 [(3, 0, 5)] :=
    Sl.oneOp (by have := Blk.new (w.alloc (.cells #[.int .i64 4] 3)) 55 #[.int .i64 3, .int .i64 0, .int .i64 5]; rw [World.size_alloc] at this; exact this) trivial
  have hB := ((Below.refl w.heap.size w).al (.cells #[.int .i64 4] 3)).al (.cells #[.int .i64 3, .int .i64 0, .int .i64 5] 55)
  generalize (w.alloc (.cells #[.int .i64 4] 3)).alloc (.cells #[.int .i64 3, .int .i64 0, .int .i64 5] 55) = W0 at *
  refine (run_c _ _ _ 1 1 1 1 [4] [5] _ W0 hI0 hS0 opsOne (by decide) (by decide) (by omega) (by omega) (by decide)).mono ?_
  rintro e w1 ⟨A9, k9, c9, rfl, hI9, hb⟩
  replace hB := hB.via hb
  clear hb hI0 hS0
  have hk9 : k9 = 1 := by have := hI9.len; simpa using this.symm
  subst hk9
  have HB := Lib.hid (hB.al (.cells #[.int .i64 5] 3))
  have hI9' := hI9.al (.cells #[.int .i64 5] 3)
  clear hI9 hB
  go_wp2_with fail
  have hone := Ints.one w1 5 3
  refine (equal_yes A9 _ 1 c9 1 1 [5] [5] _ hI9' hone (by omega) rfl).mono ?_
  rintro e w2 ⟨rfl, hb⟩
  have HB2 := Lib.hid (HB.out.via hb)
  clear hb HB hI9' hone
  go_wp2_with fail
  refine (word_c 3 30 A n c l1 w2 (h1.keep HB2.out (Nat.le_refl _)) (by omega) (by omega) (by omega)).mono ?_
  rintro e w3 ⟨v1, k1, rfl, ho1, hb⟩
  obtain ⟨A1, cc1, rfl, -⟩ := ho1.form
  have hX := ho1.toInts
  have HB3 := Lib.hid (HB2.out.via hb)
  clear hb HB2 ho1
  go_wp2_with fail
  refine (word_c 3 30 B m d l2 w3 (h2.keep HB3.out (Nat.le_refl _)) (by omega) (by omega) (by omega)).mono ?_
  rintro e w4 ⟨v2, k2, rfl, ho2, hb⟩
  obtain ⟨A2, cc2, rfl, -⟩ := ho2.form
  have hY := ho2.toInts
  replace hX := hX.via hb
  have HB4 := Lib.hid (HB3.out.via hb)
  have hk1 : k1 ≤ 200 := by have := hX.len; have := wordI_len 3 30 l1; omega
  have hk2 : k2 ≤ 200 := by have := hY.len; have := wordI_len 3 30 l2; omega
  clear hb HB3 ho2
  generalize wordI 3 30 l1 = xs at *
  generalize wordI 3 30 l2 = ys at *
  have HX := Lib.hid hX
  have HY := Lib.hid hY
  clear hX hY
  go_wp2_with fail
  refine (price_c C p e' l3 w4 (h3.keep HB4.out (Nat.le_refl _))).mono ?_
  rintro e w5 ⟨c0, c1, c2, rfl, p0, q0, p1, q1, p2, q2, hb⟩
  have HX5 := Lib.hid ((HX.out.via hb).al (.cells #[.int .i64 c0, .int .i64 c1, .int .i64 c2] 57))
  have HY5 := Lib.hid ((HY.out.via hb).al (.cells #[.int .i64 c0, .int .i64 c1, .int .i64 c2] 57))
  have HB5 := Lib.hid ((HB4.out.via hb).al (.cells #[.int .i64 c0, .int .i64 c1, .int .i64 c2] 57))
  have Bc := Blk.new w5 57 #[.int .i64 c0, .int .i64 c1, .int .i64 c2]
  clear hb HX HY HB4 h1 h2 h3
  go_wp2_with fail
  generalize hW : w5.alloc (.cells #[.int .i64 c0, .int .i64 c1, .int .i64 c2] 57) = W5 at *
  clear hW
  refine (align_c A1 A2 k1 cc1 k2 cc2 xs ys c0 c1 c2 W5 HX5.out HY5.out hk1 hk2 p0 (by omega) p1 (by omega) p2 (by omega)).mono ?_
  rintro e w6 ⟨A6, k6, c6, os, rfl, hS, hok, hi, hj, hcost, hk6, hb⟩
  have HX6 := Lib.hid (HX5.out.via hb)
  have HY6 := Lib.hid (HY5.out.via hb)
  have HB6 := Lib.hid (HB5.out.via hb)
  replace Bc := Bc.via hb
  have HS := Lib.hid hS
  have HOK := Lib.hid hok
  have HI := Lib.hid (hi.trans HX5.out.len)
  have HJ := Lib.hid hj
  have HC := Lib.hid hcost
  clear hb hS hok hi hj hcost HX5 HY5 HB5
  generalize dpV c0 c1 (gR c0 c1 c2) xs ys 0 0 = N at *
  go_wp2_with fail
  refine (run_c _ _ _ k1 cc1 k6 c6 xs ys os w6 HX6.out HS.out HOK.out HI.out HJ.out (by omega) (by omega) (by have := HY6.out.len; omega)).mono ?_
  rintro e w7 ⟨A7, k7, c7, rfl, hI7, hb⟩
  have HY7 := Lib.hid (HY6.out.via hb)
  have HB7 := Lib.hid (HB6.out.via hb)
  have HS7 := Lib.hid (HS.out.via hb)
  replace Bc := Bc.via hb
  have HI7 := Lib.hid hI7
  clear hb hI7 HX6 HY6 HB6 HS
  go_wp2_with fail
  go_loopw [15, 55] (fun s kk wr => ∃ k : Nat, kk = .int .i64 k ∧ k ≤ k6 ∧ s = .int .i64 (opsCost c0 c1 c2 (os.take k)) ∧ Below w7.heap.size w7 wr) (fun _ kk _ => k6 - (intOf kk).toNat)
  case atStart => exact ⟨0, rfl, Nat.zero_le _, rfl, Below.refl _ _⟩
  case round =>
    obtain ⟨k, rfl, hk, rfl, hr⟩ := hrel
    have hcb := opsCost_bound (c0 := c0) (c1 := c1) (c2 := c2) (by omega) (by omega) (by omega) (by omega) (by omega) (by omega) (os.take k)
    have hlk : (os.take k).length ≤ k := List.length_take_le _ _
    by_cases hlt : k < k6
    · obtain ⟨bo, oo, raw, o, rfl, -, hbo, ho, hrel, hc⟩ := HS7.out.at_ hlt
      have hrel' : raw = o := hrel
      subst hrel'
      have hkd := HOK.out.kind ho
      obtain ⟨kd, at_, tm⟩ := raw
      have z0 := (hr.cell (p := ⟨bo, oo + k * 3, none⟩) hbo).trans (hc 0 _ rfl)
      have z1 := (hr.cell (p := ⟨bo, oo + k * 3 + 1, none⟩) hbo).trans (hc 1 _ rfl)
      have z2 := (hr.cell (p := ⟨bo, oo + k * 3 + 2, none⟩) hbo).trans (hc 2 _ rfl)
      simp only at z0 z1 z2 hkd
      have i0 : (0 : Int) ≤ (k : Int) := by omega
      have i1 : (k : Int) < (k6 : Int) := by omega
      have Bo := Blk.new wr 55 #[.int .i64 kd, .int .i64 at_, .int .i64 tm]
      have Bcr := (Bc.via hr).al (.cells #[.int .i64 kd, .int .i64 at_, .int .i64 tm] 55)
      have HR := Lib.hid (hr.al (.cells #[.int .i64 kd, .int .i64 at_, .int .i64 tm] 55))
      have hst : opsCost c0 c1 c2 (os.take (k + 1)) = opsCost c0 c1 c2 (os.take k) + opCost c0 c1 c2 (kd, at_, tm) := by
        rw [take_at ho, opsCost_append]; simp [opsCost]
      have HST := Lib.hid hst
      clear hst hrel ho hc hbo hr
      generalize opsCost c0 c1 c2 (os.take k) = S at *
      rcases hkd with rfl | rfl | rfl | rfl
      · have cBo := Bo.cell
        have fBo := Bo.frozen
        have lBo := Bo.lt
        have cBcr := Bcr.cell
        have fBcr := Bcr.frozen
        have lBcr := Bcr.lt
        go_wp2_with fail
        exact ⟨⟨k + 1, by go_num, by omega, by rw [HST.out]; simp [opCost], HR.out⟩, by simp [intOf]; omega⟩
      all_goals
        have cBo := Bo.cell
        have fBo := Bo.frozen
        have cBc := Bcr.cell
        have fBc := Bcr.frozen
        go_wp2_with fail
        exact ⟨⟨k + 1, by go_num, by omega, by rw [HST.out]; simp [opCost], HR.out⟩, by simp [intOf]; omega⟩
    · have hfin : opsCost c0 c1 c2 (os.take k) = N := by rw [List.take_of_length_le (by rw [HS7.out.len]; omega)]; exact HC.out
      rw [hfin] at hcb ⊢
      have hN : (N == N) = true := by simp
      have HR := Lib.hid (HB7.out.via hr)
      have HI8 := Lib.hid (HI7.out.via hr)
      have HY8 := Lib.hid (HY7.out.via hr)
      have hl8 := HI7.out.len
      have hl9 := HY7.out.len
      clear hfin hr
      go_wp2_with fail
      refine (equal_yes A7 A2 k7 c7 k2 cc2 ys ys _ HI8.out HY8.out (by omega) rfl).mono ?_
      rintro e w8 ⟨rfl, hb⟩
      have HF := Lib.hid (HR.out.via hb)
      clear hb hl8 hl9
      go_wp2_with fail
      go_ret
      exact ⟨rfl, HF.out⟩
end Go.Proofs.Ytdccgeiniockpaa
