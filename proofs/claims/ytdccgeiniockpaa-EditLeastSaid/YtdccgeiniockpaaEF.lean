/- EditLeast: the walk. -/
import Derived.Test.YtdccgeiniockpaaED
namespace Go.Proofs.Ytdccgeiniockpaa
open Go.RowKit

theorem max6 (ty : TypeId) (w : World) : (Builtin.max_ #[25, 25, 25, 25, 25, 25] ty #[.int .i64 0, .int .i64 0, .int .i64 0, .int .i64 0, .int .i64 0, .int .i64 0]).run Try.prog w = .ok (.int .i64 0) w := by kernel_rfl
theorem cst_bound : ∀ l : List EdV, (∀ e ∈ l, e.1 ≤ e.2.1 ∧ e.2.1 ≤ 2000 ∧ e.2.2.length ≤ 2000) → 0 ≤ cst l ∧ cst l ≤ 4000 * (l.length : Int)
  | [], _ => by simp [cst]
  | e :: l, h => by
    have h1 := cst_bound l fun x hx => h x (List.mem_cons_of_mem _ hx)
    obtain ⟨k1, k2, k3⟩ := h e (List.mem_cons_self ..)
    simp only [cst, List.length_cons]
    omega
theorem EdsOk.mem {xs : List Int} {l : List EdV} (h : EdsOk xs l) (hx : xs.length ≤ 2000) (k : Nat) : ∀ e ∈ l.take k, e.1 ≤ e.2.1 ∧ e.2.1 ≤ 2000 ∧ e.2.2.length ≤ 2000 := fun e he => by
  obtain ⟨i, hi⟩ := List.mem_iff_getElem?.1 (List.mem_of_mem_take he)
  have := h.le i e hi
  have := h.new i e hi
  omega
theorem take_at2 {α : Type} {l : List α} {k : Nat} {x : α} (h : l[k]? = some x) : l.take (k + 1) = l.take k ++ [x] := by
  have hl := List.getElem?_eq_some_iff.1 h
  rw [List.take_succ_eq_append_getElem hl.1, hl.2]
theorem dE12 : dE [1] [2] = 2 := by decide

set_option maxRecDepth 100000 in
set_option maxHeartbeats 8000000 in
theorem editLeast_walk (A B C : Option Addr) (n c m d p e' : Nat) (l1 l2 l3 : List Int) (w : World) (h1 : Ints w A n c l1) (h2 : Ints w B m d l2) (h3 : Ints w C p e' l3) :
    Calls Try.prog 10 #[.slice A n c, .slice B m d, .slice C p e'] w fun e w' => e = .returned (.bool true) ∧ Below w.heap.size w w' := by
  have hmax := max6
  go_enter Try.func10, Try.ntmps10
  go_wp2_with fail
  have hI0 := (Ints.one w 1 3).al (.cells #[.int .i64 2] 3)
  have hI1 := Ints.one (w.alloc (.cells #[.int .i64 1] 3)) 2 3
  rw [World.size_alloc] at hI1
  have hB := ((Below.refl w.heap.size w).al (.cells #[.int .i64 1] 3)).al (.cells #[.int .i64 2] 3)
  generalize (w.alloc (.cells #[.int .i64 1] 3)).alloc (.cells #[.int .i64 2] 3) = W0 at *
  refine (distance_c _ _ 1 1 1 1 [1] [2] W0 hI0 hI1 (by omega) (by omega)).mono ?_
  rintro e w2 ⟨he, hb⟩
  rw [dE12] at he
  subst he
  have HB2 := Lib.hid (hB.via hb)
  clear hb hI0 hI1 hB
  go_wp2_with fail
  refine (word_c 3 30 A n c l1 w2 (h1.keep HB2.out (Nat.le_refl _)) (by omega) (by omega) (by omega)).mono ?_
  rintro e w3 ⟨v1, k1, rfl, ho1, hb⟩
  obtain ⟨A1, cc1, rfl, -⟩ := ho1.form
  have hX := ho1.toInts
  have HB3 := Lib.hid (HB2.out.via hb)
  clear hb HB2 ho1
  go_wp2_with fail
  refine (word_c 3 30 B m d l2 w3 (h2.keep HB3.out (Nat.le_refl _)) (by omega) (by omega) (by omega)).mono ?_
  rintro e w4 ⟨v2, k2, rfl, ho2, hb⟩
  obtain ⟨A2, cc2, rfl, -⟩ := ho2.form
  have hY := ho2.toInts
  replace hX := hX.via hb
  have HB4 := Lib.hid (HB3.out.via hb)
  clear hb HB3 ho2
  go_wp2_with fail
  refine (word_c 3 30 C p e' l3 w4 (h3.keep HB4.out (Nat.le_refl _)) (by omega) (by omega) (by omega)).mono ?_
  rintro e w5 ⟨v3, k3, rfl, ho3, hb⟩
  obtain ⟨A3, cc3, rfl, -⟩ := ho3.form
  have hZ := ho3.toInts
  replace hX := hX.via hb
  replace hY := hY.via hb
  have HB5 := Lib.hid (HB4.out.via hb)
  have hk1 : k1 ≤ 200 := by have := hX.len; have := wordI_len 3 30 l1; omega
  have hk2 : k2 ≤ 200 := by have := hY.len; have := wordI_len 3 30 l2; omega
  have hk3 : k3 ≤ 200 := by have := hZ.len; have := wordI_len 3 30 l3; omega
  clear hb HB4 ho3 h1 h2 h3
  generalize wordI 3 30 l1 = xs at *
  generalize wordI 3 30 l2 = ys at *
  generalize wordI 3 30 l3 = zs at *
  have HX := Lib.hid hX
  have HY := Lib.hid hY
  have HZ := Lib.hid hZ
  clear hX hY hZ
  go_wp2_with fail
  refine (script_c A1 A2 k1 cc1 k2 cc2 xs ys w5 HX.out HY.out hk1 hk2).mono ?_
  rintro e w6 ⟨A6, k6, c6, l, rfl, hS, hok, hrun, hcst, hk6, hb⟩
  have HX6 := Lib.hid (HX.out.via hb)
  have HY6 := Lib.hid (HY.out.via hb)
  have HZ6 := Lib.hid (HZ.out.via hb)
  have HB6 := Lib.hid (HB5.out.via hb)
  have HS := Lib.hid hS
  have HOK := Lib.hid hok
  have HRUN := Lib.hid hrun
  have HC := Lib.hid hcst
  clear hb hS hok hrun hcst HX HY HZ HB5
  go_wp2_with fail
  refine (runE_c _ _ _ k1 cc1 k6 c6 xs l w6 HX6.out HS.out HOK.out (by omega) (by omega)).mono ?_
  rintro e w7 ⟨A7, k7, c7, rfl, hI7, hb⟩
  rw [HRUN.out] at hI7
  have HX7 := Lib.hid (HX6.out.via hb)
  have HY7 := Lib.hid (HY6.out.via hb)
  have HZ7 := Lib.hid (HZ6.out.via hb)
  have HB7 := Lib.hid (HB6.out.via hb)
  have HS7 := Lib.hid (HS.out.via hb)
  have HI7 := Lib.hid hI7
  clear hb hI7 HX6 HY6 HZ6 HB6 HS
  go_wp2_with fail
  refine (distance_c _ _ k1 cc1 k2 cc2 xs ys w7 HX7.out HY7.out hk1 hk2).mono ?_
  rintro e w8 ⟨rfl, hb⟩
  have HX8 := Lib.hid (HX7.out.via hb)
  have HY8 := Lib.hid (HY7.out.via hb)
  have HZ8 := Lib.hid (HZ7.out.via hb)
  have HB8 := Lib.hid (HB7.out.via hb)
  have HS8 := Lib.hid (HS7.out.via hb)
  have HI8 := Lib.hid (HI7.out.via hb)
  clear hb HX7 HY7 HZ7 HB7 HS7 HI7
  go_wp2_with fail
  refine (distance_c _ _ k2 cc2 k1 cc1 ys xs w8 HY8.out HX8.out hk2 hk1).mono ?_
  rintro e w9 ⟨rfl, hb⟩
  have HX9 := Lib.hid (HX8.out.via hb)
  have HY9 := Lib.hid (HY8.out.via hb)
  have HZ9 := Lib.hid (HZ8.out.via hb)
  have HB9 := Lib.hid (HB8.out.via hb)
  have HS9 := Lib.hid (HS8.out.via hb)
  have HI9 := Lib.hid (HI8.out.via hb)
  clear hb HX8 HY8 HZ8 HB8 HS8 HI8
  go_wp2_with fail
  refine (distance_c _ _ k2 cc2 k3 cc3 ys zs w9 HY9.out HZ9.out hk2 hk3).mono ?_
  rintro e w10 ⟨rfl, hb⟩
  have HX10 := Lib.hid (HX9.out.via hb)
  have HY10 := Lib.hid (HY9.out.via hb)
  have HZ10 := Lib.hid (HZ9.out.via hb)
  have HB10 := Lib.hid (HB9.out.via hb)
  have HS10 := Lib.hid (HS9.out.via hb)
  have HI10 := Lib.hid (HI9.out.via hb)
  clear hb HX9 HY9 HZ9 HB9 HS9 HI9
  go_wp2_with fail
  refine (distance_c _ _ k1 cc1 k3 cc3 xs zs w10 HX10.out HZ10.out hk1 hk3).mono ?_
  rintro e w11 ⟨rfl, hb⟩
  have HX11 := Lib.hid (HX10.out.via hb)
  have HY11 := Lib.hid (HY10.out.via hb)
  have HB11 := Lib.hid (HB10.out.via hb)
  have HS11 := Lib.hid (HS10.out.via hb)
  have HI11 := Lib.hid (HI10.out.via hb)
  have hlz := HZ10.out.len
  clear hb HX10 HY10 HZ10 HB10 HS10 HI10
  have q1 := Lib.hid (dE_symm xs ys)
  have q2 := dE_triangle xs ys zs
  have q3 := (dpV_bound (g := gE) (xs := xs) (ys := ys) gE_least (by omega) (by omega) 0 0)
  have q4 := (dpV_bound (g := gE) (xs := ys) (ys := zs) gE_least (by omega) (by omega) 0 0)
  have q5 := (dpV_bound (g := gE) (xs := xs) (ys := zs) gE_least (by omega) (by omega) 0 0)
  have s1 : dpV 1 1 gE xs ys 0 0 = dE xs ys := rfl
  have s2 : dpV 1 1 gE ys zs 0 0 = dE ys zs := rfl
  have s3 : dpV 1 1 gE xs zs 0 0 = dE xs zs := rfl
  rw [s1, HX11.out.len, HY11.out.len] at q3
  rw [s2, HY11.out.len, hlz] at q4
  rw [s3, HX11.out.len, hlz] at q5
  rw [dE_symm ys xs]
  have HTR := Lib.hid q2
  clear s1 s2 s3 hlz q1 q2
  go_wp2_with fail
  go_loopw [21, 82] (fun s kk wr => ∃ k : Nat, kk = .int .i64 k ∧ k ≤ k6 ∧ s = .int .i64 (cst (l.take k)) ∧ Below w11.heap.size w11 wr) (fun _ kk _ => k6 - (intOf kk).toNat)
  case atStart => exact ⟨0, rfl, Nat.zero_le _, rfl, Below.refl _ _⟩
  case round =>
    obtain ⟨k, rfl, hk, rfl, hr⟩ := hrel
    have hcb := cst_bound (l.take k) (HOK.out.mem (by rw [HX11.out.len]; omega) k)
    have hlk : (l.take k).length ≤ k := List.length_take_le _ _
    by_cases hlt : k < k6
    · obtain ⟨be, oe, raw, e, rfl, -, hbe, he, hrel, hc⟩ := HS11.out.at_ hlt
      obtain ⟨f, g, D, q, r⟩ := raw
      obtain ⟨f', g', ns⟩ := e
      obtain ⟨e1, e2, hD⟩ := hrel
      simp only at e1 e2 hD
      subst e1 e2
      have hq := hD.len
      have z0 := (hr.cell (p := ⟨be, oe + k * 3, none⟩) hbe).trans (hc 0 _ rfl)
      have z1 := (hr.cell (p := ⟨be, oe + k * 3 + 1, none⟩) hbe).trans (hc 1 _ rfl)
      have z2 := (hr.cell (p := ⟨be, oe + k * 3 + 2, none⟩) hbe).trans (hc 2 _ rfl)
      simp only at z0 z1 z2
      have i0 : (0 : Int) ≤ (k : Int) := by omega
      have i1 : (k : Int) < (k6 : Int) := by omega
      have hle := HOK.out.le k _ he
      have hne := HOK.out.new k _ he
      simp only at hle hne
      rw [HX11.out.len] at hle
      have hf1 : f ≤ g := hle.1
      have hf2 : g ≤ 200 := by omega
      have hf3 : q ≤ 2000 := by omega
      have HR := Lib.hid (hr.al (.cells #[.int .i64 (f : Int), .int .i64 (g : Int), .slice D q r] 24))
      have hst : cst (l.take (k + 1)) = cst (l.take k) + ((g : Int) - (f : Int) + (q : Int)) := by
        rw [take_at2 he, cst_append]; simp [cst]; omega
      have HST := Lib.hid hst
      clear hst hc he hr hbe hD hle hne hq
      generalize cst (l.take k) = S at *
      go_wp2_with fail
      exact ⟨⟨k + 1, by go_num, by omega, by rw [HST.out], HR.out⟩, by simp [intOf]; omega⟩
    · have hfin : cst (l.take k) = dE xs ys := by rw [List.take_of_length_le (by rw [HS11.out.len]; omega)]; exact HC.out
      rw [hfin] at hcb ⊢
      have HR := Lib.hid (HB11.out.via hr)
      have HX12 := Lib.hid (HX11.out.via hr)
      have HY12 := Lib.hid (HY11.out.via hr)
      have HI12 := Lib.hid (HI11.out.via hr)
      clear hfin hr
      go_wp2_with fail
      refine (between_c A1 A2 k1 cc1 k2 cc2 xs ys _ HX12.out HY12.out (by omega) (by omega)).mono ?_
      rintro e w13 ⟨f, g, q, A13, c13, rfl, hf1, hf2, hf3, hdE, hb⟩
      have HF := Lib.hid ((HR.out.via hb).al (.cells #[.int .i64 (f : Int), .int .i64 (g : Int), .slice A13 q c13] 24))
      have HY13 := Lib.hid ((HY12.out.via hb).al (.cells #[.int .i64 (f : Int), .int .i64 (g : Int), .slice A13 q c13] 24))
      have HI13 := Lib.hid ((HI12.out.via hb).al (.cells #[.int .i64 (f : Int), .int .i64 (g : Int), .slice A13 q c13] 24))
      have Bo := Blk.new w13 24 #[.int .i64 (f : Int), .int .i64 (g : Int), .slice A13 q c13]
      have hq2 := HTR.out
      have HDE := Lib.hid hdE
      have hl7 := HI13.out.len
      have hl2 := HY13.out.len
      have hk7 : k7 ≤ 17592186044416 := by omega
      clear hb HR HX12 HY12 HI12 hdE hl7 hl2
      generalize dE xs ys = ab at *
      generalize dE ys zs = bc at *
      generalize dE xs zs = ac at *
      have u1 : (ab == ab) = true := by simp
      have u2 : decide (ac ≤ ab + bc) = true := by simp; omega
      have u3 : decide (ab ≤ (g : Int) - (f : Int) + (q : Int)) = true := by have := HDE.out; simp; omega
      have cBo := Bo.cell
      have fBo := Bo.frozen
      have lBo := Bo.lt
      go_wp2_with fail
      clear cBo fBo lBo
      refine (equal_yes A7 A2 k7 c7 k2 cc2 ys ys _ HI13.out HY13.out hk7 rfl).mono ?_
      rintro e w14 ⟨rfl, hb⟩
      have HF2 := Lib.hid (HF.out.via hb)
      replace Bo := Bo.via hb
      clear hb HF
      have cBo := Bo.cell
      have fBo := Bo.frozen
      have lBo := Bo.lt
      go_wp2_with fail
      go_ret
      exact ⟨rfl, HF2.out⟩
end Go.Proofs.Ytdccgeiniockpaa
