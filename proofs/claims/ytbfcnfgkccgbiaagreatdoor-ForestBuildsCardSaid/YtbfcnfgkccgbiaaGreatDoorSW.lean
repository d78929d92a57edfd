/- Texts SW, laid together. -/
import Derived.Test.YtbfcnfgkccgbiaaGreatDoorSU
import Derived.Test.YtbfcnfgkccgbiaaGreatDoorRX



namespace Go.Proofs.YtbfcnfgkccgbiaaGreatDoor
open Go.RowKit

theorem mk_cnt (n : Nat) (hn : n ≤ 1000000) : ∀ w : World, (Instr.makeSlice 25 (.int .i64 (n : Int)) (.int .i64 (n : Int))).run Tryz.prog w = .ok (.slice (some ⟨w.heap.size, 0, none⟩) n n) (w.alloc (.cells (Array.replicate n (Value.int .i64 0)) 3)) := by
  intro w
  obtain ⟨i, hi, hz, hs, hb⟩ := info_parts int_inf1
  have h := run_make (P := Tryz.prog) w 25 3 i _ Tryz.underlying25 hi hz .i64 .i64 (n : Int) (n : Int) (by omega) (by omega) (by rw [hb]; omega) (by omega)
  rw [show ((n : Int)).toNat = n from by omega, hs, Nat.mul_one] at h
  rw [← made_one]
  exact h
theorem CnM.start (w : World) (fid : Nat) (A : Option Addr) (n c : Nat) (r : Int) (nd : List NdI) (hnd : Sl NdE (fun b => b < w.heap.size) w A n c nd) :
    CnM w w.heap.size fid (w.heap.size + 1 + 1 + 1 + 1) (w.heap.size + 1 + 1) w.heap.size (w.heap.size + 1 + 1 + 1 + 1 + 1) (w.heap.size + 1 + 1 + 1) (w.heap.size + 1) A n c r nd (List.replicate n 0, List.replicate n 0) ((((((w.alloc (.cells #[.slice A n c, .int .i64 r] 34)).alloc (.cells (Array.replicate n (Value.int .i64 0)) 3)).alloc (.cells #[.slice (some ⟨w.heap.size + 1, 0, none⟩) n n] 25)).alloc (.cells (Array.replicate n (Value.int .i64 0)) 3)).alloc (.cells #[.slice (some ⟨w.heap.size + 1 + 1 + 1, 0, none⟩) n n] 25)).alloc (.cells #[.func (.func fid) #[] #[.pointer (some ⟨w.heap.size + 1 + 1 + 1 + 1, 0, none⟩), .pointer (some ⟨w.heap.size, 0, none⟩), .pointer (some ⟨w.heap.size + 1 + 1, 0, none⟩), .pointer (some ⟨w.heap.size + 1 + 1 + 1 + 1 + 1, 0, none⟩)]] 133)) where
  bel := ((((((Below.refl w.heap.size w).al (.cells #[.slice A n c, .int .i64 r] 34)).al (.cells (Array.replicate n (Value.int .i64 0)) 3)).al (.cells #[.slice (some ⟨w.heap.size + 1, 0, none⟩) n n] 25)).al (.cells (Array.replicate n (Value.int .i64 0)) 3)).al (.cells #[.slice (some ⟨w.heap.size + 1 + 1 + 1, 0, none⟩) n n] 25)).al (.cells #[.func (.func fid) #[] #[.pointer (some ⟨w.heap.size + 1 + 1 + 1 + 1, 0, none⟩), .pointer (some ⟨w.heap.size, 0, none⟩), .pointer (some ⟨w.heap.size + 1 + 1, 0, none⟩), .pointer (some ⟨w.heap.size + 1 + 1 + 1 + 1 + 1, 0, none⟩)]] 133)
  bs := (Blk.newAt ((((w.alloc (.cells #[.slice A n c, .int .i64 r] 34)).alloc (.cells (Array.replicate n (Value.int .i64 0)) 3)).alloc (.cells #[.slice (some ⟨w.heap.size + 1, 0, none⟩) n n] 25)).alloc (.cells (Array.replicate n (Value.int .i64 0)) 3)) 25 #[.slice (some ⟨w.heap.size + 1 + 1 + 1, 0, none⟩) n n] (w.heap.size + 1 + 1 + 1 + 1) (by simp)).al (.cells #[.func (.func fid) #[] #[.pointer (some ⟨w.heap.size + 1 + 1 + 1 + 1, 0, none⟩), .pointer (some ⟨w.heap.size, 0, none⟩), .pointer (some ⟨w.heap.size + 1 + 1, 0, none⟩), .pointer (some ⟨w.heap.size + 1 + 1 + 1 + 1 + 1, 0, none⟩)]] 133)
  bc := (((Blk.newAt ((w.alloc (.cells #[.slice A n c, .int .i64 r] 34)).alloc (.cells (Array.replicate n (Value.int .i64 0)) 3)) 25 #[.slice (some ⟨w.heap.size + 1, 0, none⟩) n n] (w.heap.size + 1 + 1) (by simp)).al (.cells (Array.replicate n (Value.int .i64 0)) 3)).al (.cells #[.slice (some ⟨w.heap.size + 1 + 1 + 1, 0, none⟩) n n] 25)).al (.cells #[.func (.func fid) #[] #[.pointer (some ⟨w.heap.size + 1 + 1 + 1 + 1, 0, none⟩), .pointer (some ⟨w.heap.size, 0, none⟩), .pointer (some ⟨w.heap.size + 1 + 1, 0, none⟩), .pointer (some ⟨w.heap.size + 1 + 1 + 1 + 1 + 1, 0, none⟩)]] 133)
  bx := (((((Blk.newAt w 34 #[.slice A n c, .int .i64 r] (w.heap.size) (by simp)).al (.cells (Array.replicate n (Value.int .i64 0)) 3)).al (.cells #[.slice (some ⟨w.heap.size + 1, 0, none⟩) n n] 25)).al (.cells (Array.replicate n (Value.int .i64 0)) 3)).al (.cells #[.slice (some ⟨w.heap.size + 1 + 1 + 1, 0, none⟩) n n] 25)).al (.cells #[.func (.func fid) #[] #[.pointer (some ⟨w.heap.size + 1 + 1 + 1 + 1, 0, none⟩), .pointer (some ⟨w.heap.size, 0, none⟩), .pointer (some ⟨w.heap.size + 1 + 1, 0, none⟩), .pointer (some ⟨w.heap.size + 1 + 1 + 1 + 1 + 1, 0, none⟩)]] 133)
  bf := Blk.newAt (((((w.alloc (.cells #[.slice A n c, .int .i64 r] 34)).alloc (.cells (Array.replicate n (Value.int .i64 0)) 3)).alloc (.cells #[.slice (some ⟨w.heap.size + 1, 0, none⟩) n n] 25)).alloc (.cells (Array.replicate n (Value.int .i64 0)) 3)).alloc (.cells #[.slice (some ⟨w.heap.size + 1 + 1 + 1, 0, none⟩) n n] 25)) 133 #[.func (.func fid) #[] #[.pointer (some ⟨w.heap.size + 1 + 1 + 1 + 1, 0, none⟩), .pointer (some ⟨w.heap.size, 0, none⟩), .pointer (some ⟨w.heap.size + 1 + 1, 0, none⟩), .pointer (some ⟨w.heap.size + 1 + 1 + 1 + 1 + 1, 0, none⟩)]] (w.heap.size + 1 + 1 + 1 + 1 + 1) (by simp)
  ss := by
    have h := ((Blk.newAt (((w.alloc (.cells #[.slice A n c, .int .i64 r] 34)).alloc (.cells (Array.replicate n (Value.int .i64 0)) 3)).alloc (.cells #[.slice (some ⟨w.heap.size + 1, 0, none⟩) n n] 25)) 3 (Array.replicate n (Value.int .i64 0)) (w.heap.size + 1 + 1 + 1) (by simp)).al (.cells #[.slice (some ⟨w.heap.size + 1 + 1 + 1, 0, none⟩) n n] 25)).al (.cells #[.func (.func fid) #[] #[.pointer (some ⟨w.heap.size + 1 + 1 + 1 + 1, 0, none⟩), .pointer (some ⟨w.heap.size, 0, none⟩), .pointer (some ⟨w.heap.size + 1 + 1, 0, none⟩), .pointer (some ⟨w.heap.size + 1 + 1 + 1 + 1 + 1, 0, none⟩)]] 133)
    simpa using h
  cs := by
    have h := ((((Blk.newAt (w.alloc (.cells #[.slice A n c, .int .i64 r] 34)) 3 (Array.replicate n (Value.int .i64 0)) (w.heap.size + 1) (by simp)).al (.cells #[.slice (some ⟨w.heap.size + 1, 0, none⟩) n n] 25)).al (.cells (Array.replicate n (Value.int .i64 0)) 3)).al (.cells #[.slice (some ⟨w.heap.size + 1 + 1 + 1, 0, none⟩) n n] 25)).al (.cells #[.func (.func fid) #[] #[.pointer (some ⟨w.heap.size + 1 + 1 + 1 + 1, 0, none⟩), .pointer (some ⟨w.heap.size, 0, none⟩), .pointer (some ⟨w.heap.size + 1 + 1, 0, none⟩), .pointer (some ⟨w.heap.size + 1 + 1 + 1 + 1 + 1, 0, none⟩)]] 133)
    simpa using h
  nd := (((((((hnd.mono (ok' := fun b => b ≠ w.heap.size + 1 + 1 + 1 ∧ b ≠ w.heap.size + 1) fun b _ hb => by omega)).al (.cells #[.slice A n c, .int .i64 r] 34)).al (.cells (Array.replicate n (Value.int .i64 0)) 3)).al (.cells #[.slice (some ⟨w.heap.size + 1, 0, none⟩) n n] 25)).al (.cells (Array.replicate n (Value.int .i64 0)) 3)).al (.cells #[.slice (some ⟨w.heap.size + 1 + 1 + 1, 0, none⟩) n n] 25)).al (.cells #[.func (.func fid) #[] #[.pointer (some ⟨w.heap.size + 1 + 1 + 1 + 1, 0, none⟩), .pointer (some ⟨w.heap.size, 0, none⟩), .pointer (some ⟨w.heap.size + 1 + 1, 0, none⟩), .pointer (some ⟨w.heap.size + 1 + 1 + 1 + 1 + 1, 0, none⟩)]] 133)
  ge := by omega
  ne := by omega
theorem zer_all (n : Nat) : zer (List.replicate n 0) = n := by simp [zer, List.countP_replicate]
set_option maxRecDepth 100000 in
theorem enters_cv : ∀ (args : Array Value) (w : World), (callFunc 128 args).run Tryz.prog w = .ok (.enter 128 args) w :=
  enters_c (c := _) (fn := Tryz.f128) rfl (by kernel_rfl) rfl
set_option maxRecDepth 100000 in
set_option maxHeartbeats 8000000 in
theorem count_c (ok : Nat → Prop) (A : Option Addr) (n c : Nat) (r : Int) (nd : List NdI) (w : World) (hnd : Sl NdE ok w A n c nd) (hk : KidsIn nd) (hB : FoB nd) (hr : r < (n : Int)) (hn : n ≤ 1000000) :
    Calls Tryz.prog 80 #[.agg #[.slice A n c, .int .i64 r]] w fun e w' => e = .returned (.int .i64 (cntV (r, nd))) ∧ Below w.heap.size w w' := by
  have B0 := Blk.new w 34 #[.slice A n c, .int .i64 r]
  have HAL := Lib.hid ((Below.refl w.heap.size w).al (.cells #[.slice A n c, .int .i64 r] 34))
  have hlen := hnd.len
  have HND := Lib.hid (hnd.mono (ok' := fun b => b < w.heap.size) fun b hb _ => hb)
  have HK := Lib.hid hk
  have HB := Lib.hid hB
  have HLN := Lib.hid hlen
  clear hnd hk hB hlen
  go_enter Tryz.func80, Tryz.ntmps80
  by_cases h0 : r < 0
  · have cB0 := B0.cell
    have fB0 := B0.frozen
    have lB0 := B0.lt
    go_wp2_with fail
    go_ret
    exact ⟨by simp [cntV, h0], HAL.out⟩
  · obtain ⟨v, rfl⟩ : ∃ v : Nat, r = (v : Int) := ⟨r.toNat, by omega⟩
    have hv : v < n := by omega
    have hmk := mk_cnt n hn
    have hmf : ∀ (fn : Fn) (first cap : Array Value) (w : World), (Instr.makeFunc fn first cap).run Tryz.prog w = .ok (.func fn first cap) w := fun _ _ _ _ => rfl
    have cB0 := B0.cell
    have fB0 := B0.frozen
    have lB0 := B0.lt
    go_upto_region 7 with fail
    clear cB0 fB0 lB0
    clear hmk hmf
    have HM := Lib.hid (CnM.start w 128 A n c (v : Int) nd HND.out)
    generalize ((((((w.alloc (.cells #[.slice A n c, .int .i64 (v : Int)] 34)).alloc (.cells (Array.replicate n (Value.int .i64 0)) 3)).alloc (.cells #[.slice (some ⟨w.heap.size + 1, 0, none⟩) n n] 25)).alloc (.cells (Array.replicate n (Value.int .i64 0)) 3)).alloc (.cells #[.slice (some ⟨w.heap.size + 1 + 1 + 1, 0, none⟩) n n] 25)).alloc (.cells #[.func (.func 128) #[] #[.pointer (some ⟨w.heap.size + 1 + 1 + 1 + 1, 0, none⟩), .pointer (some ⟨w.heap.size, 0, none⟩), .pointer (some ⟨w.heap.size + 1 + 1, 0, none⟩), .pointer (some ⟨w.heap.size + 1 + 1 + 1 + 1 + 1, 0, none⟩)]] 133)) = W at *
    have hz : zer (List.replicate n (0 : Int)) < n + 1 := by rw [zer_all]; omega
    have HV := Lib.hid (visit_n w w.heap.size 128 (Lib.hid rfl) enters_cv _ _ _ _ _ _ A n c (v : Int) nd HK.out HB.out HLN.out (n + 1) v (List.replicate n 0, List.replicate n 0) W hz hv ⟨by simp, by simp, fun c hc => by have := List.eq_of_mem_replicate hc; omega⟩ HM.out)
    have BF := HM.out.bf
    have BX := HM.out.bx
    clear B0 hz
    have cBF := BF.cell
    have fBF := BF.frozen
    have lBF := BF.lt
    have cBX := BX.cell
    have fBX := BX.frozen
    have lBX := BX.lt
    repeat go_step
    clear cBF fBF lBF cBX fBX lBX
    clear BF BX
    refine HV.out.mono ?_
    clear HV
    rintro e w8 ⟨rfl, hm, ha, hz⟩
    have HM8 := Lib.hid hm
    obtain ⟨vk, hvk⟩ : ∃ vk, vk = visV nd (n + 1) v (List.replicate n 0, List.replicate n 0) := ⟨_, rfl⟩
    have hkp := visV_keeps HK.out (n + 1) v (List.replicate n 0, List.replicate n 0) (by rw [HLN.out]; exact hv) ⟨by simp [HLN.out], by simp [HLN.out], fun c hc => by have := List.eq_of_mem_replicate hc; omega⟩
    rw [HLN.out] at hkp
    have HE := Lib.hid (show cntV ((v : Int), nd) = if vk.1 = true then vk.2.1.getD v 0 else -1 by
      unfold cntV
      simp only
      rw [if_neg h0, Int.toNat_natCast, HLN.out, ← hvk])
    rw [← hvk] at hm hkp HM8 ⊢
    have HKP := Lib.hid hkp.1
    clear hm ha hz hvk hkp HM
    obtain ⟨vb, st⟩ := vk
    dsimp only at *
    cases vb with
    | false =>
      have h1 := HE.out
      try simp only [Bool.false_eq_true, if_false] at h1
      have HE1 := Lib.hid h1
      clear h1
      go_wp2_with fail
      go_ret
      exact ⟨by rw [HE1.out]; rfl, HM8.out.bel⟩
    | true =>
      have h1 := HE.out
      try simp only [if_true] at h1
      have HE1 := Lib.hid h1
      have hcl := HM8.out.cellC (v := v) (by rw [HKP.out.cl]; exact hv)
      have BC := HM8.out.bc
      have BX := HM8.out.bx
      have v0 : (0 : Int) ≤ (v : Int) := by omega
      clear h1
      obtain ⟨cv, hcv⟩ : ∃ cv, cv = st.1.getD v 0 := ⟨_, rfl⟩
      rw [← hcv] at hcl
      have HCV := Lib.hid hcv
      clear hcv
      have cBC := BC.cell
      have fBC := BC.frozen
      have lBC := BC.lt
      have cBX := BX.cell
      have fBX := BX.frozen
      have lBX := BX.lt
      go_wp2_with fail
      go_ret
      exact ⟨by rw [HE1.out, ← HCV.out]; rfl, HM8.out.bel⟩
end Go.Proofs.YtbfcnfgkccgbiaaGreatDoor

