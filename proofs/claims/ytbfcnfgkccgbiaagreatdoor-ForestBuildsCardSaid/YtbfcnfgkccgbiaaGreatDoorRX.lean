/- Texts RX, laid together. -/
import Derived.Test.YtbfcnfgkccgbiaaGreatDoorRG
import Derived.Shelf.Bits.Mul64
import Derived.Shelf.Lay
import Derived.Ground.NamesProg
import Derived.Laws.CopyOwn






namespace Go.Proofs.YtbfcnfgkccgbiaaGreatDoor
open Go.RowKit Go.Shelf
def laysMul_ren : Go.Shelf.Ren := ⟨fun | 212 => 155 | 263 => 172 | 264 => 173 | n => n, fun | 46 => 132 | 51 => 58 | 146 => 230 | 53 => 160 | 148 => 232 | n => n, fun | n => n⟩
theorem laysMul : Go.Proofs.Lays.n212 Tryz.prog laysMul_ren := {
  mixed := by kernel_rfl
  f212 := Tryz.func155.trans (congrArg some (by kernel_rfl))
  f263 := Tryz.func172.trans (congrArg some (by kernel_rfl))
  f264 := Tryz.func173.trans (congrArg some (by kernel_rfl))
  t46 := Tryz.underlying132
  a46 := Tryz.isAgg132
  z46 := Tryz.sizeOf132
  v46 := Tryz.zeroValue132
  t51 := Tryz.underlying58
  a51 := Tryz.isAgg58
  z51 := Tryz.sizeOf58
  v51 := Tryz.zeroValue58
  t53 := Tryz.underlying160
  a53 := Tryz.isAgg160
  z53 := Tryz.sizeOf160
  v53 := Tryz.zeroValue160
  t146 := Tryz.underlying230
  a146 := Tryz.isAgg230
  z146 := Tryz.sizeOf230
  v146 := Tryz.zeroValue230
  t148 := Tryz.underlying232
  a148 := Tryz.isAgg232
  z148 := Tryz.sizeOf232
  v148 := Tryz.zeroValue232 }
theorem mul_c (n : Nat) (hn : n ≤ 1000) (w : World) :
    Calls Tryz.prog 155 #[.int .u64 1, .int .u64 n] w fun e w' => e = .returned (.tuple #[.int .u64 0, .int .u64 n]) ∧ w' = w := by
  have h := Any.bits_Mul laysMul 1 n (by omega) (by omega) w
  have e1 : 1 * n / 18446744073709551616 = 0 := by omega
  have e2 : 1 * n % 18446744073709551616 = n := by omega
  rw [e1, e2] at h
  exact h
theorem made_one (z : Value) (n : Nat) : madeCells #[z] n = Array.replicate n z := by
  apply Array.ext_getElem?
  intro i
  unfold madeCells
  rw [Array.getElem?_map, Array.getElem?_range]
  by_cases h : i < n
  · rw [if_pos h]; simp [h, Nat.mod_one]
  · rw [if_neg h]; simp [h]
theorem int_inf1 : (Tryz.prog.info? 3).map (fun i => (i.zero, i.size, i.bytes)) = some (some (.int .i64 0), 1, 8) := by kernel_rfl
theorem mk_rep (n : Nat) (hn : n ≤ 1000) : ∀ w : World, (Instr.makeSlice 25 (.int .i64 (n : Int)) (.int .i64 (n : Int))).run Tryz.prog w = .ok (.slice (some ⟨w.heap.size, 0, none⟩) n n) (w.alloc (.cells (Array.replicate n (Value.int .i64 0)) 3)) := by
  intro w
  obtain ⟨i, hi, hz, hs, hb⟩ := info_parts int_inf1
  have h := run_make (P := Tryz.prog) w 25 3 i _ Tryz.underlying25 hi hz .i64 .i64 (n : Int) (n : Int) (by omega) (by omega) (by rw [hb]; omega) (by omega)
  rw [show ((n : Int)).toNat = n from by omega, hs, Nat.mul_one] at h
  rw [← made_one]
  exact h
/-- the first t cells of a row are -1 -/
def Filled (n t : Nat) (L : List Value) : Prop := L.length = n ∧ L.take t = List.replicate t (Value.int .i64 (-1))
theorem Filled.start {n : Nat} {L : List Value} (h : L.length = n) (h1 : 1 ≤ n) : Filled n 1 (splice L 0 [.int .i64 (-1)]) :=
  ⟨by rw [length_splice]; exact h; simp; omega, by simp [splice]⟩
theorem Filled.next {n t c : Nat} {L : List Value} (h : Filled n t L) (hc : t + c ≤ n) : Filled n (t + c) (splice L t (List.replicate c (.int .i64 (-1)))) := by
  obtain ⟨h1, h2⟩ := h
  refine ⟨by rw [length_splice]; exact h1; simp; omega, ?_⟩
  unfold splice
  rw [h2, ← List.append_assoc, List.replicate_append_replicate, List.take_left' (by simp)]
theorem Filled.all {n : Nat} {L : List Value} (h : Filled n n L) : L = List.replicate n (Value.int .i64 (-1)) := by
  rw [← h.2, List.take_of_length_le (by rw [h.1]; exact Nat.le_refl _)]
theorem Filled.cell {n t j : Nat} {L : List Value} (h : Filled n t L) (hj : j < t) : L[j]? = some (.int .i64 (-1)) := by
  have e : (L.take t)[j]? = some (.int .i64 (-1)) := by rw [h.2]; simp [hj]
  rwa [List.getElem?_take_of_lt hj] at e
def RepP (n : Nat) (w : World) (e : Ending) (w' : World) : Prop := e = .returned (.slice (some ⟨w.heap.size, 0, none⟩) n n) ∧ Blk w' w.heap.size 3 (List.replicate n (Value.int .i64 (-1))).toArray ∧ Below w.heap.size w w'
set_option maxRecDepth 100000 in
set_option maxHeartbeats 4000000 in
theorem repeat_c (s n : Nat) (w : World) (hs : w.cell? ⟨s, 0, none⟩ = some (.int .i64 (-1))) (h1 : 1 ≤ n) (hn : n ≤ 1000) :
    Calls Tryz.prog 126 #[.slice (some ⟨s, 0, none⟩) 1 1, .int .i64 n] w (RepP n w) := by
  have hmk := mk_rep n hn
  have e1 : decide ((n : Int) < 0) = false := by simp
  have e2 : decide ((9223372036854775807 : Int) < (n : Int)) = false := by simp; omega
  have k1 : IntKind.u64.wrap (n : Int) = (n : Int) := by rw [IntKind.wrap_u64]; omega
  have k2 : IntKind.i64.wrap (n : Int) = (n : Int) := IntWalk.i64_in _ (by omega)
  go_enter Tryz.func126, Tryz.ntmps126
  go_upto_region 7 with (go_at_call 155; refine (mul_c n hn _).mono ?_; rintro e w' ⟨rfl, hz⟩; rw [hz]; clear hz)
  have hg0 : (w.alloc (.cells (Array.replicate n (Value.int .i64 0)) 3)).heap[w.heap.size]? = some (.cells (List.replicate n (Value.int .i64 0)).toArray 3 (0, 0)) := by
    rw [List.toArray_replicate]; exact Blk.new w 3 _
  have hB := (Below.refl w.heap.size w).al (.cells (Array.replicate n (Value.int .i64 0)) 3)
  have hs1 := (hB.cell (p := ⟨s, 0, none⟩) (World.block_lt_of_cell? w _ hs)).trans hs
  have hlr : (List.replicate n (Value.int .i64 0)).length = n := by simp
  generalize hR : List.replicate n (Value.int .i64 0) = R at *
  clear hR
  generalize w.alloc (.cells (Array.replicate n (Value.int .i64 0)) 3) = W at *
  clear hmk
  have HG := Lib.hid hg0
  have HB := Lib.hid hB
  have HS := Lib.hid hs1
  have HLR := Lib.hid hlr
  clear hg0 hB hs1 hs hlr e1 e2
  have hm1 : [Value.int .i64 (-1)].length = Nat.min 1 n := (Nat.min_eq_left h1).symm
  have hp1 : ∀ j v, [Value.int .i64 (-1)][j]? = some v → W.cell? ((⟨s, 0, none⟩ : Addr).add j) = some v := fun j v hv => by
    cases j with
    | zero => simp at hv; subst hv; exact HS.out
    | succ j => simp at hv
  have hf1 : 0 + [Value.int .i64 (-1)].length ≤ R.length := by rw [HLR.out]; simpa using h1
  have ho1 : ∀ v ∈ [Value.int .i64 (-1)], v.oneCell' = true := by simp [Value.oneCell']
  have hi1 : (Tryz.prog.info? 3).map (·.size) = some 1 := by kernel_rfl
  have HM1 := Lib.hid hm1
  have HP1 := Lib.hid hp1
  have HF1 := Lib.hid hf1
  have HO1 := Lib.hid ho1
  have HI1 := Lib.hid hi1
  clear hm1 hp1 hf1 ho1 hi1
  go_wp2_with (refine wpList_copy_splice rfl (.tmp 31) (.tmp 32) 25 25 rfl 3 Tryz.underlying25 HI1.out (some ⟨w.heap.size, 0, none⟩) (some ⟨s, 0, none⟩) n n 1 1 rfl rfl w.heap.size 0 R 3 HG.out [.int .i64 (-1)] HM1.out (fun _ => ⟨rfl, _, rfl, HP1.out⟩) HF1.out HO1.out w.heap.size w HB.out (Nat.le_refl _) ?_; intro w2 hg2 hb2)
  have HFL := Lib.hid (show Filled n 1 (splice R 0 [.int .i64 (-1)]) from Filled.start HLR.out h1)
  generalize splice R 0 [.int .i64 (-1)] = L1 at *
  clear HG HB HS HLR HM1 HP1 HF1 HO1 HI1
  have HB2 := Lib.hid hb2
  clear hb2
  go_loopw [8] (fun q wt => ∃ (t : Nat) (L : List Value), q = .int .i64 t ∧ 1 ≤ t ∧ t ≤ n ∧ Filled n t L ∧ wt.heap[w.heap.size]? = some (.cells L.toArray 3 (0, 0)) ∧ Below w.heap.size w wt) (fun q _ => n - (intOf q).toNat)
  case atStart => exact ⟨1, L1, rfl, Nat.le_refl _, h1, HFL.out, hg2.out, HB2.out⟩
  case round =>
    obtain ⟨t, L, rfl, ht1, htn, hfl, hg, hb⟩ := hrel
    clear HFL hg2 HB2
    by_cases hlt : t < n
    · obtain ⟨c, hc⟩ : ∃ c, c = Nat.min t (n - t) := ⟨_, rfl⟩
      have hc2 : c ≤ t := by rw [hc]; exact Nat.min_le_left _ _
      have hc3 : c ≤ n - t := by rw [hc]; exact Nat.min_le_right _ _
      have hc4 : 1 ≤ c := by
        rcases Nat.le_total t (n - t) with h | h
        · have := Nat.min_eq_left h; have e : c = t := hc.trans this; omega
        · have := Nat.min_eq_right h; have e : c = n - t := hc.trans this; omega
      have hc1 : 1 ≤ c ∧ t + c ≤ n := ⟨hc4, by omega⟩
      have HN := Lib.hid (hfl.next hc1.2)
      have HG := Lib.hid hg
      have HB := Lib.hid hb
      have HC := Lib.hid (show (List.replicate c (Value.int .i64 (-1))).length = Nat.min t (n - t) by rw [List.length_replicate]; exact hc)
      have HCC := Lib.hid (show (List.replicate c (Value.int .i64 (-1))).length = c by simp)
      have HP := Lib.hid (show ∀ j v, (List.replicate c (Value.int .i64 (-1)))[j]? = some v → wr.cell? ((⟨w.heap.size, 0, none⟩ : Addr).add j) = some v from fun j v hv => by
        obtain ⟨hj, rfl⟩ : j < c ∧ v = .int .i64 (-1) := by
          rw [List.getElem?_replicate] at hv; split at hv
          · rename_i hj; exact ⟨hj, by simpa using hv.symm⟩
          · cases hv
        have B : Blk wr w.heap.size 3 L.toArray := hg
        have e := B.cell j
        have q := hfl.cell (j := j) (by omega)
        have ea : (⟨w.heap.size, 0, none⟩ : Addr).add j = ⟨w.heap.size, j, none⟩ := by
          unfold Addr.add; split
          · rename_i h; subst h; rfl
          · congr 1; exact Nat.zero_add _
        rw [ea]
        exact e.trans (by simpa using q))
      have HF := Lib.hid (show t + (List.replicate c (Value.int .i64 (-1))).length ≤ L.length by rw [HCC.out, hfl.1]; omega)
      have HO := Lib.hid (show ∀ v ∈ List.replicate c (Value.int .i64 (-1)), v.oneCell' = true from fun v hv => by rw [List.eq_of_mem_replicate hv]; rfl)
      have HI := Lib.hid (show (Tryz.prog.info? 3).map (·.size) = some 1 by kernel_rfl)
      have k3 : IntKind.i64.wrap ((t : Int) + (c : Int)) = (t : Int) + (c : Int) := IntWalk.i64_in _ (by omega)
      have t0 : (0 : Int) ≤ (t : Int) := by omega
      have t1 : (t : Int) ≤ (n : Int) := by omega
      clear hfl hg hb hc
      generalize List.replicate c (Value.int .i64 (-1)) = cs at *
      obtain ⟨F, hF, hFg, hFb⟩ : ∃ F : World, Sem.run Tryz.prog (Builtin.copy_ #[25, 25] 3 #[.slice (some ⟨w.heap.size, t, none⟩) (n - t) (n - t), .slice (some ⟨w.heap.size, 0, none⟩) t n]) wr.drew = .ok (.int .i64 (c : Int)) F ∧ F.heap[w.heap.size]? = some (.cells (splice L t cs).toArray 3 (0, 0)) ∧ Below w.heap.size w F := by
        refine ⟨wr.drew.setRow w.heap.size (splice L t cs).toArray, ?_, setRow_heap wr.drew w.heap.size _ _ 3 _ HG.out, below_setRow HB.out.drew (Nat.le_refl _) _⟩
        have h := run_copy_row (P := Tryz.prog) wr.drew 25 25 3 3 w.heap.size t (n - t) (n - t) ⟨w.heap.size, 0, none⟩ t n L.toArray 3 cs Tryz.underlying25 HI.out HG.out HC.out HP.out (by simpa using HF.out) HO.out
        rw [HCC.out] at h
        rw [h]
        simp [splice, goInt, HCC.out]
      have hnt : ¬ n = t := by omega
      have HFG := Lib.hid hFg
      have HFB := Lib.hid hFb
      clear hFg hFb
      go_wp2_with fail
      go_region
      clear hF hnt k3
      go_wp2_with fail
      exact ⟨⟨t + c, splice L t cs, by go_num, by omega, hc1.2, HN.out, HFG.out, HFB.out⟩, by simp [intOf]; omega⟩
    · obtain rfl : t = n := by omega
      have HG := Lib.hid (show wr.heap[w.heap.size]? = some (.cells (List.replicate t (Value.int .i64 (-1))).toArray 3 (0, 0)) by rw [← hfl.all]; exact hg)
      have HB := Lib.hid hb
      clear hfl hg hb
      go_wp2_with fail
      go_ret
      exact ⟨rfl, HG.out, HB.out⟩
end Go.Proofs.YtbfcnfgkccgbiaaGreatDoor

