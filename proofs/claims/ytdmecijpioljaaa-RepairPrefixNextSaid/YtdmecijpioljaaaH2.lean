/- Texts HF, HG, HI, HJ, HK, HL, laid together. -/
import Derived.Test.YtdmecijpioljaaaH1
import Derived.Test.YtdmecijpioljaaaG1
import Derived.Test.YtdmecijpioljaaaZ3
import Derived.Shelf.Bits.Mul64
import Derived.Shelf.Lay
import Derived.Ground.NamesProg
import Derived.Laws.CopyOwn






namespace Go.Proofs.Ytdmecijpioljaaa
open Go.RowKit Go.Shelf
def laysMul_ren : Go.Shelf.Ren := ⟨fun | 212 => 77 | 263 => 79 | 264 => 80 | n => n, fun | 46 => 131 | 51 => 134 | 146 => 135 | 53 => 137 | 148 => 138 | n => n, fun | n => n⟩
theorem laysMul : Go.Proofs.Lays.n212 Try.prog laysMul_ren := {
  mixed := by kernel_rfl
  f212 := Try.func77.trans (congrArg some (by kernel_rfl))
  f263 := Try.func79.trans (congrArg some (by kernel_rfl))
  f264 := Try.func80.trans (congrArg some (by kernel_rfl))
  t46 := Try.underlying131
  a46 := Try.isAgg131
  z46 := Try.sizeOf131
  v46 := Try.zeroValue131
  t51 := Try.underlying134
  a51 := Try.isAgg134
  z51 := Try.sizeOf134
  v51 := Try.zeroValue134
  t53 := Try.underlying137
  a53 := Try.isAgg137
  z53 := Try.sizeOf137
  v53 := Try.zeroValue137
  t146 := Try.underlying135
  a146 := Try.isAgg135
  z146 := Try.sizeOf135
  v146 := Try.zeroValue135
  t148 := Try.underlying138
  a148 := Try.isAgg138
  z148 := Try.sizeOf138
  v148 := Try.zeroValue138 }
theorem mul_c (n : Nat) (hn : n ≤ 1000) (w : World) :
    Calls Try.prog 77 #[.int .u64 1, .int .u64 n] w fun e w' => e = .returned (.tuple #[.int .u64 0, .int .u64 n]) ∧ w' = w := by
  have h := Any.bits_Mul laysMul 1 n (by omega) (by omega) w
  have e1 : 1 * n / 18446744073709551616 = 0 := by omega
  have e2 : 1 * n % 18446744073709551616 = n := by omega
  rw [e1, e2] at h
  exact h
theorem made_one (z : Value) (n : Nat) : madeCells #[z] n = Array.replicate n z := by
  apply Array.ext_getElem?
  intro i
  unfold madeCells
  rw [Array.getElem?_map, Array.getElem?_range]
  by_cases h : i < n
  · rw [if_pos h]; simp [h, Nat.mod_one]
  · rw [if_neg h]; simp [h]
theorem int_inf1 : (Try.prog.info? 3).map (fun i => (i.zero, i.size, i.bytes)) = some (some (.int .i64 0), 1, 8) := by kernel_rfl
theorem mk_rep (n : Nat) (hn : n ≤ 1000) : ∀ w : World, (Instr.makeSlice 22 (.int .i64 (n : Int)) (.int .i64 (n : Int))).run Try.prog w = .ok (.slice (some ⟨w.heap.size, 0, none⟩) n n) (w.alloc (.cells (Array.replicate n (Value.int .i64 0)) 3)) := by
  intro w
  obtain ⟨i, hi, hz, hs, hb⟩ := info_parts int_inf1
  have h := run_make (P := Try.prog) w 22 3 i _ Try.underlying22 hi hz .i64 .i64 (n : Int) (n : Int) (by omega) (by omega) (by rw [hb]; omega) (by omega)
  rw [show ((n : Int)).toNat = n from by omega, hs, Nat.mul_one] at h
  rw [← made_one]
  exact h
/-- the first t cells of a row are -1 -/
def Filled (n t : Nat) (L : List Value) : Prop := L.length = n ∧ L.take t = List.replicate t (Value.int .i64 (-1))
theorem Filled.start {n : Nat} {L : List Value} (h : L.length = n) (h1 : 1 ≤ n) : Filled n 1 (splice L 0 [.int .i64 (-1)]) :=
  ⟨by rw [length_splice]; exact h; simp; omega, by simp [splice]⟩
theorem Filled.next {n t c : Nat} {L : List Value} (h : Filled n t L) (hc : t + c ≤ n) : Filled n (t + c) (splice L t (List.replicate c (.int .i64 (-1)))) := by
  obtain ⟨h1, h2⟩ := h
  refine ⟨by rw [length_splice]; exact h1; simp; omega, ?_⟩
  unfold splice
  rw [h2, ← List.append_assoc, List.replicate_append_replicate, List.take_left' (by simp)]
theorem Filled.all {n : Nat} {L : List Value} (h : Filled n n L) : L = List.replicate n (Value.int .i64 (-1)) := by
  rw [← h.2, List.take_of_length_le (by rw [h.1]; exact Nat.le_refl _)]
theorem Filled.cell {n t j : Nat} {L : List Value} (h : Filled n t L) (hj : j < t) : L[j]? = some (.int .i64 (-1)) := by
  have e : (L.take t)[j]? = some (.int .i64 (-1)) := by rw [h.2]; simp [hj]
  rwa [List.getElem?_take_of_lt hj] at e
def RepP (n : Nat) (w : World) (e : Ending) (w' : World) : Prop := e = .returned (.slice (some ⟨w.heap.size, 0, none⟩) n n) ∧ Blk w' w.heap.size 3 (List.replicate n (Value.int .i64 (-1))).toArray ∧ Below w.heap.size w w'
set_option maxRecDepth 100000 in
set_option maxHeartbeats 4000000 in
theorem repeat_c (s n : Nat) (w : World) (hs : w.cell? ⟨s, 0, none⟩ = some (.int .i64 (-1))) (h1 : 1 ≤ n) (hn : n ≤ 1000) :
    Calls Try.prog 70 #[.slice (some ⟨s, 0, none⟩) 1 1, .int .i64 n] w (RepP n w) := by
  have hmk := mk_rep n hn
  have e1 : decide ((n : Int) < 0) = false := by simp
  have e2 : decide ((9223372036854775807 : Int) < (n : Int)) = false := by simp; omega
  have k1 : IntKind.u64.wrap (n : Int) = (n : Int) := by rw [IntKind.wrap_u64]; omega
  have k2 : IntKind.i64.wrap (n : Int) = (n : Int) := IntWalk.i64_in _ (by omega)
  go_enter Try.func70, Try.ntmps70
  go_upto_region 7 with (go_at_call 77; refine (mul_c n hn _).mono ?_; rintro e w' ⟨rfl, hz⟩; rw [hz]; clear hz)
  have hg0 : (w.alloc (.cells (Array.replicate n (Value.int .i64 0)) 3)).heap[w.heap.size]? = some (.cells (List.replicate n (Value.int .i64 0)).toArray 3 (0, 0)) := by
    rw [List.toArray_replicate]; exact Blk.new w 3 _
  have hB := (Below.refl w.heap.size w).al (.cells (Array.replicate n (Value.int .i64 0)) 3)
  have hs1 := (hB.cell (p := ⟨s, 0, none⟩) (World.block_lt_of_cell? w _ hs)).trans hs
  have hlr : (List.replicate n (Value.int .i64 0)).length = n := by simp
  generalize hR : List.replicate n (Value.int .i64 0) = R at *
  clear hR
  generalize w.alloc (.cells (Array.replicate n (Value.int .i64 0)) 3) = W at *
  clear hmk
  have HG := Lib.hid hg0
  have HB := Lib.hid hB
  have HS := Lib.hid hs1
  have HLR := Lib.hid hlr
  clear hg0 hB hs1 hs hlr e1 e2
  have hm1 : [Value.int .i64 (-1)].length = Nat.min 1 n := (Nat.min_eq_left h1).symm
  have hp1 : ∀ j v, [Value.int .i64 (-1)][j]? = some v → W.cell? ((⟨s, 0, none⟩ : Addr).add j) = some v := fun j v hv => by
    cases j with
    | zero => simp at hv; subst hv; exact HS.out
    | succ j => simp at hv
  have hf1 : 0 + [Value.int .i64 (-1)].length ≤ R.length := by rw [HLR.out]; simpa using h1
  have ho1 : ∀ v ∈ [Value.int .i64 (-1)], v.oneCell' = true := by simp [Value.oneCell']
  have hi1 : (Try.prog.info? 3).map (·.size) = some 1 := by kernel_rfl
  have HM1 := Lib.hid hm1
  have HP1 := Lib.hid hp1
  have HF1 := Lib.hid hf1
  have HO1 := Lib.hid ho1
  have HI1 := Lib.hid hi1
  clear hm1 hp1 hf1 ho1 hi1
  go_wp2_with (refine wpList_copy_splice rfl (.tmp 31) (.tmp 32) 22 22 rfl 3 Try.underlying22 HI1.out (some ⟨w.heap.size, 0, none⟩) (some ⟨s, 0, none⟩) n n 1 1 rfl rfl w.heap.size 0 R 3 HG.out [.int .i64 (-1)] HM1.out (fun _ => ⟨rfl, _, rfl, HP1.out⟩) HF1.out HO1.out w.heap.size w HB.out (Nat.le_refl _) ?_; intro w2 hg2 hb2)
  have HFL := Lib.hid (show Filled n 1 (splice R 0 [.int .i64 (-1)]) from Filled.start HLR.out h1)
  generalize splice R 0 [.int .i64 (-1)] = L1 at *
  clear HG HB HS HLR HM1 HP1 HF1 HO1 HI1
  have HB2 := Lib.hid hb2
  clear hb2
  go_loopw [8] (fun q wt => ∃ (t : Nat) (L : List Value), q = .int .i64 t ∧ 1 ≤ t ∧ t ≤ n ∧ Filled n t L ∧ wt.heap[w.heap.size]? = some (.cells L.toArray 3 (0, 0)) ∧ Below w.heap.size w wt) (fun q _ => n - (intOf q).toNat)
  case atStart => exact ⟨1, L1, rfl, Nat.le_refl _, h1, HFL.out, hg2.out, HB2.out⟩
  case round =>
    obtain ⟨t, L, rfl, ht1, htn, hfl, hg, hb⟩ := hrel
    clear HFL hg2 HB2
    by_cases hlt : t < n
    · obtain ⟨c, hc⟩ : ∃ c, c = Nat.min t (n - t) := ⟨_, rfl⟩
      have hc2 : c ≤ t := by rw [hc]; exact Nat.min_le_left _ _
      have hc3 : c ≤ n - t := by rw [hc]; exact Nat.min_le_right _ _
      have hc4 : 1 ≤ c := by
        rcases Nat.le_total t (n - t) with h | h
        · have := Nat.min_eq_left h; have e : c = t := hc.trans this; omega
        · have := Nat.min_eq_right h; have e : c = n - t := hc.trans this; omega
      have hc1 : 1 ≤ c ∧ t + c ≤ n := ⟨hc4, by omega⟩
      have HN := Lib.hid (hfl.next hc1.2)
      have HG := Lib.hid hg
      have HB := Lib.hid hb
      have HC := Lib.hid (show (List.replicate c (Value.int .i64 (-1))).length = Nat.min t (n - t) by rw [List.length_replicate]; exact hc)
      have HCC := Lib.hid (show (List.replicate c (Value.int .i64 (-1))).length = c by simp)
      have HP := Lib.hid (show ∀ j v, (List.replicate c (Value.int .i64 (-1)))[j]? = some v → wr.cell? ((⟨w.heap.size, 0, none⟩ : Addr).add j) = some v from fun j v hv => by
        obtain ⟨hj, rfl⟩ : j < c ∧ v = .int .i64 (-1) := by
          rw [List.getElem?_replicate] at hv; split at hv
          · rename_i hj; exact ⟨hj, by simpa using hv.symm⟩
          · cases hv
        have B : Blk wr w.heap.size 3 L.toArray := hg
        have e := B.cell j
        have q := hfl.cell (j := j) (by omega)
        have ea : (⟨w.heap.size, 0, none⟩ : Addr).add j = ⟨w.heap.size, j, none⟩ := by
          unfold Addr.add; split
          · rename_i h; subst h; rfl
          · congr 1; exact Nat.zero_add _
        rw [ea]
        exact e.trans (by simpa using q))
      have HF := Lib.hid (show t + (List.replicate c (Value.int .i64 (-1))).length ≤ L.length by rw [HCC.out, hfl.1]; omega)
      have HO := Lib.hid (show ∀ v ∈ List.replicate c (Value.int .i64 (-1)), v.oneCell' = true from fun v hv => by rw [List.eq_of_mem_replicate hv]; rfl)
      have HI := Lib.hid (show (Try.prog.info? 3).map (·.size) = some 1 by kernel_rfl)
      have k3 : IntKind.i64.wrap ((t : Int) + (c : Int)) = (t : Int) + (c : Int) := IntWalk.i64_in _ (by omega)
      have t0 : (0 : Int) ≤ (t : Int) := by omega
      have t1 : (t : Int) ≤ (n : Int) := by omega
      clear hfl hg hb hc
      generalize List.replicate c (Value.int .i64 (-1)) = cs at *
      obtain ⟨F, hF, hFg, hFb⟩ : ∃ F : World, Sem.run Try.prog (Builtin.copy_ #[22, 22] 3 #[.slice (some ⟨w.heap.size, t, none⟩) (n - t) (n - t), .slice (some ⟨w.heap.size, 0, none⟩) t n]) wr.drew = .ok (.int .i64 (c : Int)) F ∧ F.heap[w.heap.size]? = some (.cells (splice L t cs).toArray 3 (0, 0)) ∧ Below w.heap.size w F := by
        refine ⟨wr.drew.setRow w.heap.size (splice L t cs).toArray, ?_, setRow_heap wr.drew w.heap.size _ _ 3 _ HG.out, below_setRow HB.out.drew (Nat.le_refl _) _⟩
        have h := run_copy_row (P := Try.prog) wr.drew 22 22 3 3 w.heap.size t (n - t) (n - t) ⟨w.heap.size, 0, none⟩ t n L.toArray 3 cs Try.underlying22 HI.out HG.out HC.out HP.out (by simpa using HF.out) HO.out
        rw [HCC.out] at h
        rw [h]
        simp [splice, goInt, HCC.out]
      have hnt : ¬ n = t := by omega
      have HFG := Lib.hid hFg
      have HFB := Lib.hid hFb
      clear hFg hFb
      go_wp2_with fail
      go_region
      clear hF hnt k3
      go_wp2_with fail
      exact ⟨⟨t + c, splice L t cs, by go_num, by omega, hc1.2, HN.out, HFG.out, HFB.out⟩, by simp [intOf]; omega⟩
    · obtain rfl : t = n := by omega
      have HG := Lib.hid (show wr.heap[w.heap.size]? = some (.cells (List.replicate t (Value.int .i64 (-1))).toArray 3 (0, 0)) by rw [← hfl.all]; exact hg)
      have HB := Lib.hid hb
      clear hfl hg hb
      go_wp2_with fail
      go_ret
      exact ⟨rfl, HG.out, HB.out⟩
end Go.Proofs.Ytdmecijpioljaaa



namespace Go.Proofs.Ytdmecijpioljaaa

/-- how many numbers are set (not below zero) -/
def cntS : List Int → Nat
  | [] => 0
  | x :: l => (if x < 0 then 0 else 1) + cntS l
/-- what can still go down: T for a number that is not set -/
def muS (T : Nat) : List Int → Nat
  | [] => 0
  | x :: l => (if x < 0 then T else x.toNat) + muS T l
theorem cntS_le : ∀ xs : List Int, cntS xs ≤ xs.length
  | [] => Nat.le_refl _
  | x :: l => by have := cntS_le l; simp only [cntS, List.length_cons]; split <;> omega
theorem cntS_lt : ∀ {xs : List Int} {i : Nat} {x : Int}, xs[i]? = some x → x < 0 → cntS xs < xs.length
  | [], i, x, h, _ => by simp at h
  | y :: l, 0, x, h, hx => by
    simp at h; subst h
    have := cntS_le l
    simp only [cntS, List.length_cons, if_pos hx]; omega
  | y :: l, i + 1, x, h, hx => by
    have := cntS_lt (xs := l) (i := i) (by simpa using h) hx
    simp only [cntS, List.length_cons]; split <;> omega
theorem cntS_set : ∀ {xs : List Int} {i : Nat} {x v : Int}, xs[i]? = some x → 0 ≤ v → cntS (xs.set i v) = cntS xs + (if x < 0 then 1 else 0)
  | [], i, x, v, h, _ => by simp at h
  | y :: l, 0, x, v, h, hv => by
    simp at h; subst h
    simp only [List.set_cons_zero, cntS, if_neg (show ¬ v < 0 by omega)]; split <;> omega
  | y :: l, i + 1, x, v, h, hv => by
    have := cntS_set (xs := l) (i := i) (by simpa using h) hv
    simp only [List.set_cons_succ, cntS, this]; omega
theorem muS_set (T : Nat) : ∀ {xs : List Int} {i : Nat} {x v : Int}, xs[i]? = some x → 0 ≤ v → muS T (xs.set i v) + (if x < 0 then T else x.toNat) = muS T xs + v.toNat
  | [], i, x, v, h, _ => by simp at h
  | y :: l, 0, x, v, h, hv => by
    simp at h; subst h
    simp only [List.set_cons_zero, muS, if_neg (show ¬ v < 0 by omega)]; omega
  | y :: l, i + 1, x, v, h, hv => by
    have := muS_set T (xs := l) (i := i) (by simpa using h) hv
    simp only [List.set_cons_succ, muS]; omega
/-- the numbers of a table: -1 or a length, not above 4 to the count of the set ones -/
structure LenG (nons : Nat) (xs : List Int) : Prop where
  len : xs.length = nons
  bnd : ∀ x ∈ xs, -1 ≤ x ∧ x ≤ ((4 ^ cntS xs : Nat) : Int)
theorem LenG.start (n : Nat) : LenG n (List.replicate n (-1)) :=
  ⟨by simp, fun x hx => by rw [List.eq_of_mem_replicate hx]; exact ⟨by omega, by have := Int.natCast_nonneg (4 ^ cntS (List.replicate n (-1))); omega⟩⟩
theorem LenG.top {n : Nat} {xs : List Int} (h : LenG n xs) : (4 ^ cntS xs : Nat) ≤ 4 ^ n := Nat.pow_le_pow_right (by omega) (by rw [← h.len]; exact cntS_le xs)
theorem LenG.put {n i : Nat} {xs : List Int} {x v : Int} (h : LenG n xs) (hi : xs[i]? = some x) (h0 : 0 ≤ v) (hv : v ≤ ((4 * 4 ^ cntS xs : Nat) : Int)) (hx : x < 0 ∨ v < x) :
    LenG n (xs.set i v) ∧ muS (4 ^ n + 1) (xs.set i v) < muS (4 ^ n + 1) xs := by
  have hc := cntS_set hi h0
  have hm := muS_set (4 ^ n + 1) hi h0
  by_cases e : x < 0
  · rw [if_pos e] at hc hm
    have hlt : cntS xs + 1 ≤ n := by rw [← h.len]; exact cntS_lt hi e
    have h4 : (4 ^ (cntS xs + 1) : Nat) ≤ 4 ^ n := Nat.pow_le_pow_right (by omega) hlt
    have h5 : (4 ^ (cntS xs + 1) : Nat) = 4 * 4 ^ cntS xs := by rw [Nat.pow_succ]; omega
    refine ⟨⟨by rw [List.length_set]; exact h.len, fun y hy => ?_⟩, by omega⟩
    rw [hc, h5]
    rcases List.mem_or_eq_of_mem_set hy with hy | rfl
    · have := h.bnd y hy; omega
    · omega
  · rw [if_neg e] at hc hm
    have hvx : v < x := by rcases hx with hx | hx <;> omega
    refine ⟨⟨by rw [List.length_set]; exact h.len, fun y hy => ?_⟩, by omega⟩
    rw [hc, Nat.add_zero]
    rcases List.mem_or_eq_of_mem_set hy with hy | rfl
    · exact h.bnd y hy
    · have := h.bnd x (List.mem_of_getElem? hi); omega
/-- the sum over the first j symbols of a right side -/
def SumB (xs : List Int) (j : Nat) (s : Int) : Prop := -1 ≤ s ∧ s ≤ ((j * 4 ^ cntS xs : Nat) : Int)
theorem SumB.start (xs : List Int) : SumB xs 0 0 := ⟨by omega, by simp⟩
theorem SumB.no (xs : List Int) (j : Nat) : SumB xs j (-1) := ⟨by omega, by omega⟩
theorem SumB.one {xs : List Int} {j : Nat} {s : Int} (h : SumB xs j s) : SumB xs (j + 1) (s + 1) := by
  have h1 : 1 ≤ 4 ^ cntS xs := Nat.pow_pos (by omega)
  have h2 : (j + 1) * 4 ^ cntS xs = j * 4 ^ cntS xs + 4 ^ cntS xs := by rw [Nat.add_mul]; omega
  unfold SumB at *
  rw [h2]; omega
theorem SumB.add {xs : List Int} {n j : Nat} {s x : Int} (h : SumB xs j s) (hg : LenG n xs) (hx : x ∈ xs) (h0 : 0 ≤ x) : SumB xs (j + 1) (s + x) := by
  have h1 := hg.bnd x hx
  have h2 : (j + 1) * 4 ^ cntS xs = j * 4 ^ cntS xs + 4 ^ cntS xs := by rw [Nat.add_mul]; omega
  unfold SumB at *
  rw [h2]; omega
theorem SumB.small {xs : List Int} {n j : Nat} {s : Int} (h : SumB xs j s) (hg : LenG n xs) (hj : j ≤ 4) (hn : n ≤ 12) : s ≤ 67108864 := by
  have h1 := hg.top
  have h2 : (4 ^ n : Nat) ≤ 4 ^ 12 := Nat.pow_le_pow_right (by omega) hn
  have h3 : j * 4 ^ cntS xs ≤ 4 * 4 ^ cntS xs := Nat.mul_le_mul_right _ hj
  have h4 := h.2
  have h5 : (4 ^ 12 : Nat) = 16777216 := by decide
  omega
theorem SumB.four {xs : List Int} {j : Nat} {s : Int} (h : SumB xs j s) (hj : j ≤ 4) : s ≤ ((4 * 4 ^ cntS xs : Nat) : Int) := by
  have h3 : j * 4 ^ cntS xs ≤ 4 * 4 ^ cntS xs := Nat.mul_le_mul_right _ hj
  have := h.2; omega
end Go.Proofs.Ytdmecijpioljaaa




namespace Go.Proofs.Ytdmecijpioljaaa
open Go.RowKit

def iVals (xs : List Int) : Array Value := (xs.map (Value.int .i64)).toArray
structure LR (w : World) (g : Nat) (gc : Array Value) (xs : List Int) (wr : World) : Prop where
  blk : Blk wr g 3 (iVals xs)
  hg : Blk wr w.heap.size 28 gc
  bel : Below w.heap.size w wr
  l1 : w.heap.size < g
theorem LR.via {w wr wa : World} {g : Nat} {gc : Array Value} {xs : List Int} (h : LR w g gc xs wr) (k : Below wr.heap.size wr wa) : LR w g gc xs wa := ⟨h.blk.via k, h.hg.via k, h.bel.via k, h.l1⟩
theorem LR.put {w wr : World} {g i : Nat} {gc : Array Value} {xs : List Int} (h : LR w g gc xs wr) (v : Int) : LR w g gc (xs.set i v) (wr.setCell ⟨g, i, none⟩ (.int .i64 v)) := by
  have e := h.blk.set_ i (.int .i64 v)
  refine ⟨?_, (Below.heap_setCell _ _ _ _ (by have := h.l1; show w.heap.size ≠ g; omega)).trans h.hg, h.bel.setCell (by have := h.l1; show w.heap.size ≤ g; omega) _, h.l1⟩
  have q : iVals (xs.set i v) = (iVals xs).setIfInBounds i (.int .i64 v) := by simp [iVals, List.map_set]
  rw [q]; exact e
theorem LR.cell {w wr : World} {g i : Nat} {gc : Array Value} {xs : List Int} {x : Int} (h : LR w g gc xs wr) (hx : xs[i]? = some x) : wr.cell? ⟨g, i, none⟩ = some (.int .i64 x) :=
  (h.blk.cell i).trans (by simp [iVals, hx])
def Prog (n : Nat) (xs0 xs : List Int) (ag : Bool) : Prop := (ag = false ∧ xs = xs0) ∨ (ag = true ∧ muS (4 ^ n + 1) xs < muS (4 ^ n + 1) xs0)
theorem Prog.step {n : Nat} {xs0 xs ys : List Int} {ag : Bool} (h : Prog n xs0 xs ag) (k : muS (4 ^ n + 1) ys < muS (4 ^ n + 1) xs) : Prog n xs0 ys true := by
  rcases h with ⟨_, rfl⟩ | ⟨_, h⟩
  · exact Or.inr ⟨rfl, k⟩
  · exact Or.inr ⟨rfl, by omega⟩
def LenP (w : World) (n : Nat) (e : Ending) (w' : World) : Prop := ∃ (g : Nat) (xs : List Int), e = .returned (.slice (some ⟨g, 0, none⟩) n n) ∧ xs.length = n ∧ Blk w' g 3 (iVals xs) ∧ Below w.heap.size w w' ∧ w.heap.size < g
set_option maxRecDepth 100000 in
set_option maxHeartbeats 8000000 in
theorem lengths_c (ok : Nat → Prop) (g : Gr) (Ag : Option Addr) (ng cg : Nat) (w : World) (hg : GrOk g) (hl : Sl RuE ok w Ag ng cg g.rules) :
    Calls Try.prog 51 #[grVal g Ag ng cg] w (LenP w g.nons) := by
  have B0 := Blk.new w 28 #[.int .i64 (g.terms : Int), .int .i64 (g.nons : Int), .int .i64 (g.start : Int), .slice Ag ng cg]
  have hB := (Below.refl w.heap.size w).al (.cells #[.int .i64 (g.terms : Int), .int .i64 (g.nons : Int), .int .i64 (g.start : Int), .slice Ag ng cg] 28)
  have hn1 := hg.ok.nons.1
  have hn10 := hg.ok.nons.2
  have hlen := hl.len
  have HGO := Lib.hid hg
  have HL0 := Lib.hid hl
  have HB := Lib.hid hB
  have HB0 := Lib.hid B0
  have hng32 : ng ≤ 32 := by have := hg.ok.count; omega
  simp only [grVal]
  clear hg hl hB hlen
  go_enter Try.func51, Try.ntmps51
  have cB0 := B0.cell
  have fB0 := B0.frozen
  have lB0 := B0.lt
  go_wp2_with fail
  clear cB0 fB0 lB0
  have BS := Blk.new (w.alloc (.cells #[.int .i64 (g.terms : Int), .int .i64 (g.nons : Int), .int .i64 (g.start : Int), .slice Ag ng cg] 28)) 3 #[.int .i64 (-1)]
  rw [World.size_alloc] at BS
  have HB2 := Lib.hid (HB.out.al (.cells #[.int .i64 (-1)] 3))
  have HBG := Lib.hid (HB0.out.al (.cells #[.int .i64 (-1)] 3))
  clear B0 HB HB0
  generalize hW : (w.alloc (.cells #[.int .i64 (g.terms : Int), .int .i64 (g.nons : Int), .int .i64 (g.start : Int), .slice Ag ng cg] 28)).alloc (.cells #[.int .i64 (-1)] 3) = W at *
  have hWs : w.heap.size < W.heap.size := HBG.out.lt
  clear hW
  refine (repeat_c (w.heap.size + 1) g.nons W (BS.cell 0) hn1 (by omega)).mono ?_
  rintro e w2 ⟨rfl, hb2, hbel⟩
  have HLR := Lib.hid (show LR w W.heap.size #[.int .i64 (g.terms : Int), .int .i64 (g.nons : Int), .int .i64 (g.start : Int), .slice Ag ng cg] (List.replicate g.nons (-1)) w2 from
    ⟨by have q : iVals (List.replicate g.nons (-1)) = (List.replicate g.nons (Value.int .i64 (-1))).toArray := by simp [iVals]
        rw [q]; exact hb2, HBG.out.via hbel, HB2.out.via hbel, hWs⟩)
  have HLG := Lib.hid (LenG.start g.nons)
  clear BS HB2 HBG hb2 hbel hWs
  generalize W.heap.size = bo at *
  generalize List.replicate g.nons (-1) = xs0 at *
  go_wp2_with fail
  go_loopg [4] (2 * muS (4 ^ g.nons + 1) xs0 + 1) (fun gk a wx => ∃ xs ag, a = .bool ag ∧ LenG g.nons xs ∧ LR w bo #[.int .i64 (g.terms : Int), .int .i64 (g.nons : Int), .int .i64 (g.start : Int), .slice Ag ng cg] xs wx ∧ gk = 2 * muS (4 ^ g.nons + 1) xs + (if ag then 1 else 0))
  case atStart => exact ⟨xs0, true, rfl, HLG.out, HLR.out, rfl⟩
  case round =>
    obtain ⟨xs, ag, rfl, hlg, hlr, hgk⟩ := hrel
    clear HLR HLG
    cases ag with
    | false =>
      have HLG := Lib.hid hlg
      have HLR := Lib.hid hlr
      clear hlg hlr hgk
      go_wp2_with fail
      go_ret
      exact ⟨bo, xs, rfl, HLG.out.len, HLR.out.blk, HLR.out.bel, HLR.out.l1⟩
    | true =>
      have HLG := Lib.hid hlg
      have HLR := Lib.hid hlr
      have HGK := Lib.hid hgk
      have Bg := hlr.hg
      clear hlg hlr hgk
      have cBg := Bg.cell
      have fBg := Bg.frozen
      have lBg := Bg.lt
      go_wp2_with fail
      clear cBg fBg lBg
      clear Bg
      obtain ⟨wo, rfl⟩ : ∃ wo : World, wo = wr := ⟨_, rfl⟩
      go_loopw [4, 19] (fun a q wr => ∃ (k : Nat) (ys : List Int) (ag : Bool), q = .int .i64 k ∧ k ≤ ng ∧ a = .bool ag ∧ LenG g.nons ys ∧ LR w bo #[.int .i64 (g.terms : Int), .int .i64 (g.nons : Int), .int .i64 (g.start : Int), .slice Ag ng cg] ys wr ∧ Prog g.nons xs ys ag) (fun _ q _ => ng - (intOf q).toNat)
      case atStart => exact ⟨0, xs, false, rfl, Nat.zero_le _, rfl, HLG.out, HLR.out, Or.inl ⟨rfl, rfl⟩⟩
      case round =>
        obtain ⟨k, ys, ag, rfl, hk, rfl, hlg, hlr, hpg⟩ := hrel
        clear HLR HLG
        by_cases hkn : k < ng
        · obtain ⟨b1, o1, ⟨sl, sA, sn, sc⟩, ⟨sl', rhs⟩, hAg, -, hbb, hy, ⟨hx1, hx2⟩, hc⟩ := (HL0.out.via hlr.bel).at_ hkn
          simp only at hx1 hx2
          obtain rfl : sl = sl' := hx1
          subst hAg
          have d0 := hc 0 _ rfl
          have d1 := hc 1 _ rfl
          simp only [RuE, Nat.add_zero] at d0 d1
          have i0 : (0 : Int) ≤ (k : Int) := by omega
          have i1 : (k : Int) < (ng : Int) := by omega
          have hmem := List.mem_of_getElem? hy
          have hsl : sl < g.nons := HGO.out.ok.left _ hmem
          have HRT := Lib.hid (HGO.out.ok.right _ hmem)
          have hsn : sn ≤ 4 := by rw [← hx2.len]; exact HRT.out.1
          have HSR := Lib.hid (hx2.al (.cells #[.int .i64 (sl : Int), .slice sA sn sc] 47))
          have HLR1 := Lib.hid (hlr.via ((Below.refl wr.heap.size wr).al (.cells #[.int .i64 (sl : Int), .slice sA sn sc] 47)))
          have HBK := Lib.hid (Blk.new wr 47 #[.int .i64 (sl : Int), .slice sA sn sc])
          have HLG1 := Lib.hid hlg
          have HPG1 := Lib.hid hpg
          have hbx : bo < wr.heap.size := hlr.blk.lt
          clear hc hy hx2 hlg hlr hpg hmem hbb
          go_wp2_with fail
          clear d0 d1
          generalize wr.alloc (.cells #[.int .i64 (sl : Int), .slice sA sn sc] 47) = W4 at *
          generalize wr.heap.size = brx at *
          obtain ⟨wp, rfl⟩ : ∃ wp : World, wp = wr := ⟨_, rfl⟩
          go_loopw [7, 26] (fun a q wr => ∃ (j : Nat) (s : Int), q = .int .i64 j ∧ j ≤ sn ∧ a = .int .i64 s ∧ SumB ys j s ∧ LR w bo #[.int .i64 (g.terms : Int), .int .i64 (g.nons : Int), .int .i64 (g.start : Int), .slice (some ⟨b1, o1, none⟩) ng cg] ys wr ∧ Blk wr brx 47 #[.int .i64 (sl : Int), .slice sA sn sc] ∧ Below W4.heap.size W4 wr) (fun _ q _ => sn - (intOf q).toNat)
          case atStart => exact ⟨0, 0, rfl, Nat.zero_le _, rfl, SumB.start ys, HLR1.out, HBK.out, Below.refl _ _⟩
          case round =>
            obtain ⟨j, s, rfl, hj, rfl, hsb, hlr, hbk, hbw⟩ := hrel
            clear HLR1 HBK
            by_cases hjn : j < sn
            · obtain ⟨b2, o2, sx, sy, rfl, -, hbb2, hy2, hxy, hc2⟩ := (HSR.out.via hbw).at_ hjn
              obtain rfl : sx = sy := hxy
              obtain ⟨tb, tn⟩ := sx
              have c0 := hc2 0 _ rfl
              have c1 := hc2 1 _ rfl
              simp only [SyE, Nat.add_zero] at c0 c1
              have j0 : (0 : Int) ≤ (j : Int) := by omega
              have j1 : (j : Int) < (sn : Int) := by omega
              have hsy := HRT.out.2 _ (List.mem_of_getElem? hy2)
              have hsm := hsb.small HLG1.out (by omega) (by omega)
              have hs0 := hsb.1
              have HSB := Lib.hid hsb
              have hal := (Below.refl wr.heap.size wr).al (.cells #[.bool tb, .int .i64 (tn : Int)] 45)
              have HLR2 := Lib.hid (hlr.via hal)
              have HBK2 := Lib.hid (hbk.via hal)
              have HBW2 := Lib.hid (hbw.via hal)
              have Bs := Blk.new wr 45 #[.bool tb, .int .i64 (tn : Int)]
              clear hc2 hy2 hbb2 hsb hlr hbw hal
              have chbk := hbk.cell
              have fhbk := hbk.frozen
              have lhbk := hbk.lt
              go_upto_region 13 with fail
              clear chbk fhbk lhbk
              clear c0 c1 hbk
              generalize wr.alloc (.cells #[.bool tb, .int .i64 (tn : Int)] 45) = W5 at *
              generalize wr.heap.size = bs5 at *
              by_cases hs : 0 ≤ s
              · cases tb with
                | true =>
                  have cBs := Bs.cell
                  have fBs := Bs.frozen
                  have lBs := Bs.lt
                  go_wp2_with fail
                  exact ⟨⟨j + 1, s + 1, by go_num, by omega, by go_num, HSB.out.one, HLR2.out, HBK2.out, HBW2.out⟩, by simp [intOf]; omega⟩
                | false =>
                  rw [Gr.okSy, if_neg (by simp)] at hsy
                  have htn : tn < g.nons := by simpa using hsy
                  obtain ⟨x, hx⟩ : ∃ x, ys[tn]? = some x := ⟨_, List.getElem?_eq_getElem (by rw [HLG1.out.len]; exact htn)⟩
                  have hcx := HLR2.out.cell hx
                  have t0 : (0 : Int) ≤ (tn : Int) := by omega
                  have t1 : (tn : Int) < (g.nons : Int) := by omega
                  have HX := Lib.hid (List.mem_of_getElem? hx)
                  clear hx hsy
                  by_cases hx0 : 0 ≤ x
                  · have HA := Lib.hid (HSB.out.add HLG1.out HX.out hx0)
                    have hA2 := HA.out.small HLG1.out (by omega) (by omega)
                    have cBs := Bs.cell
                    have fBs := Bs.frozen
                    have lBs := Bs.lt
                    go_wp2_with fail
                    exact ⟨⟨j + 1, s + x, by go_num, by omega, by go_num, HA.out, HLR2.out, HBK2.out, HBW2.out⟩, by simp [intOf]; omega⟩
                  · have e2 : decide ((0 : Int) ≤ x) = false := by simpa using hx0
                    have cBs := Bs.cell
                    have fBs := Bs.frozen
                    have lBs := Bs.lt
                    go_wp2_with fail
                    exact ⟨⟨j + 1, -1, by go_num, by omega, rfl, SumB.no ys _, HLR2.out, HBK2.out, HBW2.out⟩, by simp [intOf]; omega⟩
              · have e1 : decide ((0 : Int) ≤ s) = false := by simpa using hs
                cases tb with
                | true =>
                  have cBs := Bs.cell
                  have fBs := Bs.frozen
                  have lBs := Bs.lt
                  go_wp2_with fail
                  exact ⟨⟨j + 1, -1, by go_num, by omega, rfl, SumB.no ys _, HLR2.out, HBK2.out, HBW2.out⟩, by simp [intOf]; omega⟩
                | false =>
                  have cBs := Bs.cell
                  have fBs := Bs.frozen
                  have lBs := Bs.lt
                  go_wp2_with fail
                  exact ⟨⟨j + 1, -1, by go_num, by omega, rfl, SumB.no ys _, HLR2.out, HBK2.out, HBW2.out⟩, by simp [intOf]; omega⟩
            · have hs0 := hsb.1
              obtain ⟨x, hx⟩ : ∃ x, ys[sl]? = some x := ⟨_, List.getElem?_eq_getElem (by rw [HLG1.out.len]; exact hsl)⟩
              have hcx := hlr.cell hx
              have hsm := hsb.small HLG1.out (by omega) (by omega)
              have h4 := Lib.hid (hsb.four (show j ≤ 4 by omega))
              have fr := hlr.blk.frozen
              have HX := Lib.hid hx
              have HLR2 := Lib.hid hlr
              have HS := Lib.hid hsb
              have s0 : (0 : Int) ≤ (sl : Int) := by omega
              have s1 : (sl : Int) < (g.nons : Int) := by omega
              clear hsb hlr hbw hx
              by_cases hs : 0 ≤ s
              · by_cases hxn : x < 0
                · have HP := Lib.hid (HLG1.out.put HX.out hs h4.out (Or.inl hxn))
                  have chbk := hbk.cell
                  have fhbk := hbk.frozen
                  have lhbk := hbk.lt
                  go_wp2_with fail
                  exact ⟨⟨k + 1, ys.set sl s, true, by go_num, by omega, rfl, HP.out.1, HLR2.out.put s, HPG1.out.step HP.out.2⟩, by simp [intOf]; omega⟩
                · by_cases hsx : s < x
                  · have HP := Lib.hid (HLG1.out.put HX.out hs h4.out (Or.inr hsx))
                    have chbk := hbk.cell
                    have fhbk := hbk.frozen
                    have lhbk := hbk.lt
                    go_wp2_with fail
                    exact ⟨⟨k + 1, ys.set sl s, true, by go_num, by omega, rfl, HP.out.1, HLR2.out.put s, HPG1.out.step HP.out.2⟩, by simp [intOf]; omega⟩
                  · have chbk := hbk.cell
                    have fhbk := hbk.frozen
                    have lhbk := hbk.lt
                    go_wp2_with fail
                    exact ⟨⟨k + 1, ys, ag, by go_num, by omega, rfl, HLG1.out, HLR2.out, HPG1.out⟩, by simp [intOf]; omega⟩
              · have e1 : decide ((0 : Int) ≤ s) = false := by simpa using hs
                have chbk := hbk.cell
                have fhbk := hbk.frozen
                have lhbk := hbk.lt
                go_wp2_with fail
                exact ⟨⟨k + 1, ys, ag, by go_num, by omega, rfl, HLG1.out, HLR2.out, HPG1.out⟩, by simp [intOf]; omega⟩
        · have HLG := Lib.hid hlg
          have HLR := Lib.hid hlr
          have HPG := Lib.hid hpg
          clear hlg hlr hpg
          go_wp2_with fail
          go_roundg (2 * muS (4 ^ g.nons + 1) ys + (if ag then 1 else 0))
          case measure =>
            rw [HGK.out]
            rcases HPG.out with ⟨rfl, rfl⟩ | ⟨rfl, h⟩
            · simp
            · simp; omega
          case rel => exact ⟨ys, ag, rfl, HLG.out, HLR.out, rfl⟩
end Go.Proofs.Ytdmecijpioljaaa



namespace Go.Proofs.Ytdmecijpioljaaa
open Go.RowKit

def LensP (w : World) (n : Nat) (e : Ending) (w' : World) : Prop := ∃ (g : Nat) (xs : List Int), e = .returned (.tuple #[.slice (some ⟨g, 0, none⟩) n n, .int .i64 0]) ∧ xs.length = n ∧ Blk w' g 3 (iVals xs) ∧ Below w.heap.size w w' ∧ w.heap.size ≤ g
set_option maxRecDepth 100000 in
set_option maxHeartbeats 4000000 in
theorem Lengths_c (ok : Nat → Prop) (g : Gr) (Ag : Option Addr) (ng cg : Nat) (w : World) (hg : GrOk g) (hl : Sl RuE ok w Ag ng cg g.rules) :
    Calls Try.prog 30 #[grVal g Ag ng cg] w (LensP w g.nons) := by
  have B0 := Blk.new w 28 #[.int .i64 (g.terms : Int), .int .i64 (g.nons : Int), .int .i64 (g.start : Int), .slice Ag ng cg]
  have HB := Lib.hid ((Below.refl w.heap.size w).al (.cells #[.int .i64 (g.terms : Int), .int .i64 (g.nons : Int), .int .i64 (g.start : Int), .slice Ag ng cg] 28))
  have HGO := Lib.hid hg
  have HL := Lib.hid (hl.al (.cells #[.int .i64 (g.terms : Int), .int .i64 (g.nons : Int), .int .i64 (g.start : Int), .slice Ag ng cg] 28))
  simp only [grVal]
  clear hg hl
  go_enter Try.func30, Try.ntmps30
  have cB0 := B0.cell
  have fB0 := B0.frozen
  have lB0 := B0.lt
  go_wp2_with fail
  clear cB0 fB0 lB0
  generalize w.alloc (.cells #[.int .i64 (g.terms : Int), .int .i64 (g.nons : Int), .int .i64 (g.start : Int), .slice Ag ng cg] 28) = W at *
  refine (check_c ok g Ag ng cg W HGO.out HL.out).mono ?_
  rintro e w1 ⟨rfl, hb⟩
  have HB1 := Lib.hid hb
  have B1 := B0.via hb
  clear hb B0
  have cB1 := B1.cell
  have fB1 := B1.frozen
  have lB1 := B1.lt
  go_wp2_with fail
  clear cB1 fB1 lB1
  refine (lengths_c ok g Ag ng cg w1 HGO.out (HL.out.via HB1.out)).mono ?_
  rintro e w2 ⟨b, xs, rfl, hxl, hbk, hb2, hlt⟩
  have HX := Lib.hid hxl
  have HK := Lib.hid hbk
  have HB2 := Lib.hid ((HB.out.via HB1.out).via hb2)
  have HLT := Lib.hid (show w.heap.size ≤ b by have := (HB.out.via HB1.out).size; omega)
  clear hxl hbk hb2 hlt B1
  go_wp2_with fail
  go_ret2
  exact ⟨b, xs, rfl, HX.out, HK.out, HB2.out, HLT.out⟩
theorem gN_c (n : Int) (w : World) : Calls Try.prog 24 #[.int .i64 n] w fun e w' => e = .returned (.agg #[.bool false, .int .i64 n]) ∧ Below w.heap.size w w' := by
  go_enter Try.func24, Try.ntmps24
  go_wp2_with fail
  exact bodyPost_ret (v := .agg #[.bool false, .int .i64 n]) (by simp [results, Try.results24, go_sem]) rfl ⟨rfl, (Below.refl _ _).al _⟩
end Go.Proofs.Ytdmecijpioljaaa




namespace Go.Proofs.Ytdmecijpioljaaa
open Go.RowKit

theorem h_rows_info : (Try.prog.info? 97).map (fun i => (i.zero, i.size, i.bytes)) = some (some (.slice none 0 0), 1, 24) := by kernel_rfl
theorem h_row_info : (Try.prog.info? 98).map (fun i => (i.zero, i.size, i.bytes)) = some (some (.slice none 0 0), 1, 24) := by kernel_rfl
theorem h_mk_wrows (n : Nat) (hn : n ≤ 1000000) : ∀ w : World, (Instr.makeSlice 97 (.int .i64 ((n : Int) + 1)) (.int .i64 ((n : Int) + 1))).run Try.prog w = .ok (.slice (some ⟨w.heap.size, 0, none⟩) (n + 1) (n + 1)) (w.alloc (.cells (mkCells (.slice none 0 0) (n + 1)) 98)) := by
  intro w
  obtain ⟨i, hi, hz, hs, hb⟩ := info_parts h_row_info
  have := run_make (P := Try.prog) w 97 98 i _ Try.underlying97 hi hz .i64 .i64 ((n : Int) + 1) ((n : Int) + 1) (by omega) (by omega) (by rw [hb]; omega) (by omega)
  rw [show ((n : Int) + 1).toNat = n + 1 from by omega, hs, Nat.mul_one] at this
  exact this
theorem h_wpList_append_rows {ops : Array Oper} {rest : List Oper} {o : Oper} {a : Act} {Q : Exit → Act → World → Prop} (w : World) (hgd : o.guard = none) (s y : Operand)
    (ho : o.op = .call { callee := .builtin .append, args := #[s, y], argTypes := #[94, 94] }) (base : Nat) (v : Value) (n : Nat) (l : List SlV) (hv : a.eval s = v) (hown : Own SlE 97 (fun _ => False) w base v n l)
    (b : Nat) (x : SlV) (hy : a.eval y = .slice (some ⟨b, 0, none⟩) 1 1) (hcell : w.cell? ⟨b, 0, none⟩ = some (.slice x.1 x.2.1 x.2.2))
    (h63 : n + 1 ≤ 1000000) (hbase : base ≤ w.heap.size)
    (h : ∀ A' c' w', Own SlE 97 (fun _ => False) w' base (.slice A' (n + 1) c') (n + 1) (l ++ [x]) → w.grownBy w' v.ownBlock → ((Value.slice A' (n + 1) c').ownBlock = v.ownBlock ∨ (Value.slice A' (n + 1) c').ownBlock = some w.heap.size) → wpList Try.prog ops Q rest (a.put o.dst (.slice A' (n + 1) c')) w') : wpList Try.prog ops Q (o :: rest) a w := by
  obtain ⟨i, hi, hz, hs, hb⟩ := info_parts h_rows_info
  exact wpList_append_E w hgd s y _ _ ho i _ 24 Try.underlying94 hi hz hs hb rfl (fun _ => False) base v n l hv hown b x x hy (fun j u hu => by
    cases j with
    | zero => simp [SlE] at hu; subst hu; exact hcell
    | succ j => simp [SlE] at hu) rfl (by unfold maxLen; omega) (by omega) hbase h

/-- the first k nonterminals have their rows; all that lies below hi -/
structure HIR (w : World) (bc bg n hi k : Nat) (rb : Nat → Nat) (cb : Nat → Nat → Nat) (cs : Value → Array Value) (gcs : Array Value) (v : Value) (wr : World) : Prop where
  hc : Blk wr bc 96 (cs v)
  hg : Blk wr bg 28 gcs
  own : Own SlE 97 (fun _ => False) wr (bc + 1) v k ((List.range k).map fun a => (some ⟨rb a, 0, none⟩, n + 1, n + 1))
  mid : ∀ a i, a < k → i ≤ n → wr.cell? ⟨rb a, i, none⟩ = some (.slice (some ⟨cb a i, 0, none⟩) (n + 1) (n + 1))
  row : ∀ a i, a < k → i ≤ n → HRow (fun _ => False) wr (cb a i) n (fun _ => Way.no)
  inj : ∀ a i a' i', a < k → i ≤ n → a' < k → i' ≤ n → cb a i = cb a' i' → a = a' ∧ i = i'
  ne : ∀ a a' i, a < k → a' < k → i ≤ n → rb a ≠ cb a' i
  lb : ∀ a, a < k → bc < rb a ∧ rb a < hi
  lc : ∀ a i, a < k → i ≤ n → bc < cb a i ∧ cb a i < hi
  vb : ∀ b, v.ownBlock = some b → b < hi ∧ ∀ a, a < k → b ≠ rb a ∧ ∀ i, i ≤ n → b ≠ cb a i
  bel : Below w.heap.size w wr
  l0 : w.heap.size ≤ bg
  l1 : bg < bc
  l2 : bc < hi
  l3 : hi ≤ wr.heap.size
section
variable {w wr wa : World} {bc bg n hi k : Nat} {rb : Nat → Nat} {cb : Nat → Nat → Nat} {cs : Value → Array Value} {gcs : Array Value} {v : Value}
theorem HIR.below (h : HIR w bc bg n hi k rb cb cs gcs v wr) (hb : Below hi wr wa) : HIR w bc bg n hi k rb cb cs gcs v wa := by
  have l0 := h.l0; have l1 := h.l1; have l2 := h.l2; have l3 := h.l3
  refine ⟨h.hc.below hb h.l2, h.hg.below hb (by omega), h.own.agr ?_, fun a i ha hi => (hb.cell (p := ⟨rb a, i, none⟩) (h.lb a ha).2).trans (h.mid a i ha hi), fun a i ha hi => (h.row a i ha hi).agr (hb.block _ (h.lc a i ha hi).2) (fun b h => h.elim), h.inj, h.ne, h.lb, h.lc, h.vb, h.bel.trans (hb.mono (by omega)), l0, l1, l2, Nat.le_trans l3 hb.size⟩
  intro b hb' _
  rcases hb' with hb' | hb'
  · exact hb'.elim
  · exact hb.block b (h.vb b hb'.symm).1
theorem HIR.up {hi' : Nat} (h : HIR w bc bg n hi k rb cb cs gcs v wr) (h1 : hi ≤ hi') (h2 : hi' ≤ wr.heap.size) : HIR w bc bg n hi' k rb cb cs gcs v wr :=
  ⟨h.hc, h.hg, h.own, h.mid, h.row, h.inj, h.ne, fun a ha => ⟨(h.lb a ha).1, by have := (h.lb a ha).2; omega⟩, fun a i ha hi => ⟨(h.lc a i ha hi).1, by have := (h.lc a i ha hi).2; omega⟩, fun b hb => ⟨by have := (h.vb b hb).1; omega, (h.vb b hb).2⟩, h.bel, h.l0, h.l1, by have := h.l2; omega, h2⟩
end
/-- the rows of nonterminal k: block R, of which the first i places are made -/
structure HJR (w : World) (bc bg n hi k : Nat) (rb : Nat → Nat) (cb : Nat → Nat → Nat) (cs : Value → Array Value) (gcs : Array Value) (v : Value) (R i : Nat) (ck : Nat → Nat) (wr : World) : Prop where
  ir : HIR w bc bg n hi k rb cb cs gcs v wr
  top : ∃ C : Array Value, Blk wr R 98 C ∧ C.size = n + 1 ∧ ∀ a, a < i → C[a]? = some (.slice (some ⟨ck a, 0, none⟩) (n + 1) (n + 1))
  row : ∀ a, a < i → HRow (fun _ => False) wr (ck a) n (fun _ => Way.no)
  inj : ∀ a a', a < i → a' < i → ck a = ck a' → a = a'
  lo : hi ≤ R
  lc : ∀ a, a < i → R < ck a ∧ ck a < wr.heap.size
section
variable {w wr wa : World} {bc bg n hi k R i : Nat} {rb : Nat → Nat} {cb : Nat → Nat → Nat} {cs : Value → Array Value} {gcs : Array Value} {v : Value} {ck : Nat → Nat}
theorem HJR.start (h : HIR w bc bg n hi k rb cb cs gcs v wr) (ck : Nat → Nat) : HJR w bc bg n hi k rb cb cs gcs v wr.heap.size 0 ck (wr.alloc (.cells (mkCells (.slice none 0 0) (n + 1)) 98)) :=
  ⟨h.below ((Below.refl hi wr).alloc h.l3 _), ⟨_, Blk.new wr _ _, mkCells_size _ _, fun a h => by omega⟩, fun a h => by omega, fun a a' h => by omega, h.l3, fun a h => by omega⟩
/-- one place more -/
theorem HJR.next (h : HJR w bc bg n hi k rb cb cs gcs v R i ck wr) (hi' : i ≤ n) :
    HJR w bc bg n hi k rb cb cs gcs v R (i + 1) (fun a => if a = i then wr.heap.size else ck a) ((wr.alloc (.cells (hoCells n) 72)).setCell ⟨R, i, none⟩ (.slice (some ⟨wr.heap.size, 0, none⟩) (n + 1) (n + 1))) := by
  obtain ⟨hir, ⟨C, c1, c2, c3⟩, hrow, hinj, hlo, hlc⟩ := h
  have hR := c1.lt
  have e1 : Below hi wr ((wr.alloc (.cells (hoCells n) 72)).setCell ⟨R, i, none⟩ (.slice (some ⟨wr.heap.size, 0, none⟩) (n + 1) (n + 1))) := ((Below.refl hi wr).alloc hir.l3 _).setCell hlo _
  refine ⟨hir.below e1, ⟨_, (c1.al (.cells (hoCells n) 72)).set_ i (.slice (some ⟨wr.heap.size, 0, none⟩) (n + 1) (n + 1)), by simp [c2], fun a ha => ?_⟩, fun a ha => ?_, fun a a' ha ha' e => ?_, hlo, fun a ha => ?_⟩
  · rw [Array.getElem?_setIfInBounds]
    by_cases e : a = i
    · subst e; rw [if_pos rfl, if_pos (by omega), if_pos rfl]
    · rw [if_neg (Ne.symm e), if_neg e]; exact c3 a (by omega)
  · by_cases e : a = i
    · subst e; rw [if_pos rfl]
      exact (HRow.made _ wr n).agr (Below.heap_setCell _ _ _ _ (by show wr.heap.size ≠ R; omega)) (fun b h => h.elim)
    · rw [if_neg e]
      have hl := hlc a (by omega)
      exact ((hrow a (by omega)).al (.cells (hoCells n) 72)).agr (Below.heap_setCell _ _ _ _ (by show ck a ≠ R; omega)) (fun b h => h.elim)
  · by_cases e1 : a = i <;> by_cases e2 : a' = i
    · omega
    · rw [if_pos e1, if_neg e2] at e; have := (hlc a' (by omega)).2; omega
    · rw [if_neg e1, if_pos e2] at e; have := (hlc a (by omega)).2; omega
    · rw [if_neg e1, if_neg e2] at e; exact hinj a a' (by omega) (by omega) e
  · rw [World.size_setCell, World.size_alloc]
    by_cases e : a = i
    · subst e; rw [if_pos rfl]; omega
    · rw [if_neg e]; have := hlc a (by omega); omega
/-- the rows are hung into the table -/
theorem HJR.hang (h : HJR w bc bg n hi k rb cb cs gcs v R (n + 1) ck wr) {w1 : World} {A' : Option Addr} {c' : Nat} (o : Obj)
    (hown : Own SlE 97 (fun _ => False) w1 (bc + 1) (.slice A' (k + 1) c') (k + 1) ((List.range k).map (fun a => (some ⟨rb a, 0, none⟩, n + 1, n + 1)) ++ [(some ⟨R, 0, none⟩, n + 1, n + 1)]))
    (hg : (wr.alloc o).grownBy w1 v.ownBlock) (ha : (Value.slice A' (k + 1) c').ownBlock = v.ownBlock ∨ (Value.slice A' (k + 1) c').ownBlock = some (wr.alloc o).heap.size) (hcs : ∀ u, (cs v).setIfInBounds 5 u = cs u) :
    HIR w bc bg n w1.heap.size (k + 1) (fun a => if a = k then R else rb a) (fun a i => if a = k then ck i else cb a i) cs gcs (.slice A' (k + 1) c') (w1.setCell ⟨bc, 5, none⟩ (.slice A' (k + 1) c')) := by
  obtain ⟨hir, ⟨C, c1, c2, c3⟩, hrow, hinj, hlo, hlc⟩ := h
  have hR := c1.lt
  have l1 := hir.l1; have l2 := hir.l2; have l3 := hir.l3; have l0 := hir.l0
  have hsz : (wr.alloc o).heap.size = wr.heap.size + 1 := World.size_alloc _ _
  have hs1 := hg.size
  have hvR : v.ownBlock ≠ some R := fun e => by have := (hir.vb R e).1; omega
  have hvb : ∀ b, v.ownBlock = some b → b ≠ bc ∧ b ≠ bg := fun b e => by have := (hir.own.lt b e).1; omega
  -- a block that is not v's own is as it was
  have same : ∀ b, b < wr.heap.size → v.ownBlock ≠ some b → b ≠ bc → (w1.setCell ⟨bc, 5, none⟩ (.slice A' (k + 1) c')).heap[b]? = wr.heap[b]? := fun b hb hv hne => by
    rw [Below.heap_setCell _ _ _ _ (by show b ≠ bc; exact hne), hg.block b (by omega) (fun e => hv e.symm)]
    exact Below.heap_alloc wr o b hb
  refine ⟨?_, ?_, ?_, ?_, ?_, ?_, ?_, ?_, ?_, ?_, ?_, l0, l1, by omega, by simp⟩
  · have e := ((hir.hc.al o).grown hg (fun e => (hvb bc e.symm).1 rfl)).set_ 5 (.slice A' (k + 1) c')
    rwa [hcs] at e
  · exact ((hir.hg.al o).grown hg (fun e => (hvb bg e.symm).2 rfl)).far (by show bg ≠ bc; omega) _
  · have e := hown.setCell (p := ⟨bc, 5, none⟩) (.slice A' (k + 1) c') (fun b h => h.elim) (by show bc < bc + 1; omega)
    rw [List.range_succ, List.map_append, List.map_singleton, if_pos rfl]
    have e2 : (List.range k).map (fun a => ((some ⟨if a = k then R else rb a, 0, none⟩, n + 1, n + 1) : SlV)) = (List.range k).map (fun a => (some ⟨rb a, 0, none⟩, n + 1, n + 1)) :=
      List.map_congr_left fun a ha => by rw [if_neg (by have := List.mem_range.1 ha; omega)]
    rw [e2]; exact e
  · intro a i ha hi2
    by_cases e : a = k
    · subst e
      rw [if_pos rfl, if_pos rfl]
      have hb := same R hR hvR (by omega)
      rw [World.cell?_of_block (w := wr) (a := ⟨R, i, none⟩) hb, c1.cell]
      exact c3 i (by omega)
    · rw [if_neg e, if_neg e]
      have hl := hir.lb a (by omega)
      have hb := same (rb a) (by omega) (fun e2 => ((hir.vb _ e2).2 a (by omega)).1 rfl) (by omega)
      rw [World.cell?_of_block (w := wr) (a := ⟨rb a, i, none⟩) hb]
      exact hir.mid a i (by omega) hi2
  · intro a i ha hi2
    by_cases e : a = k
    · subst e
      rw [if_pos rfl]
      have hl := hlc i (by omega)
      exact (hrow i (by omega)).agr (same (ck i) hl.2 (fun e2 => by have := (hir.vb _ e2).1; omega) (by omega)) (fun b h => h.elim)
    · rw [if_neg e]
      have hl := hir.lc a i (by omega) hi2
      exact (hir.row a i (by omega) hi2).agr (same (cb a i) (by omega) (fun e2 => ((hir.vb _ e2).2 a (by omega)).2 i hi2 rfl) (by omega)) (fun b h => h.elim)
  · intro a i a' i' ha hi2 ha' hi2' e
    by_cases e1 : a = k <;> by_cases e2 : a' = k
    · rw [if_pos e1, if_pos e2] at e; exact ⟨by omega, hinj i i' (by omega) (by omega) e⟩
    · rw [if_pos e1, if_neg e2] at e; have := (hlc i (by omega)).1; have := (hir.lc a' i' (by omega) hi2').2; omega
    · rw [if_neg e1, if_pos e2] at e; have := (hlc i' (by omega)).1; have := (hir.lc a i (by omega) hi2).2; omega
    · rw [if_neg e1, if_neg e2] at e; exact hir.inj a i a' i' (by omega) hi2 (by omega) hi2' e
  · intro a a' i ha ha' hi2
    by_cases e1 : a = k <;> by_cases e2 : a' = k
    · rw [if_pos e1, if_pos e2]; have := (hlc i (by omega)).1; omega
    · rw [if_pos e1, if_neg e2]; have := (hir.lc a' i (by omega) hi2).2; omega
    · rw [if_neg e1, if_pos e2]; have := (hlc i (by omega)).1; have := (hir.lb a (by omega)).2; omega
    · rw [if_neg e1, if_neg e2]; exact hir.ne a a' i (by omega) (by omega) hi2
  · intro a ha
    by_cases e : a = k
    · rw [if_pos e]; omega
    · rw [if_neg e]; have := hir.lb a (by omega); omega
  · intro a i ha hi2
    by_cases e : a = k
    · rw [if_pos e]; have := hlc i (by omega); omega
    · rw [if_neg e]; have := hir.lc a i (by omega) hi2; omega
  · intro b hb
    have hb1 := (hown.lt b hb).2
    have key : v.ownBlock = some b ∨ b = wr.heap.size + 1 := by
      rcases ha with e | e
      · left; rw [← e]; exact hb
      · right; rw [hb, hsz] at e; exact Option.some.inj e
    refine ⟨hb1, fun a hak => ⟨?_, fun i hi2 => ?_⟩⟩
    · by_cases e : a = k
      · rw [if_pos e]
        rcases key with e2 | e2
        · have := (hir.vb b e2).1; omega
        · omega
      · rw [if_neg e]
        rcases key with e2 | e2
        · exact ((hir.vb b e2).2 a (by omega)).1
        · have := (hir.lb a (by omega)).2; omega
    · by_cases e : a = k
      · rw [if_pos e]
        have := hlc i (by omega)
        rcases key with e2 | e2
        · have := (hir.vb b e2).1; omega
        · omega
      · rw [if_neg e]
        rcases key with e2 | e2
        · exact ((hir.vb b e2).2 a (by omega)).2 i hi2
        · have := (hir.lc a i (by omega) hi2).2; omega
  · exact ((hir.bel.al o).grown hg (by have := hir.bel.size; omega) fun j hj => by have := (hir.own.lt j hj).1; omega).setCell (by show w.heap.size ≤ bc; omega) _
end
end Go.Proofs.Ytdmecijpioljaaa




namespace Go.Proofs.Ytdmecijpioljaaa
open Go.RowKit

structure HBRel (w : World) (bc bg ob oo N n B0 : Nat) (rb : Nat → Nat) (cb : Nat → Nat → Nat) (ca gcs : Array Value) (st : WSt) (wr : World) : Prop where
  hc : Blk wr bc 96 ca
  hg : Blk wr bg 28 gcs
  bt : HTab (fun b => B0 ≤ b) wr ob oo N n rb cb st
  bel : Below w.heap.size w wr
  l3 : B0 ≤ wr.heap.size
section
variable {w wr wa : World} {bc bg ob oo N n B0 : Nat} {rb : Nat → Nat} {cb : Nat → Nat → Nat} {ca gcs : Array Value} {st : WSt}
theorem HBRel.via (h : HBRel w bc bg ob oo N n B0 rb cb ca gcs st wr) (hb : Below wr.heap.size wr wa) : HBRel w bc bg ob oo N n B0 rb cb ca gcs st wa :=
  ⟨h.hc.via hb, h.hg.via hb, h.bt.via hb, h.bel.via hb, Nat.le_trans h.l3 hb.size⟩
theorem HBRel.dr (h : HBRel w bc bg ob oo N n B0 rb cb ca gcs st wr) : HBRel w bc bg ob oo N n B0 rb cb ca gcs st wr.drew := h.via ((Below.refl _ _).drew)
theorem HBRel.put (hs : BSt w bc bg ob N n B0 rb cb) (h : HBRel w bc bg ob oo N n B0 rb cb ca gcs st wr) {a i j : Nat} (ha : a < N) (hi : i ≤ n) (hj : j ≤ n) {v : HyV} {y : Way} (hv : HoR (fun b => B0 ≤ b) wr v y) :
    HBRel w bc bg ob oo N n B0 rb cb ca gcs (updS st a i j y) (World.put3 wr (cb a i) (j * 3) v) := by
  have hl := hs.lc a i ha hi
  have l0 := hs.l0; have l1 := hs.l1
  refine ⟨(heap_p3 (by omega)).trans h.hc, (heap_p3 (by omega)).trans h.hg, ⟨fun k hk => ?_, fun k i' hk hi' => ?_, fun k i' hk hi' => ?_⟩, below_p3 h.bel (by omega), by rw [size_p3]; exact h.l3⟩
  · rw [World.cell?_of_block (w := wr) (a := ⟨ob, oo + k, none⟩) (heap_p3 (hs.n2 a i ha hi))]; exact h.bt.top k hk
  · rw [World.cell?_of_block (w := wr) (a := ⟨rb k, i', none⟩) (heap_p3 (hs.n1 k a i hk ha hi))]; exact h.bt.mid k i' hk hi'
  · by_cases e : k = a ∧ i' = i
    · obtain ⟨rfl, rfl⟩ := e
      have e2 : updS st k i' j y k i' = upd (st k i') j y := by
        funext q
        by_cases eq : q = j
        · subst eq; rw [updS_same, upd_same]
        · rw [updS_ne _ _ (fun h => eq h.2.2), upd_ne _ _ eq]
      rw [e2]
      exact (h.bt.row k i' hk hi').put hj hv fun x hx => by omega
    · have e2 : updS st a i j y k i' = st k i' := by
        funext q; exact updS_ne _ _ fun h => e ⟨h.1, h.2.1⟩
      rw [e2]
      exact (h.bt.row k i' hk hi').agr (heap_p3 fun h => e (hs.inj k i' a i hk hi' ha hi h)) (agr_p3 fun x hx => by omega)
end
theorem HIR.fin {w wr : World} {bc bg n hi N c : Nat} {A : Option Addr} {rb : Nat → Nat} {cb : Nat → Nat → Nat} {cs : Value → Array Value} {gcs : Array Value} (h : HIR w bc bg n hi N rb cb cs gcs (.slice A N c) wr) (hN : 1 ≤ N) :
    ∃ ob oo, A = some ⟨ob, oo, none⟩ ∧ BSt w bc bg ob N n wr.heap.size rb cb ∧ HBRel w bc bg ob oo N n wr.heap.size rb cb (cs (.slice A N c)) gcs (fun _ _ _ => Way.no) wr := by
  have hS : Sl SlE (fun _ => True) wr A N c _ := h.own.toSl (fun _ _ h => h.elim) (fun _ _ => trivial)
  obtain ⟨ob, oo, -, -, rfl, -⟩ := hS.at_ (i := 0) (by omega)
  have hv := h.vb ob rfl
  have l3 := h.l3
  refine ⟨ob, oo, rfl, ⟨h.inj, h.ne, fun a i ha hi => (hv.2 a ha).2 i hi, fun a i ha hi => ⟨(h.lc a i ha hi).1, by have := (h.lc a i ha hi).2; omega⟩, h.l0, h.l1⟩, h.hc, h.hg, ⟨fun k hk => ?_, fun k i hk hi => h.mid k i hk hi, fun k i hk hi => (h.row k i hk hi).mono fun b _ h => h.elim⟩, h.bel, Nat.le_refl _⟩
  obtain ⟨b', o', r, x, e, -, -, hx, hr, hc⟩ := hS.at_ hk
  cases e
  have hc0 := hc 0 _ rfl
  simp only [SlE, Nat.mul_one, Nat.add_zero] at hc0
  rw [hc0]
  have hrx : r = x := hr
  rw [hrx]
  rw [List.getElem?_map, List.getElem?_range hk] at hx
  simp at hx
  rw [← hx]
end Go.Proofs.Ytdmecijpioljaaa

