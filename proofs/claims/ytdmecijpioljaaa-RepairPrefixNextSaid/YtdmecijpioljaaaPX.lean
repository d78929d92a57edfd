/- Texts PX, laid together. -/
import Derived.Test.YtdmecijpioljaaaPW


namespace Go.Proofs.Ytdmecijpioljaaa
open Go.RowKit

def bVals (l : List Bool) : Array Value := (l.map Value.bool).toArray
theorem bVals_set (l : List Bool) (i : Nat) (b : Bool) : (bVals l).setIfInBounds i (.bool b) = bVals (l.set i b) := by
  simp [bVals, List.map_set]
theorem mkCells_b (n : Nat) : mkCells (.bool false) n = bVals (List.replicate n false) := by
  unfold mkCells; rw [made_one]; simp [bVals]
theorem mk_bools1 (n : Nat) (hn : n ≤ 1000000) : ∀ w : World, (Instr.makeSlice 32 (.int .i64 ((n : Int) + 1)) (.int .i64 ((n : Int) + 1))).run Try.prog w = .ok (.slice (some ⟨w.heap.size, 0, none⟩) (n + 1) (n + 1)) (w.alloc (.cells (mkCells (.bool false) (n + 1)) 4)) := by
  intro w
  obtain ⟨i, hi, hz, hs, hb⟩ := info_parts bool_info
  have := run_make (P := Try.prog) w 32 4 i _ Try.underlying32 hi hz .i64 .i64 ((n : Int) + 1) ((n : Int) + 1) (by omega) (by omega) (by rw [hb]; omega) (by omega)
  rw [show ((n : Int) + 1).toNat = n + 1 from by omega, hs, Nat.mul_one] at this
  exact this
def NxtP (R : List Ru) (l : List It3) (n : Nat) (w : World) (e : Ending) (w' : World) : Prop :=
  ∃ b, e = .returned (.slice (some ⟨b, 0, none⟩) n n) ∧ Blk w' b 4 (bVals (mayI R l n l.length)) ∧ w.heap.size ≤ b ∧ Below w.heap.size w w'
set_option maxRecDepth 100000 in
set_option maxHeartbeats 2000000 in
theorem may_s (w : World) (base bf k n : Nat) (c1 c2 : Value) (AR : Option Addr) (nR cR : Nat) (R : List Ru) (s : ChSt) (L : List (List It3)) (l : List It3) (h : ChS w base bf (.int .i64 (n : Int)) c1 c2 AR nR cR R s L) (hk : L.length = k + 1) (hl : L[k]? = some l) (hk2 : k ≤ 100) (hn : n ≤ 100) (h4 : ∀ u ∈ R, u.2.length ≤ 4) (hok : ∀ x ∈ l, ItOk R k x) (hll : l.length ≤ 100000) (hT : ∀ u ∈ R, ∀ y ∈ u.2, y.1 = true → y.2 < n) :
    Calls Try.prog 36 #[.pointer (some ⟨bf, 0, none⟩)] w (NxtP R l n w) := by
  have hL0 : L ≠ [] := fun e => by rw [e] at hk; cases hk
  have H1000 := Lib.hid (show ∀ u ∈ R, u.2.length ≤ 1000 from fun u hu => Nat.le_trans (h4 u hu) (by omega))
  obtain ⟨gb, d, qA, qc, hv, -, g0, hown⟩ := h.hdr2 hl
  have f5 := h.cv
  rw [hv, hk] at f5
  have f0 := (ChM.blk h).cell 0
  have e1 : ((k + 1 : Nat) : Int) - 1 = (k : Int) := by omega
  have i0 : (0 : Int) ≤ (k : Int) := by omega
  have i1 : (k : Int) < ((k : Int) + 1) := by omega
  have i2 : (0 : Int) ≤ (n : Int) := by omega
  have i3 : (n : Int) ≤ 100 := by omega
  have hgl : gb < w.heap.size := World.block_lt_of_cell? w _ g0
  have hbl : bf < w.heap.size := h.lt
  have HF0 := Lib.hid h
  have HOK := Lib.hid hok
  have HT := Lib.hid hT
  have HSL := Lib.hid (show Sl It3E (fun _ => True) w qA l.length qc l from hown.toSl (fun _ _ _ => trivial) (fun _ _ => trivial))
  have hal := (Below.refl w.heap.size w).al (.cells (mkCells (.bool false) n) 4)
  have HAL := Lib.hid hal
  have HNB := Lib.hid (Blk.new w 4 (mkCells (.bool false) n))
  replace f5 := (hal.cell (p := ⟨bf, 5, none⟩) hbl).trans f5
  replace g0 := (hal.cell (p := ⟨gb, k, none⟩) hgl).trans g0
  clear h hk hl h4 hok hT hown hv hal
  have hmb := mk_bools n (by omega)
  go_enter Try.func36, Try.ntmps36
  go_upto_region 2 with fail
  clear hmb f0
  have hsW : w.heap.size < (w.alloc (.cells (mkCells (.bool false) n) 4)).heap.size := by simp
  generalize w.alloc (.cells (mkCells (.bool false) n) 4) = W at *
  go_quiet (fail)
  have hdn := below_drewN (Below.refl W.heap.size W) nq
  have HB0 := Lib.hid (show Blk (W.drewN nq) w.heap.size 4 (bVals (mayI R l n 0)) from by
    have h := HNB.out.via hdn
    rw [mayI_zero, ← mkCells_b]; exact h)
  have HBW0 := Lib.hid (HAL.out.trans (hdn.mono (by omega)))
  clear hdn HNB HAL f5 g0
  generalize W.drewN nq = W1 at *
  go_wp2_with fail
  go_loopw [27] (fun a wq => ∃ m : Nat, a = .int .i64 m ∧ m ≤ l.length ∧ Hid (Blk wq w.heap.size 4 (bVals (mayI R l n m))) ∧ Hid (Below w.heap.size w wq)) (fun a _ => l.length - (intOf a).toNat)
  case atStart => exact ⟨0, rfl, Nat.zero_le _, HB0, HBW0⟩
  case round =>
    obtain ⟨m, rfl, hm, HB, HBW⟩ := hrel
    by_cases hml : m < l.length
    · as_aux_lemma =>
      obtain ⟨b6, o6, x, x', rfl, -, hb6, hx, hxr, hcx⟩ := (HSL.out.via HBW.out).at_ hml
      obtain rfl : x = x' := hxr
      have x0 := hcx 0 _ rfl
      have x1 := hcx 1 _ rfl
      have x2 := hcx 2 _ rfl
      simp only [It3E, Nat.add_zero] at x0 x1 x2
      have m0 : (0 : Int) ≤ (m : Int) := by omega
      have m1 : (m : Int) < (l.length : Int) := by omega
      have hal := (Below.refl wr.heap.size wr).al (.cells #[.int .i64 (x.r : Int), .int .i64 (x.d : Int), .int .i64 (x.f : Int)] 111)
      have BX := Blk.new wr 111 #[.int .i64 (x.r : Int), .int .i64 (x.d : Int), .int .i64 (x.f : Int)]
      have HXM := Lib.hid hx
      have HXO := Lib.hid (HOK.out x (List.mem_of_getElem? hx))
      have hobw : w.heap.size ≤ wr.heap.size := Nat.le_of_lt HB.out.lt
      have HF4 := Lib.hid ((HF0.out.via HBW.out).via hal)
      have HB4 := Lib.hid (HB.out.via hal)
      have HBW4 := Lib.hid (HBW.out.trans (hal.mono hobw))
      clear hcx hx hal
      go_upto_region 5 with fail
      clear x0 x1 x2
      generalize hW4 : wr.alloc (.cells #[.int .i64 (x.r : Int), .int .i64 (x.d : Int), .int .i64 (x.f : Int)] 111) = W4 at *
      have hbx : wr.heap.size < W4.heap.size := by rw [← hW4]; simp
      clear hW4
      obtain ⟨oz, hoz⟩ : ∃ oz, nxtI R x = oz := ⟨_, rfl⟩
      cases oz with
      | none =>
        have HX2 := Lib.hid hoz
        clear hoz
        have cBX := BX.cell
        have fBX := BX.frozen
        have lBX := BX.lt
        go_wp2_with fail
        clear cBX fBX lBX
        refine (cnexts_n HF4.out H1000.out k x HXO.out HX2.out).mono ?_
        rintro e w8 ⟨rfl, hb8⟩
        have hal8 := (Below.refl w8.heap.size w8).al (.cells #[.bool false, .int .i64 0] 45)
        have h48 : W4.heap.size ≤ w8.heap.size := hb8.size
        have HB8 := Lib.hid ((HB4.out.via hb8).via hal8)
        have HBW8 := Lib.hid ((HBW4.out.trans (hb8.mono (by omega))).trans (hal8.mono (by omega)))
        clear hb8 BX hal8
        go_wp2_with fail
        exact ⟨⟨m + 1, by go_num, by omega, Lib.hid (by rw [mayI_miss HXM.out (fun t e => by rw [HX2.out] at e; cases e)]; exact HB8.out), HBW8⟩, by simp [intOf]; omega⟩
      | some yy =>
        obtain ⟨tb, tn⟩ := yy
        have HX2 := Lib.hid hoz
        obtain ⟨u2, hu2, hu3, -⟩ := nxtI_lt hoz
        have HTN := Lib.hid (show tb = true → tn < n from fun e => HT.out u2 (List.mem_of_getElem? hu2) (tb, tn) (List.mem_of_getElem? hu3) e)
        clear hoz hu2 hu3
        have cBX := BX.cell
        have fBX := BX.frozen
        have lBX := BX.lt
        go_wp2_with fail
        clear cBX fBX lBX
        refine (cnexts_s HF4.out H1000.out x tb tn HX2.out).mono ?_
        rintro e w8 ⟨rfl, hb8⟩
        have hal8 := (Below.refl w8.heap.size w8).al (.cells #[.bool tb, .int .i64 (tn : Int)] 45)
        have h48 : W4.heap.size ≤ w8.heap.size := hb8.size
        have HB8 := Lib.hid ((HB4.out.via hb8).via hal8)
        have HBW8 := Lib.hid ((HBW4.out.trans (hb8.mono (by omega))).trans (hal8.mono (by omega)))
        have HS8 := Lib.hid (Blk.new w8 45 #[.bool tb, .int .i64 (tn : Int)])
        have hobl : w.heap.size < w8.heap.size := by have := HB4.out.lt; omega
        clear hb8 BX hal8
        go_upto_region 6 with fail
        generalize w8.alloc (.cells #[.bool tb, .int .i64 (tn : Int)] 45) = W8 at *
        have BS8 := HS8.out
        cases tb with
        | false =>
          have cBS8 := BS8.cell
          have fBS8 := BS8.frozen
          have lBS8 := BS8.lt
          go_wp2_with fail
          exact ⟨⟨m + 1, by go_num, by omega, Lib.hid (by rw [mayI_miss HXM.out (fun t e => by rw [HX2.out] at e; cases e)]; exact HB8.out), HBW8⟩, by simp [intOf]; omega⟩
        | true =>
          have htn := HTN.out rfl
          have t0 : (0 : Int) ≤ (tn : Int) := by omega
          have t1 : (tn : Int) < (n : Int) := by omega
          have BB := HB8.out
          have fBB := BB.frozen
          have cT := BB.cell tn
          simp only [bVals, List.getElem?_toArray, List.getElem?_map, mayI_get htn, Option.map_some] at cT
          have cBS8 := BS8.cell
          have fBS8 := BS8.frozen
          have lBS8 := BS8.lt
          go_wp2_with fail
          exact ⟨⟨m + 1, by go_num, by omega, Lib.hid (by rw [mayI_hit HXM.out HX2.out, ← bVals_set]; exact HB8.out.set_ tn (.bool true)), Lib.hid (HBW8.out.setCell (by simp) _)⟩, by simp [intOf]; omega⟩
    · obtain rfl : m = l.length := by omega
      go_wp2_with fail
      exact bodyPost_ret (v := .slice (some ⟨w.heap.size, 0, none⟩) n n) (by simp [results, Try.results36, go_sem]) rfl ⟨_, rfl, HB.out, Nat.le_refl _, HBW.out⟩
end Go.Proofs.Ytdmecijpioljaaa

