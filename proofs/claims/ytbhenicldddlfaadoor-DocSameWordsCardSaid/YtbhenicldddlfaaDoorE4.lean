/- Texts DR, laid together. -/
import Derived.Test.YtbhenicldddlfaaDoorE1


namespace Go.Proofs.YtbhenicldddlfaaDoor
open Go.RowKit

theorem i64_and1 (n : Int) : bits .and .i64 n 1 = n % 2 := by
  have h1 : (BitVec.ofInt 64 1).toNat = 2 ^ 1 - 1 := by decide
  have key : (BitVec.ofInt 64 n &&& BitVec.ofInt 64 1).toNat = (n % ((2 ^ 64 : Nat) : Int)).toNat % 2 ^ 1 := by
    rw [BitVec.toNat_and, BitVec.toNat_ofInt, h1, Nat.and_two_pow_sub_one_eq_mod]
  show IntKind.i64.wrap ((BitVec.ofInt 64 n &&& BitVec.ofInt 64 1).toNat : Nat) = n % 2
  rw [key, IntKind.wrap_i64]
  omega
theorem bit_of (mask k : Nat) (hm : mask < 4096) : (bits BinOp.and IntKind.i64 ((mask : Int) / 2 ^ min k 64) 1 == 0) = !(mask.testBit k) := by
  have e0 : ((mask : Int) / 2 ^ min k 64) = ((mask / 2 ^ k : Nat) : Int) := by
    rcases Nat.lt_or_ge k 64 with h | h
    · rw [Nat.min_eq_left (by omega)]; simp
    · rw [Nat.min_eq_right h]
      have h1 : mask / 2 ^ k = 0 := Nat.div_eq_of_lt (Nat.lt_of_lt_of_le hm (Nat.le_trans (by decide : 4096 ≤ 2 ^ 12) (Nat.pow_le_pow_right (by omega) (by omega))))
      rw [h1]
      have h2 : (mask : Int) / 2 ^ 64 = 0 := by omega
      simpa using h2
  rw [e0]
  have hl : mask / 2 ^ k < 4096 := Nat.lt_of_le_of_lt (Nat.div_le_self _ _) hm
  have e1 : bits BinOp.and IntKind.i64 ((mask / 2 ^ k : Nat) : Int) 1 = ((mask / 2 ^ k % 2 : Nat) : Int) := by
    rw [i64_and1]; omega
  rw [e1, Nat.testBit_eq_decide_div_mod_eq]
  rcases Nat.mod_two_eq_zero_or_one (mask / 2 ^ k) with h | h <;> simp [h]
/-- the choices of a number: the k-th bit -/
def maskP (mask : Nat) (k _ _ : Nat) : Bool := !(mask.testBit k)
def AllI (W : Nat) (ops : List Opr) (bs bm B nb mb mask : Nat) (A : Option Addr) (c : Nat) (k : Nat) (w : World) : Prop := FS W ops bs bm B A c w ∧ Blk w nb 3 #[.int .i64 (k : Int)] ∧ Blk w mb 3 #[.int .i64 (mask : Int)]
set_option maxRecDepth 100000 in
set_option maxHeartbeats 4000000 in
theorem all1_c (W : Nat) (ops : List Opr) (bs bm B nb mb mask lo : Nat) (hm : mask < 4096) (hnm : nb ≠ mb) (hB : B ≤ nb) (hlo : lo ≤ nb) (A : Option Addr) (c : Nat) (k i col : Nat) (w : World) (hk : k ≤ 400) (hI : AllI W ops bs bm B nb mb mask A c k w) :
    Calls Tryd.prog 13 #[.agg #[.int .i64 (i : Int), .int .i64 (col : Int)], .pointer (some ⟨nb, 0, none⟩), .pointer (some ⟨mb, 0, none⟩)] w (VisS lo (fun b => b = nb) (AllI W ops bs bm B nb mb mask A c) (maskP mask k i col) k w) := by
  obtain ⟨hF, hN, hM⟩ := hI
  have hB1 := (Below.refl w.heap.size w).al (.cells #[.int .i64 (i : Int), .int .i64 (col : Int)] 52)
  have B1 := hN.via hB1
  have B2 := hM.via hB1
  have HF := Lib.hid (hF.via hB1)
  have HB := Lib.hid hB1
  have HNL := Lib.hid hN.lt
  clear hF hN hM hB1
  obtain ⟨k1, hk1⟩ : ∃ k1, k1 = k + 1 := ⟨_, rfl⟩
  have w1 : IntKind.i64.wrap ((k : Int) + 1) = (k1 : Int) := (IntWalk.i64_in _ (by omega)).trans (by omega)
  have w2 : IntKind.i64.wrap ((k1 : Int) - 1) = (k : Int) := (IntWalk.i64_in _ (by omega)).trans (by omega)
  have cB1 := B1.cell
  have fB1 := B1.frozen
  have lB1 := B1.lt
  have cB2 := B2.cell
  have fB2 := B2.frozen
  have lB2 := B2.lt
  go_enter Tryd.func13, Tryd.ntmps13
  have hbit := bit_of mask k hm
  go_wp2_with fail
  go_ret
  have HL := HB.out
  have hnl := HNL.out
  refine ⟨by rw [maskP, ← hbit]; rfl, ⟨?_, ?_, ?_⟩, ?_, ?_, ?_⟩
  · exact HF.out.far hB _
  · have := B1.set_ 0 (.int .i64 ((k : Int) + 1))
    simpa using this
  · exact B2.far (show mb ≠ nb by omega) _
  · exact (Agr.below HL).trans (Agr.setCell _ fun b hb => hb)
  · simp
  · exact (HL.mono (by omega)).setCell hlo _
end Go.Proofs.YtbhenicldddlfaaDoor

