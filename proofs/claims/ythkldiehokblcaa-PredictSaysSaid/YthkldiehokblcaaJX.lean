/- Texts JX, laid together. -/
import Derived.Test.YthkldiehokblcaaJV


namespace Go.Proofs.Ythkldiehokblcaa
open Go.RowKit

set_option maxRecDepth 100000 in
theorem predict_e (ok : Nat → Prop) (T N S : Int) (A : Option Addr) (n c : Nat) (rs : List Ri) (w : World) (hl : Sl RiE ok w A n c rs) (hbad : chkG T N S rs ≠ 0) :
    Calls Try.prog 16 #[.agg #[.int .i64 T, .int .i64 N, .int .i64 S, .slice A n c]] w fun e w' => e = .returned (.tuple #[.slice none 0 0, .int .i64 (chkG T N S rs)]) ∧ Below w.heap.size w w' := by
  obtain ⟨q, hq⟩ : ∃ q, chkG T N S rs = q := ⟨_, rfl⟩
  rw [hq]
  have HBAD := Lib.hid (show chkG T N S rs ≠ 0 from hbad)
  rw [hq] at hbad
  have HQ := Lib.hid hq
  clear hq
  have B0 := Blk.new w 24 #[.int .i64 T, .int .i64 N, .int .i64 S, .slice A n c]
  have HB := Lib.hid ((Below.refl w.heap.size w).al (.cells #[.int .i64 T, .int .i64 N, .int .i64 S, .slice A n c] 24))
  have HL := Lib.hid (hl.al (.cells #[.int .i64 T, .int .i64 N, .int .i64 S, .slice A n c] 24))
  clear hl
  go_enter Try.func16, Try.ntmps16
  have cB0 := B0.cell
  have fB0 := B0.frozen
  have lB0 := B0.lt
  go_wp2_with fail
  clear cB0 fB0 lB0
  generalize w.alloc (.cells #[.int .i64 T, .int .i64 N, .int .i64 S, .slice A n c] 24) = W at *
  have hc := checkI_c ok T N S A n c rs W HL.out
  rw [HQ.out] at hc
  refine hc.mono ?_
  clear hc
  rintro e w1 ⟨rfl, hb⟩
  have HB1 := Lib.hid (HB.out.via hb)
  clear hb B0 HB
  go_wp2_with fail
  go_ret2
  exact ⟨rfl, HB1.out⟩
set_option maxRecDepth 100000 in
theorem ofE_e (ok : Nat → Prop) (T N S : Int) (A : Option Addr) (n c : Nat) (rs : List Ri) (w : World) (hl : Sl RiE ok w A n c rs) (hbad : chkG T N S rs ≠ 0) :
    Calls Try.prog 5 #[.agg #[.int .i64 T, .int .i64 N, .int .i64 S, .slice A n c]] w fun e w' => e = .returned (.tuple #[.agg #[.slice none 0 0, .slice none 0 0], .int .i64 (chkG T N S rs)]) ∧ Below w.heap.size w w' := by
  obtain ⟨q, hq⟩ : ∃ q, chkG T N S rs = q := ⟨_, rfl⟩
  rw [hq]
  have HBAD := Lib.hid (show chkG T N S rs ≠ 0 from hbad)
  rw [hq] at hbad
  have HQ := Lib.hid hq
  clear hq
  have B0 := (Blk.new w 24 #[.int .i64 T, .int .i64 N, .int .i64 S, .slice A n c]).al (.cells #[.slice none 0 0, .slice none 0 0] 31)
  have R0 := Blk.newAt (w.alloc (.cells #[.int .i64 T, .int .i64 N, .int .i64 S, .slice A n c] 24)) 31 #[.slice none 0 0, .slice none 0 0] (w.heap.size + 1) (by simp)
  have HB := Lib.hid (((Below.refl w.heap.size w).al (.cells #[.int .i64 T, .int .i64 N, .int .i64 S, .slice A n c] 24)).al (.cells #[.slice none 0 0, .slice none 0 0] 31))
  have HL := Lib.hid (hl.via HB.out)
  clear hl
  go_enter Try.func5, Try.ntmps5
  have cB0 := B0.cell
  have fB0 := B0.frozen
  have lB0 := B0.lt
  go_wp2_with fail
  clear cB0 fB0 lB0
  have HR0 := Lib.hid R0
  clear R0
  generalize (w.alloc (.cells #[.int .i64 T, .int .i64 N, .int .i64 S, .slice A n c] 24)).alloc (.cells #[.slice none 0 0, .slice none 0 0] 31) = W at *
  have hc := predict_e ok T N S A n c rs W HL.out HBAD.out
  rw [HQ.out] at hc
  refine hc.mono ?_
  clear hc
  rintro e w1 ⟨rfl, hb⟩
  have HB1 := Lib.hid (HB.out.via hb)
  have R1 := HR0.out.via hb
  clear hb B0 HB HR0
  have cR1 := R1.cell
  have fR1 := R1.frozen
  have lR1 := R1.lt
  go_wp2_with fail
  have c2 := ((R1.set_ 0 (.slice none 0 0)).set_ 1 (.slice none 0 0)).cell
  refine bodyPost_ret (v := .tuple #[.agg #[.slice none 0 0, .slice none 0 0], .int .i64 q]) (by simp [results, Try.results5, go_sem, c2]) rfl ⟨rfl, ?_⟩
  exact (HB1.out.setCell (by simp) _).setCell (by simp) _
end Go.Proofs.Ythkldiehokblcaa

