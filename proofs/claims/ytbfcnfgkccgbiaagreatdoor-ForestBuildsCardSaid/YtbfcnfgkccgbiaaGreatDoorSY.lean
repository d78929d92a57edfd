/- Texts SY, laid together. -/
import Derived.Test.YtbfcnfgkccgbiaaGreatDoorSX


namespace Go.Proofs.YtbfcnfgkccgbiaaGreatDoor
open Go.RowKit

theorem doubling_d (w : World) : Calls Tryz.prog 35 #[] w fun e w' => ∃ A, e = .returned (.agg #[.int .i64 1, .int .i64 1, .int .i64 0, .slice A 2 2]) ∧ Sl RuE (fun _ => True) w' A 2 2 dblG.rules ∧ Below w.heap.size w w' := doubling_c w
set_option maxRecDepth 100000 in
set_option maxHeartbeats 4000000 in
theorem woods_c (w : World) (hT : TabW w) : Calls Tryz.prog 21 #[] w fun e w' => e = .returned (.bool true) ∧ Below w.heap.size w w' := by
  have HT := Lib.hid hT
  clear hT
  go_enter Tryz.func21, Tryz.ntmps21
  go_wp2_with fail
  refine (doubling_d w).mono ?_
  rintro e w1 ⟨A1, rfl, hr1, hb1⟩
  have hal := (Below.refl w1.heap.size w1).al (.cells #[.int .i64 0, .int .i64 0] 3)
  have hw1 : Ints (w1.alloc (.cells #[.int .i64 0, .int .i64 0] 3)) (some ⟨w1.heap.size, 0, none⟩) 2 2 [0, 0] := Ints.litB (Blk.new w1 3 #[.int .i64 0, .int .i64 0]) rfl rfl
  have HC : Calls Tryz.prog 32 #[.agg #[.int .i64 1, .int .i64 1, .int .i64 0, .slice A1 2 2], .slice (some ⟨w1.heap.size, 0, none⟩) 2 2] (w1.alloc (.cells #[.int .i64 0, .int .i64 0] 3)) _ := of_c (fun _ => True) dblG A1 2 2 (some ⟨w1.heap.size, 0, none⟩) 2 2 [0, 0] (w1.alloc (.cells #[.int .i64 0, .int .i64 0] 3)) dblG_ok (hr1.via hal) hw1 (by omega) (by simp [dblG]) ((HT.out.via hb1).via hal)
  have HB1 := Lib.hid (hb1.via hal)
  clear hr1 hb1 hal hw1
  go_wp2_with fail
  generalize w1.alloc (.cells #[.int .i64 0, .int .i64 0] 3) = W1 at *
  generalize w1.heap.size = b1 at *
  refine HC.mono ?_
  clear HC
  rintro e w2 ⟨f, v, b, rfl, hf, ⟨fA, fn, fc, rfl, hS⟩, hb2⟩
  obtain ⟨rfl, rfl⟩ := dbl_fo hf
  have hl := hS.len
  rw [dbl_len] at hl
  subst hl
  have hr := dbl_root
  rw [hr]
  have hal := (Below.refl w2.heap.size w2).al (.cells #[.slice fA 5 fc, .int .i64 2] 34)
  have HB2 := Lib.hid ((HB1.out.via hb2).via hal)
  have HS2 := Lib.hid (hS.via hal)
  have BF := Blk.new w2 34 #[.slice fA 5 fc, .int .i64 2]
  clear hf hS hr hb2 hal HB1
  simp only [if_true]
  go_upto_region 2 with fail
  generalize w2.alloc (.cells #[.slice fA 5 fc, .int .i64 2] 34) = W2 at *
  generalize w2.heap.size = bf at *
  have SOF := Lib.hid (show ∀ w', Below W2.heap.size W2 w' → ((∀ i, w'.cell? ⟨bf, i, none⟩ = #[.slice fA 5 fc, .int .i64 2][i]?) ∧ Below W2.heap.size W2 w') from fun w' hb => ⟨(BF.via hb).cell, hb⟩)
  have JC := Lib.hid (show ∀ A w', Sl RuE (fun _ => True) w' A 2 2 dblG.rules → Below W2.heap.size W2 w' → Calls Tryz.prog 51 #[.agg #[.int .i64 1, .int .i64 1, .int .i64 0, .slice A 2 2], .agg #[.slice fA 5 fc, .int .i64 2]] w' fun e w'' => e = .returned (.tuple #[.int .i64 1, .int .i64 0]) ∧ Below w'.heap.size w' w'' from fun A w' h hb => fcount_d (fun _ => True) _ A fA fc w' h (HT.out.via (HB2.out.via hb)) (HS2.out.via hb))
  have hb0 := (Below.refl W2.heap.size W2).drew
  have HBF := Lib.hid BF
  clear BF
  go_region_held3 (fun w' => (∀ i, w'.cell? ⟨bf, i, none⟩ = #[.slice fA 5 fc, .int .i64 2][i]?) ∧ Below W2.heap.size W2 w') (exact SOF.out _ (by assumption)) (first
    | (go_at_call 35; (with_reducible refine (doubling_d _).mono ?_); rintro ee wk ⟨A4, rfl, hr4, hb4⟩; have hbk : Below W2.heap.size W2 wk := Below.via (by assumption) hb4)
    | (go_at_call 51; (with_reducible refine (JC.out A4 _ (by assumption) (by assumption)).mono ?_); rintro ee wk2 ⟨rfl, hb5⟩; have hbm : Below W2.heap.size W2 wk2 := Below.via (by assumption) hb5))
  all_goals (have BF9 := HBF.out.via hbm; have cB := BF9.cell; have fB := BF9.frozen; have lB := BF9.lt; go_wp2_with fail; go_ret; exact ⟨rfl, HB2.out.via hbm⟩)
theorem large_nil {D : Ky → Bool} {R : List Ru} {root : Ky} {most : Nat} {f : FoI} (h : IsFo D R root most f false) : f = (0, []) := by cases h; rfl
end Go.Proofs.YtbfcnfgkccgbiaaGreatDoor

