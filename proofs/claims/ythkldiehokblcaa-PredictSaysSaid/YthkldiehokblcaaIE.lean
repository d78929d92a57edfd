/- Texts IE, laid together. -/
import Derived.Test.YthkldiehokblcaaIC


namespace Go.Proofs.Ythkldiehokblcaa
open Go.RowKit

theorem ppar_res {tmps : Array Value} {b4 b5 b6 : Nat} {w : World} {v : TrV} {k q : Int} {R : Ending → World → Prop} (F4 : Blk w b4 37 #[.int .i64 v.1, .int .i64 v.2.1, .slice v.2.2.1 v.2.2.2.1 v.2.2.2.2]) (F5 : Blk w b5 3 #[.int .i64 k]) (F6 : Blk w b6 32 #[.int .i64 q])
    (h4 : tmps[4]?.getD undef = .pointer (some ⟨b4, 0, none⟩)) (h5 : tmps[5]?.getD undef = .pointer (some ⟨b5, 0, none⟩)) (h6 : tmps[6]?.getD undef = .pointer (some ⟨b6, 0, none⟩)) (hR : R (.returned (.tuple #[trVal v, .int .i64 k, .int .i64 q])) w) :
    Leaves Try.prog Try.f6 tmps R [] .returning w := by
  have c4 := F4.cell
  have c5 := F5.cell
  have c6 := F6.cell
  exact ⟨_, by simp [results, Try.results6, go_sem, trVal, h4, h5, h6, c4, c5, c6], hR⟩
set_option maxRecDepth 100000 in
set_option maxHeartbeats 4000000 in
theorem ppar_e (ok : Nat → Prop) (T N S : Int) (A : Option Addr) (n c : Nat) (rs : List Ri) (wA : Option Addr) (wn wcp : Nat) (w : World) (hl : Sl RiE ok w A n c rs) (hbad : chkG T N S rs ≠ 0) :
    Calls Try.prog 6 #[.agg #[.int .i64 T, .int .i64 N, .int .i64 S, .slice A n c], .slice wA wn wcp] w fun e w' => e = .returned (.tuple #[trVal (0, 0, none, 0, 0), .int .i64 0, .int .i64 (chkG T N S rs)]) ∧ Below w.heap.size w w' := by
  obtain ⟨q, hq⟩ : ∃ q, chkG T N S rs = q := ⟨_, rfl⟩
  rw [hq]
  have HBAD := Lib.hid (show chkG T N S rs ≠ 0 from hbad)
  rw [hq] at hbad
  have HQ := Lib.hid hq
  clear hq
  have BG := (((Blk.new w 24 #[.int .i64 T, .int .i64 N, .int .i64 S, .slice A n c]).al (.cells #[.int .i64 0, .int .i64 0, .slice none 0 0] 37)).al (.cells #[.int .i64 0] 3)).al (.cells #[.int .i64 0] 32)
  have B4 := ((Blk.newAt (w.alloc (.cells #[.int .i64 T, .int .i64 N, .int .i64 S, .slice A n c] 24)) 37 #[.int .i64 0, .int .i64 0, .slice none 0 0] (w.heap.size + 1) (by simp)).al (.cells #[.int .i64 0] 3)).al (.cells #[.int .i64 0] 32)
  have B5 := (Blk.newAt ((w.alloc (.cells #[.int .i64 T, .int .i64 N, .int .i64 S, .slice A n c] 24)).alloc (.cells #[.int .i64 0, .int .i64 0, .slice none 0 0] 37)) 3 #[.int .i64 0] (w.heap.size + 1 + 1) (by simp)).al (.cells #[.int .i64 0] 32)
  have B6 := Blk.newAt (((w.alloc (.cells #[.int .i64 T, .int .i64 N, .int .i64 S, .slice A n c] 24)).alloc (.cells #[.int .i64 0, .int .i64 0, .slice none 0 0] 37)).alloc (.cells #[.int .i64 0] 3)) 32 #[.int .i64 0] (w.heap.size + 1 + 1 + 1) (by simp)
  have HB := Lib.hid (((((Below.refl w.heap.size w).al (.cells #[.int .i64 T, .int .i64 N, .int .i64 S, .slice A n c] 24)).al (.cells #[.int .i64 0, .int .i64 0, .slice none 0 0] 37)).al (.cells #[.int .i64 0] 3)).al (.cells #[.int .i64 0] 32))
  have HL := Lib.hid (hl.via HB.out)
  clear hl
  go_enter_defers Try.func6, Try.ntmps6
  have cBG := BG.cell
  have fBG := BG.frozen
  have lBG := BG.lt
  go_wp2_with fail
  clear cBG fBG lBG
  have HB4 := Lib.hid B4
  have HB5 := Lib.hid B5
  have HB6 := Lib.hid B6
  clear B4 B5 B6 BG
  generalize (((w.alloc (.cells #[.int .i64 T, .int .i64 N, .int .i64 S, .slice A n c] 24)).alloc (.cells #[.int .i64 0, .int .i64 0, .slice none 0 0] 37)).alloc (.cells #[.int .i64 0] 3)).alloc (.cells #[.int .i64 0] 32) = W at *
  have hc := ofE_e ok T N S A n c rs W HL.out HBAD.out
  rw [HQ.out] at hc
  refine hc.mono ?_
  clear hc
  rintro e w1 ⟨rfl, hb⟩
  have HB1 := Lib.hid (HB.out.via hb)
  have B4 := HB4.out.via hb
  have B5 := HB5.out.via hb
  have B6 := HB6.out.via hb
  have hq1 : (q != 0) = true := by simpa using hbad
  clear hb HB HB4 HB5 HB6
  have cB4 := B4.cell
  have fB4 := B4.frozen
  have lB4 := B4.lt
  have cB5 := B5.cell
  have fB5 := B5.frozen
  have lB5 := B5.lt
  have cB6 := B6.cell
  have fB6 := B6.frozen
  have lB6 := B6.lt
  go_upto_region 3 with fail
  go_region
  go_wp2_with fail
  change Leaves _ _ _ _ _ _ _
  refine ppar_res (v := (0, 0, none, 0, 0)) (b4 := w.heap.size + 1) (b5 := w.heap.size + 1 + 1) (b6 := w.heap.size + 1 + 1 + 1) (k := 0) (q := q) ?_ ?_ ?_ rfl rfl rfl ⟨rfl, ?_⟩
  · exact (((((((B4.far (by simp <;> omega) _).set_ 0 _).set_ 1 _).set_ 2 _).far (by simp <;> omega) _).far (by simp <;> omega) _).al _).dr
  · exact ((((((((B5.far (by simp <;> omega) _).far (by simp <;> omega) _).far (by simp <;> omega) _).far (by simp <;> omega) _).set_ 0 _).far (by simp <;> omega) _).al _).dr)
  · exact (((((((((B6.set_ 0 _).far (by simp <;> omega) _).far (by simp <;> omega) _).far (by simp <;> omega) _).far (by simp <;> omega) _).set_ 0 _)).al _).dr)
  · exact (((((((((HB1.out.setCell (by simp <;> omega) _).setCell (by simp <;> omega) _).setCell (by simp <;> omega) _).setCell (by simp <;> omega) _).setCell (by simp <;> omega) _).setCell (by simp <;> omega) _).al _).drew))
end Go.Proofs.Ythkldiehokblcaa

