/- Texts NK, laid together. -/
import Derived.Test.YtbhenicldddlfaaNJ
import Derived.Test.YtbhenicldddlfaaD2



namespace Go.Proofs.Ytbhenicldddlfaa
open Go.RowKit

def NormP (t : Dc) (w : World) (e : Ending) (w' : World) : Prop := ∃ v', e = .returned (.tuple #[dcVal v', .int .i64 0]) ∧ DcR (fun _ => True) w' v' t.nrm ∧ Below w.heap.size w w'
set_option maxRecDepth 100000 in
set_option maxHeartbeats 2000000 in
theorem Norm_c (v : DcV) (t : Dc) (w : World) (hT : DcR (fun _ => True) w v t) (ho : t.Ok) (hs : t.size ≤ 400) : Calls Try.prog 10 #[dcVal v] w (NormP t w) := by
  obtain ⟨a, s, b, B, m, d⟩ := v
  have hB := ((Below.refl w.heap.size w).al (.cells #[.int .i64 (a : Int), .string s, .int .i64 (b : Int), .slice B m d] 30)).al (.cells #[.int .i64 0, .string ⟨#[]⟩, .int .i64 0, .slice none 0 0] 30)
  have B0 := (Blk.new w 30 #[.int .i64 (a : Int), .string s, .int .i64 (b : Int), .slice B m d]).al (.cells #[.int .i64 0, .string ⟨#[]⟩, .int .i64 0, .slice none 0 0] 30)
  have R0 := Blk.new1 w (.cells #[.int .i64 (a : Int), .string s, .int .i64 (b : Int), .slice B m d] 30) 30 #[.int .i64 0, .string ⟨#[]⟩, .int .i64 0, .slice none 0 0]
  have HT := Lib.hid (hT.via hB)
  have HB := Lib.hid hB
  clear hT hB
  simp only [dcVal]
  go_enter Try.func10, Try.ntmps10
  go_upto_region 1 with fail
  have hW : ((w.alloc (.cells #[.int .i64 (a : Int), .string s, .int .i64 (b : Int), .slice B m d] 30)).alloc (.cells #[.int .i64 0, .string ⟨#[]⟩, .int .i64 0, .slice none 0 0] 30)).heap.size = w.heap.size + 2 := by simp
  generalize (w.alloc (.cells #[.int .i64 (a : Int), .string s, .int .i64 (b : Int), .slice B m d] 30)).alloc (.cells #[.int .i64 0, .string ⟨#[]⟩, .int .i64 0, .slice none 0 0] 30) = W at *
  have HW := Lib.hid hW
  clear hW
  have cB0 := B0.cell
  have fB0 := B0.frozen
  have lB0 := B0.lt
  go_wp2_with fail
  refine (dcheck_c _ (a, s, b, B, m, d) t W HT.out ho hs).mono ?_
  rintro e w1 ⟨rfl, hb1⟩
  replace HT := Lib.hid (HT.out.via hb1)
  replace B0 := B0.via hb1
  replace R0 := R0.via hb1
  have HB1 := Lib.hid (HB.out.trans (hb1.mono (by have := HW.out; omega)))
  have hz := hb1.size
  clear cB0 fB0 lB0
  clear hb1 HB
  have cB0 := B0.cell
  have fB0 := B0.frozen
  have lB0 := B0.lt
  go_wp2_with fail
  refine (norm_n t.size (a, s, b, B, m, d) t w1 HT.out ho (Nat.le_refl _) (by omega)).mono ?_
  rintro e w2 ⟨⟨k, s2, i, C, p, q⟩, rfl, hT2, hb2⟩
  replace R0 := R0.via hb2
  have HB2 := Lib.hid (HB1.out.trans (hb2.mono (by have := HW.out; omega)))
  have HT2 := Lib.hid hT2
  have HZ := Lib.hid (show w.heap.size + 1 < w1.heap.size by have := HW.out; omega)
  clear hb2 hT2 HB1
  dsimp only [dcVal]
  clear cB0 fB0 lB0
  have cR0 := R0.cell
  have fR0 := R0.frozen
  have lR0 := R0.lt
  go_wp2_with fail
  refine bodyPost_ret (v := .tuple #[dcVal (k, s2, i, C, p, q), .int .i64 0]) (by simp [results, Try.results10, go_sem, dcVal, cR0]) rfl ?_
  exact ⟨_, rfl, (HT2.out.agr (agr_set4 (v := (k, s2, i, C, p, q)) fun b hb => by have := HZ.out; omega)).mono fun _ _ _ => trivial, below_set4 (v := (k, s2, i, C, p, q)) HB2.out (by omega)⟩
end Go.Proofs.Ytbhenicldddlfaa

