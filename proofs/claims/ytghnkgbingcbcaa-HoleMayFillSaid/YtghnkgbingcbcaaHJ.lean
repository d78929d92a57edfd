/- useful.Lengths, gram.N. -/
import Derived.Test.YtghnkgbingcbcaaHI
namespace Go.Proofs.Ytghnkgbingcbcaa
open Go.RowKit

def LensP (w : World) (n : Nat) (e : Ending) (w' : World) : Prop := ∃ (g : Nat) (xs : List Int), e = .returned (.tuple #[.slice (some ⟨g, 0, none⟩) n n, .int .i64 0]) ∧ xs.length = n ∧ Blk w' g 3 (iVals xs) ∧ Below w.heap.size w w' ∧ w.heap.size ≤ g
set_option maxRecDepth 100000 in
set_option maxHeartbeats 4000000 in
theorem Lengths_c (ok : Nat → Prop) (g : Gr) (Ag : Option Addr) (ng cg : Nat) (w : World) (hg : GrOk g) (hl : Sl RuE ok w Ag ng cg g.rules) :
    Calls Try.prog 62 #[grVal g Ag ng cg] w (LensP w g.nons) := by
  have B0 := Blk.new w 28 #[.int .i64 (g.terms : Int), .int .i64 (g.nons : Int), .int .i64 (g.start : Int), .slice Ag ng cg]
  have HB := Lib.hid ((Below.refl w.heap.size w).al (.cells #[.int .i64 (g.terms : Int), .int .i64 (g.nons : Int), .int .i64 (g.start : Int), .slice Ag ng cg] 28))
  have HGO := Lib.hid hg
  have HL := Lib.hid (hl.al (.cells #[.int .i64 (g.terms : Int), .int .i64 (g.nons : Int), .int .i64 (g.start : Int), .slice Ag ng cg] 28))
  simp only [grVal]
  clear hg hl
  go_enter Try.func62, Try.ntmps62
  have cB0 := B0.cell
  have fB0 := B0.frozen
  have lB0 := B0.lt
  go_wp2_with fail
  clear cB0 fB0 lB0
  generalize w.alloc (.cells #[.int .i64 (g.terms : Int), .int .i64 (g.nons : Int), .int .i64 (g.start : Int), .slice Ag ng cg] 28) = W at *
  refine (check_c ok g Ag ng cg W HGO.out HL.out).mono ?_
  rintro e w1 ⟨rfl, hb⟩
  have HB1 := Lib.hid hb
  have B1 := B0.via hb
  clear hb B0
  have cB1 := B1.cell
  have fB1 := B1.frozen
  have lB1 := B1.lt
  go_wp2_with fail
  clear cB1 fB1 lB1
  refine (lengths_c ok g Ag ng cg w1 HGO.out (HL.out.via HB1.out)).mono ?_
  rintro e w2 ⟨b, xs, rfl, hxl, hbk, hb2, hlt⟩
  have HX := Lib.hid hxl
  have HK := Lib.hid hbk
  have HB2 := Lib.hid ((HB.out.via HB1.out).via hb2)
  have HLT := Lib.hid (show w.heap.size ≤ b by have := (HB.out.via HB1.out).size; omega)
  clear hxl hbk hb2 hlt B1
  go_wp2_with fail
  go_ret2
  exact ⟨b, xs, rfl, HX.out, HK.out, HB2.out, HLT.out⟩
theorem gN_c (n : Int) (w : World) : Calls Try.prog 63 #[.int .i64 n] w fun e w' => e = .returned (.agg #[.bool false, .int .i64 n]) ∧ Below w.heap.size w w' := by
  go_enter Try.func63, Try.ntmps63
  go_wp2_with fail
  exact bodyPost_ret (v := .agg #[.bool false, .int .i64 n]) (by simp [results, Try.results63, go_sem]) rfl ⟨rfl, (Below.refl _ _).al _⟩
end Go.Proofs.Ytghnkgbingcbcaa
