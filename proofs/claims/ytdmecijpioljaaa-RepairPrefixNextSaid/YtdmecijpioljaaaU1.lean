/- Texts HX, laid together. -/
import Derived.Test.YtdmecijpioljaaaL4


namespace Go.Proofs.Ytdmecijpioljaaa
open Go.RowKit

theorem LenG.small {n : Nat} {xs : List Int} (h : LenG n xs) (hn : n ≤ 10) (N : Nat) : xs.getD N (-1) ≤ 100000000 := by
  rw [List.getD_eq_getElem?_getD]
  cases hx : xs[N]? with
  | none => simp
  | some x =>
    have h1 := (h.bnd x (List.mem_of_getElem? hx)).2
    have h2 := h.top
    have h3 : (4 ^ n : Nat) ≤ 4 ^ 10 := Nat.pow_le_pow_right (by omega) hn
    have h4 : (4 ^ 10 : Nat) = 1048576 := by decide
    simp only [Option.getD_some]
    omega
def LensQ (w : World) (gr : Gr) (e : Ending) (w' : World) : Prop := ∃ (g : Nat) (xs : List Int), e = .returned (.tuple #[.slice (some ⟨g, 0, none⟩) gr.nons gr.nons, .int .i64 0]) ∧ LenG gr.nons xs ∧ SndL gr.rules xs ∧ FixL gr.rules xs ∧ Blk w' g 3 (iVals xs) ∧ Below w.heap.size w w' ∧ w.heap.size ≤ g
set_option maxRecDepth 100000 in
set_option maxHeartbeats 4000000 in
theorem Lengths_q (ok : Nat → Prop) (g : Gr) (Ag : Option Addr) (ng cg : Nat) (w : World) (hg : GrOk g) (hl : Sl RuE ok w Ag ng cg g.rules) :
    Calls Try.prog 30 #[grVal g Ag ng cg] w (LensQ w g) := by
  have B0 := Blk.new w 28 #[.int .i64 (g.terms : Int), .int .i64 (g.nons : Int), .int .i64 (g.start : Int), .slice Ag ng cg]
  have HB := Lib.hid ((Below.refl w.heap.size w).al (.cells #[.int .i64 (g.terms : Int), .int .i64 (g.nons : Int), .int .i64 (g.start : Int), .slice Ag ng cg] 28))
  have HGO := Lib.hid hg
  have HL := Lib.hid (hl.al (.cells #[.int .i64 (g.terms : Int), .int .i64 (g.nons : Int), .int .i64 (g.start : Int), .slice Ag ng cg] 28))
  simp only [grVal]
  clear hg hl
  go_enter Try.func30, Try.ntmps30
  have cB0 := B0.cell
  have fB0 := B0.frozen
  have lB0 := B0.lt
  go_wp2_with fail
  clear cB0 fB0 lB0
  generalize w.alloc (.cells #[.int .i64 (g.terms : Int), .int .i64 (g.nons : Int), .int .i64 (g.start : Int), .slice Ag ng cg] 28) = W at *
  refine (check_c ok g Ag ng cg W HGO.out HL.out).mono ?_
  rintro e w1 ⟨rfl, hb⟩
  have HB1 := Lib.hid hb
  have B1 := B0.via hb
  clear hb B0
  have cB1 := B1.cell
  have fB1 := B1.frozen
  have lB1 := B1.lt
  go_wp2_with fail
  clear cB1 fB1 lB1
  refine (lengths_q ok g Ag ng cg w1 HGO.out (HL.out.via HB1.out)).mono ?_
  rintro e w2 ⟨b, xs, rfl, hxl, hbk, hb2, hlt, hsn, hfx⟩
  have HSN := Lib.hid hsn
  have HFX := Lib.hid hfx
  have HX := Lib.hid hxl
  have HK := Lib.hid hbk
  have HB2 := Lib.hid ((HB.out.via HB1.out).via hb2)
  have HLT := Lib.hid (show w.heap.size ≤ b by have := (HB.out.via HB1.out).size; omega)
  clear hxl hbk hb2 hlt hsn hfx B1
  go_wp2_with fail
  go_ret2
  exact ⟨b, xs, rfl, HX.out, HSN.out, HFX.out, HK.out, HB2.out, HLT.out⟩
end Go.Proofs.Ytdmecijpioljaaa

