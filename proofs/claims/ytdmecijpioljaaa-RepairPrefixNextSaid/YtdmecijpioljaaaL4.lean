/- Texts WG, laid together. -/
import Derived.Test.YtdmecijpioljaaaL3
import Derived.Test.YtdmecijpioljaaaZ3



namespace Go.Proofs.Ytdmecijpioljaaa
open Go.RowKit

/-- what useful.Least gives: the word, if it is not too long -/
def LeastP (w : World) (g : Gr) (lens : List Int) (N : Nat) (e : Ending) (w' : World) : Prop := Below w.heap.size w w' ∧
  ((lens.getD N (-1) ≤ 2000 ∧ ∃ A n c v, e = .returned (.tuple #[.slice A n c, .int .i64 0]) ∧ Sl IntE (fun b => w.heap.size ≤ b) w' A n c v ∧ Dv g.rules [(false, N)] v ∧ (v.length : Int) = lens.getD N (-1)) ∨
   (2000 < lens.getD N (-1) ∧ e = .returned (.tuple #[.slice none 0 0, .int .i64 2])))
set_option maxRecDepth 100000 in
set_option maxHeartbeats 4000000 in
theorem Least_c (ok : Nat → Prop) (g : Gr) (Ag : Option Addr) (ng cg N : Nat) (w : World) (hg : GrOk g) (hl : Sl RuE ok w Ag ng cg g.rules) (hN : N < g.nons) (hd : ∃ v, Dv g.rules [(false, N)] v) :
    Calls Try.prog 47 #[grVal g Ag ng cg, .int .i64 (N : Int)] w (fun e w' => ∃ lens, SndL g.rules lens ∧ FixL g.rules lens ∧ LeastP w g lens N e w') := by
  have B0 := Blk.new w 28 #[.int .i64 (g.terms : Int), .int .i64 (g.nons : Int), .int .i64 (g.start : Int), .slice Ag ng cg]
  have HB := Lib.hid ((Below.refl w.heap.size w).al (.cells #[.int .i64 (g.terms : Int), .int .i64 (g.nons : Int), .int .i64 (g.start : Int), .slice Ag ng cg] 28))
  have HGO := Lib.hid hg
  have HL := Lib.hid (hl.al (.cells #[.int .i64 (g.terms : Int), .int .i64 (g.nons : Int), .int .i64 (g.start : Int), .slice Ag ng cg] 28))
  have HD := Lib.hid hd
  have hn10 := hg.ok.nons.2
  have n0 : (0 : Int) ≤ (N : Int) := by omega
  have n1 : (N : Int) < (g.nons : Int) := by omega
  simp only [grVal]
  clear hg hl hd
  go_enter Try.func47, Try.ntmps47
  have cB0 := B0.cell
  have fB0 := B0.frozen
  have lB0 := B0.lt
  go_wp2_with fail
  clear cB0 fB0 lB0
  generalize w.alloc (.cells #[.int .i64 (g.terms : Int), .int .i64 (g.nons : Int), .int .i64 (g.start : Int), .slice Ag ng cg] 28) = W at *
  refine (check_c ok g Ag ng cg W HGO.out HL.out).mono ?_
  rintro e w1 ⟨rfl, hb⟩
  have HB1 := Lib.hid hb
  have B1 := B0.via hb
  clear hb B0
  have cB1 := B1.cell
  have fB1 := B1.frozen
  have lB1 := B1.lt
  go_wp2_with fail
  clear cB1 fB1 lB1
  refine (lengths_q ok g Ag ng cg w1 HGO.out (HL.out.via HB1.out)).mono ?_
  rintro e w2 ⟨lb, lens, rfl, hxl, hbk, hb2, hlt, hs, hf⟩
  have HS := Lib.hid hs
  have HF := Lib.hid hf
  have HK := Lib.hid hbk
  have HXL := Lib.hid hxl.len
  have HB2 := Lib.hid ((HB.out.via HB1.out).via hb2)
  have HLW := Lib.hid ((HL.out.via HB1.out).via hb2)
  have B2 := B1.via hb2
  obtain ⟨x, hx⟩ : ∃ x, lens[N]? = some x := ⟨_, List.getElem?_eq_getElem (by rw [hxl.len]; exact hN)⟩
  have HVX := Lib.hid (show lens.getD N (-1) = x by simp [List.getD_eq_getElem?_getD, hx])
  have hx0 : 0 ≤ x := by rw [← HVX.out]; obtain ⟨v, hv⟩ := HD.out; exact (HF.out.one hv).1
  have cx := (HK.out.cell N).trans (show (iVals lens)[N]? = some (.int .i64 x) by simp [iVals, hx])
  clear hxl hbk hb2 hlt hs hf B1 hx
  by_cases hx2 : x ≤ 2000
  · have cB2 := B2.cell
    have fB2 := B2.frozen
    have lB2 := B2.lt
    go_wp2_with fail
    clear cB2 fB2 lB2
    refine (words_c ok g Ag ng cg lb lens w2 HGO.out HLW.out HK.out HXL.out HF.out).mono ?_
    rintro e w3 ⟨bg, bo, bk, kn, ou, gc, rfl, hwr, hwg, hfw⟩
    have hkn := hwg.all HF.out HS.out hfw (N := N) (by rw [HVX.out]; exact hx0) (by rw [HVX.out]; exact hx2)
    obtain ⟨A2, m2, c2, hcw, hsw⟩ := hwr.word hN
    have HV := Lib.hid (hwg.snd N hkn)
    have HVL := Lib.hid (hwg.len HF.out hkn)
    have HB3 := Lib.hid (HB2.out.via hwr.bel)
    have HI := Lib.hid hsw.ints
    have hm2 : m2 ≤ 2000 := by rw [← hsw.len]; have := hwg.snd N hkn; omega
    clear hwr hwg hfw hsw B2
    go_wp2_with fail
    refine (clone_s A2 m2 c2 (ou N) w3 HI.out (by omega)).mono ?_
    rintro e w4 ⟨B, d, rfl, ho, hb⟩
    have HO := Lib.hid ho
    have HB4 := Lib.hid (HB3.out.via hb)
    have hle := HB3.out.size
    clear ho hb
    go_wp2_with fail
    go_ret2
    refine ⟨lens, HS.out, HF.out, HB4.out, Or.inl ⟨by rw [HVX.out]; exact hx2, B, m2, d, ou N, rfl, ?_, HV.out.1, HVL.out⟩⟩
    exact HO.out.toInts.sl fun b off e _ => Nat.le_trans hle (HO.out.block _ e).1
  · have cB2 := B2.cell
    have fB2 := B2.frozen
    have lB2 := B2.lt
    go_wp2_with fail
    go_ret2
    exact ⟨lens, HS.out, HF.out, HB2.out, Or.inr ⟨by rw [HVX.out]; omega, rfl⟩⟩
end Go.Proofs.Ytdmecijpioljaaa

