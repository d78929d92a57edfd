/- Texts PB, laid together. -/
import Derived.Test.YtdmecijpioljaaaU1
import Derived.Test.YtdmecijpioljaaaH3



namespace Go.Proofs.Ytdmecijpioljaaa
open Go.RowKit

open Classical in
/-- does nonterminal N derive a word? -/
noncomputable def endB (g : Gr) (N : Nat) : Bool := decide (∃ v, Dv g.rules [(false, N)] v)
open Classical in
theorem endB_of {g : Gr} {xs : List Int} (hs : SndL g.rules xs) (hf : FixL g.rules xs) (N : Nat) : decide (0 ≤ xs.getD N (-1)) = endB g N := by
  unfold endB
  by_cases h : 0 ≤ xs.getD N (-1)
  · obtain ⟨v, hv, -⟩ := hs N h
    rw [decide_eq_true h, decide_eq_true ⟨v, hv⟩]
  · rw [decide_eq_false h, decide_eq_false]
    rintro ⟨v, hv⟩
    exact h (hf.one hv).1
noncomputable def endsF (g : Gr) : List Bool := (List.range g.nons).map (endB g)
def EndsQ (g : Gr) (w : World) (e : Ending) (w' : World) : Prop :=
  ∃ (A : Option Addr) (c : Nat), e = .returned (.tuple #[.slice A g.nons c, .int .i64 0]) ∧ Sl BoE (fun b => w.heap.size ≤ b) w' A g.nons c (endsF g) ∧ Below w.heap.size w w'
set_option maxRecDepth 100000 in
set_option maxHeartbeats 2000000 in
theorem Ends_q (ok : Nat → Prop) (g : Gr) (Ag : Option Addr) (ng cg : Nat) (w : World) (hg : GrOk g) (hn : g.nons ≤ 100) (hl : Sl RuE ok w Ag ng cg g.rules) :
    Calls Try.prog 10 #[grVal g Ag ng cg] w (EndsQ g w) := by
  have B0 := Blk.new w 28 #[.int .i64 (g.terms : Int), .int .i64 (g.nons : Int), .int .i64 (g.start : Int), .slice Ag ng cg]
  have HB := Lib.hid ((Below.refl w.heap.size w).al (.cells #[.int .i64 (g.terms : Int), .int .i64 (g.nons : Int), .int .i64 (g.start : Int), .slice Ag ng cg] 28))
  have HL := Lib.hid (hl.al (.cells #[.int .i64 (g.terms : Int), .int .i64 (g.nons : Int), .int .i64 (g.start : Int), .slice Ag ng cg] 28))
  simp only [grVal]
  clear hl
  go_enter Try.func10, Try.ntmps10
  have cB0 := B0.cell
  have fB0 := B0.frozen
  have lB0 := B0.lt
  go_wp2_with fail
  clear cB0 fB0 lB0
  clear B0
  generalize w.alloc (.cells #[.int .i64 (g.terms : Int), .int .i64 (g.nons : Int), .int .i64 (g.start : Int), .slice Ag ng cg] 28) = W at *
  refine (Lengths_q ok g Ag ng cg W hg HL.out).mono ?_
  rintro e w1 ⟨b, xs, rfl, hx, hs, hf, hbk, hb1, hlt⟩
  have HB1 := Lib.hid (HB.out.via hb1)
  have HE := Lib.hid (endB_of hs hf)
  have hxl : xs.length = g.nons := hx.len
  have HK := Lib.hid hbk
  clear hs hf hbk hb1 hlt hx HB HL
  go_wp2_with fail
  go_loopw [19, 6] (fun i s wr => ∃ (j : Nat) (A : Option Addr) (c : Nat), i = .int .i64 j ∧ j ≤ g.nons ∧ s = .slice A j c ∧ Hid (Own BoE 4 (fun _ => False) wr w1.heap.size (.slice A j c) j ((List.range j).map (endB g))) ∧ Hid (Below w1.heap.size w1 wr)) (fun i _ _ => g.nons - (intOf i).toNat)
  case atStart => exact ⟨0, none, 0, rfl, Nat.zero_le _, rfl, Lib.hid (Own.nil _ _), Lib.hid (Below.refl _ _)⟩
  case round =>
    obtain ⟨j, A, c, rfl, hj, rfl, HO, HBR⟩ := hrel
    by_cases hjl : j < g.nons
    · have hxj : xs[j]? = some xs[j] := List.getElem?_eq_getElem (by omega)
      have cx : wr.cell? ⟨b, j, none⟩ = some (.int .i64 (xs.getD j (-1))) := by
        rw [(HK.out.via HBR.out).cell]
        simp [iVals, List.getD_eq_getElem?_getD, hxj]
      obtain ⟨x, hxx⟩ : ∃ x, x = xs.getD j (-1) := ⟨_, rfl⟩
      have HEJ := Lib.hid (show decide (0 ≤ x) = endB g j by rw [hxx]; exact HE.out j)
      rw [← hxx] at cx
      obtain ⟨bv, hbv⟩ : ∃ bv, decide (0 ≤ x) = bv := ⟨_, rfl⟩
      have HBV := Lib.hid (show bv = endB g j by rw [← hbv]; exact HEJ.out)
      have i0 : (0 : Int) ≤ (j : Int) := by omega
      have i1 : (j : Int) < (g.nons : Int) := by omega
      have hal := (Below.refl wr.heap.size wr).al (.cells #[.bool bv] 4)
      have HO2 := Lib.hid (HO.out.via hal)
      have HB2 := Lib.hid (HBR.out.via hal)
      have BV := Blk.new wr 4 #[.bool bv]
      have hsz := HB2.out.size
      clear hxx hal hxj
      go_wp2_with (at_builtin; refine wpList_append_b _ rfl (.tmp 23) (.tmp 26) rfl w1.heap.size (.slice A j c) j ((List.range j).map (endB g)) rfl HO2.out wr.heap.size bv rfl (by rw [BV.cell]; rfl) (by omega) hsz ?_; intro A1 c1 wz ho1 hg1 hn1)
      exact ⟨⟨j + 1, A1, c1, by go_num, by omega, rfl, Lib.hid (by rw [List.range_succ, List.map_append, List.map_singleton, ← HBV.out]; exact ho1), Lib.hid (HB2.out.grown hg1 hsz (fun b e => (HO2.out.lt b e).1))⟩, by simp [intOf]; omega⟩
    · obtain rfl : j = g.nons := by omega
      have HF := Lib.hid (HB1.out.via HBR.out)
      have HS := Lib.hid (HO.out.toSl (ok' := fun b => w1.heap.size ≤ b) (fun _ _ h => h.elim) (fun b hb => hb))
      have hz := HB1.out.size
      go_wp2_with fail
      go_ret2
      exact ⟨A, c, rfl, HS.out.mono fun b _ hb => by omega, HF.out⟩
end Go.Proofs.Ytdmecijpioljaaa

