/- gram.Check of a valid grammar. -/
import Derived.Test.YtghnkgbingcbcaaGC
namespace Go.Proofs.Ytghnkgbingcbcaa
open Go.RowKit

set_option maxRecDepth 100000 in
set_option maxHeartbeats 8000000 in
theorem check_c (ok : Nat → Prop) (g : Gr) (A : Option Addr) (n c : Nat) (w : World) (hg : GrOk g) (hl : Sl RuE ok w A n c g.rules) :
    Calls Try.prog 24 #[grVal g A n c] w (IntO w 0) := by
  obtain ⟨⟨t1, t2⟩, ⟨n1, n2⟩, s1, cn, lf, rt⟩ := hg.ok
  have hnd := hg.nodup
  have hlen := hl.len
  have hn32 : n ≤ 32 := by omega
  obtain ⟨gt, gn, gs, gr⟩ := g
  simp only at t1 t2 n1 n2 s1 cn lf rt hnd hlen hl
  simp only [grVal]
  have B0 := Blk.new w 28 #[.int .i64 (gt : Int), .int .i64 (gn : Int), .int .i64 (gs : Int), .slice A n c]
  have HB0 := Lib.hid B0
  have HL := Lib.hid (hl.al (.cells #[.int .i64 (gt : Int), .int .i64 (gn : Int), .int .i64 (gs : Int), .slice A n c] 28))
  have HLF := Lib.hid lf
  have HRT := Lib.hid rt
  have HND := Lib.hid hnd
  have HLEN := Lib.hid hlen
  have HB := Lib.hid ((Below.refl w.heap.size w).al (.cells #[.int .i64 (gt : Int), .int .i64 (gn : Int), .int .i64 (gs : Int), .slice A n c] 28))
  have e1 : decide ((gt : Int) < 1) = false := by simp; omega
  have e2 : decide ((8 : Int) < (gt : Int)) = false := by simp; omega
  have e3 : decide ((gn : Int) < 1) = false := by simp; omega
  have e4 : decide ((10 : Int) < (gn : Int)) = false := by simp; omega
  have e5 : decide ((gs : Int) < 0) = false := by simp
  have e6 : decide (gn ≤ gs) = false := by simp; omega
  clear hl lf rt hnd hlen hg B0 cn
  go_enter Try.func24, Try.ntmps24
  go_wp2_with fail
  clear e1 e2 e3 e4 e5 e6
  generalize hW : w.alloc (.cells #[.int .i64 (gt : Int), .int .i64 (gn : Int), .int .i64 (gs : Int), .slice A n c] 28) = W at *
  clear hW
  go_loopw [42] (fun i wr => ∃ k : Nat, i = .int .i64 k ∧ k ≤ n ∧ Below W.heap.size W wr) (fun i _ => n - (intOf i).toNat)
  case atStart => exact ⟨0, rfl, Nat.zero_le _, Below.refl _ _⟩
  case round =>
    obtain ⟨k, rfl, hk, hb⟩ := hrel
    have HR := Lib.hid hb
    clear hb
    by_cases hlt : k < n
    · obtain ⟨b1, o1, ⟨sl, sA, sn, sc⟩, ⟨x, xs⟩, rfl, -, hbb, hy, ⟨hx1, hx2⟩, hc⟩ := (HL.out.via HR.out).at_ hlt
      simp only at hx1 hx2
      obtain rfl : sl = x := hx1
      have c0 := hc 0 _ rfl
      have c1 := hc 1 _ rfl
      simp only [RuE, Nat.add_zero] at c0 c1
      have i0 : (0 : Int) ≤ (k : Int) := by omega
      have i1 : (k : Int) < (n : Int) := by omega
      have hmem := List.mem_of_getElem? hy
      have hlf := HLF.out _ hmem
      have hrt := HRT.out _ hmem
      simp only at hlf hrt
      have hsn : sn ≤ 4 := by rw [← hx2.len]; exact hrt.1
      have e1 : decide ((sl : Int) < 0) = false := by simp
      have e2 : decide (gn ≤ sl) = false := by simp; omega
      have e3 : decide ((4 : Int) < (sn : Int)) = false := by simp; omega
      have HSO := Lib.hid hrt.2
      have HNE := Lib.hid (show ∀ r ∈ gr.take k, r ≠ (sl, xs) from fun r hr e => by
        subst e
        have hk2 := List.getElem?_eq_some_iff.1 hy
        have hd := HND.out
        rw [← List.take_append_drop k gr, List.drop_eq_getElem_cons hk2.1, hk2.2, List.nodup_append] at hd
        exact hd.2.2 _ hr _ (List.mem_cons_self ..) rfl)
      have HK4 := Lib.hid (show ∀ r ∈ gr.take k, r.2.length ≤ 4 from fun r hr => (HRT.out r (List.mem_of_mem_take hr)).1)
      have HX := Lib.hid (hx2.al (.cells #[.int .i64 (sl : Int), .slice sA sn sc] 75))
      have HR2 := Lib.hid (HR.out.al (.cells #[.int .i64 (sl : Int), .slice sA sn sc] 75))
      have Bk := Blk.new wr 75 #[.int .i64 (sl : Int), .slice sA sn sc]
      have Bg := (HB0.out.via HR.out).al (.cells #[.int .i64 (sl : Int), .slice sA sn sc] 75)
      clear hc hy hx2 hmem hrt HR hbb
      go_upto_region 8 with fail
      clear c0 c1
      generalize wr.alloc (.cells #[.int .i64 (sl : Int), .slice sA sn sc] 75) = W2 at *
      generalize wr.heap.size = bk at *
      have HBk := Lib.hid Bk
      have HBg := Lib.hid Bg
      have cBk := Bk.cell
      have fBk := Bk.frozen
      have lBk := Bk.lt
      have cBg := Bg.cell
      have fBg := Bg.frozen
      have lBg := Bg.lt
      go_wp2_with fail
      clear cBk fBk lBk cBg fBg lBg
      clear e1 e2 e3
      refine (symsOk_c w.heap.size ⟨gt, gn, gs, gr⟩ (some ⟨b1, o1, none⟩) n c ok sA sn sc xs W2 HBg.out HX.out HSO.out (by omega)).mono ?_
      rintro e w3 ⟨rfl, hb⟩
      have HR3 := Lib.hid (HR2.out.via hb)
      have HX3 := Lib.hid (HX.out.via hb)
      have Bk := HBk.out.via hb
      have Bg := HBg.out.via hb
      have HBk := Lib.hid Bk
      clear hb HR2 HX HBg
      have j2 : (k : Int) ≤ (c : Int) := by have := HL.out.le; omega
      have cBk := Bk.cell
      have fBk := Bk.frozen
      have lBk := Bk.lt
      have cBg := Bg.cell
      have fBg := Bg.frozen
      have lBg := Bg.lt
      go_wp2_with fail
      clear cBk fBk lBk cBg fBg lBg
      refine (rulesOk_c ok ok bk sl (some ⟨b1, o1, none⟩) sA k c sn sc (gr.take k) xs w3 ((HL.out.via HR3.out).take (by omega)) HBk.out HX3.out (by omega) HK4.out HNE.out).mono ?_
      rintro e w4 ⟨rfl, hb⟩
      have HR4 := Lib.hid (HR3.out.via hb)
      clear hb
      go_wp2_with fail
      exact ⟨⟨k + 1, by go_num, by omega, HR4.out⟩, by simp [intOf]; omega⟩
    · go_wp2_with fail
      go_ret
      exact ⟨rfl, HB.out.via HR.out⟩
end Go.Proofs.Ytghnkgbingcbcaa
