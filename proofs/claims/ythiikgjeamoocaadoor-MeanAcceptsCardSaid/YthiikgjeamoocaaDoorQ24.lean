/- Texts TW, laid together. -/
import Derived.Test.YthiikgjeamoocaaDoorQ23


namespace Go.Proofs.YthiikgjeamoocaaDoor
open Go.RowKit

theorem LInv.see {nd : List NdI} {most base : Nat} {st : LsS} {hand rem : Nat} (h : LInv nd most base st hand (rem + 1)) (c : Cand) : LInv nd most base { st with seen := st.seen ++ [c] } (hand + 1) rem :=
  ⟨h.len, h.lst, h.qok, h.wok, by have := h.cnt; simp only [List.length_append, List.length_singleton]; omega, by have := h.scn; simp only [List.length_append, List.length_singleton]; omega, h.wk⟩
set_option maxRecDepth 100000 in
set_option maxHeartbeats 8000000 in
theorem first_c (w0 : World) (bl lb bs bw : Nat) (A : Option Addr) (n c : Nat) (root : Int) (most base : Nat) (nd : List NdI) (hx : LsX w0 A n c most base nd) (cd : Cand) (p : Option Addr) (hand rem : Nat) (tg : Nat → Tg) (st : LsS) (qv : Value) (vs : Nat → Value) (F : WtK → Option Value) (w : World)
    (hM : LsM w0 bl lb bs bw A n c root (most : Int) tg st qv vs F w) (hc : CdOk nd most cd) (hi : LInv nd most base st hand (rem + 1)) :
    Calls Tryd.prog 47 #[.pointer (ptA bl), cdVal cd p] w (TryP w0 bl lb bs bw A n c root (most : Int) tg st (firstL nd cd st) vs w) := by
  obtain ⟨Q, hQ⟩ : ∃ Q, Q = TryP w0 bl lb bs bw A n c root (most : Int) tg st (firstL nd cd st) vs w := ⟨_, rfl⟩
  rw [← hQ]
  have HQQ := Lib.hid hQ
  have HX := Lib.hid hx
  have HC := Lib.hid hc
  have HI := Lib.hid hi
  have hal := (Below.refl w.heap.size w).al (.cells (cdCs cd p) 114)
  have BC := Blk.new w 114 (cdCs cd p)
  have HB := Lib.hid hal
  have HM0 := Lib.hid hM
  clear hQ hx hc hi hM hal
  unfold cdCs at BC HB
  unfold cdVal
  go_enter Tryd.func47, Tryd.ntmps47
  go_upto_region 1 with fail
  generalize w.alloc (.cells #[.int .i64 (cd.1 : Int), .int .i64 (cd.2.1 : Int), .int .i64 (cd.2.2.1 : Int), .int .i64 (cd.2.2.2.1 : Int), .int .i64 (cd.2.2.2.2.1 : Int), .int .i64 (cd.2.2.2.2.2 : Int), .pointer p] 114) = w1 at *
  have cBC := BC.cell
  have fBC := BC.frozen
  have lBC := BC.lt
  go_upto_region 2 with fail
  clear cBC fBC lBC
  have HB1 := Lib.hid (HB.out.setCell (p := ⟨w.heap.size, 6, none⟩) (Nat.le_refl _) (.pointer none))
  have BC1 : Blk (w1.setCell ⟨w.heap.size, 6, none⟩ (.pointer none)) w.heap.size 114 (cdCs cd none) := by
    have := BC.set_ 6 (.pointer none); simpa [cdCs] using this
  clear BC HB
  generalize w1.setCell ⟨w.heap.size, 6, none⟩ (.pointer none) = w2 at *
  unfold cdCs at BC1
  have g4 := (HM0.out.via HB1.out).que.blk.cell 4
  simp only [List.getElem?_toArray, List.getElem?_cons_succ, List.getElem?_cons_zero] at g4
  have cBC1 := BC1.cell
  have fBC1 := BC1.frozen
  have lBC1 := BC1.lt
  go_still_tail 5, (by kernel_rfl)
  clear cBC1 fBC1 lBC1
  clear g4
  change wpList _ _ _ _ _ w2.drew
  have hdr := (Below.refl w2.heap.size w2).drew
  have HB3 := Lib.hid (HB1.out.via hdr)
  have BC3 := BC1.via hdr
  clear hdr HB1 BC1
  generalize w2.drew = w3 at *
  have hlk := (HM0.out.via HB3.out).seen.look cd
  unfold cdVal at hlk
  by_cases hin : cd ∈ st.seen
  · have hde : decide (cd ∈ st.seen) = true := decide_eq_true hin
    rw [hde] at hlk
    go_wp2_with fail
    refine bodyPost_end (v := .tuple #[]) (by simp [results, Tryd.results47, go_sem]) rfl ?_
    have e : firstL nd cd st = st := by unfold firstL; rw [if_pos hin]
    rw [HQQ.out, e]
    exact ⟨rfl, tg, qv, F, HM0.out.via HB3.out, fun b _ => rfl, Frq.bel HB3.out⟩
  · have hde : decide (cd ∈ st.seen) = false := decide_eq_false hin
    rw [hde] at hlk
    have HE := Lib.hid (show firstL nd cd st = tryL nd cd { st with seen := st.seen ++ [cd] } by unfold firstL; rw [if_neg hin])
    go_upto_region 3 with fail
    clear hlk hde
    have g4 := (HM0.out.via HB3.out).que.blk.cell 4
    simp only [List.getElem?_toArray, List.getElem?_cons_succ, List.getElem?_cons_zero] at g4
    have cBC3 := BC3.cell
    have fBC3 := BC3.frozen
    have lBC3 := BC3.lt
    go_still_tail 5, (by kernel_rfl)
    clear cBC3 fBC3 lBC3
    clear g4
    change wpList _ _ _ _ _ w3.drew
    have hdr := (Below.refl w3.heap.size w3).drew
    have HB4 := Lib.hid (HB3.out.via hdr)
    have BC4 := BC3.via hdr
    clear hdr HB3 BC3
    generalize w3.drew = w4 at *
    obtain ⟨w5, hrun, hs5, hg5, hz5⟩ := (HM0.out.via HB4.out).seen.store cd hin
    unfold cdVal at hrun
    have HM5 := Lib.hid ((HM0.out.via HB4.out).setSeen hg5 hs5)
    have hbs : bs < w.heap.size := HM0.out.seen.lt
    have BC5 := BC4.grown hg5 (fun e => by have := Option.some.inj e; omega)
    have HF5 := Lib.hid ((Frq.bel (S := TryS tg st.lists) HB4.out).trans2 (Frq.row (S := TryS tg st.lists) hg5 fun b e _ => Or.inl (by rw [← Option.some.inj e]; exact HM0.out.fix.2.2.1)) fun b _ h => h)
    have HZ5 := Lib.hid (show w.heap.size ≤ w5.heap.size from by have h1 := HB4.out.size; omega)
    clear hs5 hg5 hz5
    go_upto_region 4 with fail
    clear hrun BC4
    have HT := Lib.hid (try_c w0 bl lb bs bw A n c root most base nd HX.out cd hand rem tg { st with seen := st.seen ++ [cd] } qv vs F w5 HM5.out HC.out (HI.out.see cd))
    have cBC5 := BC5.cell
    have fBC5 := BC5.frozen
    have lBC5 := BC5.lt
    go_wp2_with fail
    refine HT.out.mono ?_
    clear HT
    rintro e w6 ⟨rfl, tg6, qv6, F6, hm6, ht6, hf6⟩
    have HFN := Lib.hid (And.intro hm6 (And.intro ht6 hf6))
    clear hm6 ht6 hf6
    go_wp2_with fail
    refine bodyPost_end (v := .tuple #[]) (by simp [results, Tryd.results47, go_sem]) rfl ?_
    rw [HQQ.out, HE.out]
    exact ⟨rfl, tg6, qv6, F6, HFN.out.1, fun b hb => HFN.out.2.1 b (Nat.lt_of_lt_of_le hb HZ5.out), HF5.out.trans2 HFN.out.2.2 fun b _ h => h⟩
end Go.Proofs.YthiikgjeamoocaaDoor

