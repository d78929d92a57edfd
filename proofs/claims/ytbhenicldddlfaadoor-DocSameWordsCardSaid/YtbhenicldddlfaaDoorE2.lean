/- Texts DP, laid together. -/
import Derived.Test.YtbhenicldddlfaaDoorE1


namespace Go.Proofs.YtbhenicldddlfaaDoor
open Go.RowKit

def pairD : Dc := .node 6 ⟨#[]⟩ 0 [.node 4 ⟨#[]⟩ 0 [.node 0 ⟨#[97, 98]⟩ 0 [], .node 1 ⟨#[]⟩ 0 [], .node 0 ⟨#[99, 100]⟩ 0 []]]
theorem pairD_ok : pairD.Ok := by
  refine .group _ (.cat _ fun t ht => ?_)
  simp at ht
  rcases ht with rfl | rfl | rfl
  · exact .text _ ⟨by decide, by decide⟩
  · exact .line 1 (by omega) (by omega)
  · exact .text _ ⟨by decide, by decide⟩
theorem pairD_size : pairD.size = 5 := by simp [pairD, Dc.size, Dc.sizes]
theorem pairD_best : (BestR 4 pairD).ln = 1 := by
  unfold BestR
  rw [(setF_best (Dc.opsOk pairD_ok (by rw [pairD_size]; omega)) _ 0 0 0 (Nat.le_refl _)).2]
  have hops : pairD.ops 0 0 = [⟨pairD.flat, 0, true, !hasB [3] pairD, 4⟩, ⟨⟨#[97, 98]⟩, -1, false, false, 0⟩, ⟨⟨#[]⟩, 0, false, false, 0⟩, ⟨⟨#[99, 100]⟩, -1, false, false, 0⟩] := by
    simp [pairD, Dc.ops, Dc.opsL]
  have hh : hasB [3] pairD = false := by simp [hasB, pairD, Dc.all, Dc.alls, Dc.kind]
  have hf : pairD.flat.size = 5 := by simp [pairD, Dc.flat, Dc.flats, ByteArray.size]
  rw [hops, hh]
  generalize pairD.flat = f at *
  generalize hL : ([⟨f, 0, true, !false, 4⟩, ⟨⟨#[97, 98]⟩, -1, false, false, 0⟩, ⟨⟨#[]⟩, 0, false, false, 0⟩, ⟨⟨#[99, 100]⟩, -1, false, false, 0⟩] : List Opr) = L
  have g0 : L[0]? = some ⟨f, 0, true, true, 4⟩ := by rw [← hL]; rfl
  have g1 : L[1]? = some ⟨⟨#[97, 98]⟩, -1, false, false, 0⟩ := by rw [← hL]; rfl
  have g2 : L[2]? = some ⟨⟨#[]⟩, 0, false, false, 0⟩ := by rw [← hL]; rfl
  have g3 : L[3]? = some ⟨⟨#[99, 100]⟩, -1, false, false, 0⟩ := by rw [← hL]; rfl
  have s0 : (⟨#[97, 98]⟩ : ByteArray).size = 2 := rfl
  have s1 : (⟨#[99, 100]⟩ : ByteArray).size = 2 := rfl
  have h4 : ∀ c, findV 4 L 4 c = ⟨0, 0, false⟩ := fun c => findV_end (by rw [← hL]; simp)
  have h3 : findV 4 L 3 0 = ⟨0, 0, false⟩ := by
    rw [findV_text g3 rfl (by simp), h4]; simp [s1, ovr]
  have h2 : ∀ c, findV 4 L 2 c = ⟨0, 1, false⟩ := by
    intro c
    rw [findV_line g2 rfl (by simp)]
    simp [h3, ovr]
  have h1 : findV 4 L 1 0 = ⟨0, 1, false⟩ := by
    rw [findV_text g1 rfl (by simp), h2]; simp [s0, ovr]
  rw [findV_can g0 rfl rfl (by simp), h4, h1]
  simp [pickV, hf, ovr]

def PairTP (s : ByteArray) (w : World) (e : Ending) (w' : World) : Prop := e = .returned (.agg #[.int .i64 0, .string s, .int .i64 0, .slice none 0 0]) ∧ Below w.heap.size w w'
set_option maxRecDepth 100000 in
set_option maxHeartbeats 1000000 in
theorem pair1_c (s : ByteArray) (w : World) : Calls Tryd.prog 19 #[.string s] w (PairTP s w) := by
  go_enter Tryd.func19, Tryd.ntmps19
  go_wp2_with fail
  have B1 := Blk.new w 29 #[.int .i64 0, .string s, .int .i64 0, .slice none 0 0]
  refine bodyPost_ret (v := .agg #[.int .i64 0, .string s, .int .i64 0, .slice none 0 0]) (by simp [results, Tryd.results19, go_sem, B1.cell]) rfl ⟨rfl, ?_⟩
  exact (Below.refl _ _).al _

def DocR (P : Dc → Prop) (w : World) (e : Ending) (w' : World) : Prop := ∃ v t, e = .returned (dcVal v) ∧ DcR (fun _ => True) w' v t ∧ P t ∧ Below w.heap.size w w'
set_option maxRecDepth 100000 in
set_option maxHeartbeats 4000000 in
theorem pair_c (w : World) : Calls Tryd.prog 5 #[] w (DocR (fun t => t = pairD) w) := by
  have hB := Lib.hid ((Below.refl w.heap.size w).al (.cells #[.int .i64 0, .string ⟨#[]⟩, .int .i64 0, .slice none 0 0] 29))
  have B0 := Blk.new w 29 #[.int .i64 0, .string ⟨#[]⟩, .int .i64 0, .slice none 0 0]
  go_enter Tryd.func5, Tryd.ntmps5
  go_wp2_with fail
  generalize w.alloc (.cells #[.int .i64 0, .string ⟨#[]⟩, .int .i64 0, .slice none 0 0] 29) = W1 at *
  refine (pair1_c ⟨#[97, 98]⟩ W1).mono ?_
  rintro e W2 ⟨rfl, hb⟩
  replace B0 := B0.via hb
  have HB2 := Lib.hid (hB.out.via hb)
  clear hb hB
  clear W1
  go_wp2_with fail
  refine (pair1_c ⟨#[99, 100]⟩ W2).mono ?_
  rintro e W3 ⟨rfl, hb⟩
  replace B0 := B0.via hb
  have HB3 := Lib.hid (HB2.out.via hb)
  clear hb HB2
  clear W2
  have cB0 := B0.cell
  have fB0 := B0.frozen
  have lB0 := B0.lt
  have l1 : w.heap.size < W3.heap.size + 1 := by omega
  go_wp2_with fail
  refine bodyPost_ret (v := dcVal (6, ⟨#[]⟩, 0, some ⟨W3.heap.size + 1, 0, none⟩, 1, 1)) (by simp [results, Tryd.results5, go_sem, dcVal, cB0, lB0, l1]) rfl ⟨(6, ⟨#[]⟩, 0, some ⟨W3.heap.size + 1, 0, none⟩, 1, 1), pairD, rfl, ?_, rfl, ?_⟩
  · generalize hW4 : (((W3.setCell ⟨w.heap.size, 0, none⟩ (.int .i64 6)).setCell ⟨w.heap.size, 1, none⟩ (.string ⟨#[]⟩)).setCell ⟨w.heap.size, 2, none⟩ (.int .i64 0)).setCell ⟨w.heap.size, 3, none⟩ (.slice (some ⟨W3.heap.size + 1, 0, none⟩) 1 1) = W4
    have hs : W3.heap.size = W4.heap.size := by rw [← hW4]; simp
    rw [hs]
    clear hW4
    have T12 := (Blk.new W4 29 #[.int .i64 0, .string ⟨#[97, 98]⟩, .int .i64 0, .slice none 0 0, .int .i64 1, .string ⟨#[]⟩, .int .i64 0, .slice none 0 0, .int .i64 0, .string ⟨#[99, 100]⟩, .int .i64 0, .slice none 0 0]).al (.cells #[.int .i64 4, .string ⟨#[]⟩, .int .i64 0, .slice (some ⟨W4.heap.size, 0, none⟩) 3 3] 29)
    have T4 := Blk.new1 W4 (.cells #[.int .i64 0, .string ⟨#[97, 98]⟩, .int .i64 0, .slice none 0 0, .int .i64 1, .string ⟨#[]⟩, .int .i64 0, .slice none 0 0, .int .i64 0, .string ⟨#[99, 100]⟩, .int .i64 0, .slice none 0 0] 29) 29 #[.int .i64 4, .string ⟨#[]⟩, .int .i64 0, .slice (some ⟨W4.heap.size, 0, none⟩) 3 3]
    refine DcR.of 6 ⟨#[]⟩ 0 (Sl.oneD (v := (4, ⟨#[]⟩, 0, some ⟨W4.heap.size, 0, none⟩, 3, 3)) T4 (DcR.of 4 ⟨#[]⟩ 0 ⟨rfl, Nat.le_refl _, [(0, ⟨#[97, 98]⟩, 0, none, 0, 0), (1, ⟨#[]⟩, 0, none, 0, 0), (0, ⟨#[99, 100]⟩, 0, none, 0, 0)], rfl, fun _ => ⟨W4.heap.size, 0, rfl, trivial, fun j u hu => ?_⟩, fun i r x hr hx => ?_⟩) trivial)
    · rw [Nat.zero_add, T12.cell]; simpa [flat, DcE, dcCells] using hu
    · match i, hr, hx with
      | 0, hr, hx => simp at hr hx; subst hr hx; exact DcR.of 0 _ 0 (Sl.nil 0)
      | 1, hr, hx => simp at hr hx; subst hr hx; exact DcR.of 1 _ 0 (Sl.nil 0)
      | 2, hr, hx => simp at hr hx; subst hr hx; exact DcR.of 0 _ 0 (Sl.nil 0)
      | i + 3, hr, hx => simp at hr
  · exact (((((HB3.out.setCell (Nat.le_refl _) _).setCell (Nat.le_refl _) _).setCell (Nat.le_refl _) _).setCell (Nat.le_refl _) _).al _).al _

set_option maxRecDepth 100000 in
set_option maxHeartbeats 4000000 in
theorem Doc_c (A : Option Addr) (m c : Nat) (ls : List Int) (w : World) (h : Ints w A m c ls) : Calls Tryd.prog 7 #[.slice A m c] w (DocR (fun t => t.Ok ∧ t.size ≤ 341) w) := by
  have hB := ((Below.refl w.heap.size w).al (.cells #[.int .i64 0, .string ⟨#[]⟩, .int .i64 0, .slice none 0 0] 29)).al (.cells #[.slice A m c] 62)
  have B0 := (Blk.new w 29 #[.int .i64 0, .string ⟨#[]⟩, .int .i64 0, .slice none 0 0]).al (.cells #[.slice A m c] 62)
  have B1 := Blk.new1 w (.cells #[.int .i64 0, .string ⟨#[]⟩, .int .i64 0, .slice none 0 0] 29) 62 #[.slice A m c]
  have HR := Lib.hid (Rd.mk ⟨A, m, c, ls, B1, h⟩ hB (by omega) : Rd w ((w.alloc (.cells #[.int .i64 0, .string ⟨#[]⟩, .int .i64 0, .slice none 0 0] 29)).alloc (.cells #[.slice A m c] 62)) (w.heap.size + 1))
  have hz : w.heap.size + 2 ≤ ((w.alloc (.cells #[.int .i64 0, .string ⟨#[]⟩, .int .i64 0, .slice none 0 0] 29)).alloc (.cells #[.slice A m c] 62)).heap.size := by simp
  clear hB h B1
  go_enter Tryd.func7, Tryd.ntmps7
  go_wp2_with fail
  generalize (w.alloc (.cells #[.int .i64 0, .string ⟨#[]⟩, .int .i64 0, .slice none 0 0] 29)).alloc (.cells #[.slice A m c] 62) = W1 at *
  refine (document_n w (w.heap.size + 1) 4 (Nat.le_refl _) W1 4 rfl HR.out).mono ?_
  rintro e W2 ⟨v, t, rfl, h1, h2, h3, h4, h5, h6⟩
  replace B0 := B0.agr h5 (show w.heap.size ≠ w.heap.size + 1 by omega)
  have HT := Lib.hid h1
  have HO := Lib.hid (And.intro h2 (Nat.le_trans h3 (dcMax_le (Nat.le_refl _))))
  have HB := Lib.hid h4.bel
  clear h1 h2 h3 h4 h5 h6 HR
  obtain ⟨k, s, i, B, n, d⟩ := v
  simp only [dcVal]
  have cB0 := B0.cell
  have fB0 := B0.frozen
  have lB0 := B0.lt
  go_wp2_with fail
  refine bodyPost_ret (v := dcVal (k, s, i, B, n, d)) (by simp [results, Tryd.results7, go_sem, dcVal, cB0]) rfl ⟨(k, s, i, B, n, d), t, rfl, ?_, HO.out, ?_⟩
  · exact (((((HT.out.far _ fun b hb => by show b ≠ w.heap.size; omega).far _ fun b hb => by show b ≠ w.heap.size; omega).far _ fun b hb => by show b ≠ w.heap.size; omega).far _ fun b hb => by show b ≠ w.heap.size; omega).mono fun _ _ _ => trivial)
  · exact (((HB.out.setCell (Nat.le_refl _) _).setCell (Nat.le_refl _) _).setCell (Nat.le_refl _) _).setCell (Nat.le_refl _) _
end Go.Proofs.YtbhenicldddlfaaDoor

