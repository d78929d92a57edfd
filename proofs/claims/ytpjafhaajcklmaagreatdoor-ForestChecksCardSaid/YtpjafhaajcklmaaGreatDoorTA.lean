/- Texts TA, laid together. -/
import Derived.Test.YtpjafhaajcklmaaGreatDoorJ3
import Derived.Test.YtpjafhaajcklmaaGreatDoorBM



namespace Go.Proofs.YtpjafhaajcklmaaGreatDoor
open Go.RowKit

theorem list_five {α : Type} {l : List α} (h : l.length = 5) : ∃ a b c d e, l = [a, b, c, d, e] := by
  match l, h with
  | [a, b, c, d, e], _ => exact ⟨a, b, c, d, e, rfl⟩
section
variable {H : Type} {enc : TypeId × Value → H} {w : World} {base : Nat} {spare : Nat → Bool} {held : Bool}
theorem open_one (n : Nat) (cs : List Value) (y : DataW H × List MemPlace) (h : DataW.trod enc Tryz.prog w base spare held n 3 cs = some y) : ∃ r z, cs = InE.cells r ∧ InE.rel (fun b => b < w.heap.size) w r z := by
  obtain ⟨k, hk, -⟩ := read_int Tryz.underlying3 h
  exact ⟨k, k, hk, rfl⟩
set_option maxRecDepth 100000 in
theorem open_pack (n : Nat) (cs : List Value) (y : DataW H × List MemPlace) (h : DataW.trod enc Tryz.prog w base spare held n 89 cs = some y) : ∃ r z, cs = FpE.cells r ∧ FpE.rel (fun b => b < w.heap.size) w r z := by
  obtain ⟨xs, m, -, -, hl, hn, hf⟩ := DataW.trod_struct Tryz.underlying89 h
  have hc : Tryz.prog.cellsOf 89 = 2 := by kernel_rfl
  have hs : Tryz.prog.cellsOf 25 = 1 := by kernel_rfl
  have hi : Tryz.prog.cellsOf 3 = 1 := by kernel_rfl
  rw [hc] at hl
  obtain ⟨c0, c1, rfl⟩ := list_two hl
  have h0 : DataW.trod enc Tryz.prog w base spare held m 3 ([c0, c1].take (Tryz.prog.cellsOf 3)) = xs[0]? := hf 0 _ rfl
  have h1 : DataW.trod enc Tryz.prog w base spare held m 25 ([c1].take (Tryz.prog.cellsOf 25)) = xs[1]? := hf 1 _ rfl
  rw [hi] at h0
  rw [hs] at h1
  simp only [List.take_succ_cons, List.take_zero] at h0 h1
  have hn2 : xs.length = 2 := hn
  obtain ⟨k, hk', -⟩ := read_int Tryz.underlying3 (h0.trans (List.getElem?_eq_getElem (by omega)))
  obtain ⟨A, n', c, l, hv, hsl⟩ := open_sl InE Tryz.underlying25 (by kernel_rfl) open_one (h1.trans (List.getElem?_eq_getElem (by omega)))
  refine ⟨(k, A, n', c), (k, l), ?_, rfl, hsl⟩
  simp at hk'
  rw [hk', hv]; rfl
set_option maxRecDepth 100000 in
theorem open_node (n : Nat) (cs : List Value) (y : DataW H × List MemPlace) (h : DataW.trod enc Tryz.prog w base spare held n 87 cs = some y) : ∃ r z, cs = NdE.cells r ∧ NdE.rel (fun b => b < w.heap.size) w r z := by
  obtain ⟨xs, m, -, -, hl, hn, hf⟩ := DataW.trod_struct Tryz.underlying87 h
  have hc : Tryz.prog.cellsOf 87 = 5 := by kernel_rfl
  have hy : Tryz.prog.cellsOf 47 = 2 := by kernel_rfl
  have hs : Tryz.prog.cellsOf 85 = 1 := by kernel_rfl
  have hi : Tryz.prog.cellsOf 3 = 1 := by kernel_rfl
  rw [hc] at hl
  obtain ⟨c0, c1, c2, c3, c4, rfl⟩ := list_five hl
  have h0 : DataW.trod enc Tryz.prog w base spare held m 47 ([c0, c1, c2, c3, c4].take (Tryz.prog.cellsOf 47)) = xs[0]? := hf 0 _ rfl
  have h1 : DataW.trod enc Tryz.prog w base spare held m 3 ([c2, c3, c4].take (Tryz.prog.cellsOf 3)) = xs[1]? := hf 1 _ rfl
  have h2 : DataW.trod enc Tryz.prog w base spare held m 3 ([c3, c4].take (Tryz.prog.cellsOf 3)) = xs[2]? := hf 2 _ rfl
  have h3 : DataW.trod enc Tryz.prog w base spare held m 85 ([c4].take (Tryz.prog.cellsOf 85)) = xs[3]? := hf 3 _ rfl
  rw [hy] at h0
  rw [hi] at h1 h2
  rw [hs] at h3
  simp only [List.take_succ_cons, List.take_zero] at h0 h1 h2 h3
  have hn2 : xs.length = 4 := hn
  obtain ⟨⟨sb, sn⟩, z0, hk0, -⟩ := open_sym _ _ _ (h0.trans (List.getElem?_eq_getElem (by omega)))
  obtain ⟨k1, hk1, -⟩ := read_int Tryz.underlying3 (h1.trans (List.getElem?_eq_getElem (by omega)))
  obtain ⟨k2, hk2, -⟩ := read_int Tryz.underlying3 (h2.trans (List.getElem?_eq_getElem (by omega)))
  obtain ⟨A, n', c, l, hv, hsl⟩ := open_sl FpE Tryz.underlying85 (by kernel_rfl) open_pack (h3.trans (List.getElem?_eq_getElem (by omega)))
  refine ⟨((sb, sn, k1, k2), A, n', c), ((sb, sn, k1, k2), l), ?_, rfl, hsl⟩
  simp [SiE] at hk0
  simp at hk1 hk2
  rw [hk0.1, hk0.2, hk1, hk2, hv]; rfl
set_option maxRecDepth 100000 in
/-- a forest that came in -/
theorem open_forest {r : Reach} {b0 : Nat} {v : Value} {d : DataW H} {p : List MemPlace} (hv : Value.okWide Tryz.prog w r b0 30 v) (h : DataW.Trod enc Tryz.prog w base spare held 30 v d p) :
    ∃ (A : Option Addr) (n c : Nat) (R : Int) (nd : List NdI), v = .agg #[.slice A n c, .int .i64 R] ∧ Sl NdE (fun b => b < w.heap.size) w A n c nd := by
  obtain ⟨v0, v1, y0, y1, n, rfl, -, -, h0, h1⟩ := Joins.open_agg2 Tryz.underlying30 (by kernel_rfl) (by kernel_rfl) hv h
  obtain ⟨A, k, c, l, hv0, hsl⟩ := open_sl NdE Tryz.underlying28 (by kernel_rfl) open_node h0
  obtain ⟨T, hT, -⟩ := read_int Tryz.underlying3 h1
  simp at hT
  exact ⟨A, k, c, T, l, by rw [hv0, hT], hsl⟩
end
end Go.Proofs.YtpjafhaajcklmaaGreatDoor

