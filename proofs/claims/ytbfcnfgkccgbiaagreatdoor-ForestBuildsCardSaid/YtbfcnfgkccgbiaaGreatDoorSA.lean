/- Texts SA, laid together. -/
import Derived.Test.YtbfcnfgkccgbiaaGreatDoorBL
import Derived.Test.YtbfcnfgkccgbiaaGreatDoorBF



namespace Go.Proofs.YtbfcnfgkccgbiaaGreatDoor
open Go.RowKit

theorem laidOutK : laidOutB Tryz.prog = true := by kernel_rfl
theorem kyVal_inj (x y : Ky) (h : kyVal x = kyVal y) : x = y := by
  obtain ⟨⟨a, b⟩, c, d⟩ := x
  obtain ⟨⟨a', b'⟩, c', d'⟩ := y
  simp [kyVal] at h
  obtain ⟨h1, h2, h3, h4⟩ := h
  simp only [Prod.mk.injEq]
  exact ⟨⟨h1, by omega⟩, by omega, by omega⟩
theorem key_keyed : Maps.Keyed Tryz.prog 180 :=
  Maps.Keyed.of_law (deep_law_laid laidOutK (m := 4) (by omega) (of_decide_eq_true (by kernel_rfl)) (by kernel_rfl) (by rw [Tryz.underlying180]))
theorem key_key (x : Ky) (h1 : x.1.2 ≤ 1000000000) (h2 : x.2.1 ≤ 1000000000) (h3 : x.2.2 ≤ 1000000000) : ∃ l, keyOf Tryz.prog 180 (kyVal x) = some l := by
  have hc : Tryz.prog.cellsOf 180 = 4 := by kernel_rfl
  have hy : Tryz.prog.cellsOf 66 = 2 := by kernel_rfl
  have hi : Tryz.prog.cellsOf 3 = 1 := by kernel_rfl
  have hb : Tryz.prog.cellsOf 4 = 1 := by kernel_rfl
  have w1 : (Lit.int .i64 (x.1.2 : Int)).wf = true := WalkArith.wf_i64 (by omega)
  have w2 : (Lit.int .i64 (x.2.1 : Int)).wf = true := WalkArith.wf_i64 (by omega)
  have w3 : (Lit.int .i64 (x.2.2 : Int)).wf = true := WalkArith.wf_i64 (by omega)
  have hf : (kyVal x).formed Tryz.prog 180 = true := by simp [Value.formed, Tryz.underlying180, hc, kyVal]
  have hk : Tryz.prog.keyLits (Tryz.prog.types.size + 1) 180 [.bool x.1.1, .int .i64 (x.1.2 : Int), .int .i64 (x.2.1 : Int), .int .i64 (x.2.2 : Int)] = some [.bool x.1.1, .int .i64 (x.1.2 : Int), .int .i64 (x.2.1 : Int), .int .i64 (x.2.2 : Int)] := by
    have e : Tryz.prog.types.size + 1 = (Tryz.prog.types.size - 2) + 1 + 1 + 1 := by have : 2 ≤ Tryz.prog.types.size := of_decide_eq_true (by kernel_rfl); omega
    rw [e]
    generalize Tryz.prog.types.size - 2 = d
    simp [Program.keyLits, Tryz.underlying180, Tryz.underlying66, Tryz.underlying3, Tryz.underlying4, hc, hy, hi, hb, w1, w2, w3]
    rw [if_pos (fun i hi => by rcases i with _ | _ | i <;> first | (simp; done) | omega)]
    rfl
  refine ⟨.string (keyBytes [.bool x.1.1, .int .i64 (x.1.2 : Int), .int .i64 (x.2.1 : Int), .int .i64 (x.2.2 : Int)]), ?_⟩
  unfold keyOf
  rw [Tryz.underlying180]
  simp only [hf, Bool.and_true]
  rw [if_pos (by kernel_rfl)]
  show Option.map _ (Tryz.prog.keyLits _ _ [.bool x.1.1, .int .i64 (x.1.2 : Int), .int .i64 (x.2.1 : Int), .int .i64 (x.2.2 : Int)]) = _
  rw [hk]; rfl
theorem span_keyed : Maps.Keyed Tryz.prog 68 :=
  Maps.Keyed.of_law (deep_law_laid laidOutK (m := 4) (by omega) (of_decide_eq_true (by kernel_rfl)) (by kernel_rfl) (by rw [Tryz.underlying68]))
theorem span_key (x : Ky) (h1 : x.1.2 ≤ 1000000000) (h2 : x.2.1 ≤ 1000000000) (h3 : x.2.2 ≤ 1000000000) : ∃ l, keyOf Tryz.prog 68 (kyVal x) = some l := by
  have hc : Tryz.prog.cellsOf 68 = 4 := by kernel_rfl
  have hy : Tryz.prog.cellsOf 66 = 2 := by kernel_rfl
  have hi : Tryz.prog.cellsOf 3 = 1 := by kernel_rfl
  have hb : Tryz.prog.cellsOf 4 = 1 := by kernel_rfl
  have w1 : (Lit.int .i64 (x.1.2 : Int)).wf = true := WalkArith.wf_i64 (by omega)
  have w2 : (Lit.int .i64 (x.2.1 : Int)).wf = true := WalkArith.wf_i64 (by omega)
  have w3 : (Lit.int .i64 (x.2.2 : Int)).wf = true := WalkArith.wf_i64 (by omega)
  have hf : (kyVal x).formed Tryz.prog 68 = true := by simp [Value.formed, Tryz.underlying68, hc, kyVal]
  have hk : Tryz.prog.keyLits (Tryz.prog.types.size + 1) 68 [.bool x.1.1, .int .i64 (x.1.2 : Int), .int .i64 (x.2.1 : Int), .int .i64 (x.2.2 : Int)] = some [.bool x.1.1, .int .i64 (x.1.2 : Int), .int .i64 (x.2.1 : Int), .int .i64 (x.2.2 : Int)] := by
    have e : Tryz.prog.types.size + 1 = (Tryz.prog.types.size - 2) + 1 + 1 + 1 := by have : 2 ≤ Tryz.prog.types.size := of_decide_eq_true (by kernel_rfl); omega
    rw [e]
    generalize Tryz.prog.types.size - 2 = d
    simp [Program.keyLits, Tryz.underlying68, Tryz.underlying66, Tryz.underlying3, Tryz.underlying4, hc, hy, hi, hb, w1, w2, w3]
    rw [if_pos (fun i hi => by rcases i with _ | _ | i <;> first | (simp; done) | omega)]
    rfl
  refine ⟨.string (keyBytes [.bool x.1.1, .int .i64 (x.1.2 : Int), .int .i64 (x.2.1 : Int), .int .i64 (x.2.2 : Int)]), ?_⟩
  unfold keyOf
  rw [Tryz.underlying68]
  simp only [hf, Bool.and_true]
  rw [if_pos (by kernel_rfl)]
  show Option.map _ (Tryz.prog.keyLits _ _ [.bool x.1.1, .int .i64 (x.1.2 : Int), .int .i64 (x.2.1 : Int), .int .i64 (x.2.2 : Int)]) = _
  rw [hk]; rfl
end Go.Proofs.YtbfcnfgkccgbiaaGreatDoor

