/- Texts SA, laid together. -/
import Derived.Test.YtpjafhaajcklmaaGreatDoorBL
import Derived.Test.YtpjafhaajcklmaaGreatDoorBF



namespace Go.Proofs.YtpjafhaajcklmaaGreatDoor
open Go.RowKit

theorem laidOutK : laidOutB Tryz.prog = true := by kernel_rfl
theorem kyVal_inj (x y : Ky) (h : kyVal x = kyVal y) : x = y := by
  obtain ⟨⟨a, b⟩, c, d⟩ := x
  obtain ⟨⟨a', b'⟩, c', d'⟩ := y
  simp [kyVal] at h
  obtain ⟨h1, h2, h3, h4⟩ := h
  simp only [Prod.mk.injEq]
  exact ⟨⟨h1, by omega⟩, by omega, by omega⟩
theorem key_keyed : Maps.Keyed Tryz.prog 193 :=
  Maps.Keyed.of_law (deep_law_laid laidOutK (m := 4) (by omega) (of_decide_eq_true (by kernel_rfl)) (by kernel_rfl) (by rw [Tryz.underlying193]))
theorem key_key (x : Ky) (h1 : x.1.2 ≤ 1000000000) (h2 : x.2.1 ≤ 1000000000) (h3 : x.2.2 ≤ 1000000000) : ∃ l, keyOf Tryz.prog 193 (kyVal x) = some l := by
  have hc : Tryz.prog.cellsOf 193 = 4 := by kernel_rfl
  have hy : Tryz.prog.cellsOf 47 = 2 := by kernel_rfl
  have hi : Tryz.prog.cellsOf 3 = 1 := by kernel_rfl
  have hb : Tryz.prog.cellsOf 4 = 1 := by kernel_rfl
  have w1 : (Lit.int .i64 (x.1.2 : Int)).wf = true := WalkArith.wf_i64 (by omega)
  have w2 : (Lit.int .i64 (x.2.1 : Int)).wf = true := WalkArith.wf_i64 (by omega)
  have w3 : (Lit.int .i64 (x.2.2 : Int)).wf = true := WalkArith.wf_i64 (by omega)
  have hf : (kyVal x).formed Tryz.prog 193 = true := by simp [Value.formed, Tryz.underlying193, hc, kyVal]
  have hk : Tryz.prog.keyLits (Tryz.prog.types.size + 1) 193 [.bool x.1.1, .int .i64 (x.1.2 : Int), .int .i64 (x.2.1 : Int), .int .i64 (x.2.2 : Int)] = some [.bool x.1.1, .int .i64 (x.1.2 : Int), .int .i64 (x.2.1 : Int), .int .i64 (x.2.2 : Int)] := by
    have e : Tryz.prog.types.size + 1 = (Tryz.prog.types.size - 2) + 1 + 1 + 1 := by have : 2 ≤ Tryz.prog.types.size := of_decide_eq_true (by kernel_rfl); omega
    rw [e]
    generalize Tryz.prog.types.size - 2 = d
    simp [Program.keyLits, Tryz.underlying193, Tryz.underlying47, Tryz.underlying3, Tryz.underlying4, hc, hy, hi, hb, w1, w2, w3]
    rw [if_pos (fun i hi => by rcases i with _ | _ | i <;> first | (simp; done) | omega)]
    rfl
  refine ⟨.string (keyBytes [.bool x.1.1, .int .i64 (x.1.2 : Int), .int .i64 (x.2.1 : Int), .int .i64 (x.2.2 : Int)]), ?_⟩
  unfold keyOf
  rw [Tryz.underlying193]
  simp only [hf, Bool.and_true]
  rw [if_pos (by kernel_rfl)]
  show Option.map _ (Tryz.prog.keyLits _ _ [.bool x.1.1, .int .i64 (x.1.2 : Int), .int .i64 (x.2.1 : Int), .int .i64 (x.2.2 : Int)]) = _
  rw [hk]; rfl
theorem span_keyed : Maps.Keyed Tryz.prog 49 :=
  Maps.Keyed.of_law (deep_law_laid laidOutK (m := 4) (by omega) (of_decide_eq_true (by kernel_rfl)) (by kernel_rfl) (by rw [Tryz.underlying49]))
theorem span_key (x : Ky) (h1 : x.1.2 ≤ 1000000000) (h2 : x.2.1 ≤ 1000000000) (h3 : x.2.2 ≤ 1000000000) : ∃ l, keyOf Tryz.prog 49 (kyVal x) = some l := by
  have hc : Tryz.prog.cellsOf 49 = 4 := by kernel_rfl
  have hy : Tryz.prog.cellsOf 47 = 2 := by kernel_rfl
  have hi : Tryz.prog.cellsOf 3 = 1 := by kernel_rfl
  have hb : Tryz.prog.cellsOf 4 = 1 := by kernel_rfl
  have w1 : (Lit.int .i64 (x.1.2 : Int)).wf = true := WalkArith.wf_i64 (by omega)
  have w2 : (Lit.int .i64 (x.2.1 : Int)).wf = true := WalkArith.wf_i64 (by omega)
  have w3 : (Lit.int .i64 (x.2.2 : Int)).wf = true := WalkArith.wf_i64 (by omega)
  have hf : (kyVal x).formed Tryz.prog 49 = true := by simp [Value.formed, Tryz.underlying49, hc, kyVal]
  have hk : Tryz.prog.keyLits (Tryz.prog.types.size + 1) 49 [.bool x.1.1, .int .i64 (x.1.2 : Int), .int .i64 (x.2.1 : Int), .int .i64 (x.2.2 : Int)] = some [.bool x.1.1, .int .i64 (x.1.2 : Int), .int .i64 (x.2.1 : Int), .int .i64 (x.2.2 : Int)] := by
    have e : Tryz.prog.types.size + 1 = (Tryz.prog.types.size - 2) + 1 + 1 + 1 := by have : 2 ≤ Tryz.prog.types.size := of_decide_eq_true (by kernel_rfl); omega
    rw [e]
    generalize Tryz.prog.types.size - 2 = d
    simp [Program.keyLits, Tryz.underlying49, Tryz.underlying47, Tryz.underlying3, Tryz.underlying4, hc, hy, hi, hb, w1, w2, w3]
    rw [if_pos (fun i hi => by rcases i with _ | _ | i <;> first | (simp; done) | omega)]
    rfl
  refine ⟨.string (keyBytes [.bool x.1.1, .int .i64 (x.1.2 : Int), .int .i64 (x.2.1 : Int), .int .i64 (x.2.2 : Int)]), ?_⟩
  unfold keyOf
  rw [Tryz.underlying49]
  simp only [hf, Bool.and_true]
  rw [if_pos (by kernel_rfl)]
  show Option.map _ (Tryz.prog.keyLits _ _ [.bool x.1.1, .int .i64 (x.1.2 : Int), .int .i64 (x.2.1 : Int), .int .i64 (x.2.2 : Int)]) = _
  rw [hk]; rfl
end Go.Proofs.YtpjafhaajcklmaaGreatDoor

