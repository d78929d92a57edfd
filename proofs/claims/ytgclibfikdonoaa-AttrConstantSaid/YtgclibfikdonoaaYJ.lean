/- slices.SortFunc and slices.Compact of no occurrences. -/
import Derived.Test.YtgclibfikdonoaaYI
namespace Go.Proofs.Ytgclibfikdonoaa
open Go.RowKit

theorem enters_k {P : Program} {f : FuncId} {fn : Func} {c : Code} (hf : P.funcs[f]? = some fn) (hname : (fn.name == "runtime.NumGoroutine") = false) (hb : fn.body = some c) : ∀ (args : Array Value) (w : World), (callFunc f args).run P w = .ok (.enter f args) w := by
  intro args w
  have h1 : fn.name ≠ "runtime.NumGoroutine" := by simpa using hname
  simp [callFunc, hf, h1, hb, mark]

set_option maxRecDepth 100000 in
set_option maxHeartbeats 1000000 in
theorem len64_0 (w : World) : Calls Try.prog 39 #[.int .u64 0] w fun e w' => (∃ x : Int, e = .returned (.int .i64 x)) ∧ w = w' := by
  go_enter Try.func39, Try.ntmps39
  go_wp2_with fail
  go_ret
  exact ⟨⟨_, rfl⟩, rfl⟩
set_option maxRecDepth 100000 in
set_option maxHeartbeats 1000000 in
theorem len_0 (w : World) : Calls Try.prog 27 #[.int .u64 0] w fun e w' => (∃ x : Int, e = .returned (.int .i64 x)) ∧ w = w' := by
  go_enter Try.func27, Try.ntmps27
  go_wp2_with (go_at_call 39; refine (len64_0 _).mono ?_; rintro e w' ⟨⟨x, rfl⟩, rfl⟩)
  go_ret
  exact ⟨⟨_, rfl⟩, rfl⟩
set_option maxRecDepth 100000 in
set_option maxHeartbeats 1000000 in
theorem ins_0 (c : Nat) (F : Value) (w : World) : Calls Try.prog 30 #[.slice none 0 c, .int .i64 0, .int .i64 0, F] w fun e w' => (∃ v, e = .returned v) ∧ w = w' := by
  go_enter Try.func30, Try.ntmps30
  go_wp2_with fail
  go_loopw [8] (fun i wr => i = .int .i64 1 ∧ w = wr) (fun _ _ => 0)
  case atStart => exact ⟨rfl, rfl⟩
  case round =>
    obtain ⟨rfl, rfl⟩ := hrel
    go_wp2_with fail
    exact bodyPost_end (v := .tuple #[]) (by simp [results, Try.results30]) rfl ⟨⟨_, rfl⟩, rfl⟩
set_option maxRecDepth 100000 in
set_option maxHeartbeats 2000000 in
theorem pdq_0 (c : Nat) (x : Int) (F : Value) (w : World) : Calls Try.prog 26 #[.slice none 0 c, .int .i64 0, .int .i64 0, .int .i64 x, F] w fun e w' => (∃ v, e = .returned v) ∧ w = w' := by
  go_enter Try.func26, Try.ntmps26
  go_wp2_with fail
  go_loopw [1, 2] (fun i j wr => i = .int .i64 0 ∧ j = .int .i64 0 ∧ w = wr) (fun _ _ _ => 0)
  case atStart => exact ⟨rfl, rfl, rfl⟩
  case round =>
    obtain ⟨rfl, rfl, rfl⟩ := hrel
    go_wp2_with (go_at_call 30; refine (ins_0 _ _ _).mono ?_; rintro e w' ⟨⟨v, rfl⟩, rfl⟩)
    exact bodyPost_ret (v := .tuple #[]) (by simp [results, Try.results26]) rfl ⟨⟨_, rfl⟩, rfl⟩
set_option maxRecDepth 100000 in
set_option maxHeartbeats 1000000 in
theorem sort_0 (c : Nat) (F : Value) (w : World) : Calls Try.prog 17 #[.slice none 0 c, F] w fun e w' => (∃ v, e = .returned v) ∧ w = w' := by
  go_enter Try.func17, Try.ntmps17
  go_wp2_with fail
  refine (len_0 _).mono ?_
  rintro e w' ⟨⟨x, rfl⟩, rfl⟩
  go_wp2_with fail
  refine (pdq_0 _ _ _ _).mono ?_
  rintro e w' ⟨⟨v, rfl⟩, rfl⟩
  go_wp2_with fail
  exact bodyPost_end (v := .tuple #[]) (by simp [results, Try.results17]) rfl ⟨⟨_, rfl⟩, rfl⟩
set_option maxRecDepth 100000 in
set_option maxHeartbeats 1000000 in
theorem compact_0 (c : Nat) (w : World) : Calls Try.prog 21 #[.slice none 0 c] w fun e w' => e = .returned (.slice none 0 c) ∧ w = w' := by
  go_enter Try.func21, Try.ntmps21
  go_wp2_with fail
  go_ret
  exact ⟨rfl, rfl⟩

end Go.Proofs.Ytgclibfikdonoaa
