/- Texts IC, laid together. -/
import Derived.Test.YthkldiehokblcaaIB
import Derived.Defers
import Derived.Recover




namespace Go.Proofs.Ythkldiehokblcaa
open Go.RowKit

theorem catch_idle (p q1 q2 q3 : Addr) (w : World) :
    CallsD Try.prog 18 #[.pointer (some p), .pointer (some q1), .pointer (some q2), .pointer (some q3)] .returning w fun e u' w' => e = .returned (.tuple #[]) ∧ u' = .returning ∧ w' = w.alloc (.cells #[] 64) := by
  have hta : ∀ w : World, (Instr.typeAssert Value.nilIface 20 64 true).run Try.prog w = .ok (.tuple #[.agg #[], .bool false]) w := fun _ => by kernel_rfl
  refine callsD_of_wpS Try.func18 rfl fun c₀ cs hu => ?_
  apply wpS_seq
  apply wpS_region
  simp [wpOpsS, go_sem, recoverD, hu, Try.ntmps18, Exit.thenS, hta, Array.replicate, storeCells]
  apply wpS_seq
  apply wpS_region
  simp [wpOpsS, go_sem, Exit.thenS]
  refine wpS_cond (t := false) (by simp [Act.eval]) ?_
  simp only [Bool.false_eq_true, if_false]
  refine wpS_of_wp (wp_skip ?_)
  cases c₀
  simp_all [bodyPostS, results, Try.results18]
/-- what the closure writes -/
def caught (w : World) (b4 b5 b6 : Nat) (k : Int) : World := (((((w.alloc (.cells #[] 64)).setCell ⟨b4, 0, none⟩ (.int .i64 0)).setCell ⟨b4, 1, none⟩ (.int .i64 0)).setCell ⟨b4, 2, none⟩ (.slice none 0 0)).setCell ⟨b5, 0, none⟩ (.int .i64 k)).setCell ⟨b6, 0, none⟩ (.int .i64 10)
set_option maxRecDepth 100000 in
set_option maxHeartbeats 1000000 in
theorem catch_panicking (bv bp b4 b5 b6 : Nat) (cs : Array Value) (k : Int) (h45 : b4 ≠ b5) (h46 : b4 ≠ b6) (h56 : b5 ≠ b6) (older : List PanicEntry) (w : World) (Bv : Blk w bv 60 #[.pointer (some ⟨bp, 0, none⟩)]) (Bp : Blk w bp 62 cs) (hcs : cs[7]? = some (.int .i64 k))
    (B4 : Blk w b4 37 #[.int .i64 0, .int .i64 0, .slice none 0 0]) (B5 : Blk w b5 3 #[.int .i64 0]) (B6 : Blk w b6 32 #[.int .i64 0]) :
    CallsD Try.prog 18 #[.pointer (some ⟨bv, 0, none⟩), .pointer (some ⟨b4, 0, none⟩), .pointer (some ⟨b5, 0, none⟩), .pointer (some ⟨b6, 0, none⟩)] (.panicking ({ v := .iface 64 (.agg #[]), recovered := false } :: older)) w fun e u' w' =>
      e = .returned (.tuple #[]) ∧ u' = .panicking ({ v := .iface 64 (.agg #[]), recovered := true } :: older) ∧ w' = caught w b4 b5 b6 k := by
  have hta : ∀ w : World, (Instr.typeAssert (Value.iface 64 (.agg #[])) 20 64 true).run Try.prog w = .ok (.tuple #[.agg #[], .bool true]) w := fun _ => by kernel_rfl
  have Cv := (Bv.al (.cells #[] 64)).cell 0
  have Cp := (Bp.al (.cells #[] 64)).cell 7
  rw [hcs] at Cp
  have C4 := (B4.al (.cells #[] 64)).frozen
  have C5 := (B5.al (.cells #[] 64)).frozen
  have C6 := (B6.al (.cells #[] 64)).frozen
  have D4 := (B4.al (.cells #[] 64)).cell
  have D5 := (B5.al (.cells #[] 64)).cell
  have D6 := (B6.al (.cells #[] 64)).cell
  have L4 := B4.lt
  have L5 := B5.lt
  have L6 := B6.lt
  refine callsD_of_wpS Try.func18 rfl fun c₀ cs hu => ?_
  apply wpS_seq
  apply wpS_region
  simp [wpOpsS, go_sem, recoverD, hu, Try.ntmps18, Exit.thenS, hta, Array.replicate, storeCells]
  apply wpS_seq
  apply wpS_region
  simp [wpOpsS, go_sem, Exit.thenS]
  refine wpS_cond (t := true) (by simp [Act.eval]) ?_
  simp only [if_true]
  obtain ⟨W, hW⟩ : ∃ W, W = w.alloc (.cells #[] 64) := ⟨_, rfl⟩
  unfold caught
  rw [← hW] at Cv Cp C4 C5 C6 D4 D5 D6 ⊢
  clear Bv Bp B4 B5 B6 hta hW
  refine wpS_of_wp ?_
  go_wp2_with fail
  simp [bodyPostS, results, Try.results18]
end Go.Proofs.Ythkldiehokblcaa

