/- slices.Grow of the nil slice, slices.Concat of three, slices.Equal, at []int. -/
import Derived.Test.YtghnkgbingcbcaaRD
import Derived.Lib.AppendZerosOnto
import Derived.Lib.AppendZeros
namespace Go.Proofs.Ytghnkgbingcbcaa
open Go.RowKit

set_option maxRecDepth 100000 in
set_option maxHeartbeats 1000000 in
theorem grow_c (n : Nat) (q : Int) (w : World) (hq : q = (n : Int)) (hn : n ≤ 17592186044416) :
    Calls Try.prog 86 #[.slice none 0 0, .int .i64 q] w fun e w' => ∃ A c, e = .returned (.slice A 0 c) ∧ OwnI w' w.heap.size (.slice A 0 c) 0 [] ∧ Below w.heap.size w w' := by
  subst hq
  obtain ⟨i, hi, hz, hs, hby⟩ := info_parts int_info
  rcases Nat.eq_zero_or_pos n with h0 | h0
  · subst h0
    go_enter Try.func86, Try.ntmps86
    go_wp2
    go_ret
    exact ⟨none, 0, rfl, OwnI.nil _ _, Below.refl _ _⟩
  · have hold : (Builtin.firstCells i.size 0 (.slice none 0 0)).run Try.prog w.drew = .ok #[] w.drew := run_firstCells_none w.drew i.size 0 0 0
    have hrz : ∀ ty, (Builtin.append_ #[22, 3] ty #[.slice none 0 0, .int .i64 (n : Int)]).run Try.prog w =
        .ok (.slice (some ⟨w.heap.size, 0, none⟩) n (grownCap w n 0 3)) (w.drew.alloc (.cells (#[] ++ Builtin.zeroCells (Value.int .i64 0).cells n ++ Builtin.zeroCells (Value.int .i64 0).cells (grownCap w n 0 3 - n)) 3)) := fun ty => by
      have h := Lib.run_append_grow_zeros w 22 3 ty 3 i (.int .i64 0) .i64 .i64 Try.underlying22 Try.underlying3 hi hz none 0 0 [] hold n (by omega) (by omega) (by omega) (by omega) (by rw [hby]; omega) (by rw [Nat.zero_add]; exact growslice_fits (by omega) (by rw [hby]; omega))
      rw [Nat.zero_add] at h
      exact h
    have hGn : n ≤ grownCap w n 0 3 := grownCap_ge w _ _ _
    have hGm := grownCap_le_maxLen w n 0 3 (by unfold maxLen; omega)
    have hown : OwnI (w.drew.alloc (.cells (#[] ++ Builtin.zeroCells (Value.int .i64 0).cells n ++ Builtin.zeroCells (Value.int .i64 0).cells (grownCap w n 0 3 - n)) 3)) w.heap.size (.slice (some ⟨w.heap.size, 0, none⟩) 0 (grownCap w n 0 3)) 0 [] :=
      World.ownsRow_made w.drew _ _ (Nat.le_refl _) hGm (by simp [size_zeroCells, Value.cells]; omega)
    have HO := Lib.hid hown
    obtain ⟨G, hG⟩ : ∃ G, G = grownCap w n 0 3 := ⟨_, rfl⟩
    rw [← hG] at hrz hGn HO hGm
    have hGm' : G ≤ 9223372036854775807 := by unfold maxLen at hGm; omega
    have hn1 : (0 : Int) < n := by omega
    clear hold hG hown hGm
    go_enter Try.func86, Try.ntmps86
    go_wp2_with (at_builtin; refine Lib.wpList_append_run _ rfl _ _ _ _ rfl _ _ rfl rfl _ _ (hrz _) ?_)
    go_ret
    exact ⟨_, _, rfl, by simpa [go_sem, Value.cells] using HO.out, (Below.refl _ _).drew.alloc (Nat.le_refl _) _⟩

theorem cellSlice {w : World} {b : Nat} {t : TypeId} {cs : Array Value} (h : Blk w b t cs) (i : Nat) (v : Value) (hv : cs[i]? = some v) : w.cell? ⟨b, i, none⟩ = some v := (h.cell i).trans hv

set_option maxRecDepth 100000 in
set_option maxHeartbeats 2000000 in
theorem concat_c (b : Nat) (A1 A2 A3 : Option Addr) (n1 c1 n2 c2 n3 c3 : Nat) (xs ys zs : List Int) (w : World) (h1 : Ints w A1 n1 c1 xs) (h2 : Ints w A2 n2 c2 ys) (h3 : Ints w A3 n3 c3 zs)
    (hb : Blk w b 22 #[.slice A1 n1 c1, .slice A2 n2 c2, .slice A3 n3 c3]) (k1 : n1 ≤ 1000000) (k2 : n2 ≤ 1000000) (k3 : n3 ≤ 1000000) :
    Calls Try.prog 75 #[.slice (some ⟨b, 0, none⟩) 3 3] w fun e w' => ∃ A c, e = .returned (.slice A (n1 + n2 + n3) c) ∧ Ints w' A (n1 + n2 + n3) c (xs ++ ys ++ zs) ∧ Below w.heap.size w w' := by
  have q1 := cellSlice hb 0 _ rfl
  have q2 := cellSlice hb 1 _ rfl
  have q3 := cellSlice hb 2 _ rfl
  go_enter Try.func75, Try.ntmps75
  go_wp2_with fail
  refine wp_loop_rounds 4 ?_
  rw [rounds_succ]
  go_wp2_with fail
  rw [rounds_succ]
  go_wp2_with fail
  rw [rounds_succ]
  go_wp2_with fail
  rw [rounds_succ]
  go_wp2_with fail
  refine (grow_c (n1 + n2 + n3) _ w (by omega) (by omega)).mono ?_
  rintro e w1 ⟨A, c, rfl, ho1, hb1⟩
  have hlt := hb.lt
  have p1 := (hb1.cell (p := ⟨b, 0, none⟩) hlt).trans q1
  have p2 := (hb1.cell (p := ⟨b, 1, none⟩) hlt).trans q2
  have p3 := (hb1.cell (p := ⟨b, 2, none⟩) hlt).trans q3
  go_wp2_with fail
  refine wp_loop_rounds 4 ?_
  rw [rounds_succ]
  go_wp2_with (at_builtin; refine wpList_append_ints _ rfl (.tmp 31) (.tmp 32) rfl w.heap.size _ _ _ rfl ho1 _ _ _ _ rfl (h1.keep hb1 (Nat.le_refl _)) (by omega) hb1.size ?_; intro B2 d2 w2 ho2 hg2 _; simp only [Nat.zero_add, List.nil_append] at ho2)
  have hb2 := ho1.grown hb1 hg2 (Nat.le_refl _) hb1.size
  clear p1 p2 p3
  have p2 := (hb2.cell (p := ⟨b, 1, none⟩) hlt).trans q2
  have p3 := (hb2.cell (p := ⟨b, 2, none⟩) hlt).trans q3
  rw [rounds_succ]
  go_wp2_with (at_builtin; refine wpList_append_ints _ rfl (.tmp 31) (.tmp 32) rfl w.heap.size _ _ _ rfl ho2 _ _ _ _ rfl (h2.keep hb2 (Nat.le_refl _)) (by omega) hb2.size ?_; intro B3 d3 w3 ho3 hg3 _)
  have hb3 := ho2.grown hb2 hg3 (Nat.le_refl _) hb2.size
  clear p2 p3
  have p3 := (hb3.cell (p := ⟨b, 2, none⟩) hlt).trans q3
  rw [rounds_succ]
  go_wp2_with (at_builtin; refine wpList_append_ints _ rfl (.tmp 31) (.tmp 32) rfl w.heap.size _ _ _ rfl ho3 _ _ _ _ rfl (h3.keep hb3 (Nat.le_refl _)) (by omega) hb3.size ?_; intro B4 d4 w4 ho4 hg4 _)
  have hb4 := ho3.grown hb3 hg4 (Nat.le_refl _) hb3.size
  clear p3
  rw [rounds_succ]
  go_wp2_with fail
  go_ret
  exact ⟨_, _, rfl, ho4.toInts, hb4⟩
end Go.Proofs.Ytghnkgbingcbcaa
