/- slices.Concat of two; repair.hopeless, repair.then. -/
import Derived.Test.YtghnkgbingcbcaaZD
namespace Go.Proofs.Ytghnkgbingcbcaa
open Go.RowKit

set_option maxRecDepth 100000 in
set_option maxHeartbeats 2000000 in
theorem concat2_c (b : Nat) (A1 A2 : Option Addr) (n1 c1 n2 c2 : Nat) (xs ys : List Int) (w : World) (h1 : Ints w A1 n1 c1 xs) (h2 : Ints w A2 n2 c2 ys)
    (hb : Blk w b 22 #[.slice A1 n1 c1, .slice A2 n2 c2]) (k1 : n1 ≤ 400000) (k2 : n2 ≤ 400000) :
    Calls Try.prog 75 #[.slice (some ⟨b, 0, none⟩) 2 2] w fun e w' => ∃ A c, e = .returned (.slice A (n1 + n2) c) ∧ Sl IntE (fun b => w.heap.size ≤ b) w' A (n1 + n2) c (xs ++ ys) ∧ Below w.heap.size w w' := by
  have q1 := cellSlice hb 0 _ rfl
  have q2 := cellSlice hb 1 _ rfl
  go_enter Try.func75, Try.ntmps75
  go_wp2_with fail
  refine wp_loop_rounds 3 ?_
  rw [rounds_succ]
  go_wp2_with fail
  rw [rounds_succ]
  go_wp2_with fail
  rw [rounds_succ]
  go_wp2_with fail
  refine (grow_c (n1 + n2) _ w (by omega) (by omega)).mono ?_
  rintro e w1 ⟨A, c, rfl, ho1, hb1⟩
  have hlt := hb.lt
  have p1 := (hb1.cell (p := ⟨b, 0, none⟩) hlt).trans q1
  have p2 := (hb1.cell (p := ⟨b, 1, none⟩) hlt).trans q2
  go_wp2_with fail
  refine wp_loop_rounds 3 ?_
  rw [rounds_succ]
  go_wp2_with (at_builtin; refine wpList_append_ints _ rfl (.tmp 31) (.tmp 32) rfl w.heap.size _ _ _ rfl ho1 _ _ _ _ rfl (h1.keep hb1 (Nat.le_refl _)) (by omega) hb1.size ?_; intro B2 d2 w2 ho2 hg2 _; simp only [Nat.zero_add, List.nil_append] at ho2)
  have hb2 := ho1.grown hb1 hg2 (Nat.le_refl _) hb1.size
  clear p1 p2
  have p2 := (hb2.cell (p := ⟨b, 1, none⟩) hlt).trans q2
  rw [rounds_succ]
  go_wp2_with (at_builtin; refine wpList_append_ints _ rfl (.tmp 31) (.tmp 32) rfl w.heap.size _ _ _ rfl ho2 _ _ _ _ rfl (h2.keep hb2 (Nat.le_refl _)) (by omega) hb2.size ?_; intro B3 d3 w3 ho3 hg3 _)
  have hb3 := ho2.grown hb2 hg3 (Nat.le_refl _) hb2.size
  clear p2
  rw [rounds_succ]
  go_wp2_with fail
  go_ret
  exact ⟨_, _, rfl, ho3.toInts.sl fun b off e _ => (ho3.lt b (by rw [e]; rfl)).1, hb3⟩

set_option maxRecDepth 100000 in
set_option maxHeartbeats 4000000 in
theorem hopeless_c (ok ok' ok2 : Nat → Prop) (ac as_ : Int) (A : Option Addr) (n c : Nat) (ao : Bool) (bc bs : Int) (B : Option Addr) (m d : Nat) (bo : Bool) (tc ts : Int) (T : Option Addr) (tm td : Nat) (tk : Bool) (x y z : Way) (w : World)
    (h1 : WayR ok w (ac, as_, (A, n, c), ao) x) (h2 : WayR ok' w (bc, bs, (B, m, d), bo) y) (h3 : WayR ok2 w (tc, ts, (T, tm, td), tk) z) (hx : Bnd 10000000000 x) (hy : Bnd 10000000000 y) :
    Calls Try.prog 57 #[.agg #[.int .i64 ac, .int .i64 as_, .slice A n c, .bool ao], .agg #[.int .i64 bc, .int .i64 bs, .slice B m d, .bool bo], .agg #[.int .i64 tc, .int .i64 ts, .slice T tm td, .bool tk]] w (TellB w (hopeW x y z)) := by
  obtain ⟨rfl, rfl, rfl, -⟩ := h1
  obtain ⟨rfl, rfl, rfl, -⟩ := h2
  obtain ⟨rfl, rfl, rfl, -⟩ := h3
  have b1 := hx.c0; have b2 := hx.c1; have b3 := hx.s0; have b4 := hx.s1
  have b5 := hy.c0; have b6 := hy.c1; have b7 := hy.s0; have b8 := hy.s1
  clear hx hy
  obtain ⟨xc, xs, xw, xo⟩ := x
  obtain ⟨yc, ys, yw, yo⟩ := y
  obtain ⟨zc, zs, zw, zo⟩ := z
  simp only at b1 b2 b3 b4 b5 b6 b7 b8 ⊢
  have hB := (((Below.refl w.heap.size w).al (.cells #[.int .i64 xc, .int .i64 xs, .slice A n c, .bool xo] 78)).al (.cells #[.int .i64 yc, .int .i64 ys, .slice B m d, .bool yo] 78)).al (.cells #[.int .i64 zc, .int .i64 zs, .slice T tm td, .bool zo] 78)
  cases xo with
  | false =>
    have HB := Lib.hid hB
    clear hB
    go_enter Try.func57, Try.ntmps57
    go_wp2_with fail
    go_ret
    exact ⟨rfl, HB.out⟩
  | true =>
    cases yo with
    | false =>
      have HB := Lib.hid hB
      clear hB
      go_enter Try.func57, Try.ntmps57
      go_wp2_with fail
      go_ret
      exact ⟨rfl, HB.out⟩
    | true =>
      have B0 := ((Blk.new w 78 #[.int .i64 xc, .int .i64 xs, .slice A n c, .bool true]).al (.cells #[.int .i64 yc, .int .i64 ys, .slice B m d, .bool true] 78)).al (.cells #[.int .i64 zc, .int .i64 zs, .slice T tm td, .bool zo] 78)
      have B1 := (Blk.new (w.alloc (.cells #[.int .i64 xc, .int .i64 xs, .slice A n c, .bool true] 78)) 78 #[.int .i64 yc, .int .i64 ys, .slice B m d, .bool true]).al (.cells #[.int .i64 zc, .int .i64 zs, .slice T tm td, .bool zo] 78)
      have B2 := Blk.new ((w.alloc (.cells #[.int .i64 xc, .int .i64 xs, .slice A n c, .bool true] 78)).alloc (.cells #[.int .i64 yc, .int .i64 ys, .slice B m d, .bool true] 78)) 78 #[.int .i64 zc, .int .i64 zs, .slice T tm td, .bool zo]
      rw [World.size_alloc] at B1
      rw [World.size_alloc, World.size_alloc] at B2
      have r1 : IntKind.i64.wrap (xc + yc) = xc + yc := IntWalk.i64_in _ (by omega)
      have r2 : IntKind.i64.wrap (xs + ys) = xs + ys := IntWalk.i64_in _ (by omega)
      cases zo
      all_goals
        go_enter Try.func57, Try.ntmps57
        go_upto_region 3 with fail
        generalize ((w.alloc (.cells #[.int .i64 xc, .int .i64 xs, .slice A n c, .bool true] 78)).alloc (.cells #[.int .i64 yc, .int .i64 ys, .slice B m d, .bool true] 78)).alloc _ = W at *
        have hb0 := (Below.refl W.heap.size W).drew
      · have HB := Lib.hid hB
        have cB2 := B2.cell
        clear hB B0 B1 B2 r1 r2 hb0
        go_quiet (fail)
        go_wp2_with fail
        go_ret
        exact ⟨rfl, below_drewN HB.out _⟩
      · have SOF := Lib.hid (show ∀ w', Below W.heap.size W w' → ((∀ i, w'.cell? ⟨w.heap.size, i, none⟩ = #[.int .i64 xc, .int .i64 xs, .slice A n c, .bool true][i]?) ∧ (∀ i, w'.cell? ⟨w.heap.size + 1, i, none⟩ = #[.int .i64 yc, .int .i64 ys, .slice B m d, .bool true][i]?) ∧ (∀ i, w'.cell? ⟨w.heap.size + 1 + 1, i, none⟩ = #[.int .i64 zc, .int .i64 zs, .slice T tm td, .bool true][i]?) ∧ Below W.heap.size W w') from fun w' hb => ⟨(B0.via hb).cell, (B1.via hb).cell, (B2.via hb).cell, hb⟩)
        have HBB := Lib.hid hB
        clear hB B0 B1 B2
        go_region_held3 (fun w' => (∀ i, w'.cell? ⟨w.heap.size, i, none⟩ = #[.int .i64 xc, .int .i64 xs, .slice A n c, .bool true][i]?) ∧ (∀ i, w'.cell? ⟨w.heap.size + 1, i, none⟩ = #[.int .i64 yc, .int .i64 ys, .slice B m d, .bool true][i]?) ∧ (∀ i, w'.cell? ⟨w.heap.size + 1 + 1, i, none⟩ = #[.int .i64 zc, .int .i64 zs, .slice T tm td, .bool true][i]?) ∧ Below W.heap.size W w') (exact SOF.out _ (by first | assumption | exact ((Below.refl W.heap.size W).al _).drew)) (first
          | (go_at_call 60; (with_reducible refine (cmp_c _ _ _).mono ?_); rintro ee wk ⟨rfl, rfl⟩)
          | (go_at_call 59; (with_reducible refine (or_c (some ⟨_, 0, none⟩) 2 2 [_, _] _ (Ints.two _ _ _ _).dr (by omega)).mono ?_); rintro ee wk ⟨rfl, rfl⟩))
        have HF2 := Lib.hid (HBB.out.via ((Below.refl W.heap.size W).al (.cells #[.int .i64 (cmpI (xc + yc) zc), .int .i64 (cmpI (xs + ys) zs)] 3)).drew)
        clear hb0 r1 r2
        go_wp2_with fail
        go_ret
        exact ⟨rfl, HF2.out⟩
end Go.Proofs.Ytghnkgbingcbcaa
