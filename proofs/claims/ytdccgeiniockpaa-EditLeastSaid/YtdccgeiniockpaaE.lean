/- parlkeep4.Edit. -/
import Derived.Test.YtdccgeiniockpaaD
import Derived.Deep.RegionLaw
namespace Go.Proofs.Ytdccgeiniockpaa
open Go.RowKit

/-- the loop of Edit, after k rounds -/
structure EdRel (w : World) (f g : Int) (m : Nat) (k : Nat) (A : Option Addr) (m1 c1 : Nat) (l1 : List Int) (v : Value) (ys : List Int) (wr : World) : Prop where
  b0 : Blk wr w.heap.size 24 #[.int .i64 0, .int .i64 0, .slice none 0 0]
  b1 : Blk wr (w.heap.size + 1) 78 #[.slice A m1 c1]
  b2 : Blk wr (w.heap.size + 1 + 1) 24 #[.int .i64 f, .int .i64 g, v]
  ints : Ints w A m1 c1 l1
  le : m1 ≤ m
  own : OwnI wr (w.heap.size + 3) v k ys
  bel : Below w.heap.size w wr
  size : w.heap.size + 3 ≤ wr.heap.size

theorem EdRel.start {w : World} {f g : Int} {m : Nat} {A : Option Addr} {m1 c1 : Nat} {l1 : List Int} (hI : Ints w A m1 c1 l1) (hm : m1 ≤ m) :
    EdRel w f g m 0 A m1 c1 l1 (.slice none 0 0) [] (((w.alloc (.cells #[.int .i64 0, .int .i64 0, .slice none 0 0] 24)).alloc (.cells #[.slice A m1 c1] 78)).alloc (.cells #[.int .i64 f, .int .i64 g, .slice none 0 0] 24)).drew where
  b0 := (((Blk.new w _ _).alloc _).alloc _).drew
  b1 := by have := ((Blk.new (w.alloc (.cells #[.int .i64 0, .int .i64 0, .slice none 0 0] 24)) 78 #[.slice A m1 c1]).alloc (.cells #[.int .i64 f, .int .i64 g, .slice none 0 0] 24)).drew; simpa using this
  b2 := by have := (Blk.new ((w.alloc (.cells #[.int .i64 0, .int .i64 0, .slice none 0 0] 24)).alloc (.cells #[.slice A m1 c1] 78)) 24 #[.int .i64 f, .int .i64 g, .slice none 0 0]).drew; simpa using this
  ints := hI
  le := hm
  own := OwnI.nil _ _
  bel := ((((Below.refl _ _).alloc (Nat.le_refl _) _).alloc (by simp) _).alloc (by simp; omega) _).drew
  size := by simp

theorem EdRel.round {w wr w1 : World} {f g x : Int} {m k : Nat} {A A2 : Option Addr} {m1 c1 m2 c2 : Nat} {l1 l2 : List Int} {v v1 : Value} {ys : List Int} (h : EdRel w f g m k A m1 c1 l1 v ys wr)
    (hI : Ints w A2 m2 c2 l2) (hm : m2 ≤ m1) (ho : OwnI w1 (w.heap.size + 3) v1 (k + 1) (ys ++ [x]))
    (hg : (((wr.setCell ⟨w.heap.size + 1, 0, none⟩ (.slice A2 m2 c2)).alloc (.cells #[.int .i64 x] 3)).drew).grownBy w1 v.ownBlock) :
    EdRel w f g m (k + 1) A2 m2 c2 l2 v1 (ys ++ [x]) (w1.setCell ⟨w.heap.size + 1 + 1, 2, none⟩ v1) := by
  have hne : ∀ j, j < w.heap.size + 3 → some j ≠ v.ownBlock := fun j hj e => by have := (h.own.lt j e.symm).1; omega
  have hb := h.bel
  have hs := h.size
  have hb1 : Below w.heap.size w (((wr.setCell ⟨w.heap.size + 1, 0, none⟩ (.slice A2 m2 c2)).alloc (.cells #[.int .i64 x] 3)).drew) :=
    ((hb.setCell (p := ⟨w.heap.size + 1, 0, none⟩) (by simp) _).alloc (by simp; omega) _).drew
  refine ⟨?_, ?_, ?_, hI, Nat.le_trans hm h.le, ho.setCell (by simp) _, ?_, ?_⟩
  · exact ((((h.b0.far (by simp) _).alloc _).drew.grown hg (hne _ (by omega))).far (by simp; omega) _)
  · have := ((((h.b1.set_ 0 (.slice A2 m2 c2)).alloc (.cells #[.int .i64 x] 3)).drew.grown hg (hne _ (by omega))).far (p := ⟨w.heap.size + 1 + 1, 2, none⟩) (by simp) v1)
    simpa using this
  · have := ((((h.b2.far (p := ⟨w.heap.size + 1, 0, none⟩) (by simp) (.slice A2 m2 c2)).alloc (.cells #[.int .i64 x] 3)).drew.grown hg (hne _ (by omega))).set_ 2 v1)
    simpa using this
  · refine (hb1.grown hg (by simp; omega) (fun k hk => ?_)).setCell (by simp; omega) _
    have := (h.own.lt k hk).1; omega
  · have := hg.size
    simp at this ⊢
    omega

/-- an edit that Check lets by -/
def EditPost (w : World) (n : Int) (e : Ending) (w' : World) : Prop :=
  ∃ (f g : Nat) (A : Option Addr) (k c : Nat) (ns : List Int), e = .returned (.agg #[.int .i64 (f : Int), .int .i64 (g : Int), .slice A k c]) ∧ f ≤ g ∧ (g : Int) ≤ n ∧ g ≤ f + 3 ∧ k ≤ 3 ∧ Ints w' A k c ns ∧ Below w.heap.size w w'

set_option maxHeartbeats 4000000 in
theorem edit_c (n : Int) (t : Int) (A : Option Addr) (m c : Nat) (ls : List Int) (w : World) (h : Ints w A m c ls) (h0 : 0 ≤ n) (h1 : n ≤ 1000000) (ht : 1 ≤ t) (ht2 : t ≤ 1000000) :
    Calls Try.prog 13 #[.int .i64 n, .int .i64 t, .slice A m c] w (EditPost w n) := by
  go_enter Try.func13, Try.ntmps13
  go_wp2_with fail
  refine (next_c1 w _ _ _ A m c ls h (((Below.refl _ _).alloc (Nat.le_refl _) _).alloc (by simp) _) (by simp [go_sem]) (by simp [go_sem]) (by omega) (by omega)).mono ?_
  rintro e w' ⟨f, A1, m1, c1, l1, rfl, hf0, hf1, hm1, rfl, hI1⟩
  go_wp2_with fail
  have q1 : IntKind.i64.wrap (n - f) = n - f := IntWalk.i64_in _ (by omega)
  have q2 : IntKind.i64.wrap (n - f + 1) = n - f + 1 := IntWalk.i64_in _ (by omega)
  obtain ⟨q, hq1, hq2, hq3, hmin⟩ : ∃ q, 1 ≤ q ∧ q ≤ 4 ∧ q ≤ n - f + 1 ∧ (if n - f + 1 < 4 then n - f + 1 else 4) = q := ⟨_, by split <;> omega, by split <;> omega, by split <;> omega, rfl⟩
  go_region_held3 (fun w' => w'.cell? ⟨w.heap.size + 1 + 1, 0, none⟩ = some (.int .i64 f)) (simp [go_sem]) ((go_at_call 41; refine (next_c1 w _ _ _ A1 m1 c1 l1 hI1 ((((Below.refl _ _).alloc (Nat.le_refl _) _).alloc (by simp) _).alloc (by simp; omega) _).drew (by simp [go_sem]) (by simp [go_sem]) (by omega) (by omega)).mono ?_; rintro e w' ⟨g, A2, m2, c2, l2, rfl, hg0, hg1, hm2, rfl, hI2⟩; have q3 : IntKind.i64.wrap (f + g) = f + g := IntWalk.i64_in _ (by omega)))
  go_wp2_with fail
  refine (next_c1 w _ _ _ A2 m2 c2 l2 hI2 (((((Below.refl _ _).alloc (Nat.le_refl _) _).alloc (by simp) _).alloc (by simp; omega) _).drew) (by simp [go_sem]) (by simp [go_sem]) (by omega) (by omega)).mono ?_
  rintro e w' ⟨z, A3, m3, c3, l3, rfl, hz0, hz1, hm3, rfl, hI3⟩
  clear hI1 hI2 hmin q1 q2 q3
  go_wp2_with fail
  go_loopw [31] (fun i wr => ∃ k : Nat, i = .int .i64 k ∧ (k : Int) ≤ z ∧ ∃ A1 m1 c1 l1 v ys, EdRel w f (f + g) m k A1 m1 c1 l1 v ys wr) (fun i _ => (z - intOf i).toNat)
  case atStart => exact ⟨0, rfl, by omega, _, _, _, _, _, _, EdRel.start hI3 (by omega)⟩
  case round =>
    obtain ⟨k, rfl, hkz, A1, m1, c1, l1, v, ys, hr⟩ := hrel
    clear hI3
    obtain ⟨Av, cv, rfl, hIv⟩ := hr.own.form
    have H := Lib.hid hr
    have x0 := hr.b2.cell 0
    have x1 := hr.b2.cell 1
    have x2 := hr.b2.cell 2
    have r0 := hr.b1.cell 0
    have z0 := hr.b0.cell 0
    have z1 := hr.b0.cell 1
    have z2 := hr.b0.cell 2
    have f0 := hr.b0.frozen
    have f1 := hr.b1.frozen
    have f2 := hr.b2.frozen
    simp only [List.getElem?_toArray, List.getElem?_cons_zero, List.getElem?_cons_succ] at x0 x1 x2 r0 z0 z1 z2
    have hlt2 : w.heap.size + 1 + 1 < wr.heap.size := by have := hr.size; omega
    have hsz := hr.size
    clear hr hIv
    by_cases hlt : (k : Int) < z
    · go_wp2_with fail
      go_region_law (first
        | (go_simp; go_at_call 41; refine (next_c1 w _ _ _ A1 m1 c1 l1 H.out.ints H.out.bel.drew (by simp [r0]) (by simp [f1]) (by omega) (by omega)).mono ?_; rintro e w' ⟨y, A2, m2, c2, l2, rfl, hy0, hy1, hm2', rfl, hI2⟩; dsimp only)
        | (refine step_append_ints _ rfl (.tmp 34) (.tmp 38) rfl (w.heap.size + 3) (.slice Av k cv) k ys rfl (by exact (H.out.own.setCell (p := ⟨w.heap.size + 1, 0, none⟩) (by simp) _).alloc _) (some ⟨wr.heap.size, 0, none⟩) 1 1 [y] rfl (by have := Ints.one (wr.setCell ⟨w.heap.size + 1, 0, none⟩ (.slice A2 m2 c2)) y 3; rw [World.size_setCell] at this; exact this) (by omega) (by simp; omega) ?_
           intro Av1 cv1 w1 ho1 hg1 hat1
           have hne2 : some (⟨w.heap.size + 1 + 1, 2, none⟩ : Addr).block ≠ Value.ownBlock (.slice Av k cv) := fun e => (by have := (H.out.own.lt _ e.symm).1; simp at this; omega)
           have fz1 : w1.frozen? ⟨w.heap.size + 1 + 1, 2, none⟩ = false := (World.frozen?_of_block (hg1.block (w.heap.size + 1 + 1) (by simp; omega) hne2)).trans (by simp [go_sem, f2, World.frozen?_alloc_past, show w.heap.size + 1 + 1 < wr.heap.size from by omega])
           have cx2 : w1.cell? ⟨w.heap.size + 1 + 1, 2, none⟩ = some (.slice Av k cv) := hg1.cell (by simp [go_sem, x2, World.cell?_setCell_far, World.cell?_alloc_past, show w.heap.size + 1 + 1 < wr.heap.size from by omega]) hne2))
      all_goals
        go_wp2_with fail
        go_roundw
        case rel => exact ⟨k + 1, by go_num, by omega, _, _, _, _, _, _, EdRel.round H.out hI2 hm2' ho1 hg1⟩
        case measure => simp [intOf]; omega
    · go_wp2_with fail
      refine bodyPost_ret (v := .agg #[.int .i64 f, .int .i64 (f + g), .slice Av k cv]) (by simp [results, Try.results13, go_sem, z0, z1, z2]) rfl ?_
      refine ⟨f.toNat, (f + g).toNat, Av, k, cv, ys, by rw [Int.toNat_of_nonneg hf0, Int.toNat_of_nonneg (by omega)], by omega, by omega, by omega, by omega, ?_, ?_⟩
      · exact (((H.out.own.setCell (by simp) _).setCell (by simp) _).setCell (by simp) _).toInts
      · exact ((H.out.bel.setCell (by simp) _).setCell (by simp) _).setCell (by simp) _
end Go.Proofs.Ytdccgeiniockpaa
