/- Words of hole in memory; hole.less, hole.then. -/
import Derived.Test.YtghnkgbingcbcaaZG
namespace Go.Proofs.Ytghnkgbingcbcaa
open Go.RowKit

/-! ### words of hole: size, word, or none: ways that cost nothing -/
abbrev HyV := Int × SlV × Bool
def HoE : Elem Way HyV where
  k := 3
  cells v := [.int .i64 v.1, .slice v.2.1.1 v.2.1.2.1 v.2.1.2.2, .bool v.2.2]
  rel ok w v x := v.1 = x.size ∧ v.2.2 = x.ok ∧ x.cost = 0 ∧ Sl IntE ok w v.2.1.1 v.2.1.2.1 v.2.1.2.2 x.w
  pos := by omega
  len _ := rfl
  one r u hu := by simp at hu; rcases hu with rfl | rfl | rfl <;> rfl
  agr h k := ⟨h.1, h.2.1, h.2.2.1, h.2.2.2.agr k⟩
  mono h k := ⟨h.1, h.2.1, h.2.2.1, h.2.2.2.mono k⟩
def HoR (ok : Nat → Prop) (w : World) (v : HyV) (x : Way) : Prop := HoE.rel ok w v x
theorem HoR.agr {ok : Nat → Prop} {w w' : World} {v : HyV} {x : Way} (h : HoR ok w v x) (k : Agr ok w w') : HoR ok w' v x := HoE.agr h k
theorem HoR.via {ok : Nat → Prop} {w w' : World} {v : HyV} {x : Way} (h : HoR ok w v x) (k : Below w.heap.size w w') : HoR ok w' v x := HoE.agr h (Agr.below k)
theorem HoR.al {ok : Nat → Prop} {w : World} {v : HyV} {x : Way} (h : HoR ok w v x) (o : Obj) : HoR ok (w.alloc o) v x := h.via ((Below.refl w.heap.size w).alloc (Nat.le_refl _) o)
theorem HoR.dr {ok : Nat → Prop} {w : World} {v : HyV} {x : Way} (h : HoR ok w v x) : HoR ok w.drew v x := h.via ((Below.refl w.heap.size w).drew)
theorem HoR.mono {ok ok' : Nat → Prop} {w : World} {v : HyV} {x : Way} (h : HoR ok w v x) (k : ∀ b, b < w.heap.size → ok b → ok' b) : HoR ok' w v x := HoE.mono h k
def hoVal (v : HyV) : Value := .agg #[.int .i64 v.1, .slice v.2.1.1 v.2.1.2.1 v.2.1.2.2, .bool v.2.2]
theorem wcmp_zero {x y : Way} (hx : x.cost = 0) (hy : y.cost = 0) : wcmp x y = orL [cmpI x.size y.size, cmpL x.w y.w] := by
  unfold wcmp
  rw [hx, hy, orL, if_pos (by simp [cmpI])]

set_option maxRecDepth 100000 in
set_option maxHeartbeats 4000000 in
theorem hless_c (ok ok' : Nat → Prop) (as_ : Int) (A : Option Addr) (n c : Nat) (ao : Bool) (bs : Int) (B : Option Addr) (m d : Nat) (bo : Bool) (x y : Way) (w : World)
    (h1 : HoR ok w (as_, (A, n, c), ao) x) (h2 : HoR ok' w (bs, (B, m, d), bo) y) (hx : x.w.length ≤ 2000) :
    Calls Try.prog 66 #[.agg #[.int .i64 as_, .slice A n c, .bool ao], .agg #[.int .i64 bs, .slice B m d, .bool bo]] w (TellB w (lessW x y)) := by
  obtain ⟨rfl, rfl, hx0, hA⟩ := h1
  obtain ⟨rfl, rfl, hy0, hC⟩ := h2
  have HW := Lib.hid (wcmp_zero hx0 hy0)
  obtain ⟨xc, xs, xw, xo⟩ := x
  obtain ⟨yc, ys, yw, yo⟩ := y
  simp only at hA hC hx ⊢
  have hn : n ≤ 1000000 := by have := hA.len; omega
  have hB := ((Below.refl w.heap.size w).al (.cells #[.int .i64 xs, .slice A n c, .bool xo] 101)).al (.cells #[.int .i64 ys, .slice B m d, .bool yo] 101)
  have B0 := (Blk.new w 101 #[.int .i64 xs, .slice A n c, .bool xo]).al (.cells #[.int .i64 ys, .slice B m d, .bool yo] 101)
  have B1 := Blk.new (w.alloc (.cells #[.int .i64 xs, .slice A n c, .bool xo] 101)) 101 #[.int .i64 ys, .slice B m d, .bool yo]
  rw [World.size_alloc] at B1
  have H1 := Lib.hid (hA.ints.keep hB (Nat.le_refl _))
  have H2 := Lib.hid (hC.ints.keep hB (Nat.le_refl _))
  clear hA hC hx hx0 hy0
  cases yo with
  | false =>
    have HB := Lib.hid hB
    clear hB B0 B1
    cases xo
    all_goals
      go_enter Try.func66, Try.ntmps66
      go_wp2_with fail
      go_ret
      exact ⟨rfl, HB.out⟩
  | true =>
    cases xo with
    | false =>
      have HB := Lib.hid hB
      clear hB B0 B1
      go_enter Try.func66, Try.ntmps66
      go_wp2_with fail
      go_ret
      exact ⟨rfl, HB.out⟩
    | true =>
      go_enter Try.func66, Try.ntmps66
      go_upto_region 3 with fail
      generalize (w.alloc (.cells #[.int .i64 xs, .slice A n c, .bool true] 101)).alloc (.cells #[.int .i64 ys, .slice B m d, .bool true] 101) = W at *
      have J1 := Lib.hid (show ∀ w', Below W.heap.size W w' → Ints w' A n c xw from fun w' hb => H1.out.keep hb (Nat.le_refl _))
      have J2 := Lib.hid (show ∀ w', Below W.heap.size W w' → Ints w' B m d yw from fun w' hb => H2.out.keep hb (Nat.le_refl _))
      have SOF := Lib.hid (show ∀ w', Below W.heap.size W w' → ((∀ i, w'.cell? ⟨w.heap.size, i, none⟩ = #[.int .i64 xs, .slice A n c, .bool true][i]?) ∧ (∀ i, w'.cell? ⟨w.heap.size + 1, i, none⟩ = #[.int .i64 ys, .slice B m d, .bool true][i]?) ∧ Below W.heap.size W w') from fun w' hb => ⟨(B0.via hb).cell, (B1.via hb).cell, hb⟩)
      have HBB := Lib.hid hB
      have hb0 := (Below.refl W.heap.size W).drew
      clear hB H1 H2 B0 B1
      go_region_held3 (fun w' => (∀ i, w'.cell? ⟨w.heap.size, i, none⟩ = #[.int .i64 xs, .slice A n c, .bool true][i]?) ∧ (∀ i, w'.cell? ⟨w.heap.size + 1, i, none⟩ = #[.int .i64 ys, .slice B m d, .bool true][i]?) ∧ Below W.heap.size W w') (exact SOF.out _ (by first | assumption | exact Below.al (by assumption) _)) (first
        | (go_at_call 60; (with_reducible refine (cmp_c _ _ _).mono ?_); rintro ee wk ⟨rfl, rfl⟩)
        | (go_at_call 61; (with_reducible refine (cmpL_c A B n c m d xw yw _ (J1.out _ (by assumption)) (J2.out _ (by assumption)) hn).mono ?_); rintro ee wk ⟨rfl, rfl⟩)
        | (go_at_call 59; (with_reducible refine (or_c (some ⟨_, 0, none⟩) 2 2 [_, _] _ (Ints.two _ _ _ _).dr (by omega)).mono ?_); rintro ee wk ⟨rfl, rfl⟩))
      have HF2 := Lib.hid (HBB.out.via ((Below.refl W.heap.size W).al (.cells #[.int .i64 (cmpI xs ys), .int .i64 (cmpL xw yw)] 3)).drew)
      clear hb0
      go_wp2_with fail
      go_ret
      refine ⟨?_, HF2.out⟩
      rw [lessW, if_neg (by simp), HW.out]
      rfl

def World.set3 (w : World) (r : Nat) (v : HyV) : World :=
  ((w.setCell ⟨r, 0, none⟩ (.int .i64 v.1)).setCell ⟨r, 1, none⟩ (.slice v.2.1.1 v.2.1.2.1 v.2.1.2.2)).setCell ⟨r, 2, none⟩ (.bool v.2.2)
section
variable {ok : Nat → Prop} {w w0 : World} {r : Nat} {v : HyV}
theorem agr_s3 (hk : ∀ b, ok b → b ≠ r) : Agr ok w (World.set3 w r v) :=
  ((Agr.setCell _ hk).trans (Agr.setCell _ hk)).trans (Agr.setCell _ hk)
theorem below_s3 {B : Nat} (h : Below B w0 w) (hr : B ≤ r) : Below B w0 (World.set3 w r v) :=
  ((h.setCell hr _).setCell hr _).setCell hr _
end
def HoP (w : World) (x : Way) (e : Ending) (w' : World) : Prop := ∃ v, e = .returned (hoVal v) ∧ HoR (fun b => w.heap.size ≤ b) w' v x ∧ Below w.heap.size w w'
set_option maxRecDepth 100000 in
set_option maxHeartbeats 4000000 in
theorem hthen_c (ok ok' : Nat → Prop) (as_ : Int) (A : Option Addr) (n c : Nat) (ao : Bool) (bs : Int) (B : Option Addr) (m d : Nat) (bo : Bool) (x y : Way) (w : World)
    (h1 : HoR ok w (as_, (A, n, c), ao) x) (h2 : HoR ok' w (bs, (B, m, d), bo) y) (hx : Bnd 10000000000 x) (hy : Bnd 10000000000 y) :
    Calls Try.prog 80 #[.agg #[.int .i64 as_, .slice A n c, .bool ao], .agg #[.int .i64 bs, .slice B m d, .bool bo]] w (HoP w (thenW x y)) := by
  obtain ⟨rfl, rfl, hx0, hA⟩ := h1
  obtain ⟨rfl, rfl, hy0, hC⟩ := h2
  have b3 := hx.s0; have b4 := hx.s1
  have b7 := hy.s0; have b8 := hy.s1
  have l1 : n ≤ 2000 := Nat.le_trans (Nat.le_of_eq hA.len.symm) hx.short
  have l2 : m ≤ 2000 := Nat.le_trans (Nat.le_of_eq hC.len.symm) hy.short
  clear hx hy
  obtain ⟨xc, xs, xw, xo⟩ := x
  obtain ⟨yc, ys, yw, yo⟩ := y
  simp only at b3 b4 b7 b8 hA hC hx0 hy0 ⊢
  subst hx0 hy0
  have nok : ∀ (b : Bool) (w' : World), (xo && yo) = b → (b = true → ¬ xs + ys ≤ 2000) → HoR (fun b => w.heap.size ≤ b) w' (xs + ys, (none, 0, 0), b) (thenW ⟨0, xs, xw, xo⟩ ⟨0, ys, yw, yo⟩) := by
    intro b w' e h
    subst e
    refine ⟨rfl, rfl, rfl, ?_⟩
    have : (thenW ⟨0, xs, xw, xo⟩ ⟨0, ys, yw, yo⟩).w = [] := by
      simp only [thenW]; rw [if_neg]; intro h2; rw [Bool.and_eq_true, decide_eq_true_eq] at h2; exact h h2.1 h2.2
    rw [this]; exact Sl.nil 0
  have NOK := Lib.hid nok
  clear nok
  cases hxo : xo <;> cases hyo : yo <;> subst hxo hyo
  iterate 3
    · clear hA hC
      go_enter Try.func80, Try.ntmps80
      go_wp2_with fail
      exact bodyPost_ret (v := .agg #[.int .i64 (xs + ys), .slice none 0 0, .bool false]) (by simp [results, Try.results80, go_sem]) rfl ⟨(xs + ys, (none, 0, 0), false), rfl, NOK.out _ _ rfl fun h => (by cases h), ((((Below.refl _ _).al _).al _).al _).al _⟩
  · by_cases hs : xs + ys ≤ 2000
    · have hB := (((((Below.refl w.heap.size w).al (.cells #[.int .i64 xs, .slice A n c, .bool true] 101)).al (.cells #[.int .i64 ys, .slice B m d, .bool true] 101)).al (.cells #[.int .i64 0, .slice none 0 0, .bool false] 101)).al (.cells #[.int .i64 (xs + ys), .slice none 0 0, .bool true] 101)).al (.cells #[.slice A n c, .slice B m d] 22)
      have B2 := ((Blk.new ((w.alloc (.cells #[.int .i64 xs, .slice A n c, .bool true] 101)).alloc (.cells #[.int .i64 ys, .slice B m d, .bool true] 101)) 101 #[.int .i64 0, .slice none 0 0, .bool false]).al (.cells #[.int .i64 (xs + ys), .slice none 0 0, .bool true] 101)).al (.cells #[.slice A n c, .slice B m d] 22)
      have B3 := (Blk.new (((w.alloc (.cells #[.int .i64 xs, .slice A n c, .bool true] 101)).alloc (.cells #[.int .i64 ys, .slice B m d, .bool true] 101)).alloc (.cells #[.int .i64 0, .slice none 0 0, .bool false] 101)) 101 #[.int .i64 (xs + ys), .slice none 0 0, .bool true]).al (.cells #[.slice A n c, .slice B m d] 22)
      have B4 := Blk.new ((((w.alloc (.cells #[.int .i64 xs, .slice A n c, .bool true] 101)).alloc (.cells #[.int .i64 ys, .slice B m d, .bool true] 101)).alloc (.cells #[.int .i64 0, .slice none 0 0, .bool false] 101)).alloc (.cells #[.int .i64 (xs + ys), .slice none 0 0, .bool true] 101)) 22 #[.slice A n c, .slice B m d]
      simp only [World.size_alloc] at B2 B3 B4
      have HA := Lib.hid (hA.ints.keep hB (Nat.le_refl _))
      have HC := Lib.hid (hC.ints.keep hB (Nat.le_refl _))
      have HB2 := Lib.hid B2
      have HB3 := Lib.hid B3
      have HB4 := Lib.hid B4
      have HB := Lib.hid hB
      clear hA hC hB B2 B3 B4
      go_enter Try.func80, Try.ntmps80
      go_wp2_with fail
      generalize ((((w.alloc (.cells #[.int .i64 xs, .slice A n c, .bool true] 101)).alloc (.cells #[.int .i64 ys, .slice B m d, .bool true] 101)).alloc (.cells #[.int .i64 0, .slice none 0 0, .bool false] 101)).alloc (.cells #[.int .i64 (xs + ys), .slice none 0 0, .bool true] 101)).alloc (.cells #[.slice A n c, .slice B m d] 22) = W at *
      refine (concat2_c _ A B n c m d xw yw W HA.out HC.out HB4.out (by omega) (by omega)).mono ?_
      rintro e w1 ⟨A1, c1, rfl, hS, hb⟩
      have B2 := HB2.out.via hb
      have B3 := HB3.out.via hb
      have HBF := Lib.hid (HB.out.via hb)
      have hW := HB.out.size
      have hz := HB4.out.lt
      have HS := Lib.hid hS
      clear hb hS HB HB2 HB3 HB4 HA HC
      have cB2 := B2.cell
      have fB2 := B2.frozen
      have lB2 := B2.lt
      have cB3 := B3.cell
      have fB3 := B3.frozen
      have lB3 := B3.lt
      go_wp2_with fail
      refine bodyPost_ret (v := .agg #[.int .i64 (xs + ys), .slice A1 (n + m) c1, .bool true]) (by simp [results, Try.results80, go_sem, cB2]) rfl ⟨(xs + ys, (A1, n + m, c1), true), rfl, ⟨rfl, rfl, rfl, ?_⟩, below_s3 (r := w.heap.size + 1 + 1) (v := (xs + ys, (A1, n + m, c1), true)) (HBF.out.setCell (by simp; omega) _) (by omega)⟩
      have e : (thenW ⟨0, xs, xw, true⟩ ⟨0, ys, yw, true⟩).w = xw ++ yw := by simp [thenW, hs]
      rw [e]
      exact (HS.out.agr ((Agr.setCell _ fun b hb => by show b ≠ w.heap.size + 1 + 1 + 1; omega).trans (agr_s3 (r := w.heap.size + 1 + 1) (v := (xs + ys, (A1, n + m, c1), true)) fun b hb => by omega))).mono fun b _ hb => by omega
    · clear hA hC
      go_enter Try.func80, Try.ntmps80
      go_wp2_with fail
      exact bodyPost_ret (v := .agg #[.int .i64 (xs + ys), .slice none 0 0, .bool true]) (by simp [results, Try.results80, go_sem]) rfl ⟨(xs + ys, (none, 0, 0), true), rfl, NOK.out _ _ rfl fun _ => hs, ((((Below.refl _ _).al _).al _).al _).al _⟩
end Go.Proofs.Ytghnkgbingcbcaa
