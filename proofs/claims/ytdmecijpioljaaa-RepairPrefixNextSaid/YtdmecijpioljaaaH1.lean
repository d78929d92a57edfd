/- Texts HA, HB, HC, HD, HE, laid together. -/
import Derived.Test.YtdmecijpioljaaaZ1
import Derived.Test.YtdmecijpioljaaaP1


namespace Go.Proofs.Ytdmecijpioljaaa
open Go.RowKit

/-! ### words of hole: size, word, or none: ways that cost nothing -/
abbrev HyV := Int × SlV × Bool
def HoE : Elem Way HyV where
  k := 3
  cells v := [.int .i64 v.1, .slice v.2.1.1 v.2.1.2.1 v.2.1.2.2, .bool v.2.2]
  rel ok w v x := v.1 = x.size ∧ v.2.2 = x.ok ∧ x.cost = 0 ∧ Sl IntE ok w v.2.1.1 v.2.1.2.1 v.2.1.2.2 x.w
  pos := by omega
  len _ := rfl
  one r u hu := by simp at hu; rcases hu with rfl | rfl | rfl <;> rfl
  agr h k := ⟨h.1, h.2.1, h.2.2.1, h.2.2.2.agr k⟩
  mono h k := ⟨h.1, h.2.1, h.2.2.1, h.2.2.2.mono k⟩
def HoR (ok : Nat → Prop) (w : World) (v : HyV) (x : Way) : Prop := HoE.rel ok w v x
theorem HoR.agr {ok : Nat → Prop} {w w' : World} {v : HyV} {x : Way} (h : HoR ok w v x) (k : Agr ok w w') : HoR ok w' v x := HoE.agr h k
theorem HoR.via {ok : Nat → Prop} {w w' : World} {v : HyV} {x : Way} (h : HoR ok w v x) (k : Below w.heap.size w w') : HoR ok w' v x := HoE.agr h (Agr.below k)
theorem HoR.al {ok : Nat → Prop} {w : World} {v : HyV} {x : Way} (h : HoR ok w v x) (o : Obj) : HoR ok (w.alloc o) v x := h.via ((Below.refl w.heap.size w).alloc (Nat.le_refl _) o)
theorem HoR.dr {ok : Nat → Prop} {w : World} {v : HyV} {x : Way} (h : HoR ok w v x) : HoR ok w.drew v x := h.via ((Below.refl w.heap.size w).drew)
theorem HoR.mono {ok ok' : Nat → Prop} {w : World} {v : HyV} {x : Way} (h : HoR ok w v x) (k : ∀ b, b < w.heap.size → ok b → ok' b) : HoR ok' w v x := HoE.mono h k
def hoVal (v : HyV) : Value := .agg #[.int .i64 v.1, .slice v.2.1.1 v.2.1.2.1 v.2.1.2.2, .bool v.2.2]
theorem wcmp_zero {x y : Way} (hx : x.cost = 0) (hy : y.cost = 0) : wcmp x y = orL [cmpI x.size y.size, cmpL x.w y.w] := by
  unfold wcmp
  rw [hx, hy, orL, if_pos (by simp [cmpI])]

set_option maxRecDepth 100000 in
set_option maxHeartbeats 4000000 in
theorem hless_c (ok ok' : Nat → Prop) (as_ : Int) (A : Option Addr) (n c : Nat) (ao : Bool) (bs : Int) (B : Option Addr) (m d : Nat) (bo : Bool) (x y : Way) (w : World)
    (h1 : HoR ok w (as_, (A, n, c), ao) x) (h2 : HoR ok' w (bs, (B, m, d), bo) y) (hx : x.w.length ≤ 2000) :
    Calls Try.prog 49 #[.agg #[.int .i64 as_, .slice A n c, .bool ao], .agg #[.int .i64 bs, .slice B m d, .bool bo]] w (TellB w (lessW x y)) := by
  obtain ⟨rfl, rfl, hx0, hA⟩ := h1
  obtain ⟨rfl, rfl, hy0, hC⟩ := h2
  have HW := Lib.hid (wcmp_zero hx0 hy0)
  obtain ⟨xc, xs, xw, xo⟩ := x
  obtain ⟨yc, ys, yw, yo⟩ := y
  simp only at hA hC hx ⊢
  have hn : n ≤ 1000000 := by have := hA.len; omega
  have hB := ((Below.refl w.heap.size w).al (.cells #[.int .i64 xs, .slice A n c, .bool xo] 72)).al (.cells #[.int .i64 ys, .slice B m d, .bool yo] 72)
  have B0 := (Blk.new w 72 #[.int .i64 xs, .slice A n c, .bool xo]).al (.cells #[.int .i64 ys, .slice B m d, .bool yo] 72)
  have B1 := Blk.new (w.alloc (.cells #[.int .i64 xs, .slice A n c, .bool xo] 72)) 72 #[.int .i64 ys, .slice B m d, .bool yo]
  rw [World.size_alloc] at B1
  have H1 := Lib.hid (hA.ints.keep hB (Nat.le_refl _))
  have H2 := Lib.hid (hC.ints.keep hB (Nat.le_refl _))
  clear hA hC hx hx0 hy0
  cases yo with
  | false =>
    have HB := Lib.hid hB
    clear hB B0 B1
    cases xo
    all_goals
      go_enter Try.func49, Try.ntmps49
      go_wp2_with fail
      go_ret
      exact ⟨rfl, HB.out⟩
  | true =>
    cases xo with
    | false =>
      have HB := Lib.hid hB
      clear hB B0 B1
      go_enter Try.func49, Try.ntmps49
      go_wp2_with fail
      go_ret
      exact ⟨rfl, HB.out⟩
    | true =>
      go_enter Try.func49, Try.ntmps49
      go_upto_region 3 with fail
      generalize (w.alloc (.cells #[.int .i64 xs, .slice A n c, .bool true] 72)).alloc (.cells #[.int .i64 ys, .slice B m d, .bool true] 72) = W at *
      have J1 := Lib.hid (show ∀ w', Below W.heap.size W w' → Ints w' A n c xw from fun w' hb => H1.out.keep hb (Nat.le_refl _))
      have J2 := Lib.hid (show ∀ w', Below W.heap.size W w' → Ints w' B m d yw from fun w' hb => H2.out.keep hb (Nat.le_refl _))
      have SOF := Lib.hid (show ∀ w', Below W.heap.size W w' → ((∀ i, w'.cell? ⟨w.heap.size, i, none⟩ = #[.int .i64 xs, .slice A n c, .bool true][i]?) ∧ (∀ i, w'.cell? ⟨w.heap.size + 1, i, none⟩ = #[.int .i64 ys, .slice B m d, .bool true][i]?) ∧ Below W.heap.size W w') from fun w' hb => ⟨(B0.via hb).cell, (B1.via hb).cell, hb⟩)
      have HBB := Lib.hid hB
      have hb0 := (Below.refl W.heap.size W).drew
      clear hB H1 H2 B0 B1
      go_region_held3 (fun w' => (∀ i, w'.cell? ⟨w.heap.size, i, none⟩ = #[.int .i64 xs, .slice A n c, .bool true][i]?) ∧ (∀ i, w'.cell? ⟨w.heap.size + 1, i, none⟩ = #[.int .i64 ys, .slice B m d, .bool true][i]?) ∧ Below W.heap.size W w') (exact SOF.out _ (by first | assumption | exact Below.al (by assumption) _)) (first
        | (go_at_call 68; (with_reducible refine (cmp_c _ _ _).mono ?_); rintro ee wk ⟨rfl, rfl⟩)
        | (go_at_call 69; (with_reducible refine (cmpL_c A B n c m d xw yw _ (J1.out _ (by assumption)) (J2.out _ (by assumption)) hn).mono ?_); rintro ee wk ⟨rfl, rfl⟩)
        | (go_at_call 67; (with_reducible refine (or_c (some ⟨_, 0, none⟩) 2 2 [_, _] _ (Ints.two _ _ _ _).dr (by omega)).mono ?_); rintro ee wk ⟨rfl, rfl⟩))
      have HF2 := Lib.hid (HBB.out.via ((Below.refl W.heap.size W).al (.cells #[.int .i64 (cmpI xs ys), .int .i64 (cmpL xw yw)] 3)).drew)
      clear hb0
      go_wp2_with fail
      go_ret
      refine ⟨?_, HF2.out⟩
      rw [lessW, if_neg (by simp), HW.out]
      rfl

def World.set3 (w : World) (r : Nat) (v : HyV) : World :=
  ((w.setCell ⟨r, 0, none⟩ (.int .i64 v.1)).setCell ⟨r, 1, none⟩ (.slice v.2.1.1 v.2.1.2.1 v.2.1.2.2)).setCell ⟨r, 2, none⟩ (.bool v.2.2)
section
variable {ok : Nat → Prop} {w w0 : World} {r : Nat} {v : HyV}
theorem agr_s3 (hk : ∀ b, ok b → b ≠ r) : Agr ok w (World.set3 w r v) :=
  ((Agr.setCell _ hk).trans (Agr.setCell _ hk)).trans (Agr.setCell _ hk)
theorem below_s3 {B : Nat} (h : Below B w0 w) (hr : B ≤ r) : Below B w0 (World.set3 w r v) :=
  ((h.setCell hr _).setCell hr _).setCell hr _
end
def HoP (w : World) (x : Way) (e : Ending) (w' : World) : Prop := ∃ v, e = .returned (hoVal v) ∧ HoR (fun b => w.heap.size ≤ b) w' v x ∧ Below w.heap.size w w'
set_option maxRecDepth 100000 in
set_option maxHeartbeats 4000000 in
theorem hthen_c (ok ok' : Nat → Prop) (as_ : Int) (A : Option Addr) (n c : Nat) (ao : Bool) (bs : Int) (B : Option Addr) (m d : Nat) (bo : Bool) (x y : Way) (w : World)
    (h1 : HoR ok w (as_, (A, n, c), ao) x) (h2 : HoR ok' w (bs, (B, m, d), bo) y) (hx : Bnd 10000000000 x) (hy : Bnd 10000000000 y) :
    Calls Try.prog 66 #[.agg #[.int .i64 as_, .slice A n c, .bool ao], .agg #[.int .i64 bs, .slice B m d, .bool bo]] w (HoP w (thenW x y)) := by
  obtain ⟨rfl, rfl, hx0, hA⟩ := h1
  obtain ⟨rfl, rfl, hy0, hC⟩ := h2
  have b3 := hx.s0; have b4 := hx.s1
  have b7 := hy.s0; have b8 := hy.s1
  have l1 : n ≤ 2000 := Nat.le_trans (Nat.le_of_eq hA.len.symm) hx.short
  have l2 : m ≤ 2000 := Nat.le_trans (Nat.le_of_eq hC.len.symm) hy.short
  clear hx hy
  obtain ⟨xc, xs, xw, xo⟩ := x
  obtain ⟨yc, ys, yw, yo⟩ := y
  simp only at b3 b4 b7 b8 hA hC hx0 hy0 ⊢
  subst hx0 hy0
  have nok : ∀ (b : Bool) (w' : World), (xo && yo) = b → (b = true → ¬ xs + ys ≤ 2000) → HoR (fun b => w.heap.size ≤ b) w' (xs + ys, (none, 0, 0), b) (thenW ⟨0, xs, xw, xo⟩ ⟨0, ys, yw, yo⟩) := by
    intro b w' e h
    subst e
    refine ⟨rfl, rfl, rfl, ?_⟩
    have : (thenW ⟨0, xs, xw, xo⟩ ⟨0, ys, yw, yo⟩).w = [] := by
      simp only [thenW]; rw [if_neg]; intro h2; rw [Bool.and_eq_true, decide_eq_true_eq] at h2; exact h h2.1 h2.2
    rw [this]; exact Sl.nil 0
  have NOK := Lib.hid nok
  clear nok
  cases hxo : xo <;> cases hyo : yo <;> subst hxo hyo
  iterate 3
    · clear hA hC
      go_enter Try.func66, Try.ntmps66
      go_wp2_with fail
      exact bodyPost_ret (v := .agg #[.int .i64 (xs + ys), .slice none 0 0, .bool false]) (by simp [results, Try.results66, go_sem]) rfl ⟨(xs + ys, (none, 0, 0), false), rfl, NOK.out _ _ rfl fun h => (by cases h), ((((Below.refl _ _).al _).al _).al _).al _⟩
  · by_cases hs : xs + ys ≤ 2000
    · have hB := (((((Below.refl w.heap.size w).al (.cells #[.int .i64 xs, .slice A n c, .bool true] 72)).al (.cells #[.int .i64 ys, .slice B m d, .bool true] 72)).al (.cells #[.int .i64 0, .slice none 0 0, .bool false] 72)).al (.cells #[.int .i64 (xs + ys), .slice none 0 0, .bool true] 72)).al (.cells #[.slice A n c, .slice B m d] 22)
      have B2 := ((Blk.new ((w.alloc (.cells #[.int .i64 xs, .slice A n c, .bool true] 72)).alloc (.cells #[.int .i64 ys, .slice B m d, .bool true] 72)) 72 #[.int .i64 0, .slice none 0 0, .bool false]).al (.cells #[.int .i64 (xs + ys), .slice none 0 0, .bool true] 72)).al (.cells #[.slice A n c, .slice B m d] 22)
      have B3 := (Blk.new (((w.alloc (.cells #[.int .i64 xs, .slice A n c, .bool true] 72)).alloc (.cells #[.int .i64 ys, .slice B m d, .bool true] 72)).alloc (.cells #[.int .i64 0, .slice none 0 0, .bool false] 72)) 72 #[.int .i64 (xs + ys), .slice none 0 0, .bool true]).al (.cells #[.slice A n c, .slice B m d] 22)
      have B4 := Blk.new ((((w.alloc (.cells #[.int .i64 xs, .slice A n c, .bool true] 72)).alloc (.cells #[.int .i64 ys, .slice B m d, .bool true] 72)).alloc (.cells #[.int .i64 0, .slice none 0 0, .bool false] 72)).alloc (.cells #[.int .i64 (xs + ys), .slice none 0 0, .bool true] 72)) 22 #[.slice A n c, .slice B m d]
      simp only [World.size_alloc] at B2 B3 B4
      have HA := Lib.hid (hA.ints.keep hB (Nat.le_refl _))
      have HC := Lib.hid (hC.ints.keep hB (Nat.le_refl _))
      have HB2 := Lib.hid B2
      have HB3 := Lib.hid B3
      have HB4 := Lib.hid B4
      have HB := Lib.hid hB
      clear hA hC hB B2 B3 B4
      go_enter Try.func66, Try.ntmps66
      go_wp2_with fail
      generalize ((((w.alloc (.cells #[.int .i64 xs, .slice A n c, .bool true] 72)).alloc (.cells #[.int .i64 ys, .slice B m d, .bool true] 72)).alloc (.cells #[.int .i64 0, .slice none 0 0, .bool false] 72)).alloc (.cells #[.int .i64 (xs + ys), .slice none 0 0, .bool true] 72)).alloc (.cells #[.slice A n c, .slice B m d] 22) = W at *
      refine (concat2_c _ A B n c m d xw yw W HA.out HC.out HB4.out (by omega) (by omega)).mono ?_
      rintro e w1 ⟨A1, c1, rfl, hS, hb⟩
      have B2 := HB2.out.via hb
      have B3 := HB3.out.via hb
      have HBF := Lib.hid (HB.out.via hb)
      have hW := HB.out.size
      have hz := HB4.out.lt
      have HS := Lib.hid hS
      clear hb hS HB HB2 HB3 HB4 HA HC
      have cB2 := B2.cell
      have fB2 := B2.frozen
      have lB2 := B2.lt
      have cB3 := B3.cell
      have fB3 := B3.frozen
      have lB3 := B3.lt
      go_wp2_with fail
      refine bodyPost_ret (v := .agg #[.int .i64 (xs + ys), .slice A1 (n + m) c1, .bool true]) (by simp [results, Try.results66, go_sem, cB2]) rfl ⟨(xs + ys, (A1, n + m, c1), true), rfl, ⟨rfl, rfl, rfl, ?_⟩, below_s3 (r := w.heap.size + 1 + 1) (v := (xs + ys, (A1, n + m, c1), true)) (HBF.out.setCell (by simp; omega) _) (by omega)⟩
      have e : (thenW ⟨0, xs, xw, true⟩ ⟨0, ys, yw, true⟩).w = xw ++ yw := by simp [thenW, hs]
      rw [e]
      exact (HS.out.agr ((Agr.setCell _ fun b hb => by show b ≠ w.heap.size + 1 + 1 + 1; omega).trans (agr_s3 (r := w.heap.size + 1 + 1) (v := (xs + ys, (A1, n + m, c1), true)) fun b hb => by omega))).mono fun b _ hb => by omega
    · clear hA hC
      go_enter Try.func66, Try.ntmps66
      go_wp2_with fail
      exact bodyPost_ret (v := .agg #[.int .i64 (xs + ys), .slice none 0 0, .bool true]) (by simp [results, Try.results66, go_sem]) rfl ⟨(xs + ys, (none, 0, 0), true), rfl, NOK.out _ _ rfl fun _ => hs, ((((Below.refl _ _).al _).al _).al _).al _⟩
end Go.Proofs.Ytdmecijpioljaaa



namespace Go.Proofs.Ytdmecijpioljaaa
open Go.RowKit

/-! ### a row of words of hole in a block of its own -/
def HRow (ok : Nat → Prop) (w : World) (b n : Nat) (f : Nat → Way) : Prop :=
  ∃ C : Array Value, Blk w b 72 C ∧ C.size = (n + 1) * 3 ∧ ∀ j, j ≤ n → ∃ v, HoR ok w v (f j) ∧ ∀ q u, (HoE.cells v)[q]? = some u → C[j * 3 + q]? = some u
section
variable {ok ok' : Nat → Prop} {w w' : World} {b n : Nat} {f : Nat → Way}
theorem HRow.lt (h : HRow ok w b n f) : b < w.heap.size := by obtain ⟨C, h1, _⟩ := h; exact h1.lt
theorem HRow.at_ (h : HRow ok w b n f) {j : Nat} (hj : j ≤ n) : ∃ v, HoR ok w v (f j) ∧ w.cell? ⟨b, j * 3, none⟩ = some (.int .i64 v.1) ∧ w.cell? ⟨b, j * 3 + 1, none⟩ = some (.slice v.2.1.1 v.2.1.2.1 v.2.1.2.2) ∧ w.cell? ⟨b, j * 3 + 2, none⟩ = some (.bool v.2.2) := by
  obtain ⟨C, h1, h2, h3⟩ := h
  obtain ⟨v, hv, hc⟩ := h3 j hj
  exact ⟨v, hv, (h1.cell _).trans (hc 0 _ rfl), (h1.cell _).trans (hc 1 _ rfl), (h1.cell _).trans (hc 2 _ rfl)⟩
theorem HRow.frozen (h : HRow ok w b n f) (i : Nat) : w.frozen? ⟨b, i, none⟩ = false := by obtain ⟨C, h1, _⟩ := h; exact h1.frozen i
theorem HRow.agr (h : HRow ok w b n f) (hb : w'.heap[b]? = w.heap[b]?) (k : Agr ok w w') : HRow ok w' b n f := by
  obtain ⟨C, h1, h2, h3⟩ := h
  refine ⟨C, hb.trans h1, h2, fun j hj => ?_⟩
  obtain ⟨v, hv, hc⟩ := h3 j hj
  exact ⟨v, hv.agr k, hc⟩
theorem HRow.via (h : HRow ok w b n f) (k : Below w.heap.size w w') : HRow ok w' b n f := h.agr (k.block b h.lt) (Agr.below k)
theorem HRow.al (h : HRow ok w b n f) (o : Obj) : HRow ok (w.alloc o) b n f := h.via ((Below.refl w.heap.size w).alloc (Nat.le_refl _) o)
theorem HRow.dr (h : HRow ok w b n f) : HRow ok w.drew b n f := h.via ((Below.refl w.heap.size w).drew)
theorem HRow.mono (h : HRow ok w b n f) (k : ∀ b, b < w.heap.size → ok b → ok' b) : HRow ok' w b n f := by
  obtain ⟨C, h1, h2, h3⟩ := h
  refine ⟨C, h1, h2, fun j hj => ?_⟩
  obtain ⟨v, hv, hc⟩ := h3 j hj
  exact ⟨v, hv.mono k, hc⟩
/-- the four cells of a way are written -/
def World.put3 (w : World) (b o : Nat) (v : HyV) : World :=
  ((w.setCell ⟨b, o, none⟩ (.int .i64 v.1)).setCell ⟨b, o + 1, none⟩ (.slice v.2.1.1 v.2.1.2.1 v.2.1.2.2)).setCell ⟨b, o + 2, none⟩ (.bool v.2.2)
theorem agr_p3 {o : Nat} {v : HyV} (hk : ∀ x, ok x → x ≠ b) : Agr ok w (World.put3 w b o v) :=
  ((Agr.setCell _ hk).trans (Agr.setCell _ hk)).trans (Agr.setCell _ hk)
theorem below_p3 {B : Nat} {w0 : World} {o : Nat} {v : HyV} (h : Below B w0 w) (hr : B ≤ b) : Below B w0 (World.put3 w b o v) :=
  ((h.setCell hr _).setCell hr _).setCell hr _
theorem size_p3 {o : Nat} {v : HyV} : (World.put3 w b o v).heap.size = w.heap.size := by simp [World.put3]
theorem heap_p3 {o : Nat} {v : HyV} {g : Nat} (h : g ≠ b) : (World.put3 w b o v).heap[g]? = w.heap[g]? := by
  unfold World.put3
  rw [Below.heap_setCell _ _ _ _ h, Below.heap_setCell _ _ _ _ h, Below.heap_setCell _ _ _ _ h]
theorem HRow.put (h : HRow ok w b n f) {j : Nat} (hj : j ≤ n) {v : HyV} {y : Way} (hv : HoR ok w v y) (hk : ∀ x, ok x → x ≠ b) : HRow ok (World.put3 w b (j * 3) v) b n (upd f j y) := by
  obtain ⟨C, h1, h2, h3⟩ := h
  have e := ((h1.set_ (j * 3) (.int .i64 v.1)).set_ (j * 3 + 1) (.slice v.2.1.1 v.2.1.2.1 v.2.1.2.2)).set_ (j * 3 + 2) (.bool v.2.2)
  refine ⟨_, e, by simp [h2], fun i hi => ?_⟩
  by_cases ei : i = j
  · subst ei
    refine ⟨v, by rw [upd_same]; exact hv.agr (agr_p3 hk), fun q u hu => ?_⟩
    simp only [Array.getElem?_setIfInBounds, Array.size_setIfInBounds]
    match q, hu with
    | 0, hu => simp [HoE] at hu; subst hu; simp; omega
    | 1, hu => simp [HoE] at hu; subst hu; simp; omega
    | 2, hu => simp [HoE] at hu; subst hu; simp; omega
    | q + 3, hu => simp [HoE] at hu
  · obtain ⟨v', hv', hc⟩ := h3 i hi
    refine ⟨v', by rw [upd_ne _ _ ei]; exact hv'.agr (agr_p3 hk), fun q u hu => ?_⟩
    have hq : q < 3 := by have := (List.getElem?_eq_some_iff.1 hu).1; simpa [HoE] using this
    simp only [Array.getElem?_setIfInBounds, Array.size_setIfInBounds]
    rw [if_neg (by omega), if_neg (by omega), if_neg (by omega)]
    exact hc q u hu
end
theorem hword_info : (Try.prog.info? 72).map (fun i => (i.zero, i.size, i.bytes)) = some (some (.agg #[.int .i64 0, .slice none 0 0, .bool false]), 3, 40) := by kernel_rfl
def hoCells (n : Nat) : Array Value := madeCells #[.int .i64 0, .slice none 0 0, .bool false] ((n + 1) * 3)
theorem mk_hos (n : Nat) (hn : n ≤ 1000000) : ∀ w : World, (Instr.makeSlice 98 (.int .i64 ((n : Int) + 1)) (.int .i64 ((n : Int) + 1))).run Try.prog w = .ok (.slice (some ⟨w.heap.size, 0, none⟩) (n + 1) (n + 1)) (w.alloc (.cells (hoCells n) 72)) := by
  intro w
  obtain ⟨i, hi, hz, hs, hb⟩ := info_parts hword_info
  have := run_make (P := Try.prog) w 98 72 i _ Try.underlying98 hi hz .i64 .i64 ((n : Int) + 1) ((n : Int) + 1) (by omega) (by omega) (by rw [hb]; omega) (by omega)
  rw [show ((n : Int) + 1).toNat = n + 1 from by omega, hs] at this
  exact this
theorem HRow.made (ok : Nat → Prop) (w : World) (n : Nat) : HRow ok (w.alloc (.cells (hoCells n) 72)) w.heap.size n (fun _ => Way.no) := by
  refine ⟨_, Blk.new w _ _, size_madeCells _ _, fun j hj => ⟨(0, (none, 0, 0), false), ⟨rfl, rfl, rfl, Sl.nil 0⟩, fun q u hu => ?_⟩⟩
  have hq : q < 3 := by have := (List.getElem?_eq_some_iff.1 hu).1; simpa [HoE] using this
  have hlt : j * 3 + q < (n + 1) * 3 := by omega
  unfold hoCells madeCells
  rw [Array.getElem?_map, Array.getElem?_range, if_pos hlt]
  simp only [Option.map_some]
  have e : (j * 3 + q) % 3 = q := by omega
  match q, hu, hq with
  | 0, hu, _ => simp [HoE] at hu; subst hu; simp
  | 1, hu, _ => simp [HoE] at hu; subst hu; simp [e]
  | 2, hu, _ => simp [HoE] at hu; subst hu; simp [e]

/-! ### a table of words of hole -/
structure HTab (ok : Nat → Prop) (w : World) (ob oo N n : Nat) (rb : Nat → Nat) (cb : Nat → Nat → Nat) (st : WSt) : Prop where
  top : ∀ k, k < N → w.cell? ⟨ob, oo + k, none⟩ = some (.slice (some ⟨rb k, 0, none⟩) (n + 1) (n + 1))
  mid : ∀ k i, k < N → i ≤ n → w.cell? ⟨rb k, i, none⟩ = some (.slice (some ⟨cb k i, 0, none⟩) (n + 1) (n + 1))
  row : ∀ k i, k < N → i ≤ n → HRow ok w (cb k i) n (st k i)
section
variable {ok ok' : Nat → Prop} {w w' : World} {ob oo N n : Nat} {rb : Nat → Nat} {cb : Nat → Nat → Nat} {st : WSt}
theorem HTab.via (h : HTab ok w ob oo N n rb cb st) (k : Below w.heap.size w w') : HTab ok w' ob oo N n rb cb st :=
  ⟨fun i hi => (k.cell (p := ⟨ob, oo + i, none⟩) (World.block_lt_of_cell? w _ (h.top i hi))).trans (h.top i hi), fun a i ha hi => (k.cell (p := ⟨rb a, i, none⟩) (World.block_lt_of_cell? w _ (h.mid a i ha hi))).trans (h.mid a i ha hi), fun a i ha hi => (h.row a i ha hi).via k⟩
theorem HTab.al (h : HTab ok w ob oo N n rb cb st) (o : Obj) : HTab ok (w.alloc o) ob oo N n rb cb st := h.via ((Below.refl w.heap.size w).alloc (Nat.le_refl _) o)
theorem HTab.mono (h : HTab ok w ob oo N n rb cb st) (k : ∀ b, b < w.heap.size → ok b → ok' b) : HTab ok' w ob oo N n rb cb st := ⟨h.top, h.mid, fun a i ha hi => (h.row a i ha hi).mono k⟩
theorem HTab.agr (h : HTab ok w ob oo N n rb cb st) (k : Agr ok w w') (h1 : ∀ g, (g = ob ∨ (∃ a, a < N ∧ g = rb a) ∨ ∃ a i, a < N ∧ i ≤ n ∧ g = cb a i) → w'.heap[g]? = w.heap[g]?) : HTab ok w' ob oo N n rb cb st :=
  ⟨fun i hi => (World.cell?_of_block (w := w) (a := ⟨ob, oo + i, none⟩) (h1 ob (Or.inl rfl))).trans (h.top i hi), fun a i ha hi => (World.cell?_of_block (w := w) (a := ⟨rb a, i, none⟩) (h1 _ (Or.inr (Or.inl ⟨a, ha, rfl⟩)))).trans (h.mid a i ha hi),
    fun a i ha hi => (h.row a i ha hi).agr (h1 _ (Or.inr (Or.inr ⟨a, i, ha, hi, rfl⟩))) k⟩
end
end Go.Proofs.Ytdmecijpioljaaa




namespace Go.Proofs.Ytdmecijpioljaaa
open Go.RowKit

def CeE : Elem Ce Ce where
  k := 2
  cells s := [.bool s.1, .int .i64 s.2]
  rel _ _ r x := r = x
  pos := by omega
  len _ := rfl
  one r u hu := by simp at hu; rcases hu with rfl | rfl <;> rfl
  agr h _ := h
  mono h _ := h
set_option maxRecDepth 100000 in
set_option maxHeartbeats 1000000 in
theorem gT_c (n : Int) (w : World) : Calls Try.prog 40 #[.int .i64 n] w fun e w' => e = .returned (.agg #[.bool true, .int .i64 n]) ∧ Below w.heap.size w w' := by
  go_enter Try.func40, Try.ntmps40
  go_wp2_with fail
  exact bodyPost_ret (v := .agg #[.bool true, .int .i64 n]) (by simp [results, Try.results40, go_sem]) rfl ⟨rfl, (Below.refl _ _).al _⟩
set_option maxRecDepth 100000 in
set_option maxHeartbeats 2000000 in
theorem is_c (s : Sy) (c : Ce) (w : World) : Calls Try.prog 46 #[.agg #[.bool s.1, .int .i64 (s.2 : Int)], .agg #[.bool c.1, .int .i64 c.2]] w (TellB w (isC s c)) := by
  obtain ⟨sb, sn⟩ := s
  obtain ⟨cb, cn⟩ := c
  have hB := ((Below.refl w.heap.size w).al (.cells #[.bool sb, .int .i64 (sn : Int)] 45)).al (.cells #[.bool cb, .int .i64 cn] 45)
  have B0 := (Blk.new w 45 #[.bool sb, .int .i64 (sn : Int)]).al (.cells #[.bool cb, .int .i64 cn] 45)
  have B1 := Blk.new (w.alloc (.cells #[.bool sb, .int .i64 (sn : Int)] 45)) 45 #[.bool cb, .int .i64 cn]
  rw [World.size_alloc] at B1
  by_cases h : cb = sb ∧ cn = (sn : Int)
  · obtain ⟨rfl, rfl⟩ := h
    have hi : isC (cb, sn) (cb, (sn : Int)) = true := by simp [isC]
    rw [hi]
    have HB := Lib.hid hB
    have c0 := B0.cell
    have c1 := B1.cell
    clear hB hi B0 B1
    go_enter Try.func46, Try.ntmps46
    go_upto_region 1 with fail
    generalize (w.alloc (.cells #[.bool cb, .int .i64 (sn : Int)] 45)).alloc (.cells #[.bool cb, .int .i64 (sn : Int)] 45) = W at *
    go_quiet (fail)
    go_wp2_with fail
    go_ret
    exact ⟨rfl, below_drewN HB.out _⟩
  · cases sb with
    | false =>
      have hi : isC (false, sn) (cb, cn) = false := by
        simp only [isC, Bool.false_and, Bool.or_false, decide_eq_false_iff_not]
        intro e; exact h ⟨congrArg Prod.fst e, congrArg Prod.snd e⟩
      rw [hi]
      have HB := Lib.hid hB
      have c0 := B0.cell
      have c1 := B1.cell
      have hq : cb = true ∨ ((sn : Int) == cn) = false := by
        cases cb with
        | true => exact Or.inl rfl
        | false => exact Or.inr (by rw [beq_eq_false_iff_ne]; exact fun e => h ⟨rfl, e.symm⟩)
      clear hB hi B0 B1 h
      cases cb with
      | true =>
        clear hq
        go_enter Try.func46, Try.ntmps46
        go_upto_region 1 with fail
        generalize (w.alloc (.cells #[.bool false, .int .i64 (sn : Int)] 45)).alloc (.cells #[.bool true, .int .i64 cn] 45) = W at *
        go_quiet (fail)
        go_wp2_with fail
        go_ret
        exact ⟨rfl, below_drewN HB.out _⟩
      | false =>
        have hq2 : ((sn : Int) == cn) = false := hq.resolve_left (by simp)
        clear hq
        go_enter Try.func46, Try.ntmps46
        go_upto_region 1 with fail
        generalize (w.alloc (.cells #[.bool false, .int .i64 (sn : Int)] 45)).alloc (.cells #[.bool false, .int .i64 cn] 45) = W at *
        go_quiet (fail)
        go_wp2_with fail
        go_ret
        exact ⟨rfl, below_drewN HB.out _⟩
    | true =>
      cases cb with
      | false =>
        have hi : isC (true, sn) (false, cn) = false := by simp [isC]
        rw [hi]
        clear hi h
        go_enter Try.func46, Try.ntmps46
        go_upto_region 1 with fail
        generalize (w.alloc (.cells #[.bool true, .int .i64 (sn : Int)] 45)).alloc (.cells #[.bool false, .int .i64 cn] 45) = W at *
        have SOF := Lib.hid (show ∀ w', Below W.heap.size W w' → ((∀ i, w'.cell? ⟨w.heap.size, i, none⟩ = #[.bool true, .int .i64 (sn : Int)][i]?) ∧ (∀ i, w'.cell? ⟨w.heap.size + 1, i, none⟩ = #[.bool false, .int .i64 cn][i]?) ∧ Below W.heap.size W w') from fun w' hb => ⟨(B0.via hb).cell, (B1.via hb).cell, hb⟩)
        have hb0 := (Below.refl W.heap.size W).drew
        have HB := Lib.hid hB
        clear hB B0 B1
        go_region_held3 (fun w' => (∀ i, w'.cell? ⟨w.heap.size, i, none⟩ = #[.bool true, .int .i64 (sn : Int)][i]?) ∧ (∀ i, w'.cell? ⟨w.heap.size + 1, i, none⟩ = #[.bool false, .int .i64 cn][i]?) ∧ Below W.heap.size W w') (exact SOF.out _ (by assumption)) (first
          | (go_at_call 40; (with_reducible refine (gT_c _ _).mono ?_); rintro ee wn ⟨rfl, hbn⟩; have hbm : Below W.heap.size W wn := Below.via (by assumption) hbn))
        have HF := Lib.hid (HB.out.via hbm)
        clear hb0 hbm hbn
        go_wp2_with fail
        go_ret
        exact ⟨rfl, HF.out⟩
      | true =>
        have hq2 : ((sn : Int) == cn) = false := by rw [beq_eq_false_iff_ne]; exact fun e => h ⟨rfl, e.symm⟩
        by_cases hm : cn = -1
        · subst hm
          have hi : isC (true, sn) (true, -1) = true := by simp [isC]
          rw [hi]
          clear hi h
          go_enter Try.func46, Try.ntmps46
          go_upto_region 1 with fail
          generalize (w.alloc (.cells #[.bool true, .int .i64 (sn : Int)] 45)).alloc (.cells #[.bool true, .int .i64 (-1)] 45) = W at *
          have SOF := Lib.hid (show ∀ w', Below W.heap.size W w' → ((∀ i, w'.cell? ⟨w.heap.size, i, none⟩ = #[.bool true, .int .i64 (sn : Int)][i]?) ∧ (∀ i, w'.cell? ⟨w.heap.size + 1, i, none⟩ = #[.bool true, .int .i64 (-1)][i]?) ∧ Below W.heap.size W w') from fun w' hb => ⟨(B0.via hb).cell, (B1.via hb).cell, hb⟩)
          have hb0 := (Below.refl W.heap.size W).drew
          have HB := Lib.hid hB
          clear hB B0 B1
          go_region_held3 (fun w' => (∀ i, w'.cell? ⟨w.heap.size, i, none⟩ = #[.bool true, .int .i64 (sn : Int)][i]?) ∧ (∀ i, w'.cell? ⟨w.heap.size + 1, i, none⟩ = #[.bool true, .int .i64 (-1)][i]?) ∧ Below W.heap.size W w') (exact SOF.out _ (by assumption)) (first
            | (go_at_call 40; (with_reducible refine (gT_c _ _).mono ?_); rintro ee wn ⟨rfl, hbn⟩; have hbm : Below W.heap.size W wn := Below.via (by assumption) hbn))
          have HF := Lib.hid (HB.out.via hbm)
          clear hb0 hbm hbn
          go_wp2_with fail
          go_ret
          exact ⟨rfl, HF.out⟩
        · have hi : isC (true, sn) (true, cn) = false := by
            simp only [isC, Bool.true_and, Bool.or_eq_false_iff, decide_eq_false_iff_not]
            exact ⟨fun e => h ⟨rfl, congrArg Prod.snd e⟩, fun e => hm (congrArg Prod.snd e)⟩
          rw [hi]
          have hq3 : (cn == -1) = false := by rw [beq_eq_false_iff_ne]; exact hm
          clear hi h hm
          go_enter Try.func46, Try.ntmps46
          go_upto_region 1 with fail
          generalize (w.alloc (.cells #[.bool true, .int .i64 (sn : Int)] 45)).alloc (.cells #[.bool true, .int .i64 cn] 45) = W at *
          have SOF := Lib.hid (show ∀ w', Below W.heap.size W w' → ((∀ i, w'.cell? ⟨w.heap.size, i, none⟩ = #[.bool true, .int .i64 (sn : Int)][i]?) ∧ (∀ i, w'.cell? ⟨w.heap.size + 1, i, none⟩ = #[.bool true, .int .i64 cn][i]?) ∧ Below W.heap.size W w') from fun w' hb => ⟨(B0.via hb).cell, (B1.via hb).cell, hb⟩)
          have hb0 := (Below.refl W.heap.size W).drew
          have HB := Lib.hid hB
          clear hB B0 B1
          go_region_held3 (fun w' => (∀ i, w'.cell? ⟨w.heap.size, i, none⟩ = #[.bool true, .int .i64 (sn : Int)][i]?) ∧ (∀ i, w'.cell? ⟨w.heap.size + 1, i, none⟩ = #[.bool true, .int .i64 cn][i]?) ∧ Below W.heap.size W w') (exact SOF.out _ (by assumption)) (first
            | (go_at_call 40; (with_reducible refine (gT_c _ _).mono ?_); rintro ee wn ⟨rfl, hbn⟩; have hbm : Below W.heap.size W wn := Below.via (by assumption) hbn))
          have HF := Lib.hid (HB.out.via hbm)
          clear hb0 hbm hbn
          go_wp2_with fail
          go_ret
          exact ⟨rfl, HF.out⟩
end Go.Proofs.Ytdmecijpioljaaa



namespace Go.Proofs.Ytdmecijpioljaaa
open Go.RowKit

/-- the struct filler -/
structure FiV where
  gt : Nat
  gn : Nat
  gs : Nat
  gA : Option Addr
  gl : Nat
  gc : Nat
  A : Option Addr
  n : Nat
  c : Nat
  bA : Option Addr
  bn : Nat
  bc : Nat
def FiV.cells (v : FiV) : Array Value := #[.int .i64 (v.gt : Int), .int .i64 (v.gn : Int), .int .i64 (v.gs : Int), .slice v.gA v.gl v.gc, .slice v.A v.n v.c, .slice v.bA v.bn v.bc]
def HoK (ok : Nat → Prop) (w : World) (x : Way) (e : Ending) (w' : World) : Prop := ∃ v, e = .returned (hoVal v) ∧ HoR (fun b => ok b ∨ w.heap.size ≤ b) w' v x ∧ Below w.heap.size w w'
set_option maxRecDepth 100000 in
set_option maxHeartbeats 8000000 in
theorem hsymbol_c (ok okc : Nat → Prop) (bf : Nat) (v : FiV) (cs : List Ce) (s : Sy) (i j oo : Nat) (ob : Nat) (rb : Nat → Nat) (cb : Nat → Nat → Nat) (st : WSt) (w : World) (hb : Blk w bf 96 v.cells) (hx : Sl CeE okc w v.A v.n v.c cs)
    (hn : v.n ≤ 12) (hi : i ≤ j) (hj : j ≤ v.n) (hA : v.bA = some ⟨ob, oo, none⟩) (hT : HTab ok w ob oo v.bn v.n rb cb st) (hs : s.1 = false → s.2 < v.bn) :
    Calls Try.prog 65 #[.pointer (some ⟨bf, 0, none⟩), .agg #[.bool s.1, .int .i64 (s.2 : Int)], .int .i64 (i : Int), .int .i64 (j : Int)] w (HoK ok w (symH cs st s i j)) := by
  obtain ⟨sb, sn⟩ := s
  cases sb with
  | true =>
    have hB := ((Below.refl w.heap.size w).al (.cells #[.bool true, .int .i64 (sn : Int)] 45)).al (.cells #[.int .i64 0, .slice none 0 0, .bool false] 72)
    have Bs := (Blk.new w 45 #[.bool true, .int .i64 (sn : Int)]).al (.cells #[.int .i64 0, .slice none 0 0, .bool false] 72)
    have Br := Blk.new (w.alloc (.cells #[.bool true, .int .i64 (sn : Int)] 45)) 72 #[.int .i64 0, .slice none 0 0, .bool false]
    have Bf := hb.via hB
    have HX := Lib.hid (hx.via hB)
    have hlt := hb.lt
    have hcl := hx.len
    rw [World.size_alloc] at Br
    obtain ⟨gt, gn, gs, gA, gl, gc, A, n, c, bA, bn, bcc⟩ := v
    simp only [FiV.cells] at Bf HX hn hj hcl ⊢
    clear hb hx hT hs hA
    by_cases e : j = i + 1
    · subst e
      obtain ⟨b1, o1, sx, sy, rfl, -, hbb, hy, hxy, hc⟩ := HX.out.at_ (show i < n by omega)
      obtain rfl : sx = sy := hxy
      have d0 := hc 0 _ rfl
      have d1 := hc 1 _ rfl
      simp only [CeE, Nat.add_zero] at d0 d1
      rw [show ((i + 1 : Nat) : Int) = (i : Int) + 1 by omega]
      have k1 : IntKind.i64.wrap ((i : Int) + 1) = (i : Int) + 1 := IntWalk.i64_in _ (by omega)
      have i0 : (0 : Int) ≤ (i : Int) := by omega
      have i1 : (i : Int) < (n : Int) := by omega
      have HB := Lib.hid hB
      have HY := Lib.hid hy
      clear hB hc hy
      go_enter Try.func65, Try.ntmps65
      go_upto_region 3 with fail
      generalize (w.alloc (.cells #[.bool true, .int .i64 (sn : Int)] 45)).alloc (.cells #[.int .i64 0, .slice none 0 0, .bool false] 72) = W at *
      have SOF := Lib.hid (show ∀ w', Below W.heap.size W w' → ((∀ i, w'.cell? ⟨bf, i, none⟩ = #[.int .i64 (gt : Int), .int .i64 (gn : Int), .int .i64 (gs : Int), .slice gA gl gc, .slice (some ⟨b1, o1, none⟩) n c, .slice bA bn bcc][i]?) ∧ (∀ i, w'.cell? ⟨w.heap.size, i, none⟩ = #[.bool true, .int .i64 (sn : Int)][i]?) ∧ w'.cell? ⟨b1, o1 + i * 2, none⟩ = some (.bool sx.1) ∧ w'.cell? ⟨b1, o1 + i * 2 + 1, none⟩ = some (.int .i64 sx.2) ∧ Below W.heap.size W w') from fun w' hb => ⟨(Bf.via hb).cell, (Bs.via hb).cell, (hb.cell (p := ⟨b1, o1 + i * 2, none⟩) hbb).trans d0, (hb.cell (p := ⟨b1, o1 + i * 2 + 1, none⟩) hbb).trans d1, hb⟩)
      have hb0 := (Below.refl W.heap.size W).drew
      have HBR := Lib.hid Br
      clear d0 d1 Bf Bs Br
      go_region_held3 (fun w' => (∀ i, w'.cell? ⟨bf, i, none⟩ = #[.int .i64 (gt : Int), .int .i64 (gn : Int), .int .i64 (gs : Int), .slice gA gl gc, .slice (some ⟨b1, o1, none⟩) n c, .slice bA bn bcc][i]?) ∧ (∀ i, w'.cell? ⟨w.heap.size, i, none⟩ = #[.bool true, .int .i64 (sn : Int)][i]?) ∧ w'.cell? ⟨b1, o1 + i * 2, none⟩ = some (.bool sx.1) ∧ w'.cell? ⟨b1, o1 + i * 2 + 1, none⟩ = some (.int .i64 sx.2) ∧ Below W.heap.size W w') (exact SOF.out _ (by assumption)) (first
        | (go_at_call 46; (with_reducible refine (is_c (true, sn) sx _).mono ?_); rintro ee wn ⟨rfl, hbn⟩; have hbm : Below W.heap.size W wn := Below.via (by assumption) hbn))
      have HF := Lib.hid (HB.out.via hbm)
      have Br := HBR.out.via hbm
      have Bs : Blk wn w.heap.size 45 #[.bool true, .int .i64 (sn : Int)] → True := fun _ => trivial
      have cS := (SOF.out wn hbm).2.1
      have hSl : w.heap.size < wn.heap.size := by have := Br.lt; omega
      clear hb0 hbm hbn Bs SOF HB HBR
      have hSm : w.heap.size + 1 < wn.heap.size := Br.lt
      have hsy : symH cs st (true, sn) i (i + 1) = if isC (true, sn) sx = true then ⟨0, 1, [(sn : Int)], true⟩ else Way.no := by
        rw [symH, if_pos rfl]
        have q := HY.out
        simp [q]
      cases ec : isC (true, sn) sx with
      | true =>
        rw [ec, if_pos rfl] at hsy
        have cBr := Br.cell
        have fBr := Br.frozen
        have lBr := Br.lt
        go_wp2_with fail
        clear cBr fBr cS
        have BX := (((Br.set_ 0 (.int .i64 1)).set_ 1 (.slice (some ⟨wn.heap.size, 0, none⟩) 1 1)).set_ 2 (.bool true)).al (.cells #[.int .i64 (sn : Int)] 3)
        clear Br
        have cX := BX.cell
        rw [hsy]
        refine bodyPost_ret (v := .agg #[.int .i64 1, .slice (some ⟨wn.heap.size, 0, none⟩) 1 1, .bool true]) (by simp [results, Try.results65, go_sem, cX]) rfl ⟨(1, (some ⟨wn.heap.size, 0, none⟩, 1, 1), true), rfl, ⟨rfl, rfl, rfl, ?_⟩, (below_s3 (r := w.heap.size + 1) (v := (1, (some ⟨wn.heap.size, 0, none⟩, 1, 1), true)) HF.out (by omega)).al _⟩
        have q := Ints.one (World.set3 wn (w.heap.size + 1) (1, (some ⟨wn.heap.size, 0, none⟩, 1, 1), true)) (sn : Int) 3
        have z : (World.set3 wn (w.heap.size + 1) (1, (some ⟨wn.heap.size, 0, none⟩, 1, 1), true)).heap.size = wn.heap.size := by simp [World.set3]
        rw [z] at q
        exact q.sl fun b off e _ => by injection e with e; injection e with e1; exact Or.inr (by omega)
      | false =>
        rw [ec, if_neg (by simp)] at hsy
        have cBr := Br.cell
        have fBr := Br.frozen
        have lBr := Br.lt
        go_wp2_with fail
        rw [hsy]
        refine bodyPost_ret (v := .agg #[.int .i64 0, .slice none 0 0, .bool false]) (by simp [results, Try.results65, go_sem, cBr]) rfl ⟨(0, (none, 0, 0), false), rfl, ⟨rfl, rfl, rfl, Sl.nil 0⟩, ?_⟩
        exact below_s3 (r := w.heap.size + 1) (v := (0, (none, 0, 0), false)) HF.out (by omega)
    · have hsy : symH cs st (true, sn) i j = Way.no := by rw [symH, if_pos rfl, if_neg (by rintro ⟨h, -⟩; exact e h)]
      have k1 : IntKind.i64.wrap ((i : Int) + 1) = (i : Int) + 1 := IntWalk.i64_in _ (by omega)
      have e1 : ((j : Int) == (i : Int) + 1) = false := by simp; omega
      have HB := Lib.hid hB
      have HBR := Lib.hid Br
      clear hB Br HX Bs
      go_enter Try.func65, Try.ntmps65
      go_upto_region 3 with fail
      generalize (w.alloc (.cells #[.bool true, .int .i64 (sn : Int)] 45)).alloc (.cells #[.int .i64 0, .slice none 0 0, .bool false] 72) = W at *
      have Br := HBR.out
      clear HBR
      go_quiet (fail)
      clear k1 e1
      have Br : Blk (W.drewN nq) (w.heap.size + 1) 72 #[.int .i64 0, .slice none 0 0, .bool false] := Br
      have cBr := Br.cell
      have fBr := Br.frozen
      have lBr := Br.lt
      have HF := Lib.hid (below_drewN HB.out nq)
      generalize W.drewN nq = wn at *
      go_wp2_with fail
      rw [hsy]
      refine bodyPost_ret (v := .agg #[.int .i64 0, .slice none 0 0, .bool false]) (by simp [results, Try.results65, go_sem, cBr]) rfl ⟨(0, (none, 0, 0), false), rfl, ⟨rfl, rfl, rfl, Sl.nil 0⟩, ?_⟩
      exact below_s3 (r := w.heap.size + 1) (v := (0, (none, 0, 0), false)) HF.out (by omega)
  | false =>
    have hs' : sn < v.bn := hs rfl
    have t1 := hT.top sn hs'
    have t2 := hT.mid sn i hs' (by omega)
    obtain ⟨⟨rs, ⟨rA, rn, rcc⟩, ro⟩, hR, c1, c2, c3⟩ := (hT.row sn i hs' (by omega)).at_ hj
    obtain ⟨gt, gn, gs, gA, gl, gc, A, n, c, bA, bn, bcc⟩ := v
    simp only [FiV.cells] at hb hx hn hj hA hs' t1 t2 c1 c2 c3 hT ⊢
    subst hA
    have l1 := World.block_lt_of_cell? w _ t1
    have l2 := World.block_lt_of_cell? w _ t2
    have l3 := World.block_lt_of_cell? w _ c1
    simp only at l1 l2 l3
    have cb0 := hb.cell
    have lb := hb.lt
    have i0 : (0 : Int) ≤ (sn : Int) := by omega
    have i1 : (sn : Int) < (bn : Int) := by omega
    have i2 : (0 : Int) ≤ (i : Int) := by omega
    have i3 : (i : Int) < (n : Int) + 1 := by omega
    have i4 : (0 : Int) ≤ (j : Int) := by omega
    have i5 : (j : Int) < (n : Int) + 1 := by omega
    have HR := Lib.hid hR
    clear hb hx hT hs hR
    go_enter Try.func65, Try.ntmps65
    go_upto_region 2 with fail
    go_region
    clear cb0 t1 t2 c1 c2 c3
    go_wp2_with fail
    refine bodyPost_ret (v := .agg #[.int .i64 rs, .slice rA rn rcc, .bool ro]) (by simp [results, Try.results65, go_sem]) rfl ⟨(rs, (rA, rn, rcc), ro), rfl, ?_, (((Below.refl _ _).al _).al _).drew⟩
    exact ((((show HoR ok w (rs, (rA, rn, rcc), ro) (symH cs st (false, sn) i j) from HR.out).al _).al _).agr (Agr.below ((Below.refl _ _).drew))).mono fun b _ hb => Or.inl hb
end Go.Proofs.Ytdmecijpioljaaa



namespace Go.Proofs.Ytdmecijpioljaaa
open Go.RowKit

theorem hope_zero {a x t : Way} (ha : a.ok = true) (h1 : a.cost = 0) (h2 : x.cost = 0) (h3 : t.cost = 0) : hopeW a x t = (!x.ok || (t.ok && decide (t.size < a.size + x.size))) := by
  unfold hopeW
  rw [ha, h1, h2, h3]
  cases x.ok <;> cases t.ok <;> simp [orL, cmpI] <;> (try split) <;> (try split) <;> (try simp) <;> omega
theorem hless_b (ok ok' : Nat → Prop) (as_ : Int) (A : Option Addr) (n c : Nat) (ao : Bool) (bs : Int) (B : Option Addr) (m d : Nat) (bo : Bool) (x y : Way) (r : Bool) (w : World)
    (h1 : HoR ok w (as_, (A, n, c), ao) x) (h2 : HoR ok' w (bs, (B, m, d), bo) y) (hx : x.w.length ≤ 2000) (hr : lessW x y = r) :
    Calls Try.prog 49 #[.agg #[.int .i64 as_, .slice A n c, .bool ao], .agg #[.int .i64 bs, .slice B m d, .bool bo]] w (TellB w r) := by
  rw [← hr]; exact hless_c ok ok' as_ A n c ao bs B m d bo x y w h1 h2 hx

/-- the words of a row that lies in b -/
def Yb (ok : Nat → Prop) (lo b : Nat) : Nat → Prop := fun x => (ok x ∨ lo ≤ x) ∧ x ≠ b
def HRuleP (ok : Nat → Prop) (w : World) (n : Nat) (f : Nat → Way) (e : Ending) (w' : World) : Prop :=
  ∃ b, e = .returned (.slice (some ⟨b, 0, none⟩) (n + 1) (n + 1)) ∧ w.heap.size ≤ b ∧ HRow (Yb ok w.heap.size b) w' b n f ∧ Below w.heap.size w w'
def Y2 (ok : Nat → Prop) (lo b bn : Nat) : Nat → Prop := fun x => (ok x ∨ lo ≤ x) ∧ x ≠ b ∧ x ≠ bn
structure HNRel (ok : Nat → Prop) (w : World) (n b bn bs : Nat) (rc : Array Value) (sy : Sy) (fat fnx : Nat → Way) (wr : World) : Prop where
  hat : HRow (Y2 ok w.heap.size b bn) wr b n fat
  hnx : HRow (Y2 ok w.heap.size b bn) wr bn n fnx
  blk : Blk wr w.heap.size 47 rc
  hsb : Blk wr bs 45 #[.bool sy.1, .int .i64 (sy.2 : Int)]
  bel : Below w.heap.size w wr
  l1 : w.heap.size < b
  l2 : w.heap.size < bn
  l3 : w.heap.size < bs
  n1 : b ≠ bn
  n2 : bs ≠ b
  n3 : bs ≠ bn
section
variable {ok : Nat → Prop} {w wr wa : World} {n b bn bs j : Nat} {rc : Array Value} {sy : Sy} {fat fnx : Nat → Way}
theorem HNRel.via (h : HNRel ok w n b bn bs rc sy fat fnx wr) (k : Below wr.heap.size wr wa) : HNRel ok w n b bn bs rc sy fat fnx wa :=
  ⟨h.hat.via k, h.hnx.via k, h.blk.via k, h.hsb.via k, h.bel.via k, h.l1, h.l2, h.l3, h.n1, h.n2, h.n3⟩
theorem HNRel.put (h : HNRel ok w n b bn bs rc sy fat fnx wr) (hj : j ≤ n) {v : HyV} {y : Way} (hv : HoR (Y2 ok w.heap.size b bn) wr v y) : HNRel ok w n b bn bs rc sy fat (upd fnx j y) (World.put3 wr bn (j * 3) v) :=
  ⟨h.hat.agr (heap_p3 h.n1) (agr_p3 fun x hx => hx.2.2), h.hnx.put hj hv fun x hx => hx.2.2, (heap_p3 (by have := h.l2; omega)).trans h.blk, (heap_p3 h.n3).trans h.hsb, below_p3 h.bel (by have := h.l2; omega), h.l1, h.l2, h.l3, h.n1, h.n2, h.n3⟩
end
structure HRRel (ok : Nat → Prop) (w : World) (n b : Nat) (rc : Array Value) (f : Nat → Way) (wr : World) : Prop where
  row : HRow (Yb ok w.heap.size b) wr b n f
  blk : Blk wr w.heap.size 47 rc
  bel : Below w.heap.size w wr
  l1 : w.heap.size < b
theorem HRRel.via {ok : Nat → Prop} {w wr wa : World} {n b : Nat} {rc : Array Value} {f : Nat → Way} (h : HRRel ok w n b rc f wr) (k : Below wr.heap.size wr wa) : HRRel ok w n b rc f wa := ⟨h.row.via k, h.blk.via k, h.bel.via k, h.l1⟩
/-- a new symbol and a new row -/
theorem HRRel.next {ok : Nat → Prop} {w wr : World} {n b : Nat} {rc : Array Value} {f : Nat → Way} (sy : Sy) (h : HRRel ok w n b rc f wr) :
    HNRel ok w n b (wr.heap.size + 1) wr.heap.size rc sy f (fun _ => Way.no) ((wr.alloc (.cells #[.bool sy.1, .int .i64 (sy.2 : Int)] 45)).alloc (.cells (hoCells n) 72)) := by
  have hlt := h.row.lt
  have hw := h.bel.size
  have hm := HRow.made (Y2 ok w.heap.size b (wr.heap.size + 1)) (wr.alloc (.cells #[.bool sy.1, .int .i64 (sy.2 : Int)] 45)) n
  rw [World.size_alloc] at hm
  have hb := ((Below.refl wr.heap.size wr).al (.cells #[.bool sy.1, .int .i64 (sy.2 : Int)] 45)).al (.cells (hoCells n) 72)
  refine ⟨?_, hm, h.blk.via hb, (Blk.new wr _ _).al _, h.bel.via hb, h.l1, by omega, ?_, by omega, by omega, by omega⟩
  · exact (h.row.mono (ok' := Y2 ok w.heap.size b (wr.heap.size + 1)) fun _ hx hz => ⟨hz.1, hz.2, by omega⟩).via hb
  · have := h.blk.lt; omega
theorem HNRel.back {ok : Nat → Prop} {w wr : World} {n b bn bs : Nat} {rc : Array Value} {sy : Sy} {fat fnx : Nat → Way} (h : HNRel ok w n b bn bs rc sy fat fnx wr) : HRRel ok w n bn rc fnx wr :=
  ⟨h.hnx.mono fun _ _ hz => ⟨hz.1, hz.2.2⟩, h.blk, h.bel, h.l2⟩

structure HYCut (ok : Nat → Prop) (w : World) (n b bn bs : Nat) (rc : Array Value) (sy : Sy) (fat fnx : Nat → Way) (y : Way) (yv : HyV) (bY : Nat) (wx : World) : Prop where
  rel : HNRel ok w n b bn bs rc sy fat fnx wx
  blk : Blk wx bY 72 #[.int .i64 yv.1, .slice yv.2.1.1 yv.2.1.2.1 yv.2.1.2.2, .bool yv.2.2]
  way : HoR (Y2 ok w.heap.size b bn) wx yv y
section
variable {ok : Nat → Prop} {w wn wm : World} {n b bn bs : Nat} {rc : Array Value} {sy : Sy} {fat fnx : Nat → Way} {y : Way} {yv : HyV}
theorem HYCut.way1 (h : HNRel ok w n b bn bs rc sy fat fnx wn) (hb : Below wn.heap.size wn wm) (hy : HoR (fun x => wn.heap.size ≤ x) wm yv y) :
    HYCut ok w n b bn bs rc sy fat fnx y yv wm.heap.size (wm.alloc (.cells #[.int .i64 yv.1, .slice yv.2.1.1 yv.2.1.2.1 yv.2.1.2.2, .bool yv.2.2] 72)) := by
  have h1 := h.hat.lt; have h2 := h.hnx.lt; have h3 := h.bel.size
  exact ⟨(h.via hb).via ((Below.refl _ _).al _), Blk.new wm _ _, (hy.al _).mono fun x _ hx => ⟨Or.inr (by omega), by omega, by omega⟩⟩
theorem HYCut.way2 (h : HNRel ok w n b bn bs rc sy fat fnx wn) (hb : Below (wn.heap.size + 1) (wn.alloc (.cells #[.int .i64 0, .slice none 0 0, .bool false] 72)) wm) (hy : HoR (fun x => wn.heap.size + 1 ≤ x) wm yv y) :
    HYCut ok w n b bn bs rc sy fat fnx y yv wn.heap.size (World.set3 wm wn.heap.size yv) := by
  have h1 := h.hat.lt; have h2 := h.hnx.lt; have h3 := h.bel.size; have h4 := h.blk.lt; have h5 := h.hsb.lt
  have e : Below wn.heap.size wn wm := ((Below.refl wn.heap.size wn).al _).trans (hb.mono (by omega))
  have hB : Blk wm wn.heap.size 72 #[.int .i64 0, .slice none 0 0, .bool false] := (Blk.new wn _ _).below hb (by omega)
  have B1 := ((hB.set_ 0 (.int .i64 yv.1)).set_ 1 (.slice yv.2.1.1 yv.2.1.2.1 yv.2.1.2.2)).set_ 2 (.bool yv.2.2)
  have e2 : Below wn.heap.size wn (World.set3 wm wn.heap.size yv) := below_s3 e (Nat.le_refl _)
  refine ⟨h.via e2, by simpa [World.set3] using B1, (hy.agr (agr_s3 fun x hx => by omega)).mono fun x _ hx => ⟨Or.inr (by omega), by omega, by omega⟩⟩
end
set_option maxRecDepth 100000 in
set_option maxHeartbeats 16000000 in
theorem hrule_c (ok okc : Nat → Prop) (bf : Nat) (v : FiV) (cs : List Ce) (left rn rcc i oo ob : Nat) (rA : Option Addr) (l : List Sy) (rb : Nat → Nat) (cb : Nat → Nat → Nat) (st : WSt) (w : World) (hb : Blk w bf 96 v.cells) (hx : Sl CeE okc w v.A v.n v.c cs)
    (hn : v.n ≤ 12) (hi : i ≤ v.n) (hA : v.bA = some ⟨ob, oo, none⟩) (hT : HTab ok w ob oo v.bn v.n rb cb st) (okr : Nat → Prop) (hr : Sl SyE okr w rA rn rcc l) (hs : ∀ s ∈ l, s.1 = false → s.2 < v.bn)
    (hl4 : rn ≤ 4) (hst : ∀ N i j, Bnd 2000000000 (st N i j)) :
    Calls Try.prog 48 #[.pointer (some ⟨bf, 0, none⟩), .agg #[.int .i64 (left : Int), .slice rA rn rcc], .int .i64 (i : Int)] w (HRuleP ok w v.n (foldRow (symH cs st) v.n i l)) := by
  have hmk := mk_hos v.n (by omega)
  have hlen := hr.len
  have lb := hb.lt
  have cb4 : w.cell? ⟨bf, 4, none⟩ = some (.slice v.A v.n v.c) := (hb.cell 4).trans rfl
  have hR := HRow.made (Yb ok w.heap.size (w.heap.size + 1)) (w.alloc (.cells #[.int .i64 (left : Int), .slice rA rn rcc] 47)) v.n
  rw [World.size_alloc] at hR
  have hW := (((Below.refl w.heap.size w).al (.cells #[.int .i64 (left : Int), .slice rA rn rcc] 47)).al (.cells (hoCells v.n) 72))
  have hbk := (Blk.new w 47 #[.int .i64 (left : Int), .slice rA rn rcc]).al (.cells (hoCells v.n) 72)
  have HR := Lib.hid hR
  have HW := Lib.hid hW
  have HBK := Lib.hid hbk
  have HB := Lib.hid hb
  have HX := Lib.hid hx
  have HT := Lib.hid hT
  have HS := Lib.hid hr
  have HSY := Lib.hid hs
  have HST := Lib.hid hst
  have HA := Lib.hid hA
  have HL := Lib.hid hlen
  have i0 : (0 : Int) ≤ (i : Int) := by omega
  have i1 : (i : Int) < (v.n : Int) + 1 := by omega
  clear hb hx hT hr hs hst hA hR hW hbk hlen
  go_enter Try.func48, Try.ntmps48
  go_upto_region 3 with fail
  generalize (w.alloc (.cells #[.int .i64 (left : Int), .slice rA rn rcc] 47)).alloc (.cells (hoCells v.n) 72) = W at *
  obtain ⟨vv, -, d0, d1, d2⟩ := HR.out.at_ hi
  have fr := HR.out.frozen
  have Bk := HBK.out
  have HRR := Lib.hid (show HRRel ok w v.n (w.heap.size + 1) #[.int .i64 (left : Int), .slice rA rn rcc] _ _ from ⟨HR.out.put hi (v := (0, (none, 0, 0), true)) (y := ⟨0, 0, [], true⟩) ⟨rfl, rfl, rfl, Sl.nil 0⟩ fun _ h => h.2, (heap_p3 (by omega)).trans HBK.out, below_p3 HW.out (by omega), by omega⟩)
  have ck : W.cell? ⟨w.heap.size, 1, none⟩ = some (.slice rA rn rcc) := (Bk.cell 1).trans rfl
  clear HR HW HBK Bk
  go_wp2_with fail
  clear d0 d1 d2 fr ck cb4 hmk
  have HR0 := Lib.hid (show HRRel ok w v.n (w.heap.size + 1) #[.int .i64 (left : Int), .slice rA rn rcc] (foldRow (symH cs st) v.n i (l.take 0)) (World.put3 W (w.heap.size + 1) (i * 3) (0, (none, 0, 0), true)) from HRR.out)
  clear HRR
  go_loopw [8, 31] (fun a q wr => ∃ m b : Nat, q = .int .i64 m ∧ m ≤ rn ∧ a = .slice (some ⟨b, 0, none⟩) (v.n + 1) (v.n + 1) ∧ HRRel ok w v.n b #[.int .i64 (left : Int), .slice rA rn rcc] (foldRow (symH cs st) v.n i (l.take m)) wr) (fun _ q _ => rn - (intOf q).toNat)
  case atStart => exact ⟨0, _, rfl, Nat.zero_le _, rfl, HR0.out⟩
  case round =>
    obtain ⟨m, b, rfl, hm, rfl, hrr⟩ := hrel
    clear HR0
    by_cases hlt : m < rn
    · obtain ⟨b1, o1, sx, sy, rfl, -, hbb, hy, hxy, hc⟩ := (HS.out.via hrr.bel).at_ hlt
      obtain rfl : sx = sy := hxy
      have c0 := hc 0 _ rfl
      have c1 := hc 1 _ rfl
      simp only [SyE, Nat.add_zero] at c0 c1
      have m0 : (0 : Int) ≤ (m : Int) := by omega
      have m1 : (m : Int) < (rn : Int) := by omega
      have HN := Lib.hid (hrr.next sx)
      have HTK := Lib.hid (show foldRow (symH cs st) v.n i (l.take (m + 1)) = rowK (foldRow (symH cs st) v.n i (l.take m)) (symH cs st sx) v.n i (v.n + 1 - i) by rw [take_at hy, foldRow_snoc])
      have HSX := Lib.hid (show sx.1 = false → sx.2 < v.bn from HSY.out sx (List.mem_of_getElem? hy))
      have hfb := Lib.hid (show ∀ k, Bnd 10000000000 (foldRow (symH cs st) v.n i (l.take m) k) from fun k => by
        have h := Bnd.foldRow (sym := symH cs st) (n := v.n) (i := i) (M := 2000000000) (by omega) (fun s k j => Bnd.symH (by omega) HST.out s k j) (l.take m) k
        refine h.mono ?_
        have hle : (l.take m).length ≤ 4 := by rw [List.length_take, HL.out]; omega
        omega)
      have hms := mk_hos v.n (by omega)
      clear hc hy hrr hbb
      go_upto_region 8 with fail
      clear c0 c1 hms
      generalize hbs : wr.heap.size = bs at *
      clear hbs
      generalize (wr.alloc (.cells #[.bool sx.1, .int .i64 (sx.2 : Int)] 45)).alloc (.cells (hoCells v.n) 72) = W2 at *
      obtain ⟨bn, hbn⟩ : ∃ bn, bn = bs + 1 := ⟨_, rfl⟩
      rw [← hbn] at HN ⊢
      clear hbn
      generalize foldRow (symH cs st) v.n i (l.take m) = fat at *
      obtain ⟨wo, rfl⟩ : ∃ wo : World, wo = wr := ⟨_, rfl⟩
      go_wp2_with fail
      go_loopw [12] (fun q wk => ∃ k : Nat, q = .int .i64 k ∧ i ≤ k ∧ k ≤ v.n + 1 ∧ HNRel ok w v.n b bn bs #[.int .i64 (left : Int), .slice (some ⟨b1, o1, none⟩) rn rcc] sx fat (rowK fat (symH cs st sx) v.n i (k - i)) wk) (fun q _ => v.n + 1 - (intOf q).toNat)
      case atStart => exact ⟨i, rfl, Nat.le_refl _, by omega, by rw [Nat.sub_self]; exact HN.out⟩
      case round =>
        obtain ⟨k, rfl, hik, hkn, hnr⟩ := hrel
        clear HN
        by_cases hk : k ≤ v.n
        · have k0 : (0 : Int) ≤ (k : Int) := by omega
          have k1 : (k : Int) < (v.n : Int) + 1 := by omega
          have HNR := Lib.hid hnr
          have HKK := Lib.hid (show k + 1 - i = (k - i) + 1 by omega)
          have HIK := Lib.hid (show i + (k - i) = k by omega)
          cases hok : (fat k).ok with
          | false =>
            have HROW := Lib.hid (show rowK fat (symH cs st sx) v.n i (k + 1 - i) = rowK fat (symH cs st sx) v.n i (k - i) by rw [HKK.out, rowK, HIK.out, if_neg (by simp [hok])])
            clear hnr
            have HOK := Lib.hid hok
            generalize rowK fat (symH cs st sx) v.n i (k - i) = fnx at *
            clear hok HKK HIK
            obtain ⟨wp, rfl⟩ : ∃ wp : World, wp = wr := ⟨_, rfl⟩
            go_wp2_with fail
            go_loopw [13] (fun q wj => q = .int .i64 (k : Int) ∧ HNRel ok w v.n b bn bs #[.int .i64 (left : Int), .slice (some ⟨b1, o1, none⟩) rn rcc] sx fat fnx wj) (fun q _ => 0)
            case atStart => exact ⟨rfl, HNR.out⟩
            case round =>
              obtain ⟨rfl, hnj⟩ := hrel
              clear HNR
              obtain ⟨⟨as_, ⟨aA, an, acc⟩, ao⟩, ha, a0, a1, a2⟩ := hnj.hat.at_ hk
              obtain rfl : ao = false := ha.2.1.trans HOK.out
              simp only at a0 a1 a2
              have HF := Lib.hid hnj
              clear hnj ha a0 a1
              go_wp2_with fail
              exact ⟨⟨k + 1, by go_num, by omega, by omega, by rw [HROW.out]; exact HF.out⟩, by simp [intOf]; omega⟩
          | true =>
            have HROW := Lib.hid (show rowK fat (symH cs st sx) v.n i (k + 1 - i) = rowJ (fat k) (symH cs st sx k) k (rowK fat (symH cs st sx) v.n i (k - i)) (v.n + 1 - k) by rw [HKK.out, rowK, HIK.out, if_pos hok])
            have HOK := Lib.hid hok
            generalize rowK fat (symH cs st sx) v.n i (k - i) = fnx at *
            clear hnr hok HKK HIK
            obtain ⟨wp, rfl⟩ : ∃ wp : World, wp = wr := ⟨_, rfl⟩
            go_wp2_with fail
            go_loopw [13] (fun q wj => ∃ j : Nat, q = .int .i64 j ∧ k ≤ j ∧ j ≤ v.n + 1 ∧ HNRel ok w v.n b bn bs #[.int .i64 (left : Int), .slice (some ⟨b1, o1, none⟩) rn rcc] sx fat (rowJ (fat k) (symH cs st sx k) k fnx (j - k)) wj) (fun q _ => v.n + 1 - (intOf q).toNat)
            case atStart => exact ⟨k, rfl, Nat.le_refl _, by omega, by rw [Nat.sub_self]; exact HNR.out⟩
            case round =>
              obtain ⟨j, rfl, hkj, hjn, hnj⟩ := hrel
              clear HNR
              by_cases hj : j ≤ v.n
              · have j0 : (0 : Int) ≤ (j : Int) := by omega
                have j1 : (j : Int) < (v.n : Int) + 1 := by omega
                have HJJ := Lib.hid (show rowJ (fat k) (symH cs st sx k) k fnx (j + 1 - k) = goJ (fat k) (symH cs st sx k j) (rowJ (fat k) (symH cs st sx k) k fnx (j - k)) j by
                  rw [show j + 1 - k = (j - k) + 1 by omega, rowJ, show k + (j - k) = j by omega])
                generalize rowJ (fat k) (symH cs st sx k) k fnx (j - k) = fj at *
                obtain ⟨⟨as_, ⟨aA, an, acc⟩, ao⟩, ha, a0, a1, a2⟩ := hnj.hat.at_ hk
                obtain rfl : ao = true := ha.2.1.trans HOK.out
                simp only at a0 a1 a2
                have HNJ := Lib.hid hnj
                clear hnj ha a0 a1
                obtain ⟨wq, rfl⟩ : ∃ wq : World, wq = wr := ⟨_, rfl⟩
                have Bsb := HNJ.out.hsb
                have cBsb := Bsb.cell
                have fBsb := Bsb.frozen
                have lBsb := Bsb.lt
                go_wp2_with fail
                clear cBsb fBsb lBsb
                clear a2
                refine (hsymbol_c ok okc bf v cs sx k j oo ob rb cb st wq (HB.out.via HNJ.out.bel) (HX.out.via HNJ.out.bel) hn hkj hj HA.out (HT.out.via HNJ.out.bel) HSX.out).mono ?_
                rintro e w3 ⟨⟨xs_, ⟨xA, xn, xcc⟩, xo⟩, rfl, hxr, hb3⟩
                dsimp only [hoVal]
                have HXB := Lib.hid (show Bnd 10000000000 (symH cs st sx k j) from (Bnd.symH (by omega) HST.out sx k j).mono (by omega))
                generalize symH cs st sx k j = X at *
                have N3 := (HNJ.out.via hb3).via ((Below.refl w3.heap.size w3).al (.cells #[.int .i64 xs_, .slice xA xn xcc, .bool xo] 72))
                have Bx := Blk.new w3 72 #[.int .i64 xs_, .slice xA xn xcc, .bool xo]
                have hxr := hxr.al (.cells #[.int .i64 xs_, .slice xA xn xcc, .bool xo] 72)
                have HLO := Lib.hid (show w.heap.size ≤ wq.heap.size from HNJ.out.bel.size)
                have HLB := Lib.hid (show b < wq.heap.size ∧ bn < wq.heap.size from ⟨HNJ.out.hat.lt, HNJ.out.hnx.lt⟩)
                clear hb3 HNJ
                go_upto_region 15 with fail
                generalize w3.alloc (.cells #[.int .i64 xs_, .slice xA xn xcc, .bool xo] 72) = W3 at *
                generalize w3.heap.size = bx at *
                obtain ⟨⟨as_, ⟨aA, an, acc⟩, ao⟩, ha, a0, a1, a2⟩ := N3.hat.at_ hk
                obtain rfl : ao = true := ha.2.1.trans HOK.out
                obtain ⟨⟨ts, ⟨tA, tn, tcc⟩, tk⟩, ht, t0, t1, t2⟩ := N3.hnx.at_ hj
                simp only at a0 a1 a2 t0 t1 t2
                have lA := N3.hat.lt
                have lN := N3.hnx.lt
                have HHP := Lib.hid (show hopeW (fat k) X (fj j) = (!xo || (tk && decide (ts < as_ + xs_))) by rw [hope_zero HOK.out ha.2.2.1 hxr.2.2.1 ht.2.2.1, show xo = X.ok from hxr.2.1, show tk = (fj j).ok from ht.2.1, show ts = (fj j).size from ht.1, show as_ = (fat k).size from ha.1, show xs_ = X.size from hxr.1])
                have kS : IntKind.i64.wrap (as_ + xs_) = as_ + xs_ := IntWalk.i64_in _ (by
                  have q1 := (hfb.out k).s0; have q2 := (hfb.out k).s1; have q3 := HXB.out.s0; have q4 := HXB.out.s1
                  have q5 : as_ = (fat k).size := ha.1
                  have q6 : xs_ = X.size := hxr.1
                  omega)
                have FA := Lib.hid (show ∀ w', Below W3.heap.size W3 w' → HoR _ w' (as_, (aA, an, acc), true) (fat k) from fun w' hb => ha.via hb)
                have FT := Lib.hid (show ∀ w', Below W3.heap.size W3 w' → HoR _ w' (ts, (tA, tn, tcc), tk) (fj j) from fun w' hb => ht.via hb)
                have FX := Lib.hid (show ∀ w', Below W3.heap.size W3 w' → HoR _ w' (xs_, (xA, xn, xcc), xo) X from fun w' hb => hxr.via hb)
                have N3H := Lib.hid N3
                have HXR := Lib.hid hxr
                have cX := Bx.cell
                clear N3 ha ht hxr
                cases xo with
                | false =>
                  have HH := Lib.hid (show hopeW (fat k) X (fj j) = true by rw [HHP.out]; rfl)
                  clear a0 a1 a2 t0 t1 t2 HHP Bx
                  go_quiet (fail)
                  have HF := Lib.hid (N3H.out.via (below_drewN (Below.refl W3.heap.size W3) nq))
                  have HJ2 := Lib.hid (show rowJ (fat k) (symH cs st sx k) k fnx (j + 1 - k) = fj by rw [HJJ.out, goJ, if_pos HH.out])
                  clear cX kS
                  generalize W3.drewN nq = wn at *
                  go_wp2_with fail
                  exact ⟨⟨j + 1, by go_num, by omega, by omega, by rw [HJ2.out]; exact HF.out⟩, by simp [intOf]; omega⟩
                | true =>
                  have SO2 := Lib.hid (show ∀ w', Below W3.heap.size W3 w' → (w'.cell? ⟨b, k * 3, none⟩ = some (.int .i64 as_) ∧ w'.cell? ⟨b, k * 3 + 1, none⟩ = some (.slice aA an acc) ∧ w'.cell? ⟨b, k * 3 + 2, none⟩ = some (.bool true) ∧ (∀ i, w'.cell? ⟨bx, i, none⟩ = #[.int .i64 xs_, .slice xA xn xcc, .bool true][i]?) ∧ Below W3.heap.size W3 w') from fun w' hb =>
                    ⟨(hb.cell (p := ⟨b, k * 3, none⟩) lA).trans a0, (hb.cell (p := ⟨b, k * 3 + 1, none⟩) lA).trans a1, (hb.cell (p := ⟨b, k * 3 + 2, none⟩) lA).trans a2, (Bx.via hb).cell, hb⟩)
                  have SOF := Lib.hid True.intro
                  cases tk with
                  | false =>
                    have HH := Lib.hid (show hopeW (fat k) X (fj j) = false by rw [HHP.out]; rfl)
                    clear a0 a1 a2 t0 t1 HHP Bx
                    go_quiet (fail)
                    have hbm : Below W3.heap.size W3 (W3.drewN nq) := below_drewN (Below.refl W3.heap.size W3) nq
                    clear cX kS t2
                    generalize W3.drewN nq = wn at *
                    have HBM := Lib.hid hbm
                    have hb1 : Below W3.heap.size W3 wn.drew := hbm.drew
                    have hsz : W3.heap.size ≤ wn.heap.size := hbm.size
                    go_upto_region 16 with fail
                    go_region_held3 (fun w' => w'.cell? ⟨b, k * 3, none⟩ = some (.int .i64 as_) ∧ w'.cell? ⟨b, k * 3 + 1, none⟩ = some (.slice aA an acc) ∧ w'.cell? ⟨b, k * 3 + 2, none⟩ = some (.bool true) ∧ (∀ i, w'.cell? ⟨bx, i, none⟩ = #[.int .i64 xs_, .slice xA xn xcc, .bool true][i]?) ∧ Below W3.heap.size W3 w') (exact SO2.out _ (by first | assumption | exact (hbm.al _).drew | exact Below.al (by assumption) _ | exact ((Below.setCell (by assumption) hsz _).setCell hsz _).setCell hsz _)) (first
                      | (go_at_call 66; (with_reducible refine (hthen_c _ _ as_ aA an acc true xs_ xA xn xcc true (fat k) X wn.drew (FA.out _ hb1) (FX.out _ hb1) (hfb.out k) HXB.out).mono ?_); rintro ee wm ⟨⟨ys, ⟨yA, yn, ycc⟩, yo⟩, rfl, hyr, hbk⟩; have hbz : Below W3.heap.size W3 wm := Below.via hb1 hbk; dsimp only [hoVal])
                      | (go_at_call 66; (with_reducible refine (hthen_c _ _ as_ aA an acc true xs_ xA xn xcc true (fat k) X (wn.alloc (.cells #[.int .i64 0, .slice none 0 0, .bool false] 72)).drew (FA.out _ (hbm.al _).drew) (FX.out _ (hbm.al _).drew) (hfb.out k) HXB.out).mono ?_); rintro ee wm ⟨⟨ys, ⟨yA, yn, ycc⟩, yo⟩, rfl, hyr, hbk⟩; have hbz : Below W3.heap.size W3 wm := Below.via (hbm.al _).drew hbk; have cN := ((Blk.new wn 72 #[.int .i64 0, .slice none 0 0, .bool false]).dr.via hbk).cell; have fN := ((Blk.new wn 72 #[.int .i64 0, .slice none 0 0, .bool false]).dr.via hbk).frozen; have lN2 := ((Blk.new wn 72 #[.int .i64 0, .slice none 0 0, .bool false]).dr.via hbk).lt; dsimp only [hoVal]))
                    · have YC := Lib.hid (HYCut.way1 (yv := (ys, (yA, yn, ycc), yo)) (N3H.out.via HBM.out) (((Below.refl wn.heap.size wn).drew).via hbk) hyr)
                      clear hbk hyr hbz hb1
                      generalize wm.alloc (.cells #[.int .i64 ys, .slice yA yn ycc, .bool yo] 72) = WY at *
                      generalize wm.heap.size = bY at *
                      clear SOF SO2 FA FT FX N3H HBM hbm hsz HXR HLO HLB
                      have hyl : (thenW (fat k) X).w.length ≤ 2000 := ((hfb.out k).then_ HXB.out).short
                      have HYL := Lib.hid hyl
                      obtain ⟨⟨ts2, ⟨tA2, tn2, tcc2⟩, tk2⟩, ht2, t0, t1, t2⟩ := YC.out.rel.hnx.at_ hj
                      simp only at t0 t1 t2
                      have lN := YC.out.rel.hnx.lt
                      have SO3 := Lib.hid (show ∀ w', Below WY.heap.size WY w' → ((∀ i, w'.cell? ⟨bY, i, none⟩ = #[.int .i64 ys, .slice yA yn ycc, .bool yo][i]?) ∧ w'.cell? ⟨bn, j * 3, none⟩ = some (.int .i64 ts2) ∧ w'.cell? ⟨bn, j * 3 + 1, none⟩ = some (.slice tA2 tn2 tcc2) ∧ w'.cell? ⟨bn, j * 3 + 2, none⟩ = some (.bool tk2) ∧ Below WY.heap.size WY w') from fun w' hb => ⟨(YC.out.blk.via hb).cell, (hb.cell (p := ⟨bn, j * 3, none⟩) lN).trans t0, (hb.cell (p := ⟨bn, j * 3 + 1, none⟩) lN).trans t1, (hb.cell (p := ⟨bn, j * 3 + 2, none⟩) lN).trans t2, hb⟩)
                      have FY := Lib.hid (show ∀ w', Below WY.heap.size WY w' → HoR (Y2 ok w.heap.size b bn) w' (ys, (yA, yn, ycc), yo) (thenW (fat k) X) from fun w' hb => YC.out.way.via hb)
                      have FT := Lib.hid (show ∀ w', Below WY.heap.size WY w' → HoR _ w' (ts2, (tA2, tn2, tcc2), tk2) (fj j) from fun w' hb => ht2.via hb)
                      clear t0 t1 t2 ht2 hyl
                      go_upto_region 17 with fail
                      have hb0 := (Below.refl WY.heap.size WY).drew
                      cases hl2 : lessW (thenW (fat k) X) (fj j) with
                      | true =>
                        have HL2 := Lib.hid hl2
                        clear hl2
                        go_region_held3 (fun w' => (∀ i, w'.cell? ⟨bY, i, none⟩ = #[.int .i64 ys, .slice yA yn ycc, .bool yo][i]?) ∧ w'.cell? ⟨bn, j * 3, none⟩ = some (.int .i64 ts2) ∧ w'.cell? ⟨bn, j * 3 + 1, none⟩ = some (.slice tA2 tn2 tcc2) ∧ w'.cell? ⟨bn, j * 3 + 2, none⟩ = some (.bool tk2) ∧ Below WY.heap.size WY w') (exact SO3.out _ (by assumption)) (first
                          | (go_at_call 49; (with_reducible refine (hless_b _ _ ys yA yn ycc yo ts2 tA2 tn2 tcc2 tk2 (thenW (fat k) X) (fj j) true _ (FY.out _ (by assumption)) (FT.out _ (by assumption)) HYL.out HL2.out).mono ?_); rintro ee wl ⟨rfl, hbl⟩; have hbz : Below WY.heap.size WY wl := Below.via (by assumption) hbl))
                        obtain ⟨s1, t0, t1, t2, -⟩ := SO3.out wl hbz
                        have NF := Lib.hid (YC.out.rel.via hbz)
                        have fr := NF.out.hnx.frozen
                        have HF := Lib.hid (NF.out.put hj (FY.out wl hbz))
                        have HJ2 := Lib.hid (show rowJ (fat k) (symH cs st sx k) k fnx (j + 1 - k) = upd fj j (thenW (fat k) X) by rw [HJJ.out, goJ, if_neg (by rw [HH.out]; simp), if_pos HL2.out])
                        clear hb0 hbl hbz
                        go_wp2_with fail
                        exact ⟨⟨j + 1, by go_num, by omega, by omega, by rw [HJ2.out]; exact HF.out⟩, by simp [intOf]; omega⟩
                      | false =>
                        have HL2 := Lib.hid hl2
                        clear hl2
                        go_region_held3 (fun w' => (∀ i, w'.cell? ⟨bY, i, none⟩ = #[.int .i64 ys, .slice yA yn ycc, .bool yo][i]?) ∧ w'.cell? ⟨bn, j * 3, none⟩ = some (.int .i64 ts2) ∧ w'.cell? ⟨bn, j * 3 + 1, none⟩ = some (.slice tA2 tn2 tcc2) ∧ w'.cell? ⟨bn, j * 3 + 2, none⟩ = some (.bool tk2) ∧ Below WY.heap.size WY w') (exact SO3.out _ (by assumption)) (first
                          | (go_at_call 49; (with_reducible refine (hless_b _ _ ys yA yn ycc yo ts2 tA2 tn2 tcc2 tk2 (thenW (fat k) X) (fj j) false _ (FY.out _ (by assumption)) (FT.out _ (by assumption)) HYL.out HL2.out).mono ?_); rintro ee wl ⟨rfl, hbl⟩; have hbz : Below WY.heap.size WY wl := Below.via (by assumption) hbl))
                        have HF := Lib.hid (YC.out.rel.via hbz)
                        have HJ2 := Lib.hid (show rowJ (fat k) (symH cs st sx k) k fnx (j + 1 - k) = fj by rw [HJJ.out, goJ, if_neg (by rw [HH.out]; simp), if_neg (by rw [HL2.out]; simp)])
                        clear hb0 hbl hbz
                        go_wp2_with fail
                        exact ⟨⟨j + 1, by go_num, by omega, by omega, by rw [HJ2.out]; exact HF.out⟩, by simp [intOf]; omega⟩
                    · have YC := Lib.hid (HYCut.way2 (yv := (ys, (yA, yn, ycc), yo)) (N3H.out.via HBM.out) (by have := hbk; rw [show (wn.alloc (.cells #[.int .i64 0, .slice none 0 0, .bool false] 72)).drew.heap.size = wn.heap.size + 1 from World.size_alloc _ _] at this; exact ((Below.refl (wn.heap.size + 1) _).drew).trans this) (by have := hyr; rw [show (wn.alloc (.cells #[.int .i64 0, .slice none 0 0, .bool false] 72)).drew.heap.size = wn.heap.size + 1 from World.size_alloc _ _] at this; exact this))
                      clear hbk hyr hbz hb1 cN fN lN2
                      simp only [World.set3] at YC
                      generalize ((wm.setCell ⟨wn.heap.size, 0, none⟩ (.int .i64 ys)).setCell ⟨wn.heap.size, 1, none⟩ (.slice yA yn ycc)).setCell ⟨wn.heap.size, 2, none⟩ (.bool yo) = WY at *
                      generalize wn.heap.size = bY at *
                      clear SOF SO2 FA FT FX N3H HBM hbm hsz HXR HLO HLB
                      have hyl : (thenW (fat k) X).w.length ≤ 2000 := ((hfb.out k).then_ HXB.out).short
                      have HYL := Lib.hid hyl
                      obtain ⟨⟨ts2, ⟨tA2, tn2, tcc2⟩, tk2⟩, ht2, t0, t1, t2⟩ := YC.out.rel.hnx.at_ hj
                      simp only at t0 t1 t2
                      have lN := YC.out.rel.hnx.lt
                      have SO3 := Lib.hid (show ∀ w', Below WY.heap.size WY w' → ((∀ i, w'.cell? ⟨bY, i, none⟩ = #[.int .i64 ys, .slice yA yn ycc, .bool yo][i]?) ∧ w'.cell? ⟨bn, j * 3, none⟩ = some (.int .i64 ts2) ∧ w'.cell? ⟨bn, j * 3 + 1, none⟩ = some (.slice tA2 tn2 tcc2) ∧ w'.cell? ⟨bn, j * 3 + 2, none⟩ = some (.bool tk2) ∧ Below WY.heap.size WY w') from fun w' hb => ⟨(YC.out.blk.via hb).cell, (hb.cell (p := ⟨bn, j * 3, none⟩) lN).trans t0, (hb.cell (p := ⟨bn, j * 3 + 1, none⟩) lN).trans t1, (hb.cell (p := ⟨bn, j * 3 + 2, none⟩) lN).trans t2, hb⟩)
                      have FY := Lib.hid (show ∀ w', Below WY.heap.size WY w' → HoR (Y2 ok w.heap.size b bn) w' (ys, (yA, yn, ycc), yo) (thenW (fat k) X) from fun w' hb => YC.out.way.via hb)
                      have FT := Lib.hid (show ∀ w', Below WY.heap.size WY w' → HoR _ w' (ts2, (tA2, tn2, tcc2), tk2) (fj j) from fun w' hb => ht2.via hb)
                      clear t0 t1 t2 ht2 hyl
                      go_upto_region 17 with fail
                      have hb0 := (Below.refl WY.heap.size WY).drew
                      cases hl2 : lessW (thenW (fat k) X) (fj j) with
                      | true =>
                        have HL2 := Lib.hid hl2
                        clear hl2
                        go_region_held3 (fun w' => (∀ i, w'.cell? ⟨bY, i, none⟩ = #[.int .i64 ys, .slice yA yn ycc, .bool yo][i]?) ∧ w'.cell? ⟨bn, j * 3, none⟩ = some (.int .i64 ts2) ∧ w'.cell? ⟨bn, j * 3 + 1, none⟩ = some (.slice tA2 tn2 tcc2) ∧ w'.cell? ⟨bn, j * 3 + 2, none⟩ = some (.bool tk2) ∧ Below WY.heap.size WY w') (exact SO3.out _ (by assumption)) (first
                          | (go_at_call 49; (with_reducible refine (hless_b _ _ ys yA yn ycc yo ts2 tA2 tn2 tcc2 tk2 (thenW (fat k) X) (fj j) true _ (FY.out _ (by assumption)) (FT.out _ (by assumption)) HYL.out HL2.out).mono ?_); rintro ee wl ⟨rfl, hbl⟩; have hbz : Below WY.heap.size WY wl := Below.via (by assumption) hbl))
                        obtain ⟨s1, t0, t1, t2, -⟩ := SO3.out wl hbz
                        have NF := Lib.hid (YC.out.rel.via hbz)
                        have fr := NF.out.hnx.frozen
                        have HF := Lib.hid (NF.out.put hj (FY.out wl hbz))
                        have HJ2 := Lib.hid (show rowJ (fat k) (symH cs st sx k) k fnx (j + 1 - k) = upd fj j (thenW (fat k) X) by rw [HJJ.out, goJ, if_neg (by rw [HH.out]; simp), if_pos HL2.out])
                        clear hb0 hbl hbz
                        go_wp2_with fail
                        exact ⟨⟨j + 1, by go_num, by omega, by omega, by rw [HJ2.out]; exact HF.out⟩, by simp [intOf]; omega⟩
                      | false =>
                        have HL2 := Lib.hid hl2
                        clear hl2
                        go_region_held3 (fun w' => (∀ i, w'.cell? ⟨bY, i, none⟩ = #[.int .i64 ys, .slice yA yn ycc, .bool yo][i]?) ∧ w'.cell? ⟨bn, j * 3, none⟩ = some (.int .i64 ts2) ∧ w'.cell? ⟨bn, j * 3 + 1, none⟩ = some (.slice tA2 tn2 tcc2) ∧ w'.cell? ⟨bn, j * 3 + 2, none⟩ = some (.bool tk2) ∧ Below WY.heap.size WY w') (exact SO3.out _ (by assumption)) (first
                          | (go_at_call 49; (with_reducible refine (hless_b _ _ ys yA yn ycc yo ts2 tA2 tn2 tcc2 tk2 (thenW (fat k) X) (fj j) false _ (FY.out _ (by assumption)) (FT.out _ (by assumption)) HYL.out HL2.out).mono ?_); rintro ee wl ⟨rfl, hbl⟩; have hbz : Below WY.heap.size WY wl := Below.via (by assumption) hbl))
                        have HF := Lib.hid (YC.out.rel.via hbz)
                        have HJ2 := Lib.hid (show rowJ (fat k) (symH cs st sx k) k fnx (j + 1 - k) = fj by rw [HJJ.out, goJ, if_neg (by rw [HH.out]; simp), if_neg (by rw [HL2.out]; simp)])
                        clear hb0 hbl hbz
                        go_wp2_with fail
                        exact ⟨⟨j + 1, by go_num, by omega, by omega, by rw [HJ2.out]; exact HF.out⟩, by simp [intOf]; omega⟩
                  | true =>
                    by_cases hle : as_ + xs_ ≤ ts
                    · have HH := Lib.hid (show hopeW (fat k) X (fj j) = false by rw [HHP.out]; simp; exact hle)
                      have e2 : decide (as_ + xs_ ≤ ts) = true := by simpa using hle
                      clear a1 a2 t1 HHP Bx hle
                      go_quiet (fail)
                      have hbm : Below W3.heap.size W3 (W3.drewN nq) := below_drewN (Below.refl W3.heap.size W3) nq
                      clear cX kS t2 e2 a0 t0
                      generalize W3.drewN nq = wn at *
                      have HBM := Lib.hid hbm
                      have hb1 : Below W3.heap.size W3 wn.drew := hbm.drew
                      have hsz : W3.heap.size ≤ wn.heap.size := hbm.size
                      go_upto_region 16 with fail
                      go_region_held3 (fun w' => w'.cell? ⟨b, k * 3, none⟩ = some (.int .i64 as_) ∧ w'.cell? ⟨b, k * 3 + 1, none⟩ = some (.slice aA an acc) ∧ w'.cell? ⟨b, k * 3 + 2, none⟩ = some (.bool true) ∧ (∀ i, w'.cell? ⟨bx, i, none⟩ = #[.int .i64 xs_, .slice xA xn xcc, .bool true][i]?) ∧ Below W3.heap.size W3 w') (exact SO2.out _ (by first | assumption | exact (hbm.al _).drew | exact Below.al (by assumption) _ | exact ((Below.setCell (by assumption) hsz _).setCell hsz _).setCell hsz _)) (first
                        | (go_at_call 66; (with_reducible refine (hthen_c _ _ as_ aA an acc true xs_ xA xn xcc true (fat k) X wn.drew (FA.out _ hb1) (FX.out _ hb1) (hfb.out k) HXB.out).mono ?_); rintro ee wm ⟨⟨ys, ⟨yA, yn, ycc⟩, yo⟩, rfl, hyr, hbk⟩; have hbz : Below W3.heap.size W3 wm := Below.via hb1 hbk; dsimp only [hoVal])
                        | (go_at_call 66; (with_reducible refine (hthen_c _ _ as_ aA an acc true xs_ xA xn xcc true (fat k) X (wn.alloc (.cells #[.int .i64 0, .slice none 0 0, .bool false] 72)).drew (FA.out _ (hbm.al _).drew) (FX.out _ (hbm.al _).drew) (hfb.out k) HXB.out).mono ?_); rintro ee wm ⟨⟨ys, ⟨yA, yn, ycc⟩, yo⟩, rfl, hyr, hbk⟩; have hbz : Below W3.heap.size W3 wm := Below.via (hbm.al _).drew hbk; have cN := ((Blk.new wn 72 #[.int .i64 0, .slice none 0 0, .bool false]).dr.via hbk).cell; have fN := ((Blk.new wn 72 #[.int .i64 0, .slice none 0 0, .bool false]).dr.via hbk).frozen; have lN2 := ((Blk.new wn 72 #[.int .i64 0, .slice none 0 0, .bool false]).dr.via hbk).lt; dsimp only [hoVal]))
                      · have YC := Lib.hid (HYCut.way1 (yv := (ys, (yA, yn, ycc), yo)) (N3H.out.via HBM.out) (((Below.refl wn.heap.size wn).drew).via hbk) hyr)
                        clear hbk hyr hbz hb1
                        generalize wm.alloc (.cells #[.int .i64 ys, .slice yA yn ycc, .bool yo] 72) = WY at *
                        generalize wm.heap.size = bY at *
                        clear SOF SO2 FA FT FX N3H HBM hbm hsz HXR HLO HLB
                        have hyl : (thenW (fat k) X).w.length ≤ 2000 := ((hfb.out k).then_ HXB.out).short
                        have HYL := Lib.hid hyl
                        obtain ⟨⟨ts2, ⟨tA2, tn2, tcc2⟩, tk2⟩, ht2, t0, t1, t2⟩ := YC.out.rel.hnx.at_ hj
                        simp only at t0 t1 t2
                        have lN := YC.out.rel.hnx.lt
                        have SO3 := Lib.hid (show ∀ w', Below WY.heap.size WY w' → ((∀ i, w'.cell? ⟨bY, i, none⟩ = #[.int .i64 ys, .slice yA yn ycc, .bool yo][i]?) ∧ w'.cell? ⟨bn, j * 3, none⟩ = some (.int .i64 ts2) ∧ w'.cell? ⟨bn, j * 3 + 1, none⟩ = some (.slice tA2 tn2 tcc2) ∧ w'.cell? ⟨bn, j * 3 + 2, none⟩ = some (.bool tk2) ∧ Below WY.heap.size WY w') from fun w' hb => ⟨(YC.out.blk.via hb).cell, (hb.cell (p := ⟨bn, j * 3, none⟩) lN).trans t0, (hb.cell (p := ⟨bn, j * 3 + 1, none⟩) lN).trans t1, (hb.cell (p := ⟨bn, j * 3 + 2, none⟩) lN).trans t2, hb⟩)
                        have FY := Lib.hid (show ∀ w', Below WY.heap.size WY w' → HoR (Y2 ok w.heap.size b bn) w' (ys, (yA, yn, ycc), yo) (thenW (fat k) X) from fun w' hb => YC.out.way.via hb)
                        have FT := Lib.hid (show ∀ w', Below WY.heap.size WY w' → HoR _ w' (ts2, (tA2, tn2, tcc2), tk2) (fj j) from fun w' hb => ht2.via hb)
                        clear t0 t1 t2 ht2 hyl
                        go_upto_region 17 with fail
                        have hb0 := (Below.refl WY.heap.size WY).drew
                        cases hl2 : lessW (thenW (fat k) X) (fj j) with
                        | true =>
                          have HL2 := Lib.hid hl2
                          clear hl2
                          go_region_held3 (fun w' => (∀ i, w'.cell? ⟨bY, i, none⟩ = #[.int .i64 ys, .slice yA yn ycc, .bool yo][i]?) ∧ w'.cell? ⟨bn, j * 3, none⟩ = some (.int .i64 ts2) ∧ w'.cell? ⟨bn, j * 3 + 1, none⟩ = some (.slice tA2 tn2 tcc2) ∧ w'.cell? ⟨bn, j * 3 + 2, none⟩ = some (.bool tk2) ∧ Below WY.heap.size WY w') (exact SO3.out _ (by assumption)) (first
                            | (go_at_call 49; (with_reducible refine (hless_b _ _ ys yA yn ycc yo ts2 tA2 tn2 tcc2 tk2 (thenW (fat k) X) (fj j) true _ (FY.out _ (by assumption)) (FT.out _ (by assumption)) HYL.out HL2.out).mono ?_); rintro ee wl ⟨rfl, hbl⟩; have hbz : Below WY.heap.size WY wl := Below.via (by assumption) hbl))
                          obtain ⟨s1, t0, t1, t2, -⟩ := SO3.out wl hbz
                          have NF := Lib.hid (YC.out.rel.via hbz)
                          have fr := NF.out.hnx.frozen
                          have HF := Lib.hid (NF.out.put hj (FY.out wl hbz))
                          have HJ2 := Lib.hid (show rowJ (fat k) (symH cs st sx k) k fnx (j + 1 - k) = upd fj j (thenW (fat k) X) by rw [HJJ.out, goJ, if_neg (by rw [HH.out]; simp), if_pos HL2.out])
                          clear hb0 hbl hbz
                          go_wp2_with fail
                          exact ⟨⟨j + 1, by go_num, by omega, by omega, by rw [HJ2.out]; exact HF.out⟩, by simp [intOf]; omega⟩
                        | false =>
                          have HL2 := Lib.hid hl2
                          clear hl2
                          go_region_held3 (fun w' => (∀ i, w'.cell? ⟨bY, i, none⟩ = #[.int .i64 ys, .slice yA yn ycc, .bool yo][i]?) ∧ w'.cell? ⟨bn, j * 3, none⟩ = some (.int .i64 ts2) ∧ w'.cell? ⟨bn, j * 3 + 1, none⟩ = some (.slice tA2 tn2 tcc2) ∧ w'.cell? ⟨bn, j * 3 + 2, none⟩ = some (.bool tk2) ∧ Below WY.heap.size WY w') (exact SO3.out _ (by assumption)) (first
                            | (go_at_call 49; (with_reducible refine (hless_b _ _ ys yA yn ycc yo ts2 tA2 tn2 tcc2 tk2 (thenW (fat k) X) (fj j) false _ (FY.out _ (by assumption)) (FT.out _ (by assumption)) HYL.out HL2.out).mono ?_); rintro ee wl ⟨rfl, hbl⟩; have hbz : Below WY.heap.size WY wl := Below.via (by assumption) hbl))
                          have HF := Lib.hid (YC.out.rel.via hbz)
                          have HJ2 := Lib.hid (show rowJ (fat k) (symH cs st sx k) k fnx (j + 1 - k) = fj by rw [HJJ.out, goJ, if_neg (by rw [HH.out]; simp), if_neg (by rw [HL2.out]; simp)])
                          clear hb0 hbl hbz
                          go_wp2_with fail
                          exact ⟨⟨j + 1, by go_num, by omega, by omega, by rw [HJ2.out]; exact HF.out⟩, by simp [intOf]; omega⟩
                      · have YC := Lib.hid (HYCut.way2 (yv := (ys, (yA, yn, ycc), yo)) (N3H.out.via HBM.out) (by have := hbk; rw [show (wn.alloc (.cells #[.int .i64 0, .slice none 0 0, .bool false] 72)).drew.heap.size = wn.heap.size + 1 from World.size_alloc _ _] at this; exact ((Below.refl (wn.heap.size + 1) _).drew).trans this) (by have := hyr; rw [show (wn.alloc (.cells #[.int .i64 0, .slice none 0 0, .bool false] 72)).drew.heap.size = wn.heap.size + 1 from World.size_alloc _ _] at this; exact this))
                        clear hbk hyr hbz hb1 cN fN lN2
                        simp only [World.set3] at YC
                        generalize ((wm.setCell ⟨wn.heap.size, 0, none⟩ (.int .i64 ys)).setCell ⟨wn.heap.size, 1, none⟩ (.slice yA yn ycc)).setCell ⟨wn.heap.size, 2, none⟩ (.bool yo) = WY at *
                        generalize wn.heap.size = bY at *
                        clear SOF SO2 FA FT FX N3H HBM hbm hsz HXR HLO HLB
                        have hyl : (thenW (fat k) X).w.length ≤ 2000 := ((hfb.out k).then_ HXB.out).short
                        have HYL := Lib.hid hyl
                        obtain ⟨⟨ts2, ⟨tA2, tn2, tcc2⟩, tk2⟩, ht2, t0, t1, t2⟩ := YC.out.rel.hnx.at_ hj
                        simp only at t0 t1 t2
                        have lN := YC.out.rel.hnx.lt
                        have SO3 := Lib.hid (show ∀ w', Below WY.heap.size WY w' → ((∀ i, w'.cell? ⟨bY, i, none⟩ = #[.int .i64 ys, .slice yA yn ycc, .bool yo][i]?) ∧ w'.cell? ⟨bn, j * 3, none⟩ = some (.int .i64 ts2) ∧ w'.cell? ⟨bn, j * 3 + 1, none⟩ = some (.slice tA2 tn2 tcc2) ∧ w'.cell? ⟨bn, j * 3 + 2, none⟩ = some (.bool tk2) ∧ Below WY.heap.size WY w') from fun w' hb => ⟨(YC.out.blk.via hb).cell, (hb.cell (p := ⟨bn, j * 3, none⟩) lN).trans t0, (hb.cell (p := ⟨bn, j * 3 + 1, none⟩) lN).trans t1, (hb.cell (p := ⟨bn, j * 3 + 2, none⟩) lN).trans t2, hb⟩)
                        have FY := Lib.hid (show ∀ w', Below WY.heap.size WY w' → HoR (Y2 ok w.heap.size b bn) w' (ys, (yA, yn, ycc), yo) (thenW (fat k) X) from fun w' hb => YC.out.way.via hb)
                        have FT := Lib.hid (show ∀ w', Below WY.heap.size WY w' → HoR _ w' (ts2, (tA2, tn2, tcc2), tk2) (fj j) from fun w' hb => ht2.via hb)
                        clear t0 t1 t2 ht2 hyl
                        go_upto_region 17 with fail
                        have hb0 := (Below.refl WY.heap.size WY).drew
                        cases hl2 : lessW (thenW (fat k) X) (fj j) with
                        | true =>
                          have HL2 := Lib.hid hl2
                          clear hl2
                          go_region_held3 (fun w' => (∀ i, w'.cell? ⟨bY, i, none⟩ = #[.int .i64 ys, .slice yA yn ycc, .bool yo][i]?) ∧ w'.cell? ⟨bn, j * 3, none⟩ = some (.int .i64 ts2) ∧ w'.cell? ⟨bn, j * 3 + 1, none⟩ = some (.slice tA2 tn2 tcc2) ∧ w'.cell? ⟨bn, j * 3 + 2, none⟩ = some (.bool tk2) ∧ Below WY.heap.size WY w') (exact SO3.out _ (by assumption)) (first
                            | (go_at_call 49; (with_reducible refine (hless_b _ _ ys yA yn ycc yo ts2 tA2 tn2 tcc2 tk2 (thenW (fat k) X) (fj j) true _ (FY.out _ (by assumption)) (FT.out _ (by assumption)) HYL.out HL2.out).mono ?_); rintro ee wl ⟨rfl, hbl⟩; have hbz : Below WY.heap.size WY wl := Below.via (by assumption) hbl))
                          obtain ⟨s1, t0, t1, t2, -⟩ := SO3.out wl hbz
                          have NF := Lib.hid (YC.out.rel.via hbz)
                          have fr := NF.out.hnx.frozen
                          have HF := Lib.hid (NF.out.put hj (FY.out wl hbz))
                          have HJ2 := Lib.hid (show rowJ (fat k) (symH cs st sx k) k fnx (j + 1 - k) = upd fj j (thenW (fat k) X) by rw [HJJ.out, goJ, if_neg (by rw [HH.out]; simp), if_pos HL2.out])
                          clear hb0 hbl hbz
                          go_wp2_with fail
                          exact ⟨⟨j + 1, by go_num, by omega, by omega, by rw [HJ2.out]; exact HF.out⟩, by simp [intOf]; omega⟩
                        | false =>
                          have HL2 := Lib.hid hl2
                          clear hl2
                          go_region_held3 (fun w' => (∀ i, w'.cell? ⟨bY, i, none⟩ = #[.int .i64 ys, .slice yA yn ycc, .bool yo][i]?) ∧ w'.cell? ⟨bn, j * 3, none⟩ = some (.int .i64 ts2) ∧ w'.cell? ⟨bn, j * 3 + 1, none⟩ = some (.slice tA2 tn2 tcc2) ∧ w'.cell? ⟨bn, j * 3 + 2, none⟩ = some (.bool tk2) ∧ Below WY.heap.size WY w') (exact SO3.out _ (by assumption)) (first
                            | (go_at_call 49; (with_reducible refine (hless_b _ _ ys yA yn ycc yo ts2 tA2 tn2 tcc2 tk2 (thenW (fat k) X) (fj j) false _ (FY.out _ (by assumption)) (FT.out _ (by assumption)) HYL.out HL2.out).mono ?_); rintro ee wl ⟨rfl, hbl⟩; have hbz : Below WY.heap.size WY wl := Below.via (by assumption) hbl))
                          have HF := Lib.hid (YC.out.rel.via hbz)
                          have HJ2 := Lib.hid (show rowJ (fat k) (symH cs st sx k) k fnx (j + 1 - k) = fj by rw [HJJ.out, goJ, if_neg (by rw [HH.out]; simp), if_neg (by rw [HL2.out]; simp)])
                          clear hb0 hbl hbz
                          go_wp2_with fail
                          exact ⟨⟨j + 1, by go_num, by omega, by omega, by rw [HJ2.out]; exact HF.out⟩, by simp [intOf]; omega⟩
                    · have HH := Lib.hid (show hopeW (fat k) X (fj j) = true by rw [HHP.out]; simp; omega)
                      have e2 : decide (as_ + xs_ ≤ ts) = false := by simpa using hle
                      clear a1 a2 t1 HHP Bx hle
                      go_quiet (fail)
                      have HF := Lib.hid (N3H.out.via (below_drewN (Below.refl W3.heap.size W3) nq))
                      have HJ2 := Lib.hid (show rowJ (fat k) (symH cs st sx k) k fnx (j + 1 - k) = fj by rw [HJJ.out, goJ, if_pos HH.out])
                      clear cX kS t2 e2 a0 t0
                      generalize W3.drewN nq = wn at *
                      go_wp2_with fail
                      exact ⟨⟨j + 1, by go_num, by omega, by omega, by rw [HJ2.out]; exact HF.out⟩, by simp [intOf]; omega⟩
              · have HNJ0 := Lib.hid hnj
                have HJN := Lib.hid (show j = v.n + 1 by omega)
                clear hnj
                go_wp2_with fail
                exact ⟨⟨k + 1, by go_num, by omega, by omega, by rw [HROW.out, ← HJN.out]; exact HNJ0.out⟩, by simp [intOf]; omega⟩
        · have HF := Lib.hid hnr.back
          have HKN := Lib.hid (show k = v.n + 1 by omega)
          clear hnr
          go_wp2_with fail
          exact ⟨⟨m + 1, bn, by go_num, by omega, rfl, by rw [HTK.out, ← HKN.out]; exact HF.out⟩, by simp [intOf]; omega⟩
    · have HF := Lib.hid hrr
      have HMN := Lib.hid (show m = rn by omega)
      clear hrr
      go_wp2_with fail
      go_ret
      refine ⟨b, rfl, by have := HF.out.l1; omega, ?_, HF.out.bel⟩
      have e := HF.out.row
      rw [HMN.out, List.take_of_length_le (by rw [HL.out]; exact Nat.le_refl _)] at e
      exact e
end Go.Proofs.Ytdmecijpioljaaa

