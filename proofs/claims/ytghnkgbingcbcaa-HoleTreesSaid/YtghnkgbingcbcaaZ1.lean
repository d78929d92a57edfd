/- Texts ZD, ZE, ZF, ZG, ZH, ZI, laid together. -/
import Derived.Test.YtghnkgbingcbcaaP1
import Derived.Test.YtghnkgbingcbcaaC4



namespace Go.Proofs.Ytghnkgbingcbcaa
open Go.RowKit

/-! ### ints as elements; ways: cost, size, word, or none -/
def IntE : Elem Int Int where
  k := 1
  cells s := [.int .i64 s]
  rel _ _ r x := r = x
  pos := by omega
  len _ := rfl
  one r u hu := by simp at hu; subst hu; rfl
  agr h _ := h
  mono h _ := h
theorem Sl.ints {ok : Nat → Prop} {w : World} {A : Option Addr} {n c : Nat} {xs : List Int} (h : Sl IntE ok w A n c xs) : Ints w A n c xs := by
  refine ⟨h.len, h.le, fun hn => ?_⟩
  obtain ⟨b, off, r, x, e, -⟩ := h.at_ hn
  refine ⟨b, off, e, fun i hi => ?_⟩
  obtain ⟨b', off', r', x', e', _, _, hx, hr, hc⟩ := h.at_ hi
  rw [e] at e'
  obtain ⟨rfl, rfl⟩ : b = b' ∧ off = off' := by simpa using e'
  have := hc 0 (.int .i64 r') rfl
  simp only [IntE, Nat.mul_one, Nat.add_zero] at this
  rw [this, show r' = x' from hr, List.getD_eq_getElem?_getD, hx]
  rfl
theorem Ints.sl {ok : Nat → Prop} {w : World} {A : Option Addr} {n c : Nat} {xs : List Int} (h : Ints w A n c xs) (hk : ∀ b off, A = some ⟨b, off, none⟩ → 0 < n → ok b) : Sl IntE ok w A n c xs := by
  obtain ⟨h1, h2, h3⟩ := h
  refine ⟨h1, h2, xs, h1, fun hne => ?_, fun i r x hr hx => by rw [hr] at hx; exact Option.some.inj hx⟩
  have hfl : flat IntE xs = xs.map fun x => Value.int .i64 x := by
    unfold flat; clear h1 h3 hne
    induction xs with
    | nil => rfl
    | cons a l ih => rw [List.flatMap_cons, List.map_cons, ih]; rfl
  rw [hfl] at hne ⊢
  have hn : 0 < n := by
    rcases Nat.eq_zero_or_pos n with e | e
    · exfalso; apply hne; rw [List.length_eq_zero_iff.1 (h1.trans e)]; rfl
    · exact e
  obtain ⟨b, off, e, hc⟩ := h3 hn
  refine ⟨b, off, e, hk b off e hn, fun j u hu => ?_⟩
  have hj : j < xs.length := by have := (List.getElem?_eq_some_iff.1 hu).1; simpa using this
  rw [hc j (by omega), ← hu, List.getElem?_map, List.getD_eq_getElem?_getD, List.getElem?_eq_getElem hj]
  rfl
abbrev WyV := Int × Int × SlV × Bool
def WayE : Elem Way WyV where
  k := 4
  cells v := [.int .i64 v.1, .int .i64 v.2.1, .slice v.2.2.1.1 v.2.2.1.2.1 v.2.2.1.2.2, .bool v.2.2.2]
  rel ok w v x := v.1 = x.cost ∧ v.2.1 = x.size ∧ v.2.2.2 = x.ok ∧ Sl IntE ok w v.2.2.1.1 v.2.2.1.2.1 v.2.2.1.2.2 x.w
  pos := by omega
  len _ := rfl
  one r u hu := by simp at hu; rcases hu with rfl | rfl | rfl | rfl <;> rfl
  agr h k := ⟨h.1, h.2.1, h.2.2.1, h.2.2.2.agr k⟩
  mono h k := ⟨h.1, h.2.1, h.2.2.1, h.2.2.2.mono k⟩
def WayR (ok : Nat → Prop) (w : World) (v : WyV) (x : Way) : Prop := WayE.rel ok w v x
theorem WayR.agr {ok : Nat → Prop} {w w' : World} {v : WyV} {x : Way} (h : WayR ok w v x) (k : Agr ok w w') : WayR ok w' v x := WayE.agr h k
theorem WayR.via {ok : Nat → Prop} {w w' : World} {v : WyV} {x : Way} (h : WayR ok w v x) (k : Below w.heap.size w w') : WayR ok w' v x := WayE.agr h (Agr.below k)
theorem WayR.al {ok : Nat → Prop} {w : World} {v : WyV} {x : Way} (h : WayR ok w v x) (o : Obj) : WayR ok (w.alloc o) v x := h.via ((Below.refl w.heap.size w).alloc (Nat.le_refl _) o)
theorem WayR.dr {ok : Nat → Prop} {w : World} {v : WyV} {x : Way} (h : WayR ok w v x) : WayR ok w.drew v x := h.via ((Below.refl w.heap.size w).drew)
theorem WayR.mono {ok ok' : Nat → Prop} {w : World} {v : WyV} {x : Way} (h : WayR ok w v x) (k : ∀ b, b < w.heap.size → ok b → ok' b) : WayR ok' w v x := WayE.mono h k
def wyVal (v : WyV) : Value := .agg #[.int .i64 v.1, .int .i64 v.2.1, .slice v.2.2.1.1 v.2.2.1.2.1 v.2.2.1.2.2, .bool v.2.2.2]

def TellB (w : World) (b : Bool) (e : Ending) (w' : World) : Prop := e = .returned (.bool b) ∧ Below w.heap.size w w'
set_option maxRecDepth 100000 in
set_option maxHeartbeats 4000000 in
theorem less_c (ok ok' : Nat → Prop) (ac as_ : Int) (A : Option Addr) (n c : Nat) (ao : Bool) (bc bs : Int) (B : Option Addr) (m d : Nat) (bo : Bool) (x y : Way) (w : World)
    (h1 : WayR ok w (ac, as_, (A, n, c), ao) x) (h2 : WayR ok' w (bc, bs, (B, m, d), bo) y) (hx : x.w.length ≤ 2000) :
    Calls Try.prog 29 #[.agg #[.int .i64 ac, .int .i64 as_, .slice A n c, .bool ao], .agg #[.int .i64 bc, .int .i64 bs, .slice B m d, .bool bo]] w (TellB w (lessW x y)) := by
  obtain ⟨rfl, rfl, rfl, hA⟩ := h1
  obtain ⟨rfl, rfl, rfl, hC⟩ := h2
  obtain ⟨xc, xs, xw, xo⟩ := x
  obtain ⟨yc, ys, yw, yo⟩ := y
  simp only at hA hC hx ⊢
  have hn : n ≤ 1000000 := by have := hA.len; omega
  have hB := ((Below.refl w.heap.size w).al (.cells #[.int .i64 xc, .int .i64 xs, .slice A n c, .bool xo] 78)).al (.cells #[.int .i64 yc, .int .i64 ys, .slice B m d, .bool yo] 78)
  have B0 := (Blk.new w 78 #[.int .i64 xc, .int .i64 xs, .slice A n c, .bool xo]).al (.cells #[.int .i64 yc, .int .i64 ys, .slice B m d, .bool yo] 78)
  have B1 := Blk.new (w.alloc (.cells #[.int .i64 xc, .int .i64 xs, .slice A n c, .bool xo] 78)) 78 #[.int .i64 yc, .int .i64 ys, .slice B m d, .bool yo]
  rw [World.size_alloc] at B1
  have H1 := Lib.hid (hA.ints.keep hB (Nat.le_refl _))
  have H2 := Lib.hid (hC.ints.keep hB (Nat.le_refl _))
  clear hA hC hx
  cases yo with
  | false =>
    have HB := Lib.hid hB
    clear hB B0 B1
    go_enter Try.func29, Try.ntmps29
    go_wp2_with fail
    go_ret
    exact ⟨rfl, HB.out⟩
  | true =>
    cases xo with
    | false =>
      have HB := Lib.hid hB
      clear hB B0 B1
      go_enter Try.func29, Try.ntmps29
      go_wp2_with fail
      go_ret
      exact ⟨rfl, HB.out⟩
    | true =>
      go_enter Try.func29, Try.ntmps29
      go_upto_region 3 with fail
      generalize (w.alloc (.cells #[.int .i64 xc, .int .i64 xs, .slice A n c, .bool true] 78)).alloc (.cells #[.int .i64 yc, .int .i64 ys, .slice B m d, .bool true] 78) = W at *
      have J1 := Lib.hid (show ∀ w', Below W.heap.size W w' → Ints w' A n c xw from fun w' hb => H1.out.keep hb (Nat.le_refl _))
      have J2 := Lib.hid (show ∀ w', Below W.heap.size W w' → Ints w' B m d yw from fun w' hb => H2.out.keep hb (Nat.le_refl _))
      have SOF := Lib.hid (show ∀ w', Below W.heap.size W w' → ((∀ i, w'.cell? ⟨w.heap.size, i, none⟩ = #[.int .i64 xc, .int .i64 xs, .slice A n c, .bool true][i]?) ∧ (∀ i, w'.cell? ⟨w.heap.size + 1, i, none⟩ = #[.int .i64 yc, .int .i64 ys, .slice B m d, .bool true][i]?) ∧ Below W.heap.size W w') from fun w' hb => ⟨(B0.via hb).cell, (B1.via hb).cell, hb⟩)
      have HBB := Lib.hid hB
      have hb0 := (Below.refl W.heap.size W).drew
      clear hB H1 H2 B0 B1
      go_region_held3 (fun w' => (∀ i, w'.cell? ⟨w.heap.size, i, none⟩ = #[.int .i64 xc, .int .i64 xs, .slice A n c, .bool true][i]?) ∧ (∀ i, w'.cell? ⟨w.heap.size + 1, i, none⟩ = #[.int .i64 yc, .int .i64 ys, .slice B m d, .bool true][i]?) ∧ Below W.heap.size W w') (exact SOF.out _ (by first | assumption | exact Below.al (by assumption) _)) (first
        | (go_at_call 60; (with_reducible refine (cmp_c _ _ _).mono ?_); rintro ee wk ⟨rfl, rfl⟩)
        | (go_at_call 61; (with_reducible refine (cmpL_c A B n c m d xw yw _ (J1.out _ (by assumption)) (J2.out _ (by assumption)) hn).mono ?_); rintro ee wk ⟨rfl, rfl⟩)
        | (go_at_call 59; (with_reducible refine (or_c (some ⟨_, 0, none⟩) 3 3 [_, _, _] _ (Ints.three _ _ _ _ _).dr (by omega)).mono ?_); rintro ee wk ⟨rfl, rfl⟩))
      have HF2 := Lib.hid (HBB.out.via ((Below.refl W.heap.size W).al (.cells #[.int .i64 (cmpI xc yc), .int .i64 (cmpI xs ys), .int .i64 (cmpL xw yw)] 3)).drew)
      clear hb0
      go_wp2_with fail
      go_ret
      exact ⟨rfl, HF2.out⟩
end Go.Proofs.Ytghnkgbingcbcaa



namespace Go.Proofs.Ytghnkgbingcbcaa
open Go.RowKit

set_option maxRecDepth 100000 in
set_option maxHeartbeats 2000000 in
theorem concat2_c (b : Nat) (A1 A2 : Option Addr) (n1 c1 n2 c2 : Nat) (xs ys : List Int) (w : World) (h1 : Ints w A1 n1 c1 xs) (h2 : Ints w A2 n2 c2 ys)
    (hb : Blk w b 22 #[.slice A1 n1 c1, .slice A2 n2 c2]) (k1 : n1 ≤ 400000) (k2 : n2 ≤ 400000) :
    Calls Try.prog 75 #[.slice (some ⟨b, 0, none⟩) 2 2] w fun e w' => ∃ A c, e = .returned (.slice A (n1 + n2) c) ∧ Sl IntE (fun b => w.heap.size ≤ b) w' A (n1 + n2) c (xs ++ ys) ∧ Below w.heap.size w w' := by
  have q1 := cellSlice hb 0 _ rfl
  have q2 := cellSlice hb 1 _ rfl
  go_enter Try.func75, Try.ntmps75
  go_wp2_with fail
  refine wp_loop_rounds 3 ?_
  rw [rounds_succ]
  go_wp2_with fail
  rw [rounds_succ]
  go_wp2_with fail
  rw [rounds_succ]
  go_wp2_with fail
  refine (grow_c (n1 + n2) _ w (by omega) (by omega)).mono ?_
  rintro e w1 ⟨A, c, rfl, ho1, hb1⟩
  have hlt := hb.lt
  have p1 := (hb1.cell (p := ⟨b, 0, none⟩) hlt).trans q1
  have p2 := (hb1.cell (p := ⟨b, 1, none⟩) hlt).trans q2
  go_wp2_with fail
  refine wp_loop_rounds 3 ?_
  rw [rounds_succ]
  go_wp2_with (at_builtin; refine wpList_append_ints _ rfl (.tmp 31) (.tmp 32) rfl w.heap.size _ _ _ rfl ho1 _ _ _ _ rfl (h1.keep hb1 (Nat.le_refl _)) (by omega) hb1.size ?_; intro B2 d2 w2 ho2 hg2 _; simp only [Nat.zero_add, List.nil_append] at ho2)
  have hb2 := ho1.grown hb1 hg2 (Nat.le_refl _) hb1.size
  clear p1 p2
  have p2 := (hb2.cell (p := ⟨b, 1, none⟩) hlt).trans q2
  rw [rounds_succ]
  go_wp2_with (at_builtin; refine wpList_append_ints _ rfl (.tmp 31) (.tmp 32) rfl w.heap.size _ _ _ rfl ho2 _ _ _ _ rfl (h2.keep hb2 (Nat.le_refl _)) (by omega) hb2.size ?_; intro B3 d3 w3 ho3 hg3 _)
  have hb3 := ho2.grown hb2 hg3 (Nat.le_refl _) hb2.size
  clear p2
  rw [rounds_succ]
  go_wp2_with fail
  go_ret
  exact ⟨_, _, rfl, ho3.toInts.sl fun b off e _ => (ho3.lt b (by rw [e]; rfl)).1, hb3⟩

set_option maxRecDepth 100000 in
set_option maxHeartbeats 4000000 in
theorem hopeless_c (ok ok' ok2 : Nat → Prop) (ac as_ : Int) (A : Option Addr) (n c : Nat) (ao : Bool) (bc bs : Int) (B : Option Addr) (m d : Nat) (bo : Bool) (tc ts : Int) (T : Option Addr) (tm td : Nat) (tk : Bool) (x y z : Way) (w : World)
    (h1 : WayR ok w (ac, as_, (A, n, c), ao) x) (h2 : WayR ok' w (bc, bs, (B, m, d), bo) y) (h3 : WayR ok2 w (tc, ts, (T, tm, td), tk) z) (hx : Bnd 10000000000 x) (hy : Bnd 10000000000 y) :
    Calls Try.prog 57 #[.agg #[.int .i64 ac, .int .i64 as_, .slice A n c, .bool ao], .agg #[.int .i64 bc, .int .i64 bs, .slice B m d, .bool bo], .agg #[.int .i64 tc, .int .i64 ts, .slice T tm td, .bool tk]] w (TellB w (hopeW x y z)) := by
  obtain ⟨rfl, rfl, rfl, -⟩ := h1
  obtain ⟨rfl, rfl, rfl, -⟩ := h2
  obtain ⟨rfl, rfl, rfl, -⟩ := h3
  have b1 := hx.c0; have b2 := hx.c1; have b3 := hx.s0; have b4 := hx.s1
  have b5 := hy.c0; have b6 := hy.c1; have b7 := hy.s0; have b8 := hy.s1
  clear hx hy
  obtain ⟨xc, xs, xw, xo⟩ := x
  obtain ⟨yc, ys, yw, yo⟩ := y
  obtain ⟨zc, zs, zw, zo⟩ := z
  simp only at b1 b2 b3 b4 b5 b6 b7 b8 ⊢
  have hB := (((Below.refl w.heap.size w).al (.cells #[.int .i64 xc, .int .i64 xs, .slice A n c, .bool xo] 78)).al (.cells #[.int .i64 yc, .int .i64 ys, .slice B m d, .bool yo] 78)).al (.cells #[.int .i64 zc, .int .i64 zs, .slice T tm td, .bool zo] 78)
  cases xo with
  | false =>
    have HB := Lib.hid hB
    clear hB
    go_enter Try.func57, Try.ntmps57
    go_wp2_with fail
    go_ret
    exact ⟨rfl, HB.out⟩
  | true =>
    cases yo with
    | false =>
      have HB := Lib.hid hB
      clear hB
      go_enter Try.func57, Try.ntmps57
      go_wp2_with fail
      go_ret
      exact ⟨rfl, HB.out⟩
    | true =>
      have B0 := ((Blk.new w 78 #[.int .i64 xc, .int .i64 xs, .slice A n c, .bool true]).al (.cells #[.int .i64 yc, .int .i64 ys, .slice B m d, .bool true] 78)).al (.cells #[.int .i64 zc, .int .i64 zs, .slice T tm td, .bool zo] 78)
      have B1 := (Blk.new (w.alloc (.cells #[.int .i64 xc, .int .i64 xs, .slice A n c, .bool true] 78)) 78 #[.int .i64 yc, .int .i64 ys, .slice B m d, .bool true]).al (.cells #[.int .i64 zc, .int .i64 zs, .slice T tm td, .bool zo] 78)
      have B2 := Blk.new ((w.alloc (.cells #[.int .i64 xc, .int .i64 xs, .slice A n c, .bool true] 78)).alloc (.cells #[.int .i64 yc, .int .i64 ys, .slice B m d, .bool true] 78)) 78 #[.int .i64 zc, .int .i64 zs, .slice T tm td, .bool zo]
      rw [World.size_alloc] at B1
      rw [World.size_alloc, World.size_alloc] at B2
      have r1 : IntKind.i64.wrap (xc + yc) = xc + yc := IntWalk.i64_in _ (by omega)
      have r2 : IntKind.i64.wrap (xs + ys) = xs + ys := IntWalk.i64_in _ (by omega)
      cases zo
      all_goals
        go_enter Try.func57, Try.ntmps57
        go_upto_region 3 with fail
        generalize ((w.alloc (.cells #[.int .i64 xc, .int .i64 xs, .slice A n c, .bool true] 78)).alloc (.cells #[.int .i64 yc, .int .i64 ys, .slice B m d, .bool true] 78)).alloc _ = W at *
        have hb0 := (Below.refl W.heap.size W).drew
      · have HB := Lib.hid hB
        have cB2 := B2.cell
        clear hB B0 B1 B2 r1 r2 hb0
        go_quiet (fail)
        go_wp2_with fail
        go_ret
        exact ⟨rfl, below_drewN HB.out _⟩
      · have SOF := Lib.hid (show ∀ w', Below W.heap.size W w' → ((∀ i, w'.cell? ⟨w.heap.size, i, none⟩ = #[.int .i64 xc, .int .i64 xs, .slice A n c, .bool true][i]?) ∧ (∀ i, w'.cell? ⟨w.heap.size + 1, i, none⟩ = #[.int .i64 yc, .int .i64 ys, .slice B m d, .bool true][i]?) ∧ (∀ i, w'.cell? ⟨w.heap.size + 1 + 1, i, none⟩ = #[.int .i64 zc, .int .i64 zs, .slice T tm td, .bool true][i]?) ∧ Below W.heap.size W w') from fun w' hb => ⟨(B0.via hb).cell, (B1.via hb).cell, (B2.via hb).cell, hb⟩)
        have HBB := Lib.hid hB
        clear hB B0 B1 B2
        go_region_held3 (fun w' => (∀ i, w'.cell? ⟨w.heap.size, i, none⟩ = #[.int .i64 xc, .int .i64 xs, .slice A n c, .bool true][i]?) ∧ (∀ i, w'.cell? ⟨w.heap.size + 1, i, none⟩ = #[.int .i64 yc, .int .i64 ys, .slice B m d, .bool true][i]?) ∧ (∀ i, w'.cell? ⟨w.heap.size + 1 + 1, i, none⟩ = #[.int .i64 zc, .int .i64 zs, .slice T tm td, .bool true][i]?) ∧ Below W.heap.size W w') (exact SOF.out _ (by first | assumption | exact ((Below.refl W.heap.size W).al _).drew)) (first
          | (go_at_call 60; (with_reducible refine (cmp_c _ _ _).mono ?_); rintro ee wk ⟨rfl, rfl⟩)
          | (go_at_call 59; (with_reducible refine (or_c (some ⟨_, 0, none⟩) 2 2 [_, _] _ (Ints.two _ _ _ _).dr (by omega)).mono ?_); rintro ee wk ⟨rfl, rfl⟩))
        have HF2 := Lib.hid (HBB.out.via ((Below.refl W.heap.size W).al (.cells #[.int .i64 (cmpI (xc + yc) zc), .int .i64 (cmpI (xs + ys) zs)] 3)).drew)
        clear hb0 r1 r2
        go_wp2_with fail
        go_ret
        exact ⟨rfl, HF2.out⟩
end Go.Proofs.Ytghnkgbingcbcaa



namespace Go.Proofs.Ytghnkgbingcbcaa
open Go.RowKit

def WayP (w : World) (x : Way) (e : Ending) (w' : World) : Prop := ∃ v, e = .returned (wyVal v) ∧ WayR (fun b => w.heap.size ≤ b) w' v x ∧ Below w.heap.size w w'
def World.set4 (w : World) (r : Nat) (v : WyV) : World :=
  (((w.setCell ⟨r, 0, none⟩ (.int .i64 v.1)).setCell ⟨r, 1, none⟩ (.int .i64 v.2.1)).setCell ⟨r, 2, none⟩ (.slice v.2.2.1.1 v.2.2.1.2.1 v.2.2.1.2.2)).setCell ⟨r, 3, none⟩ (.bool v.2.2.2)
section
variable {ok : Nat → Prop} {w w0 : World} {r : Nat} {v : WyV}
theorem agr_set4 (hk : ∀ b, ok b → b ≠ r) : Agr ok w (World.set4 w r v) :=
  (((Agr.setCell _ hk).trans (Agr.setCell _ hk)).trans (Agr.setCell _ hk)).trans (Agr.setCell _ hk)
theorem below_set4 {B : Nat} (h : Below B w0 w) (hr : B ≤ r) : Below B w0 (World.set4 w r v) :=
  (((h.setCell hr _).setCell hr _).setCell hr _).setCell hr _
theorem size_set4 : (World.set4 w r v).heap.size = w.heap.size := by simp [World.set4]
end
set_option maxRecDepth 100000 in
set_option maxHeartbeats 4000000 in
theorem then_c (ok ok' : Nat → Prop) (ac as_ : Int) (A : Option Addr) (n c : Nat) (ao : Bool) (bc bs : Int) (B : Option Addr) (m d : Nat) (bo : Bool) (x y : Way) (w : World)
    (h1 : WayR ok w (ac, as_, (A, n, c), ao) x) (h2 : WayR ok' w (bc, bs, (B, m, d), bo) y) (hx : Bnd 10000000000 x) (hy : Bnd 10000000000 y) :
    Calls Try.prog 58 #[.agg #[.int .i64 ac, .int .i64 as_, .slice A n c, .bool ao], .agg #[.int .i64 bc, .int .i64 bs, .slice B m d, .bool bo]] w (WayP w (thenW x y)) := by
  obtain ⟨rfl, rfl, rfl, hA⟩ := h1
  obtain ⟨rfl, rfl, rfl, hC⟩ := h2
  have b1 := hx.c0; have b2 := hx.c1; have b3 := hx.s0; have b4 := hx.s1
  have b5 := hy.c0; have b6 := hy.c1; have b7 := hy.s0; have b8 := hy.s1
  have l1 : n ≤ 2000 := Nat.le_trans (Nat.le_of_eq hA.len.symm) hx.short
  have l2 : m ≤ 2000 := Nat.le_trans (Nat.le_of_eq hC.len.symm) hy.short
  clear hx hy
  obtain ⟨xc, xs, xw, xo⟩ := x
  obtain ⟨yc, ys, yw, yo⟩ := y
  simp only at b1 b2 b3 b4 b5 b6 b7 b8 hA hC ⊢
  have nok : ∀ (b : Bool) (w' : World), (xo && yo) = b → (b = true → ¬ xs + ys ≤ 2000) → WayR (fun b => w.heap.size ≤ b) w' (xc + yc, xs + ys, (none, 0, 0), b) (thenW ⟨xc, xs, xw, xo⟩ ⟨yc, ys, yw, yo⟩) := by
    intro b w' e h
    subst e
    refine ⟨rfl, rfl, rfl, ?_⟩
    have : (thenW ⟨xc, xs, xw, xo⟩ ⟨yc, ys, yw, yo⟩).w = [] := by
      simp only [thenW]; rw [if_neg]; intro h2; rw [Bool.and_eq_true, decide_eq_true_eq] at h2; exact h h2.1 h2.2
    rw [this]; exact Sl.nil 0
  have NOK := Lib.hid nok
  clear nok
  cases hxo : xo <;> cases hyo : yo <;> subst hxo hyo
  iterate 3
    · clear hA hC
      go_enter Try.func58, Try.ntmps58
      go_wp2_with fail
      exact bodyPost_ret (v := .agg #[.int .i64 (xc + yc), .int .i64 (xs + ys), .slice none 0 0, .bool false]) (by simp [results, Try.results58, go_sem]) rfl ⟨(xc + yc, xs + ys, (none, 0, 0), false), rfl, NOK.out _ _ rfl fun h => (by cases h), ((((Below.refl _ _).al _).al _).al _).al _⟩
  · by_cases hs : xs + ys ≤ 2000
    · have hB := (((((Below.refl w.heap.size w).al (.cells #[.int .i64 xc, .int .i64 xs, .slice A n c, .bool true] 78)).al (.cells #[.int .i64 yc, .int .i64 ys, .slice B m d, .bool true] 78)).al (.cells #[.int .i64 0, .int .i64 0, .slice none 0 0, .bool false] 78)).al (.cells #[.int .i64 (xc + yc), .int .i64 (xs + ys), .slice none 0 0, .bool true] 78)).al (.cells #[.slice A n c, .slice B m d] 22)
      have B2 := ((Blk.new ((w.alloc (.cells #[.int .i64 xc, .int .i64 xs, .slice A n c, .bool true] 78)).alloc (.cells #[.int .i64 yc, .int .i64 ys, .slice B m d, .bool true] 78)) 78 #[.int .i64 0, .int .i64 0, .slice none 0 0, .bool false]).al (.cells #[.int .i64 (xc + yc), .int .i64 (xs + ys), .slice none 0 0, .bool true] 78)).al (.cells #[.slice A n c, .slice B m d] 22)
      have B3 := (Blk.new (((w.alloc (.cells #[.int .i64 xc, .int .i64 xs, .slice A n c, .bool true] 78)).alloc (.cells #[.int .i64 yc, .int .i64 ys, .slice B m d, .bool true] 78)).alloc (.cells #[.int .i64 0, .int .i64 0, .slice none 0 0, .bool false] 78)) 78 #[.int .i64 (xc + yc), .int .i64 (xs + ys), .slice none 0 0, .bool true]).al (.cells #[.slice A n c, .slice B m d] 22)
      have B4 := Blk.new ((((w.alloc (.cells #[.int .i64 xc, .int .i64 xs, .slice A n c, .bool true] 78)).alloc (.cells #[.int .i64 yc, .int .i64 ys, .slice B m d, .bool true] 78)).alloc (.cells #[.int .i64 0, .int .i64 0, .slice none 0 0, .bool false] 78)).alloc (.cells #[.int .i64 (xc + yc), .int .i64 (xs + ys), .slice none 0 0, .bool true] 78)) 22 #[.slice A n c, .slice B m d]
      simp only [World.size_alloc] at B2 B3 B4
      have HA := Lib.hid (hA.ints.keep hB (Nat.le_refl _))
      have HC := Lib.hid (hC.ints.keep hB (Nat.le_refl _))
      have HB2 := Lib.hid B2
      have HB3 := Lib.hid B3
      have HB4 := Lib.hid B4
      have HB := Lib.hid hB
      have l3 := Lib.hid (show xw.length = n from hA.len)
      have l4 := Lib.hid (show yw.length = m from hC.len)
      clear hA hC hB B2 B3 B4
      go_enter Try.func58, Try.ntmps58
      go_wp2_with fail
      generalize ((((w.alloc (.cells #[.int .i64 xc, .int .i64 xs, .slice A n c, .bool true] 78)).alloc (.cells #[.int .i64 yc, .int .i64 ys, .slice B m d, .bool true] 78)).alloc (.cells #[.int .i64 0, .int .i64 0, .slice none 0 0, .bool false] 78)).alloc (.cells #[.int .i64 (xc + yc), .int .i64 (xs + ys), .slice none 0 0, .bool true] 78)).alloc (.cells #[.slice A n c, .slice B m d] 22) = W at *
      refine (concat2_c _ A B n c m d xw yw W HA.out HC.out HB4.out (by omega) (by omega)).mono ?_
      rintro e w1 ⟨A1, c1, rfl, hS, hb⟩
      have B2 := HB2.out.via hb
      have B3 := HB3.out.via hb
      have HBF := Lib.hid (HB.out.via hb)
      have hW := HB.out.size
      have hz := HB4.out.lt
      have HS := Lib.hid hS
      clear hb hS HB HB2 HB3 HB4 HA HC
      have cB2 := B2.cell
      have fB2 := B2.frozen
      have lB2 := B2.lt
      have cB3 := B3.cell
      have fB3 := B3.frozen
      have lB3 := B3.lt
      go_wp2_with fail
      refine bodyPost_ret (v := .agg #[.int .i64 (xc + yc), .int .i64 (xs + ys), .slice A1 (n + m) c1, .bool true]) (by simp [results, Try.results58, go_sem, cB2]) rfl ⟨(xc + yc, xs + ys, (A1, n + m, c1), true), rfl, ⟨rfl, rfl, rfl, ?_⟩, below_set4 (r := w.heap.size + 1 + 1) (v := (xc + yc, xs + ys, (A1, n + m, c1), true)) (HBF.out.setCell (by simp; omega) _) (by omega)⟩
      have e : (thenW ⟨xc, xs, xw, true⟩ ⟨yc, ys, yw, true⟩).w = xw ++ yw := by simp [thenW, hs]
      rw [e]
      exact (HS.out.agr ((Agr.setCell _ fun b hb => by show b ≠ w.heap.size + 1 + 1 + 1; omega).trans (agr_set4 (r := w.heap.size + 1 + 1) (v := (xc + yc, xs + ys, (A1, n + m, c1), true)) fun b hb => by omega))).mono fun b _ hb => by omega
    · clear hA hC
      go_enter Try.func58, Try.ntmps58
      go_wp2_with fail
      exact bodyPost_ret (v := .agg #[.int .i64 (xc + yc), .int .i64 (xs + ys), .slice none 0 0, .bool true]) (by simp [results, Try.results58, go_sem]) rfl ⟨(xc + yc, xs + ys, (none, 0, 0), true), rfl, NOK.out _ _ rfl fun _ => hs, ((((Below.refl _ _).al _).al _).al _).al _⟩
end Go.Proofs.Ytghnkgbingcbcaa



namespace Go.Proofs.Ytghnkgbingcbcaa
open Go.RowKit

def IdxP (w : World) (xs : List Int) (v : Int) (e : Ending) (w' : World) : Prop := ∃ r : Int, e = .returned (.int .i64 r) ∧ (0 ≤ r ↔ v ∈ xs) ∧ w' = w
set_option maxRecDepth 100000 in
set_option maxHeartbeats 1000000 in
theorem index_c (A : Option Addr) (n c : Nat) (xs : List Int) (v : Int) (w : World) (h : Ints w A n c xs) (hn : n ≤ 1000000) :
    Calls Try.prog 89 #[.slice A n c, .int .i64 v] w (IdxP w xs v) := by
  have H := Lib.hid h
  clear h
  go_enter Try.func89, Try.ntmps89
  go_wp2_with fail
  go_loopw [8] (fun i wr => ∃ k : Nat, i = .int .i64 k ∧ k ≤ n ∧ Hid (∀ j, j < k → xs.getD j 0 ≠ v) ∧ wr = w) (fun i _ => n - (intOf i).toNat)
  case atStart => exact ⟨0, rfl, Nat.zero_le _, Lib.hid (fun j h => by omega), rfl⟩
  case round =>
    obtain ⟨k, rfl, hk, HN, rfl⟩ := hrel
    by_cases hkn : k < n
    · obtain ⟨b1, o1, rfl, hb1, hx⟩ := H.out.at_ hkn
      have i0 : (0 : Int) ≤ (k : Int) := by omega
      have i1 : (k : Int) < (n : Int) := by omega
      obtain ⟨x, hxx⟩ : ∃ x, x = xs.getD k 0 := ⟨_, rfl⟩
      rw [← hxx] at hx
      have HX := Lib.hid hxx
      clear hxx
      by_cases e : v = x
      · have he : (v == x) = true := by simpa using e
        have HE := Lib.hid e
        clear e
        go_wp2_with fail
        go_ret
        refine ⟨k, rfl, ⟨fun _ => ?_, fun _ => by omega⟩, rfl⟩
        have hl := H.out.len
        rw [HE.out, HX.out, List.getD_eq_getElem?_getD, List.getElem?_eq_getElem (by omega)]
        exact List.getElem_mem _
      · have he : (v == x) = false := by simpa using e
        have HE := Lib.hid e
        clear e
        go_wp2_with fail
        refine ⟨⟨k + 1, by go_num, by omega, Lib.hid fun j hj => ?_, by trivial⟩, by simp [intOf]; omega⟩
        by_cases e2 : j = k
        · rw [e2, ← HX.out]; exact fun h => HE.out h.symm
        · exact HN.out j (by omega)
    · go_wp2_with fail
      go_ret
      refine ⟨-1, rfl, ⟨fun h => by omega, fun h => ?_⟩, rfl⟩
      exfalso
      obtain ⟨j, hj, e⟩ := List.getElem_of_mem h
      have hl := H.out.len
      refine HN.out j (by omega) ?_
      rw [List.getD_eq_getElem?_getD, List.getElem?_eq_getElem hj, e]; rfl
set_option maxRecDepth 100000 in
set_option maxHeartbeats 1000000 in
theorem contains_i (A : Option Addr) (n c : Nat) (xs : List Int) (v : Int) (w : World) (h : Ints w A n c xs) (hn : n ≤ 1000000) :
    Calls Try.prog 85 #[.slice A n c, .int .i64 v] w fun e w' => e = .returned (.bool (decide (v ∈ xs))) ∧ w' = w := by
  have H := Lib.hid h
  clear h
  go_enter Try.func85, Try.ntmps85
  go_wp2_with fail
  refine (index_c A n c xs v w H.out hn).mono ?_
  rintro e w' ⟨r, rfl, hr, rfl⟩
  have HR := Lib.hid hr
  clear hr
  go_wp2_with fail
  go_ret
  refine ⟨?_, rfl⟩
  rw [show decide (v ∈ xs) = decide (0 ≤ r) from decide_eq_decide.2 HR.out.symm]
  rfl

/-- the struct corrector -/
structure CorV where
  gt : Nat
  gn : Nat
  gs : Nat
  gA : Option Addr
  gl : Nat
  gc : Nat
  A : Option Addr
  n : Nat
  c : Nat
  c0 : Int
  c1 : Int
  c2 : Int
  bA : Option Addr
  bn : Nat
  bc : Nat
def CorV.cells (v : CorV) : Array Value := #[.int .i64 (v.gt : Int), .int .i64 (v.gn : Int), .int .i64 (v.gs : Int), .slice v.gA v.gl v.gc, .slice v.A v.n v.c, .int .i64 v.c0, .int .i64 v.c1, .int .i64 v.c2, .slice v.bA v.bn v.bc]
structure OneCut (W : World) (bc br : Nat) (cs : Array Value) (t x : Int) (b : Nat) (bt : Nat) (wx : World) : Prop where
  hbb : Blk wx b 78 #[.int .i64 x, .int .i64 1, .slice (some ⟨bt, 0, none⟩) 1 1, .bool true]
  hbt : Blk wx bt 3 #[.int .i64 t]
  hbc : Blk wx bc 71 cs
  hbr : Blk wx br 78 #[.int .i64 0, .int .i64 0, .slice none 0 0, .bool false]
  ne : b ≠ bt
  hlb : W.heap.size ≤ b
  hlt : W.heap.size ≤ bt
  bel : Below W.heap.size W wx
theorem OneCut.way1 {W : World} {bc br : Nat} {cs : Array Value} {t x : Int} (h1 : Blk W bc 71 cs) (h2 : Blk W br 78 #[.int .i64 0, .int .i64 0, .slice none 0 0, .bool false]) :
    OneCut W bc br cs t x (W.heap.size + 1) W.heap.size ((W.alloc (.cells #[.int .i64 t] 3)).alloc (.cells #[.int .i64 x, .int .i64 1, .slice (some ⟨W.heap.size, 0, none⟩) 1 1, .bool true] 78)).drew := by
  have e := Blk.new (W.alloc (.cells #[.int .i64 t] 3)) 78 #[.int .i64 x, .int .i64 1, .slice (some ⟨W.heap.size, 0, none⟩) 1 1, .bool true]
  rw [World.size_alloc] at e
  exact ⟨e.dr, ((Blk.new W _ _).al _).dr, ((h1.al _).al _).dr, ((h2.al _).al _).dr, by omega, by omega, by omega, (((Below.refl _ _).al _).al _).drew⟩
theorem OneCut.way2 {W : World} {bc br : Nat} {cs : Array Value} {t x : Int} (h1 : Blk W bc 71 cs) (h2 : Blk W br 78 #[.int .i64 0, .int .i64 0, .slice none 0 0, .bool false]) :
    OneCut W bc br cs t x W.heap.size (W.heap.size + 1) ((W.alloc (.cells #[.int .i64 x, .int .i64 1, .slice (some ⟨W.heap.size + 1, 0, none⟩) 1 1, .bool true] 78)).alloc (.cells #[.int .i64 t] 3)).drew := by
  have e := Blk.new (W.alloc (.cells #[.int .i64 x, .int .i64 1, .slice (some ⟨W.heap.size + 1, 0, none⟩) 1 1, .bool true] 78)) 3 #[.int .i64 t]
  rw [World.size_alloc] at e
  exact ⟨((Blk.new W _ _).al _).dr, e.dr, ((h1.al _).al _).dr, ((h2.al _).al _).dr, by omega, by omega, by omega, (((Below.refl _ _).al _).al _).drew⟩
theorem OneCut.put {W : World} {bc br : Nat} {cs : Array Value} {t x : Int} {b bt : Nat} {wx : World} (h : OneCut W bc br cs t x b bt wx) (h1 : bc < W.heap.size) (h2 : br < W.heap.size) (y : Int) : OneCut W bc br cs t y b bt (wx.setCell ⟨b, 0, none⟩ (.int .i64 y)).drew := by
  have := h.hlb; have := h.hlt
  have e := h.hbb.set_ 0 (.int .i64 y)
  exact ⟨by simpa using e.dr, (h.hbt.far (Ne.symm h.ne) _).dr, (h.hbc.far (by show bc ≠ b; omega) _).dr, (h.hbr.far (by show br ≠ b; omega) _).dr, h.ne, h.hlb, h.hlt, (h.bel.setCell h.hlb _).drew⟩
theorem OneCut.fin {w0 W : World} {bc : Nat} {cs : Array Value} {t : Nat} {x : Int} {b bt : Nat} {wx : World} (h : OneCut W bc w0.heap.size cs t x b bt wx) (hW : w0.heap.size + 1 ≤ W.heap.size) (hb : Below w0.heap.size w0 W) :
    WayP w0 ⟨x, 1, [(t : Int)], true⟩ (.returned (wyVal (x, 1, (some ⟨bt, 0, none⟩, 1, 1), true))) (World.set4 wx w0.heap.size (x, 1, (some ⟨bt, 0, none⟩, 1, 1), true)) := by
  have hlt := h.hlt
  refine ⟨_, rfl, ⟨rfl, rfl, rfl, ?_⟩, below_set4 (hb.trans (h.bel.mono (by omega))) (Nat.le_refl _)⟩
  have hI : Ints wx (some ⟨bt, 0, none⟩) 1 1 [(t : Int)] := ⟨rfl, Nat.le_refl _, fun _ => ⟨bt, 0, rfl, fun i hi => by
    match i, hi with
    | 0, _ => exact (h.hbt.cell 0).trans rfl⟩⟩
  exact ((hI.sl (ok := fun b => W.heap.size ≤ b) fun b off e _ => by cases e; exact hlt).agr (agr_set4 fun b hb => by omega)).mono fun b _ hb => by omega

set_option maxRecDepth 100000 in
set_option maxHeartbeats 4000000 in
theorem one_c (bc : Nat) (v : CorV) (xs : List Int) (t i j : Nat) (w : World) (hb : Blk w bc 71 v.cells) (hx : Ints w v.A v.n v.c xs) (h0 : 1 ≤ v.c0 ∧ v.c0 ≤ 100) (h1 : 1 ≤ v.c1 ∧ v.c1 ≤ 100) (h2 : 1 ≤ v.c2 ∧ v.c2 ≤ 100)
    (hn : v.n ≤ 12) (hi : i ≤ j) (hj : j ≤ v.n) :
    Calls Try.prog 74 #[.pointer (some ⟨bc, 0, none⟩), .int .i64 (t : Int), .int .i64 (i : Int), .int .i64 (j : Int)] w (WayP w ⟨oneC v.c0 v.c1 v.c2 (t : Int) (part xs i j), 1, [(t : Int)], true⟩) := by
  obtain ⟨gt, gn, gs, gA, gl, gc, A, n, c, c0, c1, c2, bA, bn, bcc⟩ := v
  simp only [CorV.cells] at hb hx h0 h1 h2 hn hj ⊢
  have hlt := hb.lt
  obtain ⟨o, rfl⟩ : ∃ o, j = i + o := ⟨j - i, by omega⟩
  rw [Int.natCast_add]
  have B0 := hb.al (.cells #[.int .i64 0, .int .i64 0, .slice none 0 0, .bool false] 78)
  have q2 : (o : Int) * c1 ≤ 12 * 100 := Int.mul_le_mul (by omega) h1.2 (by omega) (by omega)
  have q3 : 0 ≤ (o : Int) * c1 := Int.mul_nonneg (by omega) (by omega)
  obtain ⟨z, hz⟩ : ∃ z : Int, z = (o : Int) * c1 := ⟨_, rfl⟩
  rw [← hz] at q2 q3
  have k0 : (i : Int) + (o : Int) - (i : Int) = (o : Int) := by omega
  have k1 : IntKind.i64.wrap ((i : Int) + (o : Int) - (i : Int)) = (o : Int) := by rw [k0]; exact IntWalk.i64_in _ (by omega)
  have k2 : IntKind.i64.wrap ((o : Int) * c1) = z := by rw [← hz]; exact IntWalk.i64_in _ (by omega)
  have k3 : IntKind.i64.wrap (c0 + z) = c0 + z := IntWalk.i64_in _ (by omega)
  have HX := Lib.hid hx
  have HZ := Lib.hid hz
  have HB := Lib.hid hb
  have HB0 := Lib.hid B0
  clear hx hz hb B0
  go_enter Try.func74, Try.ntmps74
  go_upto_region 2 with fail
  have HBR := Lib.hid (Blk.new w 78 #[.int .i64 0, .int .i64 0, .slice none 0 0, .bool false])
  have HBW := Lib.hid ((Below.refl w.heap.size w).al (.cells #[.int .i64 0, .int .i64 0, .slice none 0 0, .bool false] 78))
  have HXW := Lib.hid (HX.out.alloc (.cells #[.int .i64 0, .int .i64 0, .slice none 0 0, .bool false] 78))
  have hWs : w.heap.size + 1 ≤ (w.alloc (.cells #[.int .i64 0, .int .i64 0, .slice none 0 0, .bool false] 78)).heap.size := by simp
  generalize w.alloc (.cells #[.int .i64 0, .int .i64 0, .slice none 0 0, .bool false] 78) = W at *
  have SOF := Lib.hid (show ∀ w', Below W.heap.size W w' → ((∀ i, w'.cell? ⟨bc, i, none⟩ = #[.int .i64 (gt : Int), .int .i64 (gn : Int), .int .i64 (gs : Int), .slice gA gl gc, .slice A n c, .int .i64 c0, .int .i64 c1, .int .i64 c2, .slice bA bn bcc][i]?) ∧ Below W.heap.size W w') from fun w' hb => ⟨(HB0.out.via hb).cell, hb⟩)
  go_cut [10] (fun s10 wx => ∃ b bt, s10 = .pointer (some ⟨b, 0, none⟩) ∧ OneCut W bc w.heap.size #[.int .i64 (gt : Int), .int .i64 (gn : Int), .int .i64 (gs : Int), .slice gA gl gc, .slice A n c, .int .i64 c0, .int .i64 c1, .int .i64 c2, .slice bA bn bcc] t (c0 + z) b bt wx)
  case first =>
    have hb0 := (Below.refl W.heap.size W).drew
    go_region_held3 (fun w' => (∀ i, w'.cell? ⟨bc, i, none⟩ = #[.int .i64 (gt : Int), .int .i64 (gn : Int), .int .i64 (gs : Int), .slice gA gl gc, .slice A n c, .int .i64 c0, .int .i64 c1, .int .i64 c2, .slice bA bn bcc][i]?) ∧ Below W.heap.size W w') (exact SOF.out _ (by first | assumption | exact ((Below.refl W.heap.size W).al _).drew | exact (((Below.refl W.heap.size W).al _).al _).drew)) (fail)
    · go_wp2_with fail
      go_meet
      exact ⟨_, _, rfl, OneCut.way1 HB0.out HBR.out⟩
    · go_wp2_with fail
      go_meet
      exact ⟨_, _, rfl, OneCut.way2 HB0.out HBR.out⟩
  case rest =>
    obtain ⟨b, bt, rfl, hcut⟩ := hcut
    clear k2 k3 SOF HB HB0 HBR
    have i0 : (0 : Int) ≤ (i : Int) := by omega
    have i1 : (i : Int) ≤ (i : Int) + (o : Int) := by omega
    have i2 : (i : Int) + (o : Int) ≤ (c : Int) := by have := HXW.out.le; omega
    have key : ∀ (x y : Int) (b bt : Nat) (wx : World), OneCut W bc w.heap.size #[.int .i64 (gt : Int), .int .i64 (gn : Int), .int .i64 (gs : Int), .slice gA gl gc, .slice A n c, .int .i64 c0, .int .i64 c1, .int .i64 c2, .slice bA bn bcc] t x b bt wx → x = y → WayP w ⟨y, 1, [(t : Int)], true⟩ (.returned (wyVal (x, 1, (some ⟨bt, 0, none⟩, 1, 1), true))) (World.set4 wx w.heap.size (x, 1, (some ⟨bt, 0, none⟩, 1, 1), true)) := fun x y b bt wx h e => by subst e; exact h.fin hWs HBW.out
    have KEY := Lib.hid key
    have hlW : bc < W.heap.size := by omega
    have hbW : w.heap.size < W.heap.size := by omega
    clear key
    rcases Nat.lt_or_ge 0 o with hij | hij
    · have g1 : decide ((0 : Int) < (o : Int)) = true := by simp; omega
      have k4 : IntKind.i64.wrap ((o : Int) - 1) = (o : Int) - 1 := IntWalk.i64_in _ (by omega)
      have e5 : ((o : Int) - 1) * c1 = z - c1 := by rw [HZ.out, Int.sub_mul]; omega
      have k5 : IntKind.i64.wrap (((o : Int) - 1) * c1) = z - c1 := by rw [e5]; exact IntWalk.i64_in _ (by omega)
      have k6 : IntKind.i64.wrap (c2 + (z - c1)) = c2 + (z - c1) := IntWalk.i64_in _ (by omega)
      have E5 := Lib.hid e5
      clear e5
      have HCUT := Lib.hid hcut
      have Bc := hcut.hbc
      have Bb := hcut.hbb
      clear hcut
      have cBc := Bc.cell
      have fBc := Bc.frozen
      have lBc := Bc.lt
      have cBb := Bb.cell
      have fBb := Bb.frozen
      have lBb := Bb.lt
      go_upto_region 4 with fail
      go_region
      have hcut := HCUT.out.put hlW hbW (mn (c0 + z) (c2 + (z - c1)))
      unfold mn at hcut
      obtain ⟨y, hy⟩ : ∃ y, y = if c2 + (z - c1) < c0 + z then c2 + (z - c1) else c0 + z := ⟨_, rfl⟩
      rw [← hy] at hcut ⊢
      have HY := Lib.hid (show mn (c0 + z) (c2 + (z - c1)) = y from hy.symm)
      generalize (wc.setCell ⟨b, 0, none⟩ (.int .i64 y)).drew = W2 at *
      clear cBc fBc lBc cBb fBb lBb
      have HCUT := Lib.hid hcut
      have Bc := hcut.hbc
      have Bb := hcut.hbb
      obtain ⟨A', hA', hI'⟩ := (HXW.out.keep hcut.bel (Nat.le_refl _)).mid (l := i) (m := i + o) (by omega) (by omega)
      rw [Nat.add_sub_cancel_left] at hI'
      rw [if_neg (show ¬ c = i by omega)] at hA'
      subst hA'
      have HI' := Lib.hid (show Ints W2 _ o (c - i) (part xs i (i + o)) from hI')
      clear hcut hy hI' k6
      have cBc := Bc.cell
      have fBc := Bc.frozen
      have lBc := Bc.lt
      have cBb := Bb.cell
      have fBb := Bb.frozen
      have lBb := Bb.lt
      go_wp2_with fail
      have hne : part xs i (i + o) ≠ [] := fun e => by have := HI'.out.len; rw [e] at this; simp at this; omega
      have hlen : ((part xs i (i + o)).length : Int) = (o : Int) := by rw [HI'.out.len]
      have HNE := Lib.hid hne
      have HLEN := Lib.hid hlen
      clear hne hlen
      by_cases hm : (t : Int) ∈ part xs i (i + o)
      · refine (contains_i _ o (c - i) (part xs i (i + o)) t W2 HI'.out (by omega)).mono ?_
        rintro e w' ⟨rfl, rfl⟩
        rw [show decide ((t : Int) ∈ part xs i (i + o)) = true by simpa using hm]
        have HM := Lib.hid hm
        clear hm
        go_upto_region 6 with fail
        go_region
        have hcut := HCUT.out.put hlW hbW (mn y (z - c1))
        unfold mn at hcut
        obtain ⟨y2, hy2⟩ : ∃ y2, y2 = if z - c1 < y then z - c1 else y := ⟨_, rfl⟩
        rw [← hy2] at hcut ⊢
        have HY2 := Lib.hid (show mn y (z - c1) = y2 from hy2.symm)
        generalize (w'.setCell ⟨b, 0, none⟩ (.int .i64 y2)).drew = W3 at *
        clear cBc fBc lBc cBb fBb lBb
        have HCUT := Lib.hid hcut
        have Br := hcut.hbr
        have Bb := hcut.hbb
        clear hcut hy2 k4 k5
        have cBr := Br.cell
        have fBr := Br.frozen
        have lBr := Br.lt
        have cBb := Bb.cell
        have fBb := Bb.frozen
        have lBb := Bb.lt
        go_wp2_with fail
        refine bodyPost_ret (v := .agg #[.int .i64 y2, .int .i64 1, .slice (some ⟨bt, 0, none⟩) 1 1, .bool true]) (by simp [results, Try.results74, go_sem, cBr]) rfl (KEY.out y2 _ b bt W3 HCUT.out ?_)
        rw [← HY2.out, ← HY.out, oneC, if_pos HM.out, HLEN.out, E5.out, HZ.out]
      · refine (contains_i _ o (c - i) (part xs i (i + o)) t W2 HI'.out (by omega)).mono ?_
        rintro e w' ⟨rfl, rfl⟩
        rw [show decide ((t : Int) ∈ part xs i (i + o)) = false by simpa using hm]
        have HM := Lib.hid hm
        clear hm
        have Br := HCUT.out.hbr
        clear k4 k5
        have cBr := Br.cell
        have fBr := Br.frozen
        have lBr := Br.lt
        go_wp2_with fail
        refine bodyPost_ret (v := .agg #[.int .i64 y, .int .i64 1, .slice (some ⟨bt, 0, none⟩) 1 1, .bool true]) (by simp [results, Try.results74, go_sem, cBr]) rfl (KEY.out y _ b bt w' HCUT.out ?_)
        rw [← HY.out, oneC, if_neg HM.out, if_neg HNE.out, HLEN.out, E5.out, HZ.out]
    · obtain rfl : o = 0 := by omega
      have HCUT := Lib.hid hcut
      have Bc := hcut.hbc
      have Bb := hcut.hbb
      have Br := hcut.hbr
      obtain ⟨A', hA', hI'⟩ := (HXW.out.keep hcut.bel (Nat.le_refl _)).mid (l := i) (m := i + 0) (by omega) (by omega)
      rw [Nat.add_sub_cancel_left] at hI'
      have HI' := Lib.hid (show Ints wc A' 0 (c - i) (part xs i (i + 0)) from hI')
      clear hcut hI'
      have cBc := Bc.cell
      have fBc := Bc.frozen
      have lBc := Bc.lt
      have cBb := Bb.cell
      have fBb := Bb.frozen
      have lBb := Bb.lt
      have cBr := Br.cell
      have fBr := Br.frozen
      have lBr := Br.lt
      go_wp2_with fail
      refine (contains_i _ 0 (c - i) (part xs i (i + 0)) t wc HI'.out (by omega)).mono ?_
      rintro e w' ⟨rfl, rfl⟩
      have hnil : part xs i (i + 0) = [] := part_same xs i
      have HNIL := Lib.hid hnil
      rw [show decide ((t : Int) ∈ part xs i (i + 0)) = false by rw [hnil]; simp]
      clear hnil hA'
      go_wp2_with fail
      refine bodyPost_ret (v := .agg #[.int .i64 (c0 + z), .int .i64 1, .slice (some ⟨bt, 0, none⟩) 1 1, .bool true]) (by simp [results, Try.results74, go_sem, cBr]) rfl (KEY.out (c0 + z) _ b bt w' HCUT.out ?_)
      rw [HNIL.out, HZ.out]
      simp [oneC]
end Go.Proofs.Ytghnkgbingcbcaa



namespace Go.Proofs.Ytghnkgbingcbcaa
open Go.RowKit

/-! ### a row of ways in a block of its own -/
def WRow (ok : Nat → Prop) (w : World) (b n : Nat) (f : Nat → Way) : Prop :=
  ∃ C : Array Value, Blk w b 78 C ∧ C.size = (n + 1) * 4 ∧ ∀ j, j ≤ n → ∃ v, WayR ok w v (f j) ∧ ∀ q u, (WayE.cells v)[q]? = some u → C[j * 4 + q]? = some u
section
variable {ok ok' : Nat → Prop} {w w' : World} {b n : Nat} {f : Nat → Way}
theorem WRow.lt (h : WRow ok w b n f) : b < w.heap.size := by obtain ⟨C, h1, _⟩ := h; exact h1.lt
theorem WRow.at_ (h : WRow ok w b n f) {j : Nat} (hj : j ≤ n) : ∃ v, WayR ok w v (f j) ∧ w.cell? ⟨b, j * 4, none⟩ = some (.int .i64 v.1) ∧ w.cell? ⟨b, j * 4 + 1, none⟩ = some (.int .i64 v.2.1) ∧ w.cell? ⟨b, j * 4 + 2, none⟩ = some (.slice v.2.2.1.1 v.2.2.1.2.1 v.2.2.1.2.2) ∧ w.cell? ⟨b, j * 4 + 3, none⟩ = some (.bool v.2.2.2) := by
  obtain ⟨C, h1, h2, h3⟩ := h
  obtain ⟨v, hv, hc⟩ := h3 j hj
  exact ⟨v, hv, (h1.cell _).trans (hc 0 _ rfl), (h1.cell _).trans (hc 1 _ rfl), (h1.cell _).trans (hc 2 _ rfl), (h1.cell _).trans (hc 3 _ rfl)⟩
theorem WRow.frozen (h : WRow ok w b n f) (i : Nat) : w.frozen? ⟨b, i, none⟩ = false := by obtain ⟨C, h1, _⟩ := h; exact h1.frozen i
theorem WRow.agr (h : WRow ok w b n f) (hb : w'.heap[b]? = w.heap[b]?) (k : Agr ok w w') : WRow ok w' b n f := by
  obtain ⟨C, h1, h2, h3⟩ := h
  refine ⟨C, hb.trans h1, h2, fun j hj => ?_⟩
  obtain ⟨v, hv, hc⟩ := h3 j hj
  exact ⟨v, hv.agr k, hc⟩
theorem WRow.via (h : WRow ok w b n f) (k : Below w.heap.size w w') : WRow ok w' b n f := h.agr (k.block b h.lt) (Agr.below k)
theorem WRow.al (h : WRow ok w b n f) (o : Obj) : WRow ok (w.alloc o) b n f := h.via ((Below.refl w.heap.size w).alloc (Nat.le_refl _) o)
theorem WRow.dr (h : WRow ok w b n f) : WRow ok w.drew b n f := h.via ((Below.refl w.heap.size w).drew)
theorem WRow.mono (h : WRow ok w b n f) (k : ∀ b, b < w.heap.size → ok b → ok' b) : WRow ok' w b n f := by
  obtain ⟨C, h1, h2, h3⟩ := h
  refine ⟨C, h1, h2, fun j hj => ?_⟩
  obtain ⟨v, hv, hc⟩ := h3 j hj
  exact ⟨v, hv.mono k, hc⟩
/-- the four cells of a way are written -/
def World.put4 (w : World) (b o : Nat) (v : WyV) : World :=
  (((w.setCell ⟨b, o, none⟩ (.int .i64 v.1)).setCell ⟨b, o + 1, none⟩ (.int .i64 v.2.1)).setCell ⟨b, o + 2, none⟩ (.slice v.2.2.1.1 v.2.2.1.2.1 v.2.2.1.2.2)).setCell ⟨b, o + 3, none⟩ (.bool v.2.2.2)
theorem agr_put4 {o : Nat} {v : WyV} (hk : ∀ x, ok x → x ≠ b) : Agr ok w (World.put4 w b o v) :=
  (((Agr.setCell _ hk).trans (Agr.setCell _ hk)).trans (Agr.setCell _ hk)).trans (Agr.setCell _ hk)
theorem below_put4 {B : Nat} {w0 : World} {o : Nat} {v : WyV} (h : Below B w0 w) (hr : B ≤ b) : Below B w0 (World.put4 w b o v) :=
  (((h.setCell hr _).setCell hr _).setCell hr _).setCell hr _
theorem size_put4 {o : Nat} {v : WyV} : (World.put4 w b o v).heap.size = w.heap.size := by simp [World.put4]
theorem heap_put4 {o : Nat} {v : WyV} {g : Nat} (h : g ≠ b) : (World.put4 w b o v).heap[g]? = w.heap[g]? := by
  unfold World.put4
  rw [Below.heap_setCell _ _ _ _ h, Below.heap_setCell _ _ _ _ h, Below.heap_setCell _ _ _ _ h, Below.heap_setCell _ _ _ _ h]
theorem WRow.put (h : WRow ok w b n f) {j : Nat} (hj : j ≤ n) {v : WyV} {y : Way} (hv : WayR ok w v y) (hk : ∀ x, ok x → x ≠ b) : WRow ok (World.put4 w b (j * 4) v) b n (upd f j y) := by
  obtain ⟨C, h1, h2, h3⟩ := h
  have e := (((h1.set_ (j * 4) (.int .i64 v.1)).set_ (j * 4 + 1) (.int .i64 v.2.1)).set_ (j * 4 + 2) (.slice v.2.2.1.1 v.2.2.1.2.1 v.2.2.1.2.2)).set_ (j * 4 + 3) (.bool v.2.2.2)
  refine ⟨_, e, by simp [h2], fun i hi => ?_⟩
  by_cases ei : i = j
  · subst ei
    refine ⟨v, by rw [upd_same]; exact hv.agr (agr_put4 hk), fun q u hu => ?_⟩
    simp only [Array.getElem?_setIfInBounds, Array.size_setIfInBounds]
    match q, hu with
    | 0, hu => simp [WayE] at hu; subst hu; simp; omega
    | 1, hu => simp [WayE] at hu; subst hu; simp; omega
    | 2, hu => simp [WayE] at hu; subst hu; simp; omega
    | 3, hu => simp [WayE] at hu; subst hu; simp; omega
    | q + 4, hu => simp [WayE] at hu
  · obtain ⟨v', hv', hc⟩ := h3 i hi
    refine ⟨v', by rw [upd_ne _ _ ei]; exact hv'.agr (agr_put4 hk), fun q u hu => ?_⟩
    have hq : q < 4 := by have := (List.getElem?_eq_some_iff.1 hu).1; simpa [WayE] using this
    simp only [Array.getElem?_setIfInBounds, Array.size_setIfInBounds]
    rw [if_neg (by omega), if_neg (by omega), if_neg (by omega), if_neg (by omega)]
    exact hc q u hu
end
theorem way_info : (Try.prog.info? 78).map (fun i => (i.zero, i.size, i.bytes)) = some (some (.agg #[.int .i64 0, .int .i64 0, .slice none 0 0, .bool false]), 4, 48) := by kernel_rfl
def wayCells (n : Nat) : Array Value := madeCells #[.int .i64 0, .int .i64 0, .slice none 0 0, .bool false] ((n + 1) * 4)
theorem mk_ways (n : Nat) (hn : n ≤ 1000000) : ∀ w : World, (Instr.makeSlice 73 (.int .i64 ((n : Int) + 1)) (.int .i64 ((n : Int) + 1))).run Try.prog w = .ok (.slice (some ⟨w.heap.size, 0, none⟩) (n + 1) (n + 1)) (w.alloc (.cells (wayCells n) 78)) := by
  intro w
  obtain ⟨i, hi, hz, hs, hb⟩ := info_parts way_info
  have := run_make (P := Try.prog) w 73 78 i _ Try.underlying73 hi hz .i64 .i64 ((n : Int) + 1) ((n : Int) + 1) (by omega) (by omega) (by rw [hb]; omega) (by omega)
  rw [show ((n : Int) + 1).toNat = n + 1 from by omega, hs] at this
  exact this
theorem WRow.made (ok : Nat → Prop) (w : World) (n : Nat) : WRow ok (w.alloc (.cells (wayCells n) 78)) w.heap.size n (fun _ => Way.no) := by
  refine ⟨_, Blk.new w _ _, size_madeCells _ _, fun j hj => ⟨(0, 0, (none, 0, 0), false), ⟨rfl, rfl, rfl, Sl.nil 0⟩, fun q u hu => ?_⟩⟩
  have hq : q < 4 := by have := (List.getElem?_eq_some_iff.1 hu).1; simpa [WayE] using this
  have hlt : j * 4 + q < (n + 1) * 4 := by omega
  unfold wayCells madeCells
  rw [Array.getElem?_map, Array.getElem?_range, if_pos hlt]
  simp only [Option.map_some]
  have e : (j * 4 + q) % 4 = q := by omega
  match q, hu, hq with
  | 0, hu, _ => simp [WayE] at hu; subst hu; simp
  | 1, hu, _ => simp [WayE] at hu; subst hu; simp [e]
  | 2, hu, _ => simp [WayE] at hu; subst hu; simp [e]
  | 3, hu, _ => simp [WayE] at hu; subst hu; simp [e]

/-! ### a table of ways -/
structure BestR (ok : Nat → Prop) (w : World) (ob oo N n : Nat) (rb : Nat → Nat) (cb : Nat → Nat → Nat) (st : WSt) : Prop where
  top : ∀ k, k < N → w.cell? ⟨ob, oo + k, none⟩ = some (.slice (some ⟨rb k, 0, none⟩) (n + 1) (n + 1))
  mid : ∀ k i, k < N → i ≤ n → w.cell? ⟨rb k, i, none⟩ = some (.slice (some ⟨cb k i, 0, none⟩) (n + 1) (n + 1))
  row : ∀ k i, k < N → i ≤ n → WRow ok w (cb k i) n (st k i)
section
variable {ok ok' : Nat → Prop} {w w' : World} {ob oo N n : Nat} {rb : Nat → Nat} {cb : Nat → Nat → Nat} {st : WSt}
theorem BestR.via (h : BestR ok w ob oo N n rb cb st) (k : Below w.heap.size w w') : BestR ok w' ob oo N n rb cb st :=
  ⟨fun i hi => (k.cell (p := ⟨ob, oo + i, none⟩) (World.block_lt_of_cell? w _ (h.top i hi))).trans (h.top i hi), fun a i ha hi => (k.cell (p := ⟨rb a, i, none⟩) (World.block_lt_of_cell? w _ (h.mid a i ha hi))).trans (h.mid a i ha hi), fun a i ha hi => (h.row a i ha hi).via k⟩
theorem BestR.al (h : BestR ok w ob oo N n rb cb st) (o : Obj) : BestR ok (w.alloc o) ob oo N n rb cb st := h.via ((Below.refl w.heap.size w).alloc (Nat.le_refl _) o)
theorem BestR.mono (h : BestR ok w ob oo N n rb cb st) (k : ∀ b, b < w.heap.size → ok b → ok' b) : BestR ok' w ob oo N n rb cb st := ⟨h.top, h.mid, fun a i ha hi => (h.row a i ha hi).mono k⟩
theorem BestR.agr (h : BestR ok w ob oo N n rb cb st) (k : Agr ok w w') (h1 : ∀ g, (g = ob ∨ (∃ a, a < N ∧ g = rb a) ∨ ∃ a i, a < N ∧ i ≤ n ∧ g = cb a i) → w'.heap[g]? = w.heap[g]?) : BestR ok w' ob oo N n rb cb st :=
  ⟨fun i hi => (World.cell?_of_block (w := w) (a := ⟨ob, oo + i, none⟩) (h1 ob (Or.inl rfl))).trans (h.top i hi), fun a i ha hi => (World.cell?_of_block (w := w) (a := ⟨rb a, i, none⟩) (h1 _ (Or.inr (Or.inl ⟨a, ha, rfl⟩)))).trans (h.mid a i ha hi),
    fun a i ha hi => (h.row a i ha hi).agr (h1 _ (Or.inr (Or.inr ⟨a, i, ha, hi, rfl⟩))) k⟩
end
def WayK (ok : Nat → Prop) (w : World) (x : Way) (e : Ending) (w' : World) : Prop := ∃ v, e = .returned (wyVal v) ∧ WayR (fun b => ok b ∨ w.heap.size ≤ b) w' v x ∧ Below w.heap.size w w'

set_option maxRecDepth 100000 in
set_option maxHeartbeats 4000000 in
theorem symbol_c (ok : Nat → Prop) (bc : Nat) (v : CorV) (xs : List Int) (s : Sy) (i j oo : Nat) (ob : Nat) (rb : Nat → Nat) (cb : Nat → Nat → Nat) (st : WSt) (w : World) (hb : Blk w bc 71 v.cells) (hx : Ints w v.A v.n v.c xs)
    (h0 : 1 ≤ v.c0 ∧ v.c0 ≤ 100) (h1 : 1 ≤ v.c1 ∧ v.c1 ≤ 100) (h2 : 1 ≤ v.c2 ∧ v.c2 ≤ 100) (hn : v.n ≤ 12) (hi : i ≤ j) (hj : j ≤ v.n) (hA : v.bA = some ⟨ob, oo, none⟩) (hT : BestR ok w ob oo v.bn v.n rb cb st) (hs : s.1 = false → s.2 < v.bn) :
    Calls Try.prog 56 #[.pointer (some ⟨bc, 0, none⟩), .agg #[.bool s.1, .int .i64 (s.2 : Int)], .int .i64 (i : Int), .int .i64 (j : Int)] w (WayK ok w (symW v.c0 v.c1 v.c2 xs st s i j)) := by
  obtain ⟨sb, sn⟩ := s
  cases sb with
  | true =>
    have HB := Lib.hid ((hb.al (.cells #[.bool true, .int .i64 (sn : Int)] 48)).al (.cells #[.int .i64 0, .int .i64 0, .slice none 0 0, .bool false] 78))
    have HX := Lib.hid ((hx.alloc (.cells #[.bool true, .int .i64 (sn : Int)] 48)).alloc (.cells #[.int .i64 0, .int .i64 0, .slice none 0 0, .bool false] 78))
    have Br := Blk.new (w.alloc (.cells #[.bool true, .int .i64 (sn : Int)] 48)) 78 #[.int .i64 0, .int .i64 0, .slice none 0 0, .bool false]
    rw [World.size_alloc] at Br
    have HBR := Lib.hid Br
    have HW := Lib.hid (((Below.refl w.heap.size w).al (.cells #[.bool true, .int .i64 (sn : Int)] 48)).al (.cells #[.int .i64 0, .int .i64 0, .slice none 0 0, .bool false] 78))
    clear hb hx Br hT hs hA
    go_enter Try.func56, Try.ntmps56
    go_wp2_with fail
    generalize (w.alloc (.cells #[.bool true, .int .i64 (sn : Int)] 48)).alloc (.cells #[.int .i64 0, .int .i64 0, .slice none 0 0, .bool false] 78) = W at *
    refine (one_c bc v xs sn i j W HB.out HX.out h0 h1 h2 hn hi hj).mono ?_
    rintro e w1 ⟨⟨rc, rs, ⟨rA, rn, rcc⟩, ro⟩, rfl, hR, hb1⟩
    have Br := HBR.out.via hb1
    have HF := Lib.hid (HW.out.via hb1)
    have hz := HBR.out.lt
    have HR := Lib.hid hR
    clear hb1 hR
    dsimp only [wyVal]
    have cBr := Br.cell
    have fBr := Br.frozen
    have lBr := Br.lt
    go_wp2_with fail
    refine bodyPost_ret (v := .agg #[.int .i64 rc, .int .i64 rs, .slice rA rn rcc, .bool ro]) (by simp [results, Try.results56, go_sem, cBr]) rfl ⟨(rc, rs, (rA, rn, rcc), ro), rfl, ?_, below_set4 (r := w.heap.size + 1) (v := (rc, rs, (rA, rn, rcc), ro)) HF.out (by omega)⟩
    exact ((show WayR _ w1 (rc, rs, (rA, rn, rcc), ro) (symW v.c0 v.c1 v.c2 xs st (true, sn) i j) from HR.out).agr (agr_set4 (r := w.heap.size + 1) (v := (rc, rs, (rA, rn, rcc), ro)) fun b hb => by omega)).mono fun b _ hb => Or.inr (by omega)
  | false =>
    have hs' : sn < v.bn := hs rfl
    have t1 := hT.top sn hs'
    have t2 := hT.mid sn i hs' (by omega)
    obtain ⟨⟨rc, rs, ⟨rA, rn, rcc⟩, ro⟩, hR, c0, c1, c2, c3⟩ := (hT.row sn i hs' (by omega)).at_ hj
    obtain ⟨gt, gn, gs, gA, gl, gc, A, n, c, k0, k1, k2, bA, bn, bcc⟩ := v
    simp only [CorV.cells] at hb hx hn hj hA hs' t1 t2 c0 c1 c2 c3 hT ⊢
    subst hA
    have l1 := World.block_lt_of_cell? w _ t1
    have l2 := World.block_lt_of_cell? w _ t2
    have l3 := World.block_lt_of_cell? w _ c0
    simp only at l1 l2 l3
    have cb0 := hb.cell
    have lb := hb.lt
    have i0 : (0 : Int) ≤ (sn : Int) := by omega
    have i1 : (sn : Int) < (bn : Int) := by omega
    have i2 : (0 : Int) ≤ (i : Int) := by omega
    have i3 : (i : Int) < (n : Int) + 1 := by omega
    have i4 : (0 : Int) ≤ (j : Int) := by omega
    have i5 : (j : Int) < (n : Int) + 1 := by omega
    have HR := Lib.hid hR
    clear hb hx hT hs hR h0 h1 h2
    go_enter Try.func56, Try.ntmps56
    go_upto_region 3 with fail
    go_region
    clear cb0 t1 t2 c0 c1 c2 c3
    go_wp2_with fail
    refine bodyPost_ret (v := .agg #[.int .i64 rc, .int .i64 rs, .slice rA rn rcc, .bool ro]) (by simp [results, Try.results56, go_sem]) rfl ⟨(rc, rs, (rA, rn, rcc), ro), rfl, ?_, (((Below.refl _ _).al _).al _).drew⟩
    exact ((((show WayR ok w (rc, rs, (rA, rn, rcc), ro) (symW k0 k1 k2 xs st (false, sn) i j) from HR.out).al _).al _).dr).mono fun b _ hb => Or.inl hb
end Go.Proofs.Ytghnkgbingcbcaa



namespace Go.Proofs.Ytghnkgbingcbcaa
open Go.RowKit

def emptyRow (c1 : Int) (i jj : Nat) : Nat → Way := fun q => if i ≤ q ∧ q < jj then ⟨((q : Int) - (i : Int)) * c1, 0, [], true⟩ else Way.no
theorem emptyRow_start (c1 : Int) (i : Nat) : emptyRow c1 i i = fun _ => Way.no := by funext q; unfold emptyRow; rw [if_neg (by omega)]
theorem emptyRow_next (c1 : Int) {i jj : Nat} (h : i ≤ jj) : upd (emptyRow c1 i jj) jj ⟨((jj : Int) - (i : Int)) * c1, 0, [], true⟩ = emptyRow c1 i (jj + 1) := by
  funext q
  by_cases e : q = jj
  · subst e; rw [upd_same, emptyRow, if_pos ⟨h, by omega⟩]
  · rw [upd_ne _ _ e, emptyRow, emptyRow]
    by_cases e2 : i ≤ q ∧ q < jj
    · rw [if_pos e2, if_pos ⟨e2.1, by omega⟩]
    · rw [if_neg e2, if_neg (by omega)]
/-- the words of a row that is being made in block b: old ones that are good, new ones, none in b -/
def Zb (ok : Nat → Prop) (lo b : Nat) : Nat → Prop := fun x => (ok x ∨ lo ≤ x) ∧ x ≠ b
def RuleP (ok : Nat → Prop) (w : World) (n : Nat) (f : Nat → Way) (e : Ending) (w' : World) : Prop :=
  ∃ b, e = .returned (.slice (some ⟨b, 0, none⟩) (n + 1) (n + 1)) ∧ w.heap.size ≤ b ∧ WRow (Zb ok w.heap.size b) w' b n f ∧ Below w.heap.size w w'

set_option maxRecDepth 100000 in
set_option maxHeartbeats 4000000 in
theorem rule_empty (ok : Nat → Prop) (bc : Nat) (v : CorV) (xs : List Int) (left rc i : Nat) (rA : Option Addr) (st : WSt) (w : World) (hb : Blk w bc 71 v.cells) (hx : Ints w v.A v.n v.c xs)
    (h1 : 1 ≤ v.c1 ∧ v.c1 ≤ 100) (hn : v.n ≤ 12) (hi : i ≤ v.n) :
    Calls Try.prog 28 #[.pointer (some ⟨bc, 0, none⟩), .agg #[.int .i64 (left : Int), .slice rA 0 rc], .int .i64 (i : Int)] w (RuleP ok w v.n (ruleW v.c0 v.c1 v.c2 xs st v.n i [])) := by
  have hmk := mk_ways v.n (by omega)
  have HX := Lib.hid hx.len
  clear hx
  obtain ⟨gt, gn, gs, gA, gl, gc, A, n, c, c0, c1, c2, bA, bn, bcc⟩ := v
  simp only [CorV.cells] at hb HX h1 hn hi hmk ⊢
  have lb := hb.lt
  have cb0 := hb.cell
  have B1 := hb.al (.cells #[.int .i64 (left : Int), .slice rA 0 rc] 75)
  have HB := Lib.hid (B1.al (.cells (wayCells n) 78))
  have hR := WRow.made (Zb ok w.heap.size (w.heap.size + 1)) (w.alloc (.cells #[.int .i64 (left : Int), .slice rA 0 rc] 75)) n
  rw [World.size_alloc] at hR
  have HR := Lib.hid hR
  have HW := Lib.hid (((Below.refl w.heap.size w).al (.cells #[.int .i64 (left : Int), .slice rA 0 rc] 75)).al (.cells (wayCells n) 78))
  clear hb B1 hR
  go_enter Try.func28, Try.ntmps28
  go_wp2_with fail
  clear cb0 hmk
  generalize (w.alloc (.cells #[.int .i64 (left : Int), .slice rA 0 rc] 75)).alloc (.cells (wayCells n) 78) = W at *
  go_loopw [9] (fun q wr => ∃ jj : Nat, q = .int .i64 jj ∧ i ≤ jj ∧ jj ≤ n + 1 ∧ WRow (Zb ok w.heap.size (w.heap.size + 1)) wr (w.heap.size + 1) n (emptyRow c1 i jj) ∧ Blk wr bc 71 #[.int .i64 (gt : Int), .int .i64 (gn : Int), .int .i64 (gs : Int), .slice gA gl gc, .slice A n c, .int .i64 c0, .int .i64 c1, .int .i64 c2, .slice bA bn bcc] ∧ Below w.heap.size w wr) (fun q _ => n + 1 - (intOf q).toNat)
  case atStart => exact ⟨i, rfl, Nat.le_refl _, by omega, by rw [emptyRow_start]; exact HR.out, HB.out, HW.out⟩
  case round =>
    obtain ⟨jj, rfl, hij, hjn, hR, hC, hW⟩ := hrel
    clear HR HB HW
    by_cases hlt : jj ≤ n
    · obtain ⟨vv, -, d0, d1, d2, d3⟩ := hR.at_ hlt
      have fr := hR.frozen
      have cC := hC.cell
      have i0 : (0 : Int) ≤ (jj : Int) := by omega
      have i1 : (jj : Int) < (n : Int) + 1 := by omega
      have q2 : ((jj : Int) - (i : Int)) * c1 ≤ 12 * 100 := Int.mul_le_mul (by omega) h1.2 (by omega) (by omega)
      have q3 : 0 ≤ ((jj : Int) - (i : Int)) * c1 := Int.mul_nonneg (by omega) (by omega)
      have HRP := Lib.hid (hR.put hlt (v := (((jj : Int) - (i : Int)) * c1, 0, (none, 0, 0), true)) (y := ⟨((jj : Int) - (i : Int)) * c1, 0, [], true⟩) ⟨rfl, rfl, rfl, Sl.nil 0⟩ (fun x h => h.2))
      have HCP := Lib.hid ((heap_put4 (w := wr) (b := w.heap.size + 1) (o := jj * 4) (v := (((jj : Int) - (i : Int)) * c1, 0, (none, 0, 0), true)) (g := bc) (by omega)).trans hC)
      have HWP := Lib.hid (below_put4 (b := w.heap.size + 1) (o := jj * 4) (v := (((jj : Int) - (i : Int)) * c1, 0, (none, 0, 0), true)) hW (by omega))
      clear hR hC hW
      go_wp2_with fail
      refine ⟨⟨jj + 1, by go_num, by omega, by omega, by rw [← emptyRow_next c1 hij]; exact HRP.out, HCP.out, HWP.out⟩, by simp [intOf]; omega⟩
    · have HR := Lib.hid hR
      have HW := Lib.hid hW
      have HJ := Lib.hid (show jj = n + 1 by omega)
      clear hR hC hW
      go_wp2_with fail
      go_ret
      refine ⟨w.heap.size + 1, rfl, by omega, ?_, HW.out⟩
      have e : ruleW c0 c1 c2 xs st n i [] = emptyRow c1 i jj := by
        funext q; rw [ruleW, if_pos rfl, emptyRow, HJ.out]
        by_cases e : i ≤ q ∧ q ≤ n
        · rw [if_pos e, if_pos (by omega)]
        · rw [if_neg e, if_neg (by omega)]
      rw [e]; exact HR.out
end Go.Proofs.Ytghnkgbingcbcaa

