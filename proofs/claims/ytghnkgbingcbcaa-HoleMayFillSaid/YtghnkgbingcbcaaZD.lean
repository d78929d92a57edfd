/- Ways in memory; repair.less, repair.then, repair.hopeless. -/
import Derived.Test.YtghnkgbingcbcaaZC
import Derived.Test.YtghnkgbingcbcaaRN
namespace Go.Proofs.Ytghnkgbingcbcaa
open Go.RowKit

/-! ### ints as elements; ways: cost, size, word, or none -/
def IntE : Elem Int Int where
  k := 1
  cells s := [.int .i64 s]
  rel _ _ r x := r = x
  pos := by omega
  len _ := rfl
  one r u hu := by simp at hu; subst hu; rfl
  agr h _ := h
  mono h _ := h
theorem Sl.ints {ok : Nat → Prop} {w : World} {A : Option Addr} {n c : Nat} {xs : List Int} (h : Sl IntE ok w A n c xs) : Ints w A n c xs := by
  refine ⟨h.len, h.le, fun hn => ?_⟩
  obtain ⟨b, off, r, x, e, -⟩ := h.at_ hn
  refine ⟨b, off, e, fun i hi => ?_⟩
  obtain ⟨b', off', r', x', e', _, _, hx, hr, hc⟩ := h.at_ hi
  rw [e] at e'
  obtain ⟨rfl, rfl⟩ : b = b' ∧ off = off' := by simpa using e'
  have := hc 0 (.int .i64 r') rfl
  simp only [IntE, Nat.mul_one, Nat.add_zero] at this
  rw [this, show r' = x' from hr, List.getD_eq_getElem?_getD, hx]
  rfl
theorem Ints.sl {ok : Nat → Prop} {w : World} {A : Option Addr} {n c : Nat} {xs : List Int} (h : Ints w A n c xs) (hk : ∀ b off, A = some ⟨b, off, none⟩ → 0 < n → ok b) : Sl IntE ok w A n c xs := by
  obtain ⟨h1, h2, h3⟩ := h
  refine ⟨h1, h2, xs, h1, fun hne => ?_, fun i r x hr hx => by rw [hr] at hx; exact Option.some.inj hx⟩
  have hfl : flat IntE xs = xs.map fun x => Value.int .i64 x := by
    unfold flat; clear h1 h3 hne
    induction xs with
    | nil => rfl
    | cons a l ih => rw [List.flatMap_cons, List.map_cons, ih]; rfl
  rw [hfl] at hne ⊢
  have hn : 0 < n := by
    rcases Nat.eq_zero_or_pos n with e | e
    · exfalso; apply hne; rw [List.length_eq_zero_iff.1 (h1.trans e)]; rfl
    · exact e
  obtain ⟨b, off, e, hc⟩ := h3 hn
  refine ⟨b, off, e, hk b off e hn, fun j u hu => ?_⟩
  have hj : j < xs.length := by have := (List.getElem?_eq_some_iff.1 hu).1; simpa using this
  rw [hc j (by omega), ← hu, List.getElem?_map, List.getD_eq_getElem?_getD, List.getElem?_eq_getElem hj]
  rfl
abbrev WyV := Int × Int × SlV × Bool
def WayE : Elem Way WyV where
  k := 4
  cells v := [.int .i64 v.1, .int .i64 v.2.1, .slice v.2.2.1.1 v.2.2.1.2.1 v.2.2.1.2.2, .bool v.2.2.2]
  rel ok w v x := v.1 = x.cost ∧ v.2.1 = x.size ∧ v.2.2.2 = x.ok ∧ Sl IntE ok w v.2.2.1.1 v.2.2.1.2.1 v.2.2.1.2.2 x.w
  pos := by omega
  len _ := rfl
  one r u hu := by simp at hu; rcases hu with rfl | rfl | rfl | rfl <;> rfl
  agr h k := ⟨h.1, h.2.1, h.2.2.1, h.2.2.2.agr k⟩
  mono h k := ⟨h.1, h.2.1, h.2.2.1, h.2.2.2.mono k⟩
def WayR (ok : Nat → Prop) (w : World) (v : WyV) (x : Way) : Prop := WayE.rel ok w v x
theorem WayR.agr {ok : Nat → Prop} {w w' : World} {v : WyV} {x : Way} (h : WayR ok w v x) (k : Agr ok w w') : WayR ok w' v x := WayE.agr h k
theorem WayR.via {ok : Nat → Prop} {w w' : World} {v : WyV} {x : Way} (h : WayR ok w v x) (k : Below w.heap.size w w') : WayR ok w' v x := WayE.agr h (Agr.below k)
theorem WayR.al {ok : Nat → Prop} {w : World} {v : WyV} {x : Way} (h : WayR ok w v x) (o : Obj) : WayR ok (w.alloc o) v x := h.via ((Below.refl w.heap.size w).alloc (Nat.le_refl _) o)
theorem WayR.dr {ok : Nat → Prop} {w : World} {v : WyV} {x : Way} (h : WayR ok w v x) : WayR ok w.drew v x := h.via ((Below.refl w.heap.size w).drew)
theorem WayR.mono {ok ok' : Nat → Prop} {w : World} {v : WyV} {x : Way} (h : WayR ok w v x) (k : ∀ b, b < w.heap.size → ok b → ok' b) : WayR ok' w v x := WayE.mono h k
def wyVal (v : WyV) : Value := .agg #[.int .i64 v.1, .int .i64 v.2.1, .slice v.2.2.1.1 v.2.2.1.2.1 v.2.2.1.2.2, .bool v.2.2.2]

def TellB (w : World) (b : Bool) (e : Ending) (w' : World) : Prop := e = .returned (.bool b) ∧ Below w.heap.size w w'
set_option maxRecDepth 100000 in
set_option maxHeartbeats 4000000 in
theorem less_c (ok ok' : Nat → Prop) (ac as_ : Int) (A : Option Addr) (n c : Nat) (ao : Bool) (bc bs : Int) (B : Option Addr) (m d : Nat) (bo : Bool) (x y : Way) (w : World)
    (h1 : WayR ok w (ac, as_, (A, n, c), ao) x) (h2 : WayR ok' w (bc, bs, (B, m, d), bo) y) (hx : x.w.length ≤ 2000) :
    Calls Try.prog 29 #[.agg #[.int .i64 ac, .int .i64 as_, .slice A n c, .bool ao], .agg #[.int .i64 bc, .int .i64 bs, .slice B m d, .bool bo]] w (TellB w (lessW x y)) := by
  obtain ⟨rfl, rfl, rfl, hA⟩ := h1
  obtain ⟨rfl, rfl, rfl, hC⟩ := h2
  obtain ⟨xc, xs, xw, xo⟩ := x
  obtain ⟨yc, ys, yw, yo⟩ := y
  simp only at hA hC hx ⊢
  have hn : n ≤ 1000000 := by have := hA.len; omega
  have hB := ((Below.refl w.heap.size w).al (.cells #[.int .i64 xc, .int .i64 xs, .slice A n c, .bool xo] 78)).al (.cells #[.int .i64 yc, .int .i64 ys, .slice B m d, .bool yo] 78)
  have B0 := (Blk.new w 78 #[.int .i64 xc, .int .i64 xs, .slice A n c, .bool xo]).al (.cells #[.int .i64 yc, .int .i64 ys, .slice B m d, .bool yo] 78)
  have B1 := Blk.new (w.alloc (.cells #[.int .i64 xc, .int .i64 xs, .slice A n c, .bool xo] 78)) 78 #[.int .i64 yc, .int .i64 ys, .slice B m d, .bool yo]
  rw [World.size_alloc] at B1
  have H1 := Lib.hid (hA.ints.keep hB (Nat.le_refl _))
  have H2 := Lib.hid (hC.ints.keep hB (Nat.le_refl _))
  clear hA hC hx
  cases yo with
  | false =>
    have HB := Lib.hid hB
    clear hB B0 B1
    go_enter Try.func29, Try.ntmps29
    go_wp2_with fail
    go_ret
    exact ⟨rfl, HB.out⟩
  | true =>
    cases xo with
    | false =>
      have HB := Lib.hid hB
      clear hB B0 B1
      go_enter Try.func29, Try.ntmps29
      go_wp2_with fail
      go_ret
      exact ⟨rfl, HB.out⟩
    | true =>
      go_enter Try.func29, Try.ntmps29
      go_upto_region 3 with fail
      generalize (w.alloc (.cells #[.int .i64 xc, .int .i64 xs, .slice A n c, .bool true] 78)).alloc (.cells #[.int .i64 yc, .int .i64 ys, .slice B m d, .bool true] 78) = W at *
      have J1 := Lib.hid (show ∀ w', Below W.heap.size W w' → Ints w' A n c xw from fun w' hb => H1.out.keep hb (Nat.le_refl _))
      have J2 := Lib.hid (show ∀ w', Below W.heap.size W w' → Ints w' B m d yw from fun w' hb => H2.out.keep hb (Nat.le_refl _))
      have SOF := Lib.hid (show ∀ w', Below W.heap.size W w' → ((∀ i, w'.cell? ⟨w.heap.size, i, none⟩ = #[.int .i64 xc, .int .i64 xs, .slice A n c, .bool true][i]?) ∧ (∀ i, w'.cell? ⟨w.heap.size + 1, i, none⟩ = #[.int .i64 yc, .int .i64 ys, .slice B m d, .bool true][i]?) ∧ Below W.heap.size W w') from fun w' hb => ⟨(B0.via hb).cell, (B1.via hb).cell, hb⟩)
      have HBB := Lib.hid hB
      have hb0 := (Below.refl W.heap.size W).drew
      clear hB H1 H2 B0 B1
      go_region_held3 (fun w' => (∀ i, w'.cell? ⟨w.heap.size, i, none⟩ = #[.int .i64 xc, .int .i64 xs, .slice A n c, .bool true][i]?) ∧ (∀ i, w'.cell? ⟨w.heap.size + 1, i, none⟩ = #[.int .i64 yc, .int .i64 ys, .slice B m d, .bool true][i]?) ∧ Below W.heap.size W w') (exact SOF.out _ (by first | assumption | exact Below.al (by assumption) _)) (first
        | (go_at_call 60; (with_reducible refine (cmp_c _ _ _).mono ?_); rintro ee wk ⟨rfl, rfl⟩)
        | (go_at_call 61; (with_reducible refine (cmpL_c A B n c m d xw yw _ (J1.out _ (by assumption)) (J2.out _ (by assumption)) hn).mono ?_); rintro ee wk ⟨rfl, rfl⟩)
        | (go_at_call 59; (with_reducible refine (or_c (some ⟨_, 0, none⟩) 3 3 [_, _, _] _ (Ints.three _ _ _ _ _).dr (by omega)).mono ?_); rintro ee wk ⟨rfl, rfl⟩))
      have HF2 := Lib.hid (HBB.out.via ((Below.refl W.heap.size W).al (.cells #[.int .i64 (cmpI xc yc), .int .i64 (cmpI xs ys), .int .i64 (cmpL xw yw)] 3)).drew)
      clear hb0
      go_wp2_with fail
      go_ret
      exact ⟨rfl, HF2.out⟩
end Go.Proofs.Ytghnkgbingcbcaa
