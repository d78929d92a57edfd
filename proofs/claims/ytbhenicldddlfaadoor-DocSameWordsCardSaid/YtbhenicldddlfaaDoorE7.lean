/- Texts DU, laid together. -/
import Derived.Test.YtbhenicldddlfaaDoorE6
import Derived.Sort.Grow



namespace Go.Proofs.YtbhenicldddlfaaDoor
open Go.RowKit
open Go.Sort (grow alloc_eq_grow grow_grow)

theorem Ints.three (w : World) (x y z : Int) (t : TypeId) : Ints (w.alloc (.cells #[.int .i64 x, .int .i64 y, .int .i64 z] t)) (some ⟨w.heap.size, 0, none⟩) 3 3 [x, y, z] :=
  ⟨rfl, Nat.le_refl _, fun _ => ⟨w.heap.size, 0, rfl, fun i hi => by
    rw [Nat.zero_add]
    match i, hi with
    | 0, _ => rw [World.cell?_alloc_new]; rfl
    | 1, _ => rw [World.cell?_alloc_new]; rfl
    | 2, _ => rw [World.cell?_alloc_new]; rfl⟩⟩
def GrowP (v : Value) (w : World) (e : Ending) (w' : World) : Prop := e = .returned v ∧ ∃ q os, w' = grow (w.drewN q) os
set_option maxRecDepth 100000 in
set_option maxHeartbeats 8000000 in
theorem all2_c (e1 l1 e2 l2 : Nat) (A B : Option Addr) (n c m d : Nat) (s1 s2 : ByteArray) (xs ys : List Int) (w : World) (h1 : Ints w A n c xs) (h2 : Ints w B m d ys) (hn : n ≤ 1000000) :
    Calls Tryd.prog 15 #[.agg #[.int .i64 (e1 : Int), .int .i64 (l1 : Int), .slice A n c, .string s1], .agg #[.int .i64 (e2 : Int), .int .i64 (l2 : Int), .slice B m d, .string s2]] w
      (GrowP (.int .i64 (orL [cmpI (e1 : Int) (e2 : Int), cmpI (l1 : Int) (l2 : Int), cmpL xs ys])) w) := by
  have hB := ((Below.refl w.heap.size w).al (.cells #[.int .i64 (e1 : Int), .int .i64 (l1 : Int), .slice A n c, .string s1] 34)).al (.cells #[.int .i64 (e2 : Int), .int .i64 (l2 : Int), .slice B m d, .string s2] 34)
  have B0 := (Blk.new w 34 #[.int .i64 (e1 : Int), .int .i64 (l1 : Int), .slice A n c, .string s1]).al (.cells #[.int .i64 (e2 : Int), .int .i64 (l2 : Int), .slice B m d, .string s2] 34)
  have B1 := Blk.new1 w (.cells #[.int .i64 (e1 : Int), .int .i64 (l1 : Int), .slice A n c, .string s1] 34) 34 #[.int .i64 (e2 : Int), .int .i64 (l2 : Int), .slice B m d, .string s2]
  have H1 := Lib.hid (h1.via hB)
  have H2 := Lib.hid (h2.via hB)
  have hW0 := Lib.hid (show (w.alloc (.cells #[.int .i64 (e1 : Int), .int .i64 (l1 : Int), .slice A n c, .string s1] 34)).alloc (.cells #[.int .i64 (e2 : Int), .int .i64 (l2 : Int), .slice B m d, .string s2] 34) = grow w #[.cells #[.int .i64 (e1 : Int), .int .i64 (l1 : Int), .slice A n c, .string s1] 34, .cells #[.int .i64 (e2 : Int), .int .i64 (l2 : Int), .slice B m d, .string s2] 34] by rw [alloc_eq_grow, alloc_eq_grow, grow_grow]; rfl)
  clear h1 h2 hB
  go_enter Tryd.func15, Tryd.ntmps15
  go_upto_region 1 with fail
  generalize (w.alloc (.cells #[.int .i64 (e1 : Int), .int .i64 (l1 : Int), .slice A n c, .string s1] 34)).alloc (.cells #[.int .i64 (e2 : Int), .int .i64 (l2 : Int), .slice B m d, .string s2] 34) = W at *
  have J1 := Lib.hid (show ∀ w', Below W.heap.size W w' → Ints w' A n c xs from fun w' hb => H1.out.via hb)
  have J2 := Lib.hid (show ∀ w', Below W.heap.size W w' → Ints w' B m d ys from fun w' hb => H2.out.via hb)
  have SOF := Lib.hid (show ∀ w', Below W.heap.size W w' → ((∀ i, w'.cell? ⟨w.heap.size, i, none⟩ = #[.int .i64 (e1 : Int), .int .i64 (l1 : Int), .slice A n c, .string s1][i]?) ∧ (∀ i, w'.cell? ⟨w.heap.size + 1, i, none⟩ = #[.int .i64 (e2 : Int), .int .i64 (l2 : Int), .slice B m d, .string s2][i]?) ∧ Below W.heap.size W w') from fun w' hb => ⟨(B0.via hb).cell, (B1.via hb).cell, hb⟩)
  have hb0 := (Below.refl W.heap.size W).drew
  clear H1 H2 B0 B1
  go_region_held3 (fun w' => (∀ i, w'.cell? ⟨w.heap.size, i, none⟩ = #[.int .i64 (e1 : Int), .int .i64 (l1 : Int), .slice A n c, .string s1][i]?) ∧ (∀ i, w'.cell? ⟨w.heap.size + 1, i, none⟩ = #[.int .i64 (e2 : Int), .int .i64 (l2 : Int), .slice B m d, .string s2][i]?) ∧ Below W.heap.size W w') (exact SOF.out _ (by first | assumption | exact Below.al (by assumption) _)) (first
    | (go_at_call 17; (with_reducible refine (cmp_c _ _ _).mono ?_); rintro ee wk ⟨rfl, rfl⟩)
    | (go_at_call 18; (with_reducible refine (cmpL_c A B n c m d xs ys _ (J1.out _ (by assumption)) (J2.out _ (by assumption)) hn).mono ?_); rintro ee wk ⟨rfl, rfl⟩)
    | (go_at_call 16; (with_reducible refine (or_c (some ⟨_, 0, none⟩) 3 3 [_, _, _] _ (Ints.three _ _ _ _ _).dr (by omega)).mono ?_); rintro ee wk ⟨rfl, rfl⟩))
  go_wp2_with fail
  go_ret
  refine ⟨rfl, 1, #[.cells #[.int .i64 (e1 : Int), .int .i64 (l1 : Int), .slice A n c, .string s1] 34, .cells #[.int .i64 (e2 : Int), .int .i64 (l2 : Int), .slice B m d, .string s2] 34, .cells #[.int .i64 (cmpI (e1 : Int) (e2 : Int)), .int .i64 (cmpI (l1 : Int) (l2 : Int)), .int .i64 (cmpL xs ys)] 3], ?_⟩
  rw [hW0.out, alloc_eq_grow, grow_grow]
  rfl
end Go.Proofs.YtbhenicldddlfaaDoor

