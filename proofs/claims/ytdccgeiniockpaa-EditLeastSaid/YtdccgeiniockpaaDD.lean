/- tree.Compare. -/
import Derived.Test.YtdccgeiniockpaaCC
namespace Go.Proofs.Ytdccgeiniockpaa
open Go.RowKit

def Tr.rls (t : Tr) : List Int := t.pre.flatMap fun x => [x.rl]
def Tr.wds (t : Tr) : List Int := t.pre.flatMap Tr.term
def Tr.cmp (a b : Tr) : Int := orL [cmpI (a.rls.length : Int) (b.rls.length : Int), cmpL a.rls b.rls, cmpL a.wds b.wds]
theorem Tr.rls_len (t : Tr) : t.rls.length = t.size := by rw [Tr.rls, flatMap_one, List.length_map, Tr.pre_len]
theorem Tr.wds_len (t : Tr) : t.wds.length ≤ t.size := by have := Tr.terms_len t.pre; rw [Tr.pre_len] at this; exact this
theorem rules_a (a b : Int) (A : Option Addr) (n c : Nat) (t : Tr) (w : World) (h1 : TreeR (fun _ => True) w (a, b, A, n, c) t) (hz : t.size ≤ 1000000) :
    Calls Try.prog 56 #[.agg #[.int .i64 a, .int .i64 b, .slice A n c]] w (ListP w t.rls) := by
  have := rules_c (fun _ => True) (a, b, A, n, c) t w h1 hz
  simp only [trVal] at this
  exact this
theorem word_a (a b : Int) (A : Option Addr) (n c : Nat) (t : Tr) (w : World) (h1 : TreeR (fun _ => True) w (a, b, A, n, c) t) (hz : t.size ≤ 1000000) :
    Calls Try.prog 31 #[.agg #[.int .i64 a, .int .i64 b, .slice A n c]] w (ListP w t.wds) := by
  have := word_t (fun _ => True) (a, b, A, n, c) t w h1 hz
  simp only [trVal] at this
  exact this
theorem Ints.three (w : World) (x y z : Int) (t : TypeId) : Ints (w.alloc (.cells #[.int .i64 x, .int .i64 y, .int .i64 z] t)) (some ⟨w.heap.size, 0, none⟩) 3 3 [x, y, z] :=
  ⟨rfl, Nat.le_refl _, fun _ => ⟨w.heap.size, 0, rfl, fun i hi => by
    rw [Nat.zero_add]
    match i, hi with
    | 0, _ => rw [World.cell?_alloc_new]; rfl
    | 1, _ => rw [World.cell?_alloc_new]; rfl
    | 2, _ => rw [World.cell?_alloc_new]; rfl⟩⟩
def IntBi (w : World) (n : Int) (e : Ending) (w' : World) : Prop := e = .returned (.int .i64 n) ∧ Below w.heap.size w w'

set_option maxRecDepth 100000 in
set_option maxHeartbeats 8000000 in
theorem compare_c (ok : Nat → Prop) (v1 v2 : TrV) (s t : Tr) (w : World) (h1 : TreeR ok w v1 s) (h2 : TreeR ok w v2 t) (hs : s.size ≤ 1000000) (ht : t.size ≤ 1000000) :
    Calls Try.prog 29 #[trVal v1, trVal v2] w (IntBi w (Tr.cmp s t)) := by
  obtain ⟨a, b, A, n, c⟩ := v1
  obtain ⟨a2, b2, B, m, d⟩ := v2
  have hB := ((Below.refl w.heap.size w).al (.cells #[.int .i64 a, .int .i64 b, .slice A n c] 36)).al (.cells #[.int .i64 a2, .int .i64 b2, .slice B m d] 36)
  have B0 := (Blk.new w 36 #[.int .i64 a, .int .i64 b, .slice A n c]).al (.cells #[.int .i64 a2, .int .i64 b2, .slice B m d] 36)
  have B1 := Blk.new (w.alloc (.cells #[.int .i64 a, .int .i64 b, .slice A n c] 36)) 36 #[.int .i64 a2, .int .i64 b2, .slice B m d]
  rw [World.size_alloc] at B1
  have k1 := h1.agr (Agr.below hB)
  have k2 := h2.agr (Agr.below hB)
  clear h1 h2
  simp only [trVal]
  have H1 := Lib.hid k1
  have H2 := Lib.hid k2
  clear k1 k2
  go_enter Try.func29, Try.ntmps29
  go_upto_region 1 with fail
  generalize (w.alloc (.cells #[.int .i64 a, .int .i64 b, .slice A n c] 36)).alloc (.cells #[.int .i64 a2, .int .i64 b2, .slice B m d] 36) = W at *
  have T1 := Lib.hid (show ∀ w', Below W.heap.size W w' → TreeR (fun _ => True) w' (a, b, A, n, c) s from fun w' hb => (H1.out.via hb).mono fun _ _ _ => trivial)
  have T2 := Lib.hid (show ∀ w', Below W.heap.size W w' → TreeR (fun _ => True) w' (a2, b2, B, m, d) t from fun w' hb => (H2.out.via hb).mono fun _ _ _ => trivial)
  have SOF := Lib.hid (show ∀ w', Below W.heap.size W w' → ((∀ i, w'.cell? ⟨w.heap.size, i, none⟩ = #[.int .i64 a, .int .i64 b, .slice A n c][i]?) ∧ (∀ i, w'.cell? ⟨w.heap.size + 1, i, none⟩ = #[.int .i64 a2, .int .i64 b2, .slice B m d][i]?) ∧ Below W.heap.size W w') from fun w' hb => ⟨(B0.via hb).cell, (B1.via hb).cell, hb⟩)
  have HBB := Lib.hid hB
  have hb0 := (Below.refl W.heap.size W).drew
  clear hB H1 H2 B0 B1
  go_region_held3 (fun w' => (∀ i, w'.cell? ⟨w.heap.size, i, none⟩ = #[.int .i64 a, .int .i64 b, .slice A n c][i]?) ∧ (∀ i, w'.cell? ⟨w.heap.size + 1, i, none⟩ = #[.int .i64 a2, .int .i64 b2, .slice B m d][i]?) ∧ Below W.heap.size W w') (exact SOF.out _ (by assumption)) (first
    | (go_at_call 56; (with_reducible refine (rules_a a b A n c s _ (T1.out _ (by assumption)) hs).mono ?_); rintro ee wn ⟨A1, n1, c1, rfl, ho1, hbn⟩; have hbm : Below W.heap.size W wn := Below.via (by assumption) hbn)
    | (go_at_call 56; (with_reducible refine (rules_a a2 b2 B m d t _ (T2.out _ (by assumption)) ht).mono ?_); rintro ee wn ⟨A2, n2, c2, rfl, ho2, hbn⟩; have hbm : Below W.heap.size W wn := Below.via (by assumption) hbn))
  have I1 := ho1.toInts.via hbn
  have I2 := ho2.toInts
  have hn1 : n1 = s.size := by rw [← I1.len, Tr.rls_len]
  have hn2 : n2 = t.size := by rw [← I2.len, Tr.rls_len]
  have hle1 : n1 ≤ 1000000 := by omega
  have HN1 := Lib.hid hn1
  have HN2 := Lib.hid hn2
  have HM := Lib.hid hbm
  clear hn1 hn2 ho1 ho2 hbn hb0
  go_wp2_with fail
  have J1 := Lib.hid (show ∀ w', Below wn.heap.size wn w' → Ints w' A1 n1 c1 s.rls from fun w' hb => I1.via hb)
  have J2 := Lib.hid (show ∀ w', Below wn.heap.size wn w' → Ints w' A2 n2 c2 t.rls from fun w' hb => I2.via hb)
  have SO2 := Lib.hid (show ∀ w', Below wn.heap.size wn w' → ((∀ i, w'.cell? ⟨w.heap.size, i, none⟩ = #[.int .i64 a, .int .i64 b, .slice A n c][i]?) ∧ (∀ i, w'.cell? ⟨w.heap.size + 1, i, none⟩ = #[.int .i64 a2, .int .i64 b2, .slice B m d][i]?) ∧ Below W.heap.size W w' ∧ Below wn.heap.size wn w') from fun w' hb => ⟨(SOF.out w' (HM.out.via hb)).1, (SOF.out w' (HM.out.via hb)).2.1, HM.out.via hb, hb⟩)
  have U1 := Lib.hid (show ∀ w', Below wn.heap.size wn w' → TreeR (fun _ => True) w' (a, b, A, n, c) s from fun w' hb => T1.out w' (HM.out.via hb))
  have U2 := Lib.hid (show ∀ w', Below wn.heap.size wn w' → TreeR (fun _ => True) w' (a2, b2, B, m, d) t from fun w' hb => T2.out w' (HM.out.via hb))
  have hb1 := (Below.refl wn.heap.size wn).drew
  have HBW := Lib.hid (HBB.out.via HM.out)
  clear I1 I2 hbm HBB
  go_region_held3 (fun w' => (∀ i, w'.cell? ⟨w.heap.size, i, none⟩ = #[.int .i64 a, .int .i64 b, .slice A n c][i]?) ∧ (∀ i, w'.cell? ⟨w.heap.size + 1, i, none⟩ = #[.int .i64 a2, .int .i64 b2, .slice B m d][i]?) ∧ Below W.heap.size W w' ∧ Below wn.heap.size wn w') (exact SO2.out _ (by first | assumption | exact Below.al (by assumption) _)) (first
    | (go_at_call 58; (with_reducible refine (cmp_c _ _ _).mono ?_); rintro ee wk ⟨rfl, rfl⟩)
    | (go_at_call 59; (with_reducible refine (cmpL_c A1 A2 n1 c1 n2 c2 s.rls t.rls _ (J1.out _ (by assumption)) (J2.out _ (by assumption)) hle1).mono ?_); rintro ee wk ⟨rfl, rfl⟩)
    | (go_at_call 31; (with_reducible refine (word_a a b A n c s _ (U1.out _ (by assumption)) hs).mono ?_); rintro ee wk ⟨A3, n3, c3, rfl, ho3, hbk⟩; have hbm : Below wn.heap.size wn wk := Below.via (by assumption) hbk)
    | (go_at_call 31; (with_reducible refine (word_a a2 b2 B m d t _ (U2.out _ (by assumption)) ht).mono ?_); rintro ee wk ⟨A4, n4, c4, rfl, ho4, hbk⟩; have hbm : Below wn.heap.size wn wk := Below.via (by assumption) hbk; have I3 := ho3.toInts.via hbk; have I4 := ho4.toInts; have hle3 : n3 ≤ 1000000 := by (have h1 := I3.len; have h2 := s.wds_len; omega))
    | (go_at_call 59; (with_reducible refine (cmpL_c A3 A4 n3 c3 n4 c4 s.wds t.wds _ I3 I4 hle3).mono ?_); rintro ee wk ⟨rfl, rfl⟩)
    | (go_at_call 57; (with_reducible refine (or_c (some ⟨_, 0, none⟩) 3 3 [_, _, _] _ (Ints.three _ _ _ _ _) (by omega)).mono ?_); rintro ee wk ⟨rfl, rfl⟩))
  have HF := Lib.hid (show cmpI (n1 : Int) (n2 : Int) = cmpI (s.rls.length : Int) (t.rls.length : Int) by rw [Tr.rls_len, Tr.rls_len, HN1.out, HN2.out])
  have HF2 := Lib.hid (HBW.out.via (hbm.al (.cells #[.int .i64 (cmpI (n1 : Int) (n2 : Int)), .int .i64 (cmpL s.rls t.rls), .int .i64 (cmpL s.wds t.wds)] 3)))
  clear hbm hbk I3 I4 ho3 ho4
  go_wp2_with fail
  go_ret
  refine ⟨?_, HF2.out⟩
  rw [Tr.cmp, ← HF.out]
  rfl
end Go.Proofs.Ytdccgeiniockpaa
