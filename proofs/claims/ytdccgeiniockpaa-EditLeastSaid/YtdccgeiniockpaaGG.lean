/- TreeOrderTotal: the walk. -/
import Derived.Test.YtdccgeiniockpaaFF
namespace Go.Proofs.Ytdccgeiniockpaa
open Go.RowKit

theorem compare_a (a b : Int) (A : Option Addr) (n c : Nat) (a2 b2 : Int) (B : Option Addr) (m d : Nat) (s t : Tr) (w : World) (h1 : TreeR (fun _ => True) w (a, b, A, n, c) s) (h2 : TreeR (fun _ => True) w (a2, b2, B, m, d) t) (hs : s.size ≤ 1000000) (ht : t.size ≤ 1000000) :
    Calls Try.prog 29 #[.agg #[.int .i64 a, .int .i64 b, .slice A n c], .agg #[.int .i64 a2, .int .i64 b2, .slice B m d]] w (IntBi w (Tr.cmp s t)) := by
  have := compare_c (fun _ => True) (a, b, A, n, c) (a2, b2, B, m, d) s t w h1 h2 hs ht
  simp only [trVal] at this
  exact this
theorem same_x (a b : Int) (A : Option Addr) (n c : Nat) (a2 b2 : Int) (B : Option Addr) (m d : Nat) (s t : Tr) (w : World) (h1 : TreeR (fun _ => True) w (a, b, A, n, c) s) (h2 : TreeR (fun _ => True) w (a2, b2, B, m, d) t) (hs : s.size ≤ 1000000) :
    Calls Try.prog 23 #[.agg #[.int .i64 a, .int .i64 b, .slice A n c], .agg #[.int .i64 a2, .int .i64 b2, .slice B m d]] w (TellP (s = t) w) := by
  have := same_any 1000000 (Nat.le_refl _) (fun _ => True) (a, b, A, n, c) (a2, b2, B, m, d) s t w h1 h2 hs
  simp only [trVal] at this
  exact this

theorem Tr.cmp_bound (a b : Tr) : -1 ≤ Tr.cmp a b ∧ Tr.cmp a b ≤ 1 := by rw [Tr.cmp_key]; exact cmpL_bound _ _

set_option maxRecDepth 100000 in
set_option maxHeartbeats 8000000 in
theorem order_walk (A B C D : Option Addr) (n c m d p e' q' f : Nat) (l1 l2 l3 l4 : List Int) (w : World) (h1 : Ints w A n c l1) (h2 : Ints w B m d l2) (h3 : Ints w C p e' l3) (h4 : Ints w D q' f l4) :
    Calls Try.prog 8 #[.slice A n c, .slice B m d, .slice C p e', .slice D q' f] w fun e w' => e = .returned (.bool true) ∧ Below w.heap.size w w' := by
  go_enter Try.func8, Try.ntmps8
  go_wp2_with fail
  refine (two_c w).mono ?_
  rintro e w1 ⟨⟨va, vb, vA, vn, vc⟩, rfl, hT, hb⟩
  dsimp only [trVal]
  have hB := hb
  go_wp2_with fail
  refine (compare_a va vb vA vn vc (-1) 0 none 0 0 twoT (.leaf 0) w1 (hT.mono fun _ _ _ => trivial) (.leaf 0 none 0) (by rw [twoSize]; omega) (by simp [Tr.size])).mono ?_
  rintro e w2 ⟨he, hb⟩
  rw [cmp_two] at he
  subst he
  replace hB := hB.via hb
  clear hT hb
  go_wp2_with fail
  refine (grammar_c A n c l1 w2 (h1.keep hB (Nat.le_refl _))).mono ?_
  rintro e w3 ⟨g, Ag, ng, cg, rfl, hG, hS, hb⟩
  replace hB := hB.via hb
  clear hb h1
  dsimp only [grVal]
  have Bg := Blk.new w3 40 #[.int .i64 (g.terms : Int), .int .i64 (g.nons : Int), .int .i64 (g.start : Int), .slice Ag ng cg]
  replace hS := hS.al (.cells #[.int .i64 (g.terms : Int), .int .i64 (g.nons : Int), .int .i64 (g.start : Int), .slice Ag ng cg] 40)
  replace hB := hB.al (.cells #[.int .i64 (g.terms : Int), .int .i64 (g.nons : Int), .int .i64 (g.start : Int), .slice Ag ng cg] 40)
  have HS := Lib.hid hS
  clear hS
  go_wp2_with fail
  generalize w3.alloc (.cells #[.int .i64 (g.terms : Int), .int .i64 (g.nons : Int), .int .i64 (g.start : Int), .slice Ag ng cg] 40) = w4 at *
  refine (make_c _ g Ag ng cg hG.hng hG.hrl B m d l2 w4 HS.out (h2.keep hB (Nat.le_refl _))).mono ?_
  rintro e w5 ⟨⟨ta, tb, tA, tn, tc⟩, b1, rfl, hb, ht⟩
  have hS := HS.out.via hb
  replace hB := hB.via hb
  replace Bg := Bg.via hb
  have K5 := Below.refl w5.heap.size w5
  have HT := Lib.hid ht
  clear HS hb h2 ht
  dsimp only [trVal]
  have Bt := Blk.new w5 36 #[.int .i64 ta, .int .i64 tb, .slice tA tn tc]
  replace Bg := Bg.al (.cells #[.int .i64 ta, .int .i64 tb, .slice tA tn tc] 36)
  replace hB := hB.al (.cells #[.int .i64 ta, .int .i64 tb, .slice tA tn tc] 36)
  replace hS := hS.al (.cells #[.int .i64 ta, .int .i64 tb, .slice tA tn tc] 36)
  replace K5 := K5.al (.cells #[.int .i64 ta, .int .i64 tb, .slice tA tn tc] 36)
  have cBg := Bg.cell
  have fBg := Bg.frozen
  have lBg := Bg.lt
  go_wp2_with fail
  clear cBg fBg lBg
  generalize hW : w5.alloc (.cells #[.int .i64 ta, .int .i64 tb, .slice tA tn tc] 36) = W5 at *
  clear hW
  refine (make_c _ g Ag ng cg hG.hng hG.hrl C p e' l3 W5 hS (h3.keep hB (Nat.le_refl _))).mono ?_
  rintro e w6 ⟨⟨sa, sb, sA, sn, sc⟩, b2, rfl, hb, hs⟩
  replace hB := hB.via hb
  replace Bg := Bg.via hb
  replace Bt := Bt.via hb
  replace K5 := K5.via hb
  replace hS := hS.via hb
  have K6 := Below.refl w6.heap.size w6
  have HS := Lib.hid hs
  clear hb h3 hs
  dsimp only [trVal]
  have Bs := Blk.new w6 36 #[.int .i64 sa, .int .i64 sb, .slice sA sn sc]
  replace Bg := Bg.al (.cells #[.int .i64 sa, .int .i64 sb, .slice sA sn sc] 36)
  replace Bt := Bt.al (.cells #[.int .i64 sa, .int .i64 sb, .slice sA sn sc] 36)
  replace hB := hB.al (.cells #[.int .i64 sa, .int .i64 sb, .slice sA sn sc] 36)
  replace hS := hS.al (.cells #[.int .i64 sa, .int .i64 sb, .slice sA sn sc] 36)
  replace K5 := K5.al (.cells #[.int .i64 sa, .int .i64 sb, .slice sA sn sc] 36)
  replace K6 := K6.al (.cells #[.int .i64 sa, .int .i64 sb, .slice sA sn sc] 36)
  have cBg := Bg.cell
  have fBg := Bg.frozen
  have lBg := Bg.lt
  go_wp2_with fail
  clear cBg fBg lBg
  generalize hW : w6.alloc (.cells #[.int .i64 sa, .int .i64 sb, .slice sA sn sc] 36) = W6 at *
  clear hW
  refine (make_c _ g Ag ng cg hG.hng hG.hrl D q' f l4 W6 hS (h4.keep hB (Nat.le_refl _))).mono ?_
  rintro e w7 ⟨⟨ua, ub, uA, un, uc⟩, b3, rfl, hb, hu⟩
  replace hB := hB.via hb
  replace Bt := Bt.via hb
  replace Bs := Bs.via hb
  replace K5 := K5.via hb
  replace K6 := K6.via hb
  have K7 := Below.refl w7.heap.size w7
  have HU := Lib.hid hu
  clear hb h4 hu hS Bg
  dsimp only [trVal]
  have hbound : ∀ t : Tr, t.size ≤ 60 → t.size ≤ 1000000 := fun t ht => by omega
  cases b1 with
  | false =>
    go_wp2_with fail
    go_ret
    exact ⟨rfl, hB.al _⟩
  | true =>
  cases b2 with
  | false =>
    go_wp2_with fail
    go_ret
    exact ⟨rfl, hB.al _⟩
  | true =>
  cases b3 with
  | false =>
    go_wp2_with fail
    go_ret
    exact ⟨rfl, hB.al _⟩
  | true =>
  obtain ⟨t, hT, dT, hTs⟩ := HT.out rfl
  obtain ⟨s, hU, dU, hUs⟩ := HS.out rfl
  obtain ⟨u, hV, dV, hVs⟩ := HU.out rfl
  have hTz := hbound t hTs
  have hUz := hbound s hUs
  have hVz := hbound u hVs
  have Z1 := Lib.hid (Tr.cmp_zero dT dU)
  have Z2 := Lib.hid (Tr.cmp_anti t s)
  have Z3 := Lib.hid (fun (h1 : Tr.cmp t s ≤ 0) (h2 : Tr.cmp s u ≤ 0) => Tr.cmp_trans h1 h2)
  have y1 := Tr.cmp_bound t s
  have y2 := Tr.cmp_bound s u
  have y3 := Tr.cmp_bound t u
  have y4 := Tr.cmp_bound s t
  have HT2 := Lib.hid hT
  have HU2 := Lib.hid hU
  have HV2 := Lib.hid hV
  clear HT HS HU hT hU hV dT dU dV hbound
  have Bu := Blk.new w7 36 #[.int .i64 ua, .int .i64 ub, .slice uA un uc]
  have o1 := (Below.refl w7.heap.size w7).al (.cells #[.int .i64 ua, .int .i64 ub, .slice uA un uc] 36)
  replace Bt := Bt.via o1
  replace Bs := Bs.via o1
  replace hB := hB.via o1
  replace K5 := K5.via o1
  replace K6 := K6.via o1
  replace K7 := K7.via o1
  clear o1
  go_upto_region 1 with fail
  generalize w7.alloc (.cells #[.int .i64 ua, .int .i64 ub, .slice uA un uc] 36) = W at *
  have T1 := Lib.hid (show ∀ w', Below W.heap.size W w' → TreeR (fun _ => True) w' (ta, tb, tA, tn, tc) t from fun w' hb => (HT2.out.via (K5.via hb)).mono fun _ _ _ => trivial)
  have T2 := Lib.hid (show ∀ w', Below W.heap.size W w' → TreeR (fun _ => True) w' (sa, sb, sA, sn, sc) s from fun w' hb => (HU2.out.via (K6.via hb)).mono fun _ _ _ => trivial)
  have T3 := Lib.hid (show ∀ w', Below W.heap.size W w' → TreeR (fun _ => True) w' (ua, ub, uA, un, uc) u from fun w' hb => (HV2.out.via (K7.via hb)).mono fun _ _ _ => trivial)
  have SOF := Lib.hid (show ∀ w', Below W.heap.size W w' → ((∀ i, w'.cell? ⟨w5.heap.size, i, none⟩ = #[.int .i64 ta, .int .i64 tb, .slice tA tn tc][i]?) ∧ (∀ i, w'.cell? ⟨w6.heap.size, i, none⟩ = #[.int .i64 sa, .int .i64 sb, .slice sA sn sc][i]?) ∧ (∀ i, w'.cell? ⟨w7.heap.size, i, none⟩ = #[.int .i64 ua, .int .i64 ub, .slice uA un uc][i]?) ∧ Below W.heap.size W w') from fun w' hb => ⟨(Bt.via hb).cell, (Bs.via hb).cell, (Bu.via hb).cell, hb⟩)
  have HBB := Lib.hid hB
  have hb0 := (Below.refl W.heap.size W).drew
  clear hB hb hG Bt Bs Bu K5 K6 K7 HU2 HT2 HV2
  go_region_held3 (fun w' => (∀ i, w'.cell? ⟨w5.heap.size, i, none⟩ = #[.int .i64 ta, .int .i64 tb, .slice tA tn tc][i]?) ∧ (∀ i, w'.cell? ⟨w6.heap.size, i, none⟩ = #[.int .i64 sa, .int .i64 sb, .slice sA sn sc][i]?) ∧ (∀ i, w'.cell? ⟨w7.heap.size, i, none⟩ = #[.int .i64 ua, .int .i64 ub, .slice uA un uc][i]?) ∧ Below W.heap.size W w') (exact SOF.out _ (by assumption)) (first
    | (go_at_call 29; (with_reducible refine (compare_a ta tb tA tn tc sa sb sA sn sc t s _ (T1.out _ (by assumption)) (T2.out _ (by assumption)) hTz hUz).mono ?_); rintro ee wn ⟨rfl, hbn⟩; have hbm : Below W.heap.size W wn := Below.via (by assumption) hbn)
    | (go_at_call 29; (with_reducible refine (compare_a sa sb sA sn sc ua ub uA un uc s u _ (T2.out _ (by assumption)) (T3.out _ (by assumption)) hUz hVz).mono ?_); rintro ee wn ⟨rfl, hbn⟩; have hbm : Below W.heap.size W wn := Below.via (by assumption) hbn)
    | (go_at_call 29; (with_reducible refine (compare_a ta tb tA tn tc ua ub uA un uc t u _ (T1.out _ (by assumption)) (T3.out _ (by assumption)) hTz hVz).mono ?_); rintro ee wn ⟨rfl, hbn⟩; have hbm : Below W.heap.size W wn := Below.via (by assumption) hbn))
  all_goals
    have HM := Lib.hid hbm
    obtain ⟨c1, c2, c3, -⟩ := SOF.out _ hbm
    clear hbm hbn hb0
    go_wp2_with fail
    clear c1 c2 c3
    refine (compare_a sa sb sA sn sc ta tb tA tn tc s t _ (T2.out _ HM.out) (T1.out _ HM.out) hUz hTz).mono ?_
    rintro ee wp ⟨rfl, hbp⟩
    have HM2 := Lib.hid (HM.out.via hbp)
    obtain ⟨c1, c2, c3, -⟩ := SOF.out _ HM2.out
    clear hbp HM
    have z1 : (Tr.cmp t s == - Tr.cmp s t) = true := by rw [beq_iff_eq]; exact Z2.out
    go_wp2_with fail
    clear c1 c2 c3
    refine (same_x ta tb tA tn tc sa sb sA sn sc t s _ (T1.out _ HM2.out) (T2.out _ HM2.out) hTz).mono ?_
    rintro ee wq ⟨b, rfl, hbb, hbq⟩
    have HF := Lib.hid (HBB.out.via (HM2.out.via hbq))
    have HQ := Lib.hid hbb
    have k2 := Lib.hid (fun (e : Tr.cmp t s = 0) (e2 : Tr.cmp s u ≤ 0) => Z3.out (by omega) e2)
    have k3 := Lib.hid (fun (e : Tr.cmp t s ≤ 0) (e2 : Tr.cmp s u ≤ 0) => Z3.out e e2)
    clear hbq hbb HM2 z1 Z2 Z3 T1 T2 T3 SOF HBB
    have q0 : ((Tr.cmp t s == 0) == b) = true := by
      rw [beq_iff_eq, Bool.eq_iff_iff, beq_iff_eq]; exact Z1.out.trans HQ.out.symm
    generalize Tr.cmp t s = x at *
    generalize Tr.cmp s u = y at *
    generalize Tr.cmp t u = z at *
    by_cases g1 : x > 0
    · have g1' : decide (x > 0) = true := by simpa using g1
      go_wp2_with fail
      go_ret
      exact ⟨rfl, HF.out⟩
    · have g1' : decide (x > 0) = false := by simpa using g1
      by_cases g2 : y > 0
      · have g2' : decide (y > 0) = true := by simpa using g2
        go_wp2_with fail
        go_ret
        exact ⟨rfl, HF.out⟩
      · have g2' : decide (y > 0) = false := by simpa using g2
        have g3 := k3.out (by omega) (by omega)
        go_wp2_with fail
        go_ret
        exact ⟨rfl, HF.out⟩
end Go.Proofs.Ytdccgeiniockpaa
