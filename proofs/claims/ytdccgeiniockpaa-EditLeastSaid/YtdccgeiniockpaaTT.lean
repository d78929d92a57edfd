/- edit.Distance, edit.Between. -/
import Derived.Test.YtdccgeiniockpaaSS
namespace Go.Proofs.Ytdccgeiniockpaa
open Go.RowKit

def DistP (w : World) (xs ys : List Int) (e : Ending) (w' : World) : Prop := e = .returned (.tuple #[.int .i64 (dE xs ys), .int .i64 0]) ∧ Below w.heap.size w w'
set_option maxRecDepth 100000 in
set_option maxHeartbeats 2000000 in
theorem distance_c (A B : Option Addr) (n c m d : Nat) (xs ys : List Int) (w : World) (hx : Ints w A n c xs) (hy : Ints w B m d ys) (hn : n ≤ 200) (hm : m ≤ 200) :
    Calls Try.prog 35 #[.slice A n c, .slice B m d] w (DistP w xs ys) := by
  have HX := Lib.hid hx
  have HY := Lib.hid hy
  clear hx hy
  go_enter Try.func35, Try.ntmps35
  go_wp2_with fail
  refine (costs_c A B n c m d xs ys w HX.out HY.out hn hm).mono ?_
  rintro e w1 ⟨bd, rb, rfl, hT, hb⟩
  have ct := hT.cellTop (k := 0) (by omega) (by omega)
  have cr := hT.cellRow (k := 0) (j := 0) (by omega) (by omega) (by omega)
  have HB := Lib.hid hb
  have e0 : dpV 1 1 gE xs ys 0 0 = dE xs ys := rfl
  rw [e0] at cr
  have i1 : (0 : Int) < (n : Int) + 1 := by omega
  have i2 : (0 : Int) < (m : Int) + 1 := by omega
  clear hT hb e0
  go_wp2_with fail
  go_ret2
  exact ⟨rfl, HB.out⟩

def BetwP (w : World) (n m : Nat) (xs ys : List Int) (e : Ending) (w' : World) : Prop :=
  ∃ (f g k : Nat) (A : Option Addr) (c : Nat), e = .returned (.agg #[.int .i64 (f : Int), .int .i64 (g : Int), .slice A k c]) ∧ f ≤ n ∧ g ≤ n ∧ k ≤ m ∧ dE xs ys ≤ (g : Int) - (f : Int) + (k : Int) ∧ Below w.heap.size w w'
theorem take_more {xs ys : List Int} {k : Nat} (hx : k < xs.length) (hy : k < ys.length) (h : xs.take k = ys.take k) (he : xs.getD k 0 = ys.getD k 0) : xs.take (k + 1) = ys.take (k + 1) := by
  rw [take_snoc xs 0 k hx, take_snoc ys 0 k hy, h, he]
theorem drop_more {xs ys : List Int} {n m l : Nat} (hx : xs.length = n) (hy : ys.length = m) (h1 : l < n) (h2 : l < m) (h : xs.drop (n - l) = ys.drop (m - l)) (he : xs.getD (n - 1 - l) 0 = ys.getD (m - 1 - l) 0) : xs.drop (n - (l + 1)) = ys.drop (m - (l + 1)) := by
  have k1 : n - 1 - l < xs.length := by omega
  have k2 : m - 1 - l < ys.length := by omega
  rw [show n - (l + 1) = n - 1 - l from by omega, show m - (l + 1) = m - 1 - l from by omega, List.drop_eq_getElem_cons k1, List.drop_eq_getElem_cons k2, show n - 1 - l + 1 = n - l from by omega, show m - 1 - l + 1 = m - l from by omega, h]
  congr 1
  simpa [List.getD_eq_getElem?_getD, k1, k2] using he

set_option maxRecDepth 100000 in
set_option maxHeartbeats 8000000 in
theorem between_c (A B : Option Addr) (n c m d : Nat) (xs ys : List Int) (w : World) (hx : Ints w A n c xs) (hy : Ints w B m d ys) (hn : n ≤ 1000000) (hm : m ≤ 1000000) :
    Calls Try.prog 38 #[.slice A n c, .slice B m d] w (BetwP w n m xs ys) := by
  have LX := Lib.hid hx.len
  have LY := Lib.hid hy.len
  have hcm := hy.le
  have B0 := Blk.new w 24 #[.int .i64 0, .int .i64 0, .slice none 0 0]
  have hB := (Below.refl w.heap.size w).al (.cells #[.int .i64 0, .int .i64 0, .slice none 0 0] 24)
  have HX := Lib.hid (hx.al (.cells #[.int .i64 0, .int .i64 0, .slice none 0 0] 24))
  have HY := Lib.hid (hy.al (.cells #[.int .i64 0, .int .i64 0, .slice none 0 0] 24))
  clear hx hy
  go_enter Try.func38, Try.ntmps38
  go_wp2_with fail
  generalize w.alloc (.cells #[.int .i64 0, .int .i64 0, .slice none 0 0] 24) = W at *
  have HB := Lib.hid hB
  have HB0 := Lib.hid B0
  clear hB B0
  go_loopw [5] (fun i wr => ∃ k : Nat, i = .int .i64 k ∧ k ≤ n ∧ k ≤ m ∧ Hid (xs.take k = ys.take k) ∧ ∃ q, wr = W.drewN q) (fun i _ => n - (intOf i).toNat)
  case atStart => exact ⟨0, rfl, Nat.zero_le _, Nat.zero_le _, Lib.hid (by simp), 0, rfl⟩
  case round =>
    obtain ⟨k, rfl, hkn, hkm, HT, q, rfl⟩ := hrel
    have a0 : (0 : Int) ≤ (k : Int) := by omega
    by_cases h1 : k < n
    · have d1 : decide (k < n) = true := by simpa using h1
      obtain ⟨bx, ox, rfl, hbx, gx⟩ := HX.out.at_ h1
      have a1 : (k : Int) < (n : Int) := by omega
      by_cases h2 : k < m
      · have d2 : decide (k < m) = true := by simpa using h2
        obtain ⟨by_, oy, rfl, hby, gy⟩ := HY.out.at_ h2
        have a2 : (k : Int) < (m : Int) := by omega
        by_cases h3 : xs.getD k 0 = ys.getD k 0
        · have HT2 := Lib.hid (take_more (by rw [LX.out]; exact h1) (by rw [LY.out]; exact h2) HT.out h3)
          rw [← h3] at gy
          generalize xs.getD k 0 = xv at *
          have e3 : (xv == xv) = true := by simp
          clear h3
          go_wp2_with fail
          go_quiet (fail)
          go_wp2_with fail
          exact ⟨⟨k + 1, by go_num, by omega, by omega, HT2, _, rfl⟩, by simp [intOf]; omega⟩
        · have e3 : (xs.getD k 0 == ys.getD k 0) = false := by rw [beq_eq_false_iff_ne]; exact h3
          generalize xs.getD k 0 = xv at *
          generalize ys.getD k 0 = yv at *
          clear h3
          obtain ⟨o1, ho⟩ : ∃ o1, o1 = n - k := ⟨_, rfl⟩
          obtain ⟨o2, ho'⟩ : ∃ o2, o2 = m - k := ⟨_, rfl⟩
          have ho1 : (n : Int) - (k : Int) = (o1 : Int) := by omega
          have ho2 : (m : Int) - (k : Int) = (o2 : Int) := by omega
          have hq1 : o1 ≤ n := by omega
          have hq2 : o2 ≤ m := by omega
          have hq3 : o1 + k = n := by omega
          have hq4 : o2 + k = m := by omega
          clear ho ho'

          go_wp2_with fail
          go_quiet (fail)
          clear gx gy e3
          go_wp2_with fail
          go_loopw [6] (fun i wr => ∃ l : Nat, i = .int .i64 l ∧ l ≤ o1 ∧ l ≤ o2 ∧ Hid (xs.drop (n - l) = ys.drop (m - l)) ∧ ∃ q, wr = W.drewN q) (fun i _ => n - (intOf i).toNat)
          case atStart => exact ⟨0, rfl, Nat.zero_le _, Nat.zero_le _, Lib.hid (by rw [List.drop_of_length_le (by rw [LX.out]; omega), List.drop_of_length_le (by rw [LY.out]; omega)]), _, World.drewN_drewN _ _ _⟩
          case round =>
            obtain ⟨l, rfl, hl1, hl2, HD, q2, rfl⟩ := hrel
            have b0 : (0 : Int) ≤ (l : Int) := by omega
            have t1 : IntKind.i64.wrap ((n : Int) - 1) = (n : Int) - 1 := IntWalk.i64_in _ (by omega)
            have t2 : IntKind.i64.wrap ((m : Int) - 1) = (m : Int) - 1 := IntWalk.i64_in _ (by omega)
            have t5 : IntKind.i64.wrap ((n : Int) - (k : Int)) = (o1 : Int) := by rw [ho1]; exact IntWalk.i64_in _ (by omega)
            have t6 : IntKind.i64.wrap ((m : Int) - (k : Int)) = (o2 : Int) := by rw [ho2]; exact IntWalk.i64_in _ (by omega)
            by_cases g1 : l < o1
            · have e1 : decide (l < o1) = true := by simpa using g1
              by_cases g2 : l < o2
              · have e2 : decide (l < o2) = true := by simpa using g2
                obtain ⟨p1, hp1⟩ : ∃ p1, p1 = n - 1 - l := ⟨_, rfl⟩
                obtain ⟨p2, hp2⟩ : ∃ p2, p2 = m - 1 - l := ⟨_, rfl⟩
                have t3 : IntKind.i64.wrap ((n : Int) - 1 - (l : Int)) = (p1 : Int) := by rw [show (n : Int) - 1 - (l : Int) = (p1 : Int) from by omega]; exact IntWalk.i64_in _ (by omega)
                have t4 : IntKind.i64.wrap ((m : Int) - 1 - (l : Int)) = (p2 : Int) := by rw [show (m : Int) - 1 - (l : Int) = (p2 : Int) from by omega]; exact IntWalk.i64_in _ (by omega)
                obtain ⟨bx', ox', hAx, hbx', gx⟩ := HX.out.at_ (show p1 < n by omega)
                obtain ⟨by', oy', hAy, hby', gy⟩ := HY.out.at_ (show p2 < m by omega)
                have f1 : (0 : Int) ≤ (p1 : Int) := by omega
                have f2 : (p1 : Int) < (n : Int) := by omega
                have f3 : (0 : Int) ≤ (p2 : Int) := by omega
                have f4 : (p2 : Int) < (m : Int) := by omega
                cases hAx
                cases hAy
                by_cases g3 : xs.getD p1 0 = ys.getD p2 0
                · have HD2 := Lib.hid (drop_more LX.out LY.out (by omega) (by omega) HD.out (by rw [← hp1, ← hp2]; exact g3))
                  rw [← g3] at gy
                  generalize xs.getD p1 0 = xv at *
                  have e3 : (xv == xv) = true := by simp
                  clear g3 hp1 hp2
                  go_wp2_with fail
                  go_quiet (fail)
                  clear t1 t2 t3 t4 t5 t6
                  go_wp2_with fail
                  exact ⟨⟨l + 1, by go_num, by omega, by omega, HD2, _, rfl⟩, by simp [intOf]; omega⟩
                · have e3 : (xs.getD p1 0 == ys.getD p2 0) = false := by rw [beq_eq_false_iff_ne]; exact g3
                  generalize xs.getD p1 0 = xv at *
                  generalize ys.getD p2 0 = yv at *
                  clear g3 hp1 hp2
                  go_wp2_with fail
                  go_quiet (fail)
                  clear t1 t2 t3 t4 t5 t6 gx gy f1 f2 f3 f4 e1 e2 e3
                  rw [World.drewN_drewN]
                  have HFE := Lib.hid (dE_between (xs := xs) (ys := ys) (n := k) (k := l) (by rw [LX.out]; omega) (by rw [LY.out]; omega) HT.out (by rw [LX.out, LY.out]; exact HD.out))
                  obtain ⟨g, hg⟩ : ∃ g, g = n - l := ⟨_, rfl⟩
                  obtain ⟨h, hh⟩ : ∃ h, h = m - l := ⟨_, rfl⟩
                  have s1 : (n : Int) - (l : Int) = (g : Int) := by omega
                  have s2 : (m : Int) - (l : Int) = (h : Int) := by omega
                  have s3 : (0 : Int) ≤ (k : Int) := by omega
                  have s4 : (k : Int) ≤ (h : Int) := by omega
                  have s5 : (h : Int) ≤ (d : Int) := by omega
                  obtain ⟨A', hA', hI'⟩ := HY.out.mid (l := k) (m := h) (by omega) (by omega)
                  have hBq := below_drewN HB.out (q2 + nq)
                  have hIq := hI'.drewN (q2 + nq)
                  have HFIN := Lib.hid (show k ≤ n ∧ g ≤ n ∧ h - k ≤ m ∧ dE xs ys ≤ (g : Int) - (k : Int) + ((h - k : Nat) : Int) from ⟨by omega, by omega, by omega, by have := HFE.out; rw [LX.out, LY.out] at this; omega⟩)
                  have hle : h - k ≤ 17592186044416 := by omega
                  clear hg hh HFE hI'
                  go_wp2_with fail
                  refine (clone_s _ (h - k) (d - k) ((ys.take h).drop k) _ ?hI hle).mono ?_
                  case hI => first | exact hIq | (rw [← hA', if_neg (by omega), Option.map_some, Addr.add_lit] at hIq; exact hIq)
                  rintro ee W3 ⟨A6, c6, rfl, hO, hb3⟩
                  have HBF := Lib.hid (hBq.trans (hb3.mono hBq.size))
                  have B0 := (HB0.out.via (below_drewN (Below.refl _ _) (q2 + nq))).via hb3
                  clear hO hb3 hA' s1 s2
                  have cB0 := B0.cell
                  have fB0 := B0.frozen
                  have lB0 := B0.lt
                  go_wp2_with fail
                  refine bodyPost_ret (v := .agg #[.int .i64 (k : Int), .int .i64 (g : Int), .slice A6 (h - k) c6]) (by simp [results, Try.results38, go_sem, cB0]) rfl ⟨k, g, h - k, A6, c6, rfl, HFIN.out.1, HFIN.out.2.1, HFIN.out.2.2.1, HFIN.out.2.2.2, below_set3 HBF.out (by omega) _ _ _⟩
              · have e2 : decide (l < o2) = false := by simpa using g2
                go_wp2_with fail
                go_quiet (fail)
                clear t1 t2 t5 t6 e1 e2
                rw [World.drewN_drewN]
                have HFE := Lib.hid (dE_between (xs := xs) (ys := ys) (n := k) (k := l) (by rw [LX.out]; omega) (by rw [LY.out]; omega) HT.out (by rw [LX.out, LY.out]; exact HD.out))
                obtain ⟨g, hg⟩ : ∃ g, g = n - l := ⟨_, rfl⟩
                obtain ⟨h, hh⟩ : ∃ h, h = m - l := ⟨_, rfl⟩
                have s1 : (n : Int) - (l : Int) = (g : Int) := by omega
                have s2 : (m : Int) - (l : Int) = (h : Int) := by omega
                have s3 : (0 : Int) ≤ (k : Int) := by omega
                have s4 : (k : Int) ≤ (h : Int) := by omega
                have s5 : (h : Int) ≤ (d : Int) := by omega
                obtain ⟨A', hA', hI'⟩ := HY.out.mid (l := k) (m := h) (by omega) (by omega)
                have hBq := below_drewN HB.out (q2 + nq)
                have hIq := hI'.drewN (q2 + nq)
                have HFIN := Lib.hid (show k ≤ n ∧ g ≤ n ∧ h - k ≤ m ∧ dE xs ys ≤ (g : Int) - (k : Int) + ((h - k : Nat) : Int) from ⟨by omega, by omega, by omega, by have := HFE.out; rw [LX.out, LY.out] at this; omega⟩)
                have hle : h - k ≤ 17592186044416 := by omega
                clear hg hh HFE hI'
                go_wp2_with fail
                refine (clone_s _ (h - k) (d - k) ((ys.take h).drop k) _ ?hI hle).mono ?_
                case hI => first | exact hIq | (rw [← hA', if_neg (by omega), Option.map_some, Addr.add_lit] at hIq; exact hIq)
                rintro ee W3 ⟨A6, c6, rfl, hO, hb3⟩
                have HBF := Lib.hid (hBq.trans (hb3.mono hBq.size))
                have B0 := (HB0.out.via (below_drewN (Below.refl _ _) (q2 + nq))).via hb3
                clear hO hb3 hA' s1 s2
                have cB0 := B0.cell
                have fB0 := B0.frozen
                have lB0 := B0.lt
                go_wp2_with fail
                refine bodyPost_ret (v := .agg #[.int .i64 (k : Int), .int .i64 (g : Int), .slice A6 (h - k) c6]) (by simp [results, Try.results38, go_sem, cB0]) rfl ⟨k, g, h - k, A6, c6, rfl, HFIN.out.1, HFIN.out.2.1, HFIN.out.2.2.1, HFIN.out.2.2.2, below_set3 HBF.out (by omega) _ _ _⟩
            · have e1 : decide (l < o1) = false := by simpa using g1
              go_wp2_with fail
              go_quiet (fail)
              clear t1 t2 t5 t6 e1
              rw [World.drewN_drewN]
              have HFE := Lib.hid (dE_between (xs := xs) (ys := ys) (n := k) (k := l) (by rw [LX.out]; omega) (by rw [LY.out]; omega) HT.out (by rw [LX.out, LY.out]; exact HD.out))
              obtain ⟨g, hg⟩ : ∃ g, g = n - l := ⟨_, rfl⟩
              obtain ⟨h, hh⟩ : ∃ h, h = m - l := ⟨_, rfl⟩
              have s1 : (n : Int) - (l : Int) = (g : Int) := by omega
              have s2 : (m : Int) - (l : Int) = (h : Int) := by omega
              have s3 : (0 : Int) ≤ (k : Int) := by omega
              have s4 : (k : Int) ≤ (h : Int) := by omega
              have s5 : (h : Int) ≤ (d : Int) := by omega
              obtain ⟨A', hA', hI'⟩ := HY.out.mid (l := k) (m := h) (by omega) (by omega)
              have hBq := below_drewN HB.out (q2 + nq)
              have hIq := hI'.drewN (q2 + nq)
              have HFIN := Lib.hid (show k ≤ n ∧ g ≤ n ∧ h - k ≤ m ∧ dE xs ys ≤ (g : Int) - (k : Int) + ((h - k : Nat) : Int) from ⟨by omega, by omega, by omega, by have := HFE.out; rw [LX.out, LY.out] at this; omega⟩)
              have hle : h - k ≤ 17592186044416 := by omega
              clear hg hh HFE hI'
              go_wp2_with fail
              refine (clone_s _ (h - k) (d - k) ((ys.take h).drop k) _ ?hI hle).mono ?_
              case hI => first | exact hIq | (rw [← hA', if_neg (by omega), Option.map_some, Addr.add_lit] at hIq; exact hIq)
              rintro ee W3 ⟨A6, c6, rfl, hO, hb3⟩
              have HBF := Lib.hid (hBq.trans (hb3.mono hBq.size))
              have B0 := (HB0.out.via (below_drewN (Below.refl _ _) (q2 + nq))).via hb3
              clear hO hb3 hA' s1 s2
              have cB0 := B0.cell
              have fB0 := B0.frozen
              have lB0 := B0.lt
              go_wp2_with fail
              refine bodyPost_ret (v := .agg #[.int .i64 (k : Int), .int .i64 (g : Int), .slice A6 (h - k) c6]) (by simp [results, Try.results38, go_sem, cB0]) rfl ⟨k, g, h - k, A6, c6, rfl, HFIN.out.1, HFIN.out.2.1, HFIN.out.2.2.1, HFIN.out.2.2.2, below_set3 HBF.out (by omega) _ _ _⟩
      · have d2 : decide (k < m) = false := by simpa using h2
        obtain ⟨o1, ho⟩ : ∃ o1, o1 = n - k := ⟨_, rfl⟩
        obtain ⟨o2, ho'⟩ : ∃ o2, o2 = m - k := ⟨_, rfl⟩
        have ho1 : (n : Int) - (k : Int) = (o1 : Int) := by omega
        have ho2 : (m : Int) - (k : Int) = (o2 : Int) := by omega
        have hq1 : o1 ≤ n := by omega
        have hq2 : o2 ≤ m := by omega
        have hq3 : o1 + k = n := by omega
        have hq4 : o2 + k = m := by omega
        clear ho ho'

        go_wp2_with fail
        go_quiet (fail)
        clear gx
        go_wp2_with fail
        go_loopw [6] (fun i wr => ∃ l : Nat, i = .int .i64 l ∧ l ≤ o1 ∧ l ≤ o2 ∧ Hid (xs.drop (n - l) = ys.drop (m - l)) ∧ ∃ q, wr = W.drewN q) (fun i _ => n - (intOf i).toNat)
        case atStart => exact ⟨0, rfl, Nat.zero_le _, Nat.zero_le _, Lib.hid (by rw [List.drop_of_length_le (by rw [LX.out]; omega), List.drop_of_length_le (by rw [LY.out]; omega)]), _, World.drewN_drewN _ _ _⟩
        case round =>
          obtain ⟨l, rfl, hl1, hl2, HD, q2, rfl⟩ := hrel
          have b0 : (0 : Int) ≤ (l : Int) := by omega
          have t1 : IntKind.i64.wrap ((n : Int) - 1) = (n : Int) - 1 := IntWalk.i64_in _ (by omega)
          have t2 : IntKind.i64.wrap ((m : Int) - 1) = (m : Int) - 1 := IntWalk.i64_in _ (by omega)
          have t5 : IntKind.i64.wrap ((n : Int) - (k : Int)) = (o1 : Int) := by rw [ho1]; exact IntWalk.i64_in _ (by omega)
          have t6 : IntKind.i64.wrap ((m : Int) - (k : Int)) = (o2 : Int) := by rw [ho2]; exact IntWalk.i64_in _ (by omega)
          by_cases g1 : l < o1
          · have e1 : decide (l < o1) = true := by simpa using g1
            by_cases g2 : l < o2
            · exfalso; omega
            · have e2 : decide (l < o2) = false := by simpa using g2
              go_wp2_with fail
              go_quiet (fail)
              clear t1 t2 t5 t6 e1 e2
              rw [World.drewN_drewN]
              have HFE := Lib.hid (dE_between (xs := xs) (ys := ys) (n := k) (k := l) (by rw [LX.out]; omega) (by rw [LY.out]; omega) HT.out (by rw [LX.out, LY.out]; exact HD.out))
              obtain ⟨g, hg⟩ : ∃ g, g = n - l := ⟨_, rfl⟩
              obtain ⟨h, hh⟩ : ∃ h, h = m - l := ⟨_, rfl⟩
              have s1 : (n : Int) - (l : Int) = (g : Int) := by omega
              have s2 : (m : Int) - (l : Int) = (h : Int) := by omega
              have s3 : (0 : Int) ≤ (k : Int) := by omega
              have s4 : (k : Int) ≤ (h : Int) := by omega
              have s5 : (h : Int) ≤ (d : Int) := by omega
              obtain ⟨A', hA', hI'⟩ := HY.out.mid (l := k) (m := h) (by omega) (by omega)
              have hBq := below_drewN HB.out (q2 + nq)
              have hIq := hI'.drewN (q2 + nq)
              have HFIN := Lib.hid (show k ≤ n ∧ g ≤ n ∧ h - k ≤ m ∧ dE xs ys ≤ (g : Int) - (k : Int) + ((h - k : Nat) : Int) from ⟨by omega, by omega, by omega, by have := HFE.out; rw [LX.out, LY.out] at this; omega⟩)
              have hle : h - k ≤ 17592186044416 := by omega
              clear hg hh HFE hI'
              go_wp2_with fail
              refine (clone_s _ (h - k) (d - k) ((ys.take h).drop k) _ ?hI hle).mono ?_
              case hI => first | exact hIq | (rw [← hA', if_neg (by omega), Option.map_some, Addr.add_lit] at hIq; exact hIq)
              rintro ee W3 ⟨A6, c6, rfl, hO, hb3⟩
              have HBF := Lib.hid (hBq.trans (hb3.mono hBq.size))
              have B0 := (HB0.out.via (below_drewN (Below.refl _ _) (q2 + nq))).via hb3
              clear hO hb3 hA' s1 s2
              have cB0 := B0.cell
              have fB0 := B0.frozen
              have lB0 := B0.lt
              go_wp2_with fail
              refine bodyPost_ret (v := .agg #[.int .i64 (k : Int), .int .i64 (g : Int), .slice A6 (h - k) c6]) (by simp [results, Try.results38, go_sem, cB0]) rfl ⟨k, g, h - k, A6, c6, rfl, HFIN.out.1, HFIN.out.2.1, HFIN.out.2.2.1, HFIN.out.2.2.2, below_set3 HBF.out (by omega) _ _ _⟩
          · exfalso; omega
    · have d1 : decide (k < n) = false := by simpa using h1
      obtain ⟨o1, ho⟩ : ∃ o1, o1 = n - k := ⟨_, rfl⟩
      obtain ⟨o2, ho'⟩ : ∃ o2, o2 = m - k := ⟨_, rfl⟩
      have ho1 : (n : Int) - (k : Int) = (o1 : Int) := by omega
      have ho2 : (m : Int) - (k : Int) = (o2 : Int) := by omega
      have hq1 : o1 ≤ n := by omega
      have hq2 : o2 ≤ m := by omega
      have hq3 : o1 + k = n := by omega
      have hq4 : o2 + k = m := by omega
      clear ho ho'

      go_wp2_with fail
      go_quiet (fail)
      go_wp2_with fail
      go_loopw [6] (fun i wr => ∃ l : Nat, i = .int .i64 l ∧ l ≤ o1 ∧ l ≤ o2 ∧ Hid (xs.drop (n - l) = ys.drop (m - l)) ∧ ∃ q, wr = W.drewN q) (fun i _ => n - (intOf i).toNat)
      case atStart => exact ⟨0, rfl, Nat.zero_le _, Nat.zero_le _, Lib.hid (by rw [List.drop_of_length_le (by rw [LX.out]; omega), List.drop_of_length_le (by rw [LY.out]; omega)]), _, World.drewN_drewN _ _ _⟩
      case round =>
        obtain ⟨l, rfl, hl1, hl2, HD, q2, rfl⟩ := hrel
        have b0 : (0 : Int) ≤ (l : Int) := by omega
        have t1 : IntKind.i64.wrap ((n : Int) - 1) = (n : Int) - 1 := IntWalk.i64_in _ (by omega)
        have t2 : IntKind.i64.wrap ((m : Int) - 1) = (m : Int) - 1 := IntWalk.i64_in _ (by omega)
        have t5 : IntKind.i64.wrap ((n : Int) - (k : Int)) = (o1 : Int) := by rw [ho1]; exact IntWalk.i64_in _ (by omega)
        have t6 : IntKind.i64.wrap ((m : Int) - (k : Int)) = (o2 : Int) := by rw [ho2]; exact IntWalk.i64_in _ (by omega)
        by_cases g1 : l < o1
        · exfalso; omega
        · have e1 : decide (l < o1) = false := by simpa using g1
          go_wp2_with fail
          go_quiet (fail)
          clear t1 t2 t5 t6 e1
          rw [World.drewN_drewN]
          have HFE := Lib.hid (dE_between (xs := xs) (ys := ys) (n := k) (k := l) (by rw [LX.out]; omega) (by rw [LY.out]; omega) HT.out (by rw [LX.out, LY.out]; exact HD.out))
          obtain ⟨g, hg⟩ : ∃ g, g = n - l := ⟨_, rfl⟩
          obtain ⟨h, hh⟩ : ∃ h, h = m - l := ⟨_, rfl⟩
          have s1 : (n : Int) - (l : Int) = (g : Int) := by omega
          have s2 : (m : Int) - (l : Int) = (h : Int) := by omega
          have s3 : (0 : Int) ≤ (k : Int) := by omega
          have s4 : (k : Int) ≤ (h : Int) := by omega
          have s5 : (h : Int) ≤ (d : Int) := by omega
          obtain ⟨A', hA', hI'⟩ := HY.out.mid (l := k) (m := h) (by omega) (by omega)
          have hBq := below_drewN HB.out (q2 + nq)
          have hIq := hI'.drewN (q2 + nq)
          have HFIN := Lib.hid (show k ≤ n ∧ g ≤ n ∧ h - k ≤ m ∧ dE xs ys ≤ (g : Int) - (k : Int) + ((h - k : Nat) : Int) from ⟨by omega, by omega, by omega, by have := HFE.out; rw [LX.out, LY.out] at this; omega⟩)
          have hle : h - k ≤ 17592186044416 := by omega
          clear hg hh HFE hI'
          go_wp2_with fail
          refine (clone_s _ (h - k) (d - k) ((ys.take h).drop k) _ ?hI hle).mono ?_
          case hI => first | exact hIq | (rw [← hA', if_neg (by omega), Option.map_some, Addr.add_lit] at hIq; exact hIq)
          rintro ee W3 ⟨A6, c6, rfl, hO, hb3⟩
          have HBF := Lib.hid (hBq.trans (hb3.mono hBq.size))
          have B0 := (HB0.out.via (below_drewN (Below.refl _ _) (q2 + nq))).via hb3
          clear hO hb3 hA' s1 s2
          have cB0 := B0.cell
          have fB0 := B0.frozen
          have lB0 := B0.lt
          go_wp2_with fail
          refine bodyPost_ret (v := .agg #[.int .i64 (k : Int), .int .i64 (g : Int), .slice A6 (h - k) c6]) (by simp [results, Try.results38, go_sem, cB0]) rfl ⟨k, g, h - k, A6, c6, rfl, HFIN.out.1, HFIN.out.2.1, HFIN.out.2.2.1, HFIN.out.2.2.2, below_set3 HBF.out (by omega) _ _ _⟩
end Go.Proofs.Ytdccgeiniockpaa
