/- repair.distances. -/
import Derived.Test.YtghnkgbingcbcaaRL
namespace Go.Proofs.Ytghnkgbingcbcaa
open Go.RowKit

/-- the least of three, of an alignment with the costs c0 (insert), c1 (delete), c2 (replace) -/
def gR (c0 c1 c2 a b c : Int) : Int := if a + c2 ≤ b + c1 then (if a + c2 ≤ c + c0 then a + c2 else c + c0) else (if b + c1 ≤ c + c0 then b + c1 else c + c0)
theorem gR_least {c0 c1 c2 : Int} (h0 : 0 ≤ c0) (h1 : 0 ≤ c1) (h2 : 0 ≤ c2) : Least c0 c1 (gR c0 c1 c2) where
  p0 := h0
  p1 := h1
  lo a b c := by unfold gR; intros; split <;> split <;> omega
  hi a b c := by unfold gR; split <;> split <;> omega

def TabP (w : World) (n m : Nat) (V : Nat → Nat → Int) (e : Ending) (w' : World) : Prop :=
  ∃ bd rb, e = .returned (.slice (some ⟨bd, 0, none⟩) (n + 1) (n + 1)) ∧ Tab w' bd n m 0 rb V w.heap.size ∧ Below w.heap.size w w'

set_option maxRecDepth 100000 in
set_option maxHeartbeats 8000000 in
theorem distances_c (A B : Option Addr) (n c m d : Nat) (xs ys : List Int) (c0 c1 c2 : Int) (w : World) (hx : Ints w A n c xs) (hy : Ints w B m d ys) (hn : n ≤ 200) (hm : m ≤ 200)
    (p0 : 1 ≤ c0) (q0 : c0 ≤ 100) (p1 : 1 ≤ c1) (q1 : c1 ≤ 100) (p2 : 1 ≤ c2) (q2 : c2 ≤ 100) :
    Calls Try.prog 36 #[.slice A n c, .slice B m d, .agg #[.int .i64 c0, .int .i64 c1, .int .i64 c2]] w (TabP w n m (dpV c0 c1 (gR c0 c1 c2) xs ys)) := by
  have HX := Lib.hid hx.len
  have HY := Lib.hid hy.len
  have HIX := Lib.hid hx
  have HIY := Lib.hid hy
  clear hx hy
  have hmk := mk_rows n (by omega)
  have hmi := mk_ints m (by omega)
  go_enter Try.func36, Try.ntmps36
  go_wp2_with fail
  clear hmk
  have hT : Tab ((w.alloc (.cells #[.int .i64 c0, .int .i64 c1, .int .i64 c2] 30)).alloc (.cells (mkCells (.slice none 0 0) (n + 1)) 22)) (w.heap.size + 1) n m (n + 1) (fun _ => 0) (dpV c0 c1 (gR c0 c1 c2) xs ys) w.heap.size := by
    have hb := Blk.new (w.alloc (.cells #[.int .i64 c0, .int .i64 c1, .int .i64 c2] 30)) 22 (mkCells (.slice none 0 0) (n + 1))
    rw [World.size_alloc] at hb
    exact ⟨⟨_, hb, mkCells_size _ _, fun k h1 h2 => absurd h1 (by omega)⟩, fun k h1 h2 => absurd h1 (by omega), by omega, fun k h1 h2 => absurd h1 (by omega)⟩
  have Bc := (Blk.new w 30 #[.int .i64 c0, .int .i64 c1, .int .i64 c2]).al (.cells (mkCells (.slice none 0 0) (n + 1)) 22)
  have hB := ((Below.refl w.heap.size w).al (.cells #[.int .i64 c0, .int .i64 c1, .int .i64 c2] 30)).al (.cells (mkCells (.slice none 0 0) (n + 1)) 22)
  have HT := Lib.hid hT
  have HB := Lib.hid hB
  have HC := Lib.hid Bc
  clear hT hB Bc
  generalize (w.alloc (.cells #[.int .i64 c0, .int .i64 c1, .int .i64 c2] 30)).alloc (.cells (mkCells (.slice none 0 0) (n + 1)) 22) = W at *
  go_loopw [8] (fun i wr => ∃ (k : Nat) (rb : Nat → Nat), i = .int .i64 (down k) ∧ k ≤ n + 1 ∧ Tab wr (w.heap.size + 1) n m k rb (dpV c0 c1 (gR c0 c1 c2) xs ys) w.heap.size ∧ Blk wr w.heap.size 30 #[.int .i64 c0, .int .i64 c1, .int .i64 c2] ∧ Below w.heap.size w wr) (fun i _ => (intOf i + 1).toNat)
  case atStart => exact ⟨n + 1, _, rfl, Nat.le_refl _, HT.out, HC.out, HB.out⟩
  case round =>
    obtain ⟨k, rb, rfl, hk, hT, hC, hB⟩ := hrel
    clear HT HC HB
    cases k with
    | zero =>
      simp only [down]
      have HF : Hid (TabP w n m (dpV c0 c1 (gR c0 c1 c2) xs ys) (.returned (.slice (some ⟨w.heap.size + 1, 0, none⟩) (n + 1) (n + 1))) wr) := Lib.hid ⟨_, rb, rfl, hT, hB⟩
      clear hT hC hB
      go_wp2_with fail
      go_ret
      exact HF.out
    | succ k =>
      simp only [down]
      have hlo := hB.size
      have hlt := hT.lt
      have hft := hT.frozen k
      obtain ⟨u, hu⟩ := hT.someTop (k := k) (by omega)
      have i0 : (0 : Int) ≤ (k : Int) := by omega
      have i1 : (k : Int) < (n : Int) + 1 := by omega
      have HT := Lib.hid hT
      have HB := Lib.hid hB
      have HC := Lib.hid hC
      clear hT hC hB
      go_wp2_with fail
      clear hft hu
      have hT2 : Tab ((wr.setCell ⟨w.heap.size + 1, k, none⟩ (.slice (some ⟨wr.heap.size, 0, none⟩) (m + 1) (m + 1))).alloc (.cells (mkCells (.int .i64 0) (m + 1)) 3)) (w.heap.size + 1) n m (k + 1) rb (dpV c0 c1 (gR c0 c1 c2) xs ys) w.heap.size :=
        (HT.out.hang (b := wr.heap.size) (by omega)).al _
      have hU2 : Cur ((wr.setCell ⟨w.heap.size + 1, k, none⟩ (.slice (some ⟨wr.heap.size, 0, none⟩) (m + 1) (m + 1))).alloc (.cells (mkCells (.int .i64 0) (m + 1)) 3)) (w.heap.size + 1) m k wr.heap.size (m + 1) (dpV c0 c1 (gR c0 c1 c2) xs ys k) := by
        have hb := Blk.new (wr.setCell ⟨w.heap.size + 1, k, none⟩ (.slice (some ⟨wr.heap.size, 0, none⟩) (m + 1) (m + 1))) 3 (mkCells (.int .i64 0) (m + 1))
        rw [World.size_setCell] at hb
        refine ⟨?_, _, hb, mkCells_size _ _, fun l h1 h2 => absurd h1 (by omega)⟩
        obtain ⟨⟨C, t1, t2, t3⟩, _⟩ := HT.out
        have := (t1.set_ k (.slice (some ⟨wr.heap.size, 0, none⟩) (m + 1) (m + 1))).al (.cells (mkCells (.int .i64 0) (m + 1)) 3)
        rw [this.cell k, Array.getElem?_setIfInBounds_self_of_lt (by omega)]
      have hC2 := (HC.out.far (p := ⟨w.heap.size + 1, k, none⟩) (by simp) (.slice (some ⟨wr.heap.size, 0, none⟩) (m + 1) (m + 1))).al (.cells (mkCells (.int .i64 0) (m + 1)) 3)
      have hB2 := (HB.out.setCell (p := ⟨w.heap.size + 1, k, none⟩) (by simp) (.slice (some ⟨wr.heap.size, 0, none⟩) (m + 1) (m + 1))).al (.cells (mkCells (.int .i64 0) (m + 1)) 3)
      have hups := Lib.hid (show ∀ k', k + 1 ≤ k' → k' ≤ n → rb k' < wr.heap.size from fun k' h1 h2 => by obtain ⟨D, d1, _⟩ := HT.out.row k' h1 h2; exact d1.lt)
      have HT2 := Lib.hid hT2
      have HU2 := Lib.hid hU2
      have HC2 := Lib.hid hC2
      have HB2 := Lib.hid hB2
      clear hT2 hU2 hC2 hB2 HT HC HB
      generalize hW : (wr.setCell ⟨w.heap.size + 1, k, none⟩ (.slice (some ⟨wr.heap.size, 0, none⟩) (m + 1) (m + 1))).alloc (.cells (mkCells (.int .i64 0) (m + 1)) 3) = W2 at *
      clear hW
      have hbd : w.heap.size + 1 < wr.heap.size := hlt
      generalize wr.heap.size = b at *
      obtain ⟨wo, rfl⟩ : ∃ wo : World, wo = wr := ⟨_, rfl⟩
      have HI2 := Lib.hid (show InR w (w.heap.size + 1) n m k b (m + 1) rb (dpV c0 c1 (gR c0 c1 c2) xs ys) 30 #[.int .i64 c0, .int .i64 c1, .int .i64 c2] W2 from ⟨HT2.out, HU2.out, fun _ => HC2.out, HB2.out⟩)
      clear HT2 HU2 HC2 HB2
      go_loopw [9] (fun i wr => ∃ (j : Nat), i = .int .i64 (down j) ∧ j ≤ m + 1 ∧ InR w (w.heap.size + 1) n m k b j rb (dpV c0 c1 (gR c0 c1 c2) xs ys) 30 #[.int .i64 c0, .int .i64 c1, .int .i64 c2] wr) (fun i _ => (intOf i + 1).toNat)
      case atStart => exact ⟨m + 1, rfl, Nat.le_refl _, HI2.out⟩
      case round =>
        obtain ⟨j, rfl, hj, hI⟩ := hrel
        clear HI2
        have HI := Lib.hid hI
        cases j with
        | zero =>
          simp only [down]
          have HJ := Lib.hid (hI.tab.join hI.cur (by omega) hbd)
          have HC := Lib.hid (hI.con rfl)
          have HB := Lib.hid hI.bel
          clear hI
          go_wp2_with fail
          exact ⟨⟨k, _, by rw [down_eq]; rfl, by omega, HJ.out, HC.out, HB.out⟩, by simp [intOf] <;> omega⟩
        | succ j =>
          simp only [down]
          have ct := hI.cur.top
          have k0 := (hI.con rfl).cell 0
          have k1 := (hI.con rfl).cell 1
          have k2 := (hI.con rfl).cell 2
          have fj := hI.cur.frozen j
          obtain ⟨u, hu⟩ := hI.cur.some (l := j) (by omega)
          have j0 : (0 : Int) ≤ (j : Int) := by omega
          have j1 : (j : Int) < (m : Int) + 1 := by omega
          have hlt2 := hI.cur.lt
          have hbel := hI.bel
          have hV := dpV_bound (g := gR c0 c1 c2) (xs := xs) (ys := ys) (gR_least (c0 := c0) (c1 := c1) (c2 := c2) (by omega) (by omega) (by omega)) q0 q1
          have hm1 := hI.tab
          by_cases hkn : k = n
          · subst hkn
            have hx : dpV c0 c1 (gR c0 c1 c2) xs ys k j = ((m : Int) - (j : Int)) * c0 := by rw [← HX.out, ← HY.out]; exact dpV_bottom j (by rw [HY.out]; omega)
            obtain ⟨x, hxe⟩ : ∃ x, x = dpV c0 c1 (gR c0 c1 c2) xs ys k j := ⟨_, rfl⟩
            have hb1 := hV k j
            rw [HX.out, HY.out, ← hxe] at hb1
            have e1 : ((k : Int) == (k : Int)) = true := by simp
            have r1 : IntKind.i64.wrap ((m : Int) - (j : Int)) = (m : Int) - (j : Int) := IntWalk.i64_in _ (by omega)
            have r2 : IntKind.i64.wrap (((m : Int) - (j : Int)) * c0) = x := by rw [← hx, ← hxe]; exact IntWalk.i64_in _ (by omega)
            have HP := Lib.hid ((HI.out.put hbd hups.out (by omega) hxe.symm).dr)
            clear hI hV hx hm1 hbel hb1 hxe
            go_wp2_with fail
            go_region_held3 (fun w' => w'.cell? ⟨w.heap.size + 1, k, none⟩ = some (.slice (some ⟨b, 0, none⟩) (m + 1) (m + 1)) ∧ w'.cell? ⟨w.heap.size, 0, none⟩ = some (.int .i64 c0)) (simp [go_sem, *]) (fail)
            clear r1 r2
            go_wp2_with fail
            exact ⟨⟨j, by rw [down_eq]; rfl, by omega, HP.out⟩, by simp [intOf] <;> omega⟩
          · have e1 : ((k : Int) == (n : Int)) = false := by rw [beq_eq_false_iff_ne]; omega
            by_cases hjm : j = m
            · subst hjm
              have hx : dpV c0 c1 (gR c0 c1 c2) xs ys k j = ((n : Int) - (k : Int)) * c1 := by rw [← HX.out, ← HY.out]; exact dpV_right k (by rw [HX.out]; omega)
              obtain ⟨x, hxe⟩ : ∃ x, x = dpV c0 c1 (gR c0 c1 c2) xs ys k j := ⟨_, rfl⟩
              have hb1 := hV k j
              rw [HX.out, HY.out, ← hxe] at hb1
              have e2 : ((j : Int) == (j : Int)) = true := by simp
              have r1 : IntKind.i64.wrap ((n : Int) - (k : Int)) = (n : Int) - (k : Int) := IntWalk.i64_in _ (by omega)
              have r2 : IntKind.i64.wrap (((n : Int) - (k : Int)) * c1) = x := by rw [← hx, ← hxe]; exact IntWalk.i64_in _ (by omega)
              have HP := Lib.hid ((HI.out.put hbd hups.out (by omega) hxe.symm).dr)
              clear hI hV hx hm1 hbel hb1 hxe
              go_wp2_with fail
              go_region_held3 (fun w' => w'.cell? ⟨w.heap.size + 1, k, none⟩ = some (.slice (some ⟨b, 0, none⟩) (j + 1) (j + 1)) ∧ w'.cell? ⟨w.heap.size, 1, none⟩ = some (.int .i64 c1)) (simp [go_sem, *]) (fail)
              clear r1 r2
              go_wp2_with fail
              exact ⟨⟨j, by rw [down_eq]; rfl, by omega, HP.out⟩, by simp [intOf] <;> omega⟩
            · have e2 : ((j : Int) == (m : Int)) = false := by rw [beq_eq_false_iff_ne]; omega
              have hkl : k < n := by omega
              have hjl : j < m := by omega
              obtain ⟨bx, ox, hAx, hbx, hcx⟩ := HIX.out.at_ hkl
              obtain ⟨by_, oy, hAy, hby, hcy⟩ := HIY.out.at_ hjl
              have gx := (hbel.cell (p := ⟨bx, ox + k, none⟩) hbx).trans hcx
              have gy := (hbel.cell (p := ⟨by_, oy + j, none⟩) hby).trans hcy
              have i1 : (k : Int) < (n : Int) := by omega
              have i2 : (j : Int) < (m : Int) := by omega
              have i3 : (k : Int) + 1 < (n : Int) + 1 := by omega
              have i4 : (j : Int) + 1 < (m : Int) + 1 := by omega
              have ct1 := hm1.cellTop (k := k + 1) (by omega) (by omega)
              have cr1 := hm1.cellRow (k := k + 1) (j := j + 1) (by omega) (by omega) (by omega)
              have cr2 := hm1.cellRow (k := k + 1) (j := j) (by omega) (by omega) (by omega)
              have cr3 := hI.cur.cell (l := j + 1) (by omega) (by omega)
              have hb1 := hV (k + 1) (j + 1)
              have hb2 := hV (k + 1) j
              have hb3 := hV k (j + 1)
              rw [HX.out, HY.out] at hb1 hb2 hb3
              have hne1 := hm1.up (k + 1) (by omega) (by omega)
              subst hAx hAy
              clear hbx hcx hby hcy
              by_cases hxy : xs.getD k 0 = ys.getD j 0
              · have hx := dpV_eq (c0 := c0) (c1 := c1) (g := gR c0 c1 c2) (xs := xs) (ys := ys) (i := k) (j := j) (by rw [HX.out]; exact hkl) (by rw [HY.out]; exact hjl) hxy
                have HP := Lib.hid (fun q => (HI.out.drN q).put hbd hups.out (by omega) hx)
                rw [hxy] at gx
                generalize ys.getD j 0 = yv at *
                have e3 : (yv == yv) = true := by simp
                generalize dpV c0 c1 (gR c0 c1 c2) xs ys (k + 1) (j + 1) = x at *
                have hne2 := hups.out (k + 1) (by omega) (by omega)
                generalize rb (k + 1) = rk at *
                clear hI hV hx hm1 hbel hxy cr2 cr3 hb2 hb3
                go_wp2_with fail
                go_quiet (fail)
                go_wp2_with fail
                have w1 : IntKind.i64.wrap ((k : Int) + 1) = (k : Int) + 1 := IntWalk.i64_in _ (by omega)
                have w2 : IntKind.i64.wrap ((j : Int) + 1) = (j : Int) + 1 := IntWalk.i64_in _ (by omega)
                have w3 : (0 : Int) ≤ (k : Int) + 1 := by omega
                have w4 : (0 : Int) ≤ (j : Int) + 1 := by omega
                have w5 : ((k : Int) + 1).toNat = k + 1 := by omega
                have w6 : ((j : Int) + 1).toNat = j + 1 := by omega
                go_region_held3 (fun w' => w'.cell? ⟨w.heap.size + 1, k, none⟩ = some (.slice (some ⟨b, 0, none⟩) (m + 1) (m + 1)) ∧ w'.cell? ⟨w.heap.size + 1, k + 1, none⟩ = some (.slice (some ⟨rk, 0, none⟩) (m + 1) (m + 1)) ∧ w'.cell? ⟨rk, j + 1, none⟩ = some (.int .i64 x)) (simp [go_sem, *]) (fail)
                clear w1 w2 w3 w4 w5 w6
                go_wp2_with fail
                exact ⟨⟨j, by rw [down_eq]; rfl, by omega, HP.out _⟩, by simp [intOf] <;> omega⟩
              · have hx := dpV_ne (c0 := c0) (c1 := c1) (g := gR c0 c1 c2) (xs := xs) (ys := ys) (i := k) (j := j) (by rw [HX.out]; exact hkl) (by rw [HY.out]; exact hjl) hxy
                have hb4 := hV k j
                rw [HX.out, HY.out] at hb4
                obtain ⟨x, hxe⟩ : ∃ x, x = dpV c0 c1 (gR c0 c1 c2) xs ys k j := ⟨_, rfl⟩
                rw [← hxe] at hb4 hx
                have HP := Lib.hid (fun q => (HI.out.drN q).put hbd hups.out (by omega) hxe.symm)
                have e3 : (xs.getD k 0 == ys.getD j 0) = false := by rw [beq_eq_false_iff_ne]; exact hxy
                generalize xs.getD k 0 = xv at *
                generalize ys.getD j 0 = yv at *
                clear hxe
                generalize dpV c0 c1 (gR c0 c1 c2) xs ys (k + 1) (j + 1) = z1 at *
                generalize dpV c0 c1 (gR c0 c1 c2) xs ys (k + 1) j = z2 at *
                generalize dpV c0 c1 (gR c0 c1 c2) xs ys k (j + 1) = z3 at *
                have hne2 := hups.out (k + 1) (by omega) (by omega)
                generalize rb (k + 1) = rk at *
                have HXE := Lib.hid hx
                clear hI hV hx hm1 hbel hxy
                go_wp2_with fail
                go_quiet (fail)
                go_wp2_with fail
                have w1 : IntKind.i64.wrap ((k : Int) + 1) = (k : Int) + 1 := IntWalk.i64_in _ (by omega)
                have w2 : IntKind.i64.wrap ((j : Int) + 1) = (j : Int) + 1 := IntWalk.i64_in _ (by omega)
                have w3 : (0 : Int) ≤ (k : Int) + 1 := by omega
                have w4 : (0 : Int) ≤ (j : Int) + 1 := by omega
                have w5 : ((k : Int) + 1).toNat = k + 1 := by omega
                have w6 : ((j : Int) + 1).toNat = j + 1 := by omega
                have w7 : IntKind.i64.wrap (z1 + c2) = z1 + c2 := IntWalk.i64_in _ (by omega)
                have w8 : IntKind.i64.wrap (z2 + c1) = z2 + c1 := IntWalk.i64_in _ (by omega)
                obtain ⟨y, m1⟩ : ∃ y, (if z2 + c1 < z1 + c2 then z2 + c1 else z1 + c2) = y := ⟨_, rfl⟩
                have m2 : (if z3 + c0 < y then z3 + c0 else y) = x := by rw [HXE.out, ← m1]; unfold gR; repeat' split <;> omega
                have w9 : IntKind.i64.wrap (z3 + c0) = z3 + c0 := IntWalk.i64_in _ (by omega)
                go_region_held3 (fun w' => w'.cell? ⟨w.heap.size + 1, k, none⟩ = some (.slice (some ⟨b, 0, none⟩) (m + 1) (m + 1)) ∧ w'.cell? ⟨w.heap.size + 1, k + 1, none⟩ = some (.slice (some ⟨rk, 0, none⟩) (m + 1) (m + 1)) ∧ w'.cell? ⟨rk, j + 1, none⟩ = some (.int .i64 z1) ∧ w'.cell? ⟨rk, j, none⟩ = some (.int .i64 z2) ∧ w'.cell? ⟨b, j + 1, none⟩ = some (.int .i64 z3) ∧ w'.cell? ⟨w.heap.size, 0, none⟩ = some (.int .i64 c0) ∧ w'.cell? ⟨w.heap.size, 1, none⟩ = some (.int .i64 c1) ∧ w'.cell? ⟨w.heap.size, 2, none⟩ = some (.int .i64 c2)) (simp [go_sem, *]) (fail)
                clear w1 w2 w3 w4 w5 w6 w7 w8 w9 m1 m2
                go_wp2_with fail
                exact ⟨⟨j, by rw [down_eq]; rfl, by omega, HP.out _⟩, by simp [intOf] <;> omega⟩
end Go.Proofs.Ytghnkgbingcbcaa
