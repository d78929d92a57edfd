/- Texts AD, RN, ZD, GC, laid together. -/
import Derived.Test.YthiikgjeamoocaaDoorQ5
import Derived.Test.YthiikgjeamoocaaDoorQ4
import Derived.Shelf.Spec.TrailingZeros
import Derived.Shelf.Lay
import Derived.Ground.NamesProg





namespace Go.Proofs.YthiikgjeamoocaaDoor
open Go.RowKit Go.Shelf
def laysTz_ren : Go.Shelf.Ren := ⟨fun | 28 => 41 | n => n, fun | 27 => 46 | 3 => 3 | 4 => 4 | 25 => 124 | 53 => 123 | 0 => 0 | 5 => 5 | n => n, fun | 0 => 0 | n => n⟩
theorem laysTz : Go.Proofs.Lays7.n28 Tryd.prog laysTz_ren := {
  mixed := by kernel_rfl
  f28 := Tryd.func41.trans (congrArg some (by kernel_rfl))
  t0 := Tryd.underlying0
  a0 := Tryd.isAgg0
  z0 := Tryd.sizeOf0
  v0 := Tryd.zeroValue0
  i0 := by kernel_rfl
  t3 := Tryd.underlying3
  a3 := Tryd.isAgg3
  z3 := Tryd.sizeOf3
  v3 := Tryd.zeroValue3
  i3 := by kernel_rfl
  t4 := Tryd.underlying4
  a4 := Tryd.isAgg4
  z4 := Tryd.sizeOf4
  v4 := Tryd.zeroValue4
  i4 := by kernel_rfl
  t5 := Tryd.underlying5
  a5 := Tryd.isAgg5
  z5 := Tryd.sizeOf5
  v5 := Tryd.zeroValue5
  i5 := by kernel_rfl
  t25 := Tryd.underlying124
  a25 := Tryd.isAgg124
  z25 := Tryd.sizeOf124
  v25 := Tryd.zeroValue124
  i25 := by kernel_rfl
  t27 := Tryd.underlying46
  a27 := Tryd.isAgg46
  z27 := Tryd.sizeOf46
  v27 := Tryd.zeroValue46
  i27 := by kernel_rfl
  t53 := Tryd.underlying123
  a53 := Tryd.isAgg123
  z53 := Tryd.sizeOf123
  v53 := Tryd.zeroValue123
  i53 := by kernel_rfl
  g0 := by kernel_rfl }
def TabW (w : World) : Prop := TabAt 0 Lib.deBruijn32tab w
theorem tz_c (x : Nat) (hx : x < 4294967296) (w : World) (hT : TabW w) :
    Calls Tryd.prog 41 #[.int .u32 x] w fun e w' => e = .returned (.int .i64 (Lib.ctz 32 x)) ∧ w' = w :=
  Any7.bits_TrailingZeros32 laysTz x hx w (fun _ => hT)

theorem stepM_le {xs : List Int} {E : EnS} {s : Sy} {y j : Nat} (hE : ∀ a p, E a p < 2 ^ (xs.length + 1)) (h : (stepM xs E s y).testBit j = true) : j ≤ xs.length := by
  obtain ⟨p, hp, h1, h2⟩ := stepM_bit.1 h
  obtain ⟨b, t⟩ := s
  cases b with
  | false =>
    simp only [cOf, Bool.false_eq_true, if_false] at h2
    rcases Nat.lt_or_ge j (xs.length + 1) with h3 | h3
    · omega
    · have := Nat.testBit_lt_two_pow (x := E t p) (i := j) (Nat.lt_of_lt_of_le (hE t p) (Nat.pow_le_pow_right (by omega) h3))
      rw [this] at h2; cases h2
  | true =>
    simp only [cOf, if_true] at h2
    by_cases hx : xs[p]? = some (t : Int)
    · rw [if_pos hx, Nat.testBit_two_pow, decide_eq_true_eq] at h2
      have hl := (List.getElem?_eq_some_iff.1 hx).1
      omega
    · rw [if_neg hx] at h2; simp at h2
theorem reachM_lt {xs : List Int} {E : EnS} (hE : ∀ a p, E a p < 2 ^ (xs.length + 1)) {i : Nat} (hi : i ≤ xs.length) (l : List Sy) : reachM xs E l i < 2 ^ (xs.length + 1) := by
  induction l using snoc_induction with
  | h0 => exact Nat.pow_lt_pow_right (by omega) (by omega)
  | hs l s ih => rw [reachM_snoc]; exact lt_of_bits fun j hj => stepM_le hE hj
theorem pow13 {n : Nat} (h : n ≤ 12) : 2 ^ (n + 1) ≤ 8192 := Nat.le_trans (Nat.pow_le_pow_right (by omega) (show n + 1 ≤ 13 by omega)) (by omega)

/-! ### the table of ends in memory -/
structure EnR (w : World) (ob N n : Nat) (rb : Nat → Nat) (E : EnS) : Prop where
  top : ∃ C : Array Value, Blk w ob 47 C ∧ ∀ a, a < N → C[a]? = some (.slice (some ⟨rb a, 0, none⟩) (n + 1) (n + 1))
  row : ∀ a, a < N → ∃ C : Array Value, Blk w (rb a) 46 C ∧ C.size = n + 1 ∧ ∀ i, i ≤ n → C[i]? = some (.int .u32 (E a i : Int))
  inj : ∀ a a', a < N → a' < N → rb a = rb a' → a = a'
  ne : ∀ a, a < N → ob ≠ rb a
section
variable {w w' : World} {ob N n : Nat} {rb : Nat → Nat} {E : EnS}
theorem EnR.via (h : EnR w ob N n rb E) (k : Below w.heap.size w w') : EnR w' ob N n rb E := by
  obtain ⟨⟨C, h1, h2⟩, h3, h4, h5⟩ := h
  exact ⟨⟨C, h1.via k, h2⟩, fun a ha => by obtain ⟨D, d1, d2, d3⟩ := h3 a ha; exact ⟨D, d1.via k, d2, d3⟩, h4, h5⟩
theorem EnR.cell1 (h : EnR w ob N n rb E) {a : Nat} (ha : a < N) : w.cell? ⟨ob, a, none⟩ = some (.slice (some ⟨rb a, 0, none⟩) (n + 1) (n + 1)) := by
  obtain ⟨⟨C, h1, h2⟩, _⟩ := h
  exact (h1.cell a).trans (h2 a ha)
theorem EnR.cell2 (h : EnR w ob N n rb E) {a i : Nat} (ha : a < N) (hi : i ≤ n) : w.cell? ⟨rb a, i, none⟩ = some (.int .u32 (E a i : Int)) := by
  obtain ⟨D, d1, d2, d3⟩ := h.row a ha
  exact (d1.cell i).trans (d3 i hi)
theorem EnR.frozen (h : EnR w ob N n rb E) {a : Nat} (ha : a < N) (i : Nat) : w.frozen? ⟨rb a, i, none⟩ = false := by
  obtain ⟨D, d1, d2, d3⟩ := h.row a ha
  exact d1.frozen i
theorem EnR.put (h : EnR w ob N n rb E) {a i : Nat} (ha : a < N) (hi : i ≤ n) (y : Nat) : EnR (w.setCell ⟨rb a, i, none⟩ (.int .u32 (y : Int))) ob N n rb (fun N k => if N = a ∧ k = i then y else E N k) := by
  obtain ⟨⟨C, h1, h2⟩, h3, h4, h5⟩ := h
  refine ⟨⟨C, (Below.heap_setCell _ _ _ _ (by show ob ≠ rb a; exact h5 a ha)).trans h1, h2⟩, fun b hb => ?_, h4, h5⟩
  by_cases e : b = a
  · subst e
    obtain ⟨D, d1, d2, d3⟩ := h3 b hb
    refine ⟨_, d1.set_ i (.int .u32 (y : Int)), by simp [d2], fun k hk => ?_⟩
    rw [Array.getElem?_setIfInBounds]
    by_cases e2 : k = i
    · subst e2; rw [if_pos rfl, if_pos (by omega), if_pos ⟨rfl, rfl⟩]
    · rw [if_neg (Ne.symm e2), if_neg (fun h => e2 h.2)]; exact d3 k hk
  · obtain ⟨D, d1, d2, d3⟩ := h3 b hb
    refine ⟨D, (Below.heap_setCell _ _ _ _ (by show rb b ≠ rb a; exact fun h => e (h4 b a hb ha h))).trans d1, d2, fun k hk => ?_⟩
    rw [if_neg (fun h => e h.1)]; exact d3 k hk
end
theorem TabW.via {w w' : World} (h : TabW w) (k : Below w.heap.size w w') : TabW w' := fun j hj => by
  have := h j hj
  exact (k.cell (p := ⟨0, j, none⟩) (World.block_lt_of_cell? w _ this)).trans this
def ReachP (w : World) (y : Nat) (e : Ending) (w' : World) : Prop := e = .returned (.int .u32 (y : Int)) ∧ Below w.heap.size w w'
/-- a table of ends that can be read: rows anywhere -/
structure EnV (w : World) (ob oo N n : Nat) (rb ro rc : Nat → Nat) (E : EnS) : Prop where
  cell1 : ∀ {a : Nat}, a < N → w.cell? ⟨ob, oo + a, none⟩ = some (.slice (some ⟨rb a, ro a, none⟩) (n + 1) (rc a))
  cell2 : ∀ {a i : Nat}, a < N → i ≤ n → w.cell? ⟨rb a, ro a + i, none⟩ = some (.int .u32 (E a i : Int))
theorem EnV.via {w w' : World} {ob oo N n : Nat} {rb ro rc : Nat → Nat} {E : EnS} (h : EnV w ob oo N n rb ro rc E) (k : Below w.heap.size w w') : EnV w' ob oo N n rb ro rc E :=
  ⟨fun ha => (k.cell (World.block_lt_of_cell? _ _ (h.cell1 ha))).trans (h.cell1 ha), fun ha hi => (k.cell (World.block_lt_of_cell? _ _ (h.cell2 ha hi))).trans (h.cell2 ha hi)⟩
theorem EnR.view {w : World} {ob N n : Nat} {rb : Nat → Nat} {E : EnS} (h : EnR w ob N n rb E) : EnV w ob 0 N n rb (fun _ => 0) (fun _ => n + 1) E :=
  ⟨fun {a} ha => by rw [Nat.zero_add]; exact h.cell1 ha, fun {a i} ha hi => by rw [Nat.zero_add]; exact h.cell2 ha hi⟩
set_option maxRecDepth 100000 in
set_option maxHeartbeats 8000000 in
theorem reach_v (ok : Nat → Prop) (A : Option Addr) (n c ob oo N oc : Nat) (rb ro rc : Nat → Nat) (E : EnS) (B : Option Addr) (m d i : Nat) (xs : List Int) (l : List Sy) (w : World) (hx : Ints w A n c xs) (hE : EnV w ob oo N n rb ro rc E) (hl : Sl SyE ok w B m d l)
    (hs : ∀ s ∈ l, s.1 = false → s.2 < N) (hi : i ≤ n) (hn : n ≤ 12) (hm : m ≤ 1000) (hb : ∀ a p, E a p < 2 ^ (n + 1)) (hT : TabW w) :
    Calls Tryd.prog 25 #[.slice A n c, .slice (some ⟨ob, oo, none⟩) N oc, .slice B m d, .int .i64 (i : Int)] w (ReachP w (reachM xs E l i)) := by
  have hxl := hx.len
  have HX := Lib.hid hx
  have HE := Lib.hid hE
  have HL := Lib.hid hl
  have HS := Lib.hid hs
  have HT := Lib.hid hT
  have hbb : ∀ a p, E a p < 2 ^ (xs.length + 1) := by rw [hxl]; exact hb
  have HBB := Lib.hid hbb
  have HXL := Lib.hid hxl
  have p13 := pow13 hn
  have HP := Lib.hid p13
  obtain ⟨y0, hy0⟩ : ∃ y0, y0 = 2 ^ i := ⟨_, rfl⟩
  have hw0 : (2 : Int) ^ i % 4294967296 = (y0 : Int) := by
    have h1 : 2 ^ i < 2 ^ (n + 1) := Nat.pow_lt_pow_right (by omega) (by omega)
    have h2 : ((2 ^ i : Nat) : Int) = (2 : Int) ^ i := by simp
    rw [← h2, hy0]; omega
  have HY0 := Lib.hid hy0
  clear hx hE hl hs hT hb hbb hxl p13 hy0
  go_enter Tryd.func25, Tryd.ntmps25
  go_wp2_with fail
  have HR0 := Lib.hid (show y0 = reachM xs E (l.take 0) i by rw [HY0.out]; simp [reachM])
  have HM := Lib.hid HL.out.len
  have HW0 := Lib.hid hw0
  clear hw0
  go_loopw [9, 19] (fun a q wr => ∃ k y : Nat, q = .int .i64 k ∧ k ≤ m ∧ a = .int .u32 (y : Int) ∧ y = reachM xs E (l.take k) i ∧ Below w.heap.size w wr) (fun _ q _ => m - (intOf q).toNat)
  case atStart => exact ⟨0, y0, rfl, Nat.zero_le _, by rw [← HW0.out], HR0.out, Below.refl _ _⟩
  case round =>
    obtain ⟨k, y, rfl, hk, rfl, hy, hbw⟩ := hrel
    clear HR0
    by_cases hkm : k < m
    · obtain ⟨b1, o1, sx, sy, rfl, -, hbb1, hyk, hxy, hc⟩ := HL.out.at_ hkm
      obtain rfl : sx = sy := hxy
      have d0 := (hbw.cell (p := ⟨b1, o1 + k * SyE.k + 0, none⟩) hbb1).trans (hc 0 _ rfl)
      have d1 := (hbw.cell (p := ⟨b1, o1 + k * SyE.k + 1, none⟩) hbb1).trans (hc 1 _ rfl)
      simp only [SyE, Nat.add_zero] at d0 d1
      have hS := HS.out _ (List.mem_of_getElem? hyk)
      have HT2 := Lib.hid (show l.take (k + 1) = l.take k ++ [sx] by rw [List.take_add_one, hyk]; rfl)
      have i0 : (0 : Int) ≤ (k : Int) := by omega
      have i1 : (k : Int) < (m : Int) := by omega
      have hyl : y < 8192 := by
        have h1 := reachM_lt HBB.out (i := i) (by rw [HXL.out]; exact hi) (l.take k)
        rw [← hy, HXL.out] at h1
        have := HP.out; omega
      have hyn : y < 2 ^ (n + 1) := by
        have h1 := reachM_lt HBB.out (i := i) (by rw [HXL.out]; exact hi) (l.take k)
        rwa [← hy, HXL.out] at h1
      obtain ⟨sb, sn⟩ := sx
      simp only at d0 d1
      have HYR := Lib.hid hy
      have HYN := Lib.hid hyn
      have HSS := Lib.hid hS
      have HBW := Lib.hid (hbw.al (.cells #[.bool sb, .int .i64 (sn : Int)] 39))
      have Bs := Blk.new wr 39 #[.bool sb, .int .i64 (sn : Int)]
      clear hy hyk hc hS hbw hyn
      go_wp2_with fail
      clear d0 d1
      generalize wr.alloc (.cells #[.bool sb, .int .i64 (sn : Int)] 39) = W2 at *
      generalize wr.heap.size = bs at *
      have HBs := Lib.hid Bs
      clear Bs
      have HG0 := Lib.hid (show 0 ||| gath (cOf xs E (sb, sn)) 32 y = stepM xs E (sb, sn) y by simp [stepM])
      obtain ⟨wo, rfl⟩ : ∃ wo : World, wo = wr := ⟨_, rfl⟩
      go_loopw [12, 13] (fun a b wr => ∃ N1 X : Nat, a = .int .u32 (N1 : Int) ∧ b = .int .u32 (X : Int) ∧ N1 < 2 ^ (n + 1) ∧ X < 2 ^ (n + 1) ∧ N1 ||| gath (cOf xs E (sb, sn)) 32 X = stepM xs E (sb, sn) y ∧ Below W2.heap.size W2 wr) (fun _ b _ => (intOf b).toNat)
      case atStart => exact ⟨0, y, rfl, rfl, Nat.pos_of_ne_zero (by simp), HYN.out, HG0.out, Below.refl _ _⟩
      case round =>
        obtain ⟨N1, X, rfl, rfl, hN1, hX, hg, hb2⟩ := hrel
        clear HG0
        by_cases hX0 : X = 0
        · subst hX0
          have HR := Lib.hid (show N1 = reachM xs E (l.take (k + 1)) i by
            rw [HT2.out, reachM_snoc, ← HYR.out, ← hg, gath_zero, Nat.or_zero])
          have HBF := Lib.hid (HBW.out.trans (hb2.mono (by have := HBW.out.size; omega)))
          clear hg hb2 hN1 hX
          go_wp2_with fail
          exact ⟨⟨k + 1, N1, by go_num, by omega, rfl, HR.out, HBF.out⟩, by simp [intOf]; omega⟩
        · have hX8 : X < 8192 := by have := HP.out; omega
          have hN8 : N1 < 8192 := by have := HP.out; omega
          have e0 : ((X : Int) == 0) = false := by simp; omega
          obtain ⟨p, hp, hp32, hlow, hbit⟩ := low_bit hX0 (by omega)
          have hst := gath_step (cOf xs E (sb, sn)) hX0 (by omega)
          rw [← hp] at hst
          have hpn : p ≤ n := by
            rcases Nat.lt_or_ge p (n + 1) with h | h
            · omega
            · have h1 := (hbit p).2 (Or.inl rfl)
              have h2 := Nat.testBit_lt_two_pow (x := X) (i := p) (Nat.lt_of_lt_of_le hX (Nat.pow_le_pow_right (by omega) h))
              rw [h2] at h1; cases h1
          have hg2 : (N1 ||| cOf xs E (sb, sn) p) ||| gath (cOf xs E (sb, sn)) 32 (X &&& (X - 1)) = stepM xs E (sb, sn) y := by
            rw [Nat.or_assoc, ← hst]; exact hg
          have hX2 : X &&& (X - 1) < 2 ^ (n + 1) := Nat.lt_trans hlow hX
          have hC : cOf xs E (sb, sn) p < 2 ^ (n + 1) := by
            cases sb with
            | false => simpa [cOf, HXL.out] using HBB.out sn p
            | true =>
              simp only [cOf, if_true]
              split
              · rename_i h
                have := (List.getElem?_eq_some_iff.1 h).1
                exact Nat.pow_lt_pow_right (by omega) (by have := HXL.out; omega)
              · exact Nat.pos_of_ne_zero (by simp)
          have hN2 := Nat.or_lt_two_pow hN1 hC
          have a1 : IntKind.u32.wrap ((X : Int) - 1) = ((X - 1 : Nat) : Int) := by rw [IntKind.wrap_u32']; omega
          have a2 : bits .and .u32 (X : Int) ((X - 1 : Nat) : Int) = ((X &&& (X - 1) : Nat) : Int) := u32_and_nat _ _ (by omega) (by omega)
          obtain ⟨X2, hX2e⟩ : ∃ X2, X2 = X &&& (X - 1) := ⟨_, rfl⟩
          rw [← hX2e] at hlow hg2 hX2 a2
          have HG2 := Lib.hid hg2
          have HX2 := Lib.hid hX2
          have HLOW := Lib.hid hlow
          have HCC := Lib.hid hC
          have HN2 := Lib.hid hN2
          have HB2 := Lib.hid hb2
          clear hst hg hbit hX2e hg2 hX2 hC hN2 hb2 hX hN1
          go_wp2_with fail
          refine (tz_c X (by omega) wr (HT.out.via (HBW.out.trans (HB2.out.mono (by have := HBW.out.size; omega))))).mono ?_
          rintro e w' ⟨rfl, rfl⟩
          rw [← hp]
          clear hp
          have hbw' := HBW.out.trans (HB2.out.mono (by have := HBW.out.size; omega))
          have Bs := HBs.out.via HB2.out
          have p0 : (0 : Int) ≤ (p : Int) := by omega
          have a1' : ((X : Int) - 1) % 4294967296 = ((X - 1 : Nat) : Int) := by omega
          cases sb with
          | false =>
            have hsn := HSS.out rfl
            have he' := HE.out.via hbw'
            have t1 := he'.cell1 hsn
            have t2 := he'.cell2 hsn hpn
            have hc : cOf xs E (false, sn) p = E sn p := by simp [cOf]
            have hcc := HCC.out
            rw [hc] at hcc
            have o1 : bits .or .u32 (N1 : Int) (E sn p : Int) = ((N1 ||| E sn p : Nat) : Int) := u32_or_nat _ _ (by omega) (by have := HP.out; omega)
            have p1 : (p : Int) < (n : Int) + 1 := by omega
            have p2 : (0 : Int) ≤ (sn : Int) := by omega
            have p3 : (sn : Int) < (N : Int) := by omega
            have HGF := Lib.hid (show (N1 ||| E sn p) ||| gath (cOf xs E (false, sn)) 32 X2 = stepM xs E (false, sn) y by rw [← hc]; exact HG2.out)
            have HNF := Lib.hid (show N1 ||| E sn p < 2 ^ (n + 1) by rw [← hc]; exact HN2.out)
            clear he' hc hcc hbw'
            have cBs := Bs.cell
            have fBs := Bs.frozen
            have lBs := Bs.lt
            go_wp2_with fail
            exact ⟨⟨N1 ||| E sn p, X2, rfl, rfl, HNF.out, HX2.out, HGF.out, HB2.out⟩, by simp [intOf]; exact HLOW.out⟩
          | true =>
            by_cases hpx : p < n
            · obtain ⟨b9, off9, rfl, hb9, hx9⟩ := (HX.out.keep hbw' (Nat.le_refl _)).at_ hpx
              have hxe : xs[p]? = some (xs.getD p 0) := by
                have := HXL.out
                rw [List.getD_eq_getElem?_getD, List.getElem?_eq_getElem (by omega)]; rfl
              generalize xs.getD p 0 = x at *
              have p1 : (p : Int) < (n : Int) := by omega
              have g1 : decide (p < n) = true := by simpa using hpx
              by_cases e : x = (sn : Int)
              · have hc : cOf xs E (true, sn) p = 2 ^ (p + 1) := by simp [cOf, hxe, e]
                have e1 : (x == (sn : Int)) = true := by simpa using e
                have hcc := HCC.out
                rw [hc] at hcc
                obtain ⟨q, hq⟩ : ∃ q, q = 2 ^ (p + 1) := ⟨_, rfl⟩
                have HGF := Lib.hid (show (N1 ||| q) ||| gath (cOf xs E (true, sn)) 32 X2 = stepM xs E (true, sn) y by rw [hq, ← hc]; exact HG2.out)
                have HNF := Lib.hid (show N1 ||| q < 2 ^ (n + 1) by rw [hq, ← hc]; exact HN2.out)
                have s1 : (2 : Int) ^ (p + 1) % 4294967296 = (q : Int) := by
                  have h2 : ((2 ^ (p + 1) : Nat) : Int) = (2 : Int) ^ (p + 1) := by simp
                  rw [← h2, hq]; have := HP.out; omega
                have o1 : bits .or .u32 (N1 : Int) (q : Int) = ((N1 ||| q : Nat) : Int) := u32_or_nat _ _ (by omega) (by rw [hq]; have := HP.out; omega)
                have k1 : IntKind.i64.wrap ((p : Int) + 1) = (p : Int) + 1 := IntWalk.i64_in _ (by omega)
                clear hc hcc hxe hq e
                have cBs := Bs.cell
                have fBs := Bs.frozen
                have lBs := Bs.lt
                go_upto_region 12 with fail
                go_quiet (fail)
                have HB3 := Lib.hid (below_drewN HB2.out nq)
                clear hx9 cBs fBs lBs
                go_wp2_with fail
                exact ⟨⟨N1 ||| q, X2, rfl, rfl, HNF.out, HX2.out, HGF.out, HB3.out⟩, by simp [intOf]; exact HLOW.out⟩
              · have hc : cOf xs E (true, sn) p = 0 := by simp [cOf, hxe, e]
                have e1 : (x == (sn : Int)) = false := by simpa using e
                have HGF := Lib.hid (show N1 ||| gath (cOf xs E (true, sn)) 32 X2 = stepM xs E (true, sn) y by have := HG2.out; rwa [hc, Nat.or_zero] at this)
                have HNF := Lib.hid (show N1 < 2 ^ (n + 1) by have := HN2.out; rwa [hc, Nat.or_zero] at this)
                clear hc hxe e
                have cBs := Bs.cell
                have fBs := Bs.frozen
                have lBs := Bs.lt
                go_upto_region 12 with fail
                go_quiet (fail)
                have HB3 := Lib.hid (below_drewN HB2.out nq)
                clear hx9 cBs fBs lBs
                go_wp2_with fail
                exact ⟨⟨N1, X2, rfl, rfl, HNF.out, HX2.out, HGF.out, HB3.out⟩, by simp [intOf]; exact HLOW.out⟩
            · have g1 : decide (p < n) = false := by simpa using hpx
              have hc : cOf xs E (true, sn) p = 0 := by
                have : xs[p]? = none := List.getElem?_eq_none (by have := HXL.out; omega)
                simp [cOf, this]
              have HGF := Lib.hid (show N1 ||| gath (cOf xs E (true, sn)) 32 X2 = stepM xs E (true, sn) y by have := HG2.out; rwa [hc, Nat.or_zero] at this)
              have HNF := Lib.hid (show N1 < 2 ^ (n + 1) by have := HN2.out; rwa [hc, Nat.or_zero] at this)
              clear hc
              have cBs := Bs.cell
              have fBs := Bs.frozen
              have lBs := Bs.lt
              go_upto_region 12 with fail
              go_quiet (fail)
              have HB3 := Lib.hid (below_drewN HB2.out nq)
              clear cBs fBs lBs
              go_wp2_with fail
              exact ⟨⟨N1, X2, rfl, rfl, HNF.out, HX2.out, HGF.out, HB3.out⟩, by simp [intOf]; exact HLOW.out⟩
    · obtain rfl : k = m := by omega
      have HF := Lib.hid (show y = reachM xs E l i by rw [hy, List.take_of_length_le (by rw [HM.out]; exact Nat.le_refl _)])
      have HBF := Lib.hid hbw
      clear hy hbw
      go_wp2_with fail
      go_ret
      exact ⟨by rw [HF.out]; rfl, HBF.out⟩
theorem reach_c (ok : Nat → Prop) (A : Option Addr) (n c ob N : Nat) (rb : Nat → Nat) (E : EnS) (B : Option Addr) (m d i : Nat) (xs : List Int) (l : List Sy) (w : World) (hx : Ints w A n c xs) (hE : EnR w ob N n rb E) (hl : Sl SyE ok w B m d l)
    (hs : ∀ s ∈ l, s.1 = false → s.2 < N) (hi : i ≤ n) (hn : n ≤ 12) (hm : m ≤ 1000) (hb : ∀ a p, E a p < 2 ^ (n + 1)) (hT : TabW w) :
    Calls Tryd.prog 25 #[.slice A n c, .slice (some ⟨ob, 0, none⟩) N N, .slice B m d, .int .i64 (i : Int)] w (ReachP w (reachM xs E l i)) :=
  reach_v ok A n c ob 0 N N rb _ _ E B m d i xs l w hx hE.view hl hs hi hn hm hb hT
end Go.Proofs.YthiikgjeamoocaaDoor



namespace Go.Proofs.YthiikgjeamoocaaDoor
open Go.RowKit

/-! ### operations: kind, position, terminal -/
theorem take_at {α : Type} {l : List α} {k : Nat} {x : α} (h : l[k]? = some x) : l.take (k + 1) = l.take k ++ [x] := by
  have hl := List.getElem?_eq_some_iff.1 h
  rw [List.take_succ_eq_append_getElem hl.1, hl.2]
theorem Ints.two (w : World) (x y : Int) (t : TypeId) : Ints (w.alloc (.cells #[.int .i64 x, .int .i64 y] t)) (some ⟨w.heap.size, 0, none⟩) 2 2 [x, y] :=
  ⟨rfl, Nat.le_refl _, fun _ => ⟨w.heap.size, 0, rfl, fun i hi => by
    rw [Nat.zero_add]
    match i, hi with
    | 0, _ => rw [World.cell?_alloc_new]; rfl
    | 1, _ => rw [World.cell?_alloc_new]; rfl⟩⟩
end Go.Proofs.YthiikgjeamoocaaDoor




namespace Go.Proofs.YthiikgjeamoocaaDoor
open Go.RowKit

/-! ### ints as elements; ways: cost, size, word, or none -/
def IntE : Elem Int Int where
  k := 1
  cells s := [.int .i64 s]
  rel _ _ r x := r = x
  pos := by omega
  len _ := rfl
  one r u hu := by simp at hu; subst hu; rfl
  agr h _ := h
  mono h _ := h
theorem Sl.ints {ok : Nat → Prop} {w : World} {A : Option Addr} {n c : Nat} {xs : List Int} (h : Sl IntE ok w A n c xs) : Ints w A n c xs := by
  refine ⟨h.len, h.le, fun hn => ?_⟩
  obtain ⟨b, off, r, x, e, -⟩ := h.at_ hn
  refine ⟨b, off, e, fun i hi => ?_⟩
  obtain ⟨b', off', r', x', e', _, _, hx, hr, hc⟩ := h.at_ hi
  rw [e] at e'
  obtain ⟨rfl, rfl⟩ : b = b' ∧ off = off' := by simpa using e'
  have := hc 0 (.int .i64 r') rfl
  simp only [IntE, Nat.mul_one, Nat.add_zero] at this
  rw [this, show r' = x' from hr, List.getD_eq_getElem?_getD, hx]
  rfl
theorem Ints.sl {ok : Nat → Prop} {w : World} {A : Option Addr} {n c : Nat} {xs : List Int} (h : Ints w A n c xs) (hk : ∀ b off, A = some ⟨b, off, none⟩ → 0 < n → ok b) : Sl IntE ok w A n c xs := by
  obtain ⟨h1, h2, h3⟩ := h
  refine ⟨h1, h2, xs, h1, fun hne => ?_, fun i r x hr hx => by rw [hr] at hx; exact Option.some.inj hx⟩
  have hfl : flat IntE xs = xs.map fun x => Value.int .i64 x := by
    unfold flat; clear h1 h3 hne
    induction xs with
    | nil => rfl
    | cons a l ih => rw [List.flatMap_cons, List.map_cons, ih]; rfl
  rw [hfl] at hne ⊢
  have hn : 0 < n := by
    rcases Nat.eq_zero_or_pos n with e | e
    · exfalso; apply hne; rw [List.length_eq_zero_iff.1 (h1.trans e)]; rfl
    · exact e
  obtain ⟨b, off, e, hc⟩ := h3 hn
  refine ⟨b, off, e, hk b off e hn, fun j u hu => ?_⟩
  have hj : j < xs.length := by have := (List.getElem?_eq_some_iff.1 hu).1; simpa using this
  rw [hc j (by omega), ← hu, List.getElem?_map, List.getD_eq_getElem?_getD, List.getElem?_eq_getElem hj]
  rfl
def TellB (w : World) (b : Bool) (e : Ending) (w' : World) : Prop := e = .returned (.bool b) ∧ Below w.heap.size w w'
end Go.Proofs.YthiikgjeamoocaaDoor



namespace Go.Proofs.YthiikgjeamoocaaDoor
open Go.RowKit

def grCells (g : Gr) (A : Option Addr) (n c : Nat) : Array Value := #[.int .i64 (g.terms : Int), .int .i64 (g.nons : Int), .int .i64 (g.start : Int), .slice A n c]
set_option maxRecDepth 100000 in
set_option maxHeartbeats 2000000 in
theorem has_sym (g : Gr) (A : Option Addr) (n c : Nat) (s : Sy) (w : World) (hs : g.okSy s) :
    Calls Tryd.prog 37 #[grVal g A n c, .agg #[.bool s.1, .int .i64 (s.2 : Int)]] w (TellB w true) := by
  obtain ⟨b, k⟩ := s
  simp only [Gr.okSy] at hs
  simp only [grVal]
  have HB := Lib.hid (((Below.refl w.heap.size w).al (.cells #[.int .i64 (g.terms : Int), .int .i64 (g.nons : Int), .int .i64 (g.start : Int), .slice A n c] 24)).al (.cells #[.bool b, .int .i64 (k : Int)] 39))
  have k0 : decide ((0 : Int) ≤ (k : Int)) = true := by simp
  cases b with
  | true =>
    have k1 : decide (k < g.terms) = true := by simpa using hs
    clear hs
    go_enter Tryd.func37, Tryd.ntmps37
    go_wp2_with fail
    go_ret
    exact ⟨rfl, HB.out⟩
  | false =>
    have k1 : decide (k < g.nons) = true := by simpa using hs
    clear hs
    go_enter Tryd.func37, Tryd.ntmps37
    go_wp2_with fail
    go_ret
    exact ⟨rfl, HB.out⟩
set_option maxRecDepth 100000 in
set_option maxHeartbeats 2000000 in
theorem check1_c (bg : Nat) (g : Gr) (A : Option Addr) (n c : Nat) (s : Sy) (w : World) (hg : Blk w bg 24 (grCells g A n c)) (hs : g.okSy s) :
    Calls Tryd.prog 36 #[.agg #[.bool s.1, .int .i64 (s.2 : Int)], .pointer (some ⟨bg, 0, none⟩)] w (TellB w false) := by
  unfold grCells at hg
  have hlt := hg.lt
  have HB := Lib.hid ((Below.refl w.heap.size w).al (.cells #[.bool s.1, .int .i64 (s.2 : Int)] 39))
  have Bg := hg.al (.cells #[.bool s.1, .int .i64 (s.2 : Int)] 39)
  clear hg
  have cBg := Bg.cell
  have fBg := Bg.frozen
  have lBg := Bg.lt
  go_enter Tryd.func36, Tryd.ntmps36
  go_wp2_with fail
  refine (has_sym g A n c s _ hs).mono ?_
  rintro e w' ⟨rfl, hb⟩
  have HF := Lib.hid (HB.out.via hb)
  clear hb
  go_wp2_with fail
  go_ret
  exact ⟨rfl, HF.out⟩
set_option maxRecDepth 100000 in
set_option maxHeartbeats 2000000 in
theorem symsOk_c (bg : Nat) (g : Gr) (A : Option Addr) (n c : Nat) (ok : Nat → Prop) (B : Option Addr) (m d : Nat) (l : List Sy) (w : World) (hg : Blk w bg 24 (grCells g A n c)) (hl : Sl SyE ok w B m d l) (hs : ∀ s ∈ l, g.okSy s) (hm : m ≤ 1000000) :
    Calls Tryd.prog 35 #[.slice B m d, .func (.func 36) #[] #[.pointer (some ⟨bg, 0, none⟩)]] w (TellB w false) := by
  have HG := Lib.hid hg
  have HL := Lib.hid hl
  have HS := Lib.hid hs
  clear hg hl hs
  have key : Calls Tryd.prog 51 #[.slice B m d, .func (.func 36) #[] #[.pointer (some ⟨bg, 0, none⟩)]] w fun e w' => e = .returned (.int .i64 (-1)) ∧ Below w.heap.size w w' := by
    go_enter Tryd.func51, Tryd.ntmps51
    go_wp2_with fail
    go_loopw [8] (fun i wr => ∃ k : Nat, i = .int .i64 k ∧ k ≤ m ∧ Below w.heap.size w wr) (fun i _ => m - (intOf i).toNat)
    case atStart => exact ⟨0, rfl, Nat.zero_le _, Below.refl _ _⟩
    case round =>
      obtain ⟨k, rfl, hk, hb⟩ := hrel
      have HB := Lib.hid hb
      clear hb
      by_cases hlt : k < m
      · obtain ⟨b1, o1, sx, sy, rfl, -, hbb, hy, hxy, hc⟩ := (HL.out.via HB.out).at_ hlt
        obtain rfl : sx = sy := hxy
        have c0 := hc 0 _ rfl
        have c1 := hc 1 _ rfl
        simp only [SyE, Nat.add_zero] at c0 c1
        have i0 : (0 : Int) ≤ (k : Int) := by omega
        have i1 : (k : Int) < (m : Int) := by omega
        have HY := Lib.hid (HS.out sx (List.mem_of_getElem? hy))
        clear hc hy
        go_wp2_with fail
        refine (check1_c bg g A n c sx wr (HG.out.via HB.out) HY.out).mono ?_
        rintro e w' ⟨rfl, hb2⟩
        have HF := Lib.hid (HB.out.via hb2)
        clear hb2 c0 c1
        go_wp2_with fail
        exact ⟨⟨k + 1, by go_num, by omega, HF.out⟩, by simp [intOf]; omega⟩
      · go_wp2_with fail
        go_ret
        exact ⟨rfl, HB.out⟩
  go_enter Tryd.func35, Tryd.ntmps35
  have KEY := Lib.hid key
  clear key
  go_wp2_with fail
  refine KEY.out.mono ?_
  rintro e w' ⟨rfl, hb⟩
  have HF := Lib.hid hb
  clear hb
  go_wp2_with fail
  go_ret
  exact ⟨rfl, HF.out⟩

/-! ### order of symbols and rules -/
def ordS (a b : Sy) : Int := if a.1 = b.1 then cmpI (a.2 : Int) (b.2 : Int) else if a.1 then -1 else 1
theorem ordS_zero {a b : Sy} : ordS a b = 0 ↔ a = b := by
  obtain ⟨x, m⟩ := a
  obtain ⟨y, n⟩ := b
  unfold ordS
  by_cases e : x = y
  · subst e; simp only [if_true]; rw [cmpI_zero]; simp; omega
  · rw [if_neg e]
    constructor
    · intro h; split at h <;> omega
    · intro h; exact absurd (congrArg Prod.fst h) e
def cmpS : List Sy → List Sy → Int
  | [], [] => 0
  | [], _ :: _ => -1
  | _ :: _, [] => 1
  | x :: xs, y :: ys => if ordS x y = 0 then cmpS xs ys else ordS x y
theorem cmpS_zero : ∀ {a b : List Sy}, cmpS a b = 0 ↔ a = b
  | [], [] => by simp [cmpS]
  | [], _ :: _ => by simp [cmpS]
  | _ :: _, [] => by simp [cmpS]
  | x :: xs, y :: ys => by
    rw [cmpS]
    by_cases e : ordS x y = 0
    · rw [if_pos e, cmpS_zero (a := xs) (b := ys), ordS_zero.1 e]; simp
    · rw [if_neg e]
      constructor
      · intro h; exact absurd h e
      · intro h; exact absurd (ordS_zero.2 (List.cons.inj h).1) e
def cmpR (a b : Ru) : Int := orL [cmpI (a.1 : Int) (b.1 : Int), cmpS a.2 b.2]
theorem cmpR_zero {a b : Ru} : cmpR a b = 0 ↔ a = b := by
  obtain ⟨x, l⟩ := a
  obtain ⟨y, m⟩ := b
  unfold cmpR
  simp only [orL]
  by_cases e : cmpI (x : Int) (y : Int) = 0
  · rw [if_pos e]
    have h := cmpI_zero.1 e
    have h : x = y := by omega
    subst h
    by_cases e2 : cmpS l m = 0
    · rw [if_pos e2]; simp [cmpS_zero.1 e2]
    · rw [if_neg e2]
      constructor
      · intro h; exact absurd h e2
      · intro h; exact absurd (cmpS_zero.2 (congrArg Prod.snd h)) e2
  · rw [if_neg e]
    constructor
    · intro h; exact absurd h e
    · intro h; exact absurd (cmpI_zero.2 (by have := congrArg Prod.fst h; simp at this; omega)) e
def IntO (w : World) (n : Int) (e : Ending) (w' : World) : Prop := e = .returned (.int .i64 n) ∧ Below w.heap.size w w'
set_option maxRecDepth 100000 in
set_option maxHeartbeats 2000000 in
theorem order_c (a b : Sy) (w : World) :
    Calls Tryd.prog 55 #[.agg #[.bool a.1, .int .i64 (a.2 : Int)], .agg #[.bool b.1, .int .i64 (b.2 : Int)]] w (IntO w (ordS a b)) := by
  obtain ⟨x, m⟩ := a
  obtain ⟨y, n⟩ := b
  have HB := Lib.hid (((Below.refl w.heap.size w).al (.cells #[.bool x, .int .i64 (m : Int)] 39)).al (.cells #[.bool y, .int .i64 (n : Int)] 39))
  cases x <;> cases y
  · go_enter Tryd.func55, Tryd.ntmps55
    go_wp2_with fail
    refine (cmp_c _ _ _).mono ?_
    rintro e w' ⟨rfl, rfl⟩
    go_wp2_with fail
    go_ret
    exact ⟨by simp [ordS], HB.out⟩
  · go_enter Tryd.func55, Tryd.ntmps55
    go_wp2_with fail
    go_ret
    exact ⟨rfl, HB.out⟩
  · go_enter Tryd.func55, Tryd.ntmps55
    go_wp2_with fail
    go_ret
    exact ⟨rfl, HB.out⟩
  · go_enter Tryd.func55, Tryd.ntmps55
    go_wp2_with fail
    refine (cmp_c _ _ _).mono ?_
    rintro e w' ⟨rfl, rfl⟩
    go_wp2_with fail
    go_ret
    exact ⟨by simp [ordS], HB.out⟩
theorem cmpS_step {xs ys : List Sy} {k : Nat} {x y : Sy} (hx : xs[k]? = some x) (hy : ys[k]? = some y) : cmpS (xs.drop k) (ys.drop k) = if ordS x y = 0 then cmpS (xs.drop (k + 1)) (ys.drop (k + 1)) else ordS x y := by
  have h1 := List.getElem?_eq_some_iff.1 hx
  have h2 := List.getElem?_eq_some_iff.1 hy
  rw [List.drop_eq_getElem_cons h1.1, List.drop_eq_getElem_cons h2.1, cmpS, h1.2, h2.2]
set_option maxRecDepth 100000 in
set_option maxHeartbeats 4000000 in
theorem cmpS_c (ok ok' : Nat → Prop) (A B : Option Addr) (n c m d : Nat) (xs ys : List Sy) (w : World) (h1 : Sl SyE ok w A n c xs) (h2 : Sl SyE ok' w B m d ys) (hn : n ≤ 1000000) :
    Calls Tryd.prog 54 #[.slice A n c, .slice B m d, .func (.func 55) #[] #[]] w (IntO w (cmpS xs ys)) := by
  have H1 := Lib.hid h1
  have H2 := Lib.hid h2
  have L1 := Lib.hid h1.len
  have L2 := Lib.hid h2.len
  clear h1 h2
  go_enter Tryd.func54, Tryd.ntmps54
  go_wp2_with fail
  go_loopw [13] (fun i wr => ∃ k : Nat, i = .int .i64 k ∧ k ≤ n ∧ k ≤ m ∧ Hid (cmpS xs ys = cmpS (xs.drop k) (ys.drop k)) ∧ Below w.heap.size w wr) (fun i _ => n - (intOf i).toNat)
  case atStart => exact ⟨0, rfl, Nat.zero_le _, Nat.zero_le _, Lib.hid rfl, Below.refl _ _⟩
  case round =>
    obtain ⟨k, rfl, hk, hkm, HC, hb⟩ := hrel
    have HB := Lib.hid hb
    clear hb
    by_cases hkn : k < n
    · obtain ⟨b1, o1, sx, sx', rfl, -, hb1, hx, hxx, hc⟩ := (H1.out.via HB.out).at_ hkn
      obtain rfl : sx = sx' := hxx
      have c0 := hc 0 _ rfl
      have c1 := hc 1 _ rfl
      simp only [SyE, Nat.add_zero] at c0 c1
      have i0 : (0 : Int) ≤ (k : Int) := by omega
      have i1 : (k : Int) < (n : Int) := by omega
      by_cases hk2 : k < m
      · obtain ⟨b2, o2, sy, sy', rfl, -, hb2, hy, hyy, hd⟩ := (H2.out.via HB.out).at_ hk2
        obtain rfl : sy = sy' := hyy
        have d0 := hd 0 _ rfl
        have d1 := hd 1 _ rfl
        simp only [SyE, Nat.add_zero] at d0 d1
        have i2 : (k : Int) < (m : Int) := by omega
        have HS := Lib.hid (cmpS_step hx hy)
        have HB2 := Lib.hid ((HB.out.al (.cells #[.bool sx.1, .int .i64 (sx.2 : Int)] 39)).al (.cells #[.bool sy.1, .int .i64 (sy.2 : Int)] 39))
        clear hc hd hx hy
        go_wp2_with fail
        refine (order_c sx sy _).mono ?_
        rintro e w' ⟨rfl, hb⟩
        have HF := Lib.hid (HB2.out.via hb)
        clear hb c0 c1 d0 d1
        by_cases he : ordS sx sy = 0
        · rw [he]
          have HE := Lib.hid (HC.out.trans (by rw [HS.out, if_pos he]))
          clear he
          go_wp2_with fail
          exact ⟨⟨k + 1, by go_num, by omega, by omega, HE, HF.out⟩, by simp [intOf]; omega⟩
        · have HE := Lib.hid (HC.out.trans (by rw [HS.out, if_neg he]))
          have hne : (ordS sx sy != 0) = true := by simpa using he
          clear he
          generalize ordS sx sy = q at *
          go_wp2_with fail
          go_ret
          exact ⟨by rw [HE.out]; rfl, HF.out⟩
      · have hv : cmpS xs ys = 1 := by
          rw [HC.out, List.drop_of_length_le (l := ys) (by rw [L2.out]; omega), List.drop_eq_getElem_cons (by rw [L1.out]; exact hkn)]; rfl
        have HV := Lib.hid hv
        have HB2 := Lib.hid (HB.out.al (.cells #[.bool sx.1, .int .i64 (sx.2 : Int)] 39))
        clear hv hc hx
        go_wp2_with fail
        go_ret
        exact ⟨by rw [HV.out]; rfl, HB2.out⟩
    · by_cases hnm : n < m
      · have hv : cmpS xs ys = -1 := by
          rw [HC.out, List.drop_of_length_le (by rw [L1.out]; omega), List.drop_eq_getElem_cons (by rw [L2.out]; omega)]; rfl
        have HV := Lib.hid hv
        clear hv
        go_wp2_with fail
        go_ret
        exact ⟨by rw [HV.out]; rfl, HB.out⟩
      · have hv : cmpS xs ys = 0 := by
          rw [HC.out, List.drop_of_length_le (by rw [L1.out]; omega), List.drop_of_length_le (by rw [L2.out]; omega)]; rfl
        have HV := Lib.hid hv
        clear hv
        go_wp2_with fail
        go_ret
        exact ⟨by rw [HV.out]; rfl, HB.out⟩
set_option maxRecDepth 100000 in
set_option maxHeartbeats 4000000 in
theorem compareR_c (ok ok' : Nat → Prop) (x y : Nat) (A B : Option Addr) (n c m d : Nat) (xs ys : List Sy) (w : World) (h1 : Sl SyE ok w A n c xs) (h2 : Sl SyE ok' w B m d ys) (hn : n ≤ 1000000) :
    Calls Tryd.prog 39 #[.agg #[.int .i64 (x : Int), .slice A n c], .agg #[.int .i64 (y : Int), .slice B m d]] w (IntO w (cmpR (x, xs) (y, ys))) := by
  have hB := ((Below.refl w.heap.size w).al (.cells #[.int .i64 (x : Int), .slice A n c] 62)).al (.cells #[.int .i64 (y : Int), .slice B m d] 62)
  have B0 := (Blk.new w 62 #[.int .i64 (x : Int), .slice A n c]).al (.cells #[.int .i64 (y : Int), .slice B m d] 62)
  have B1 := Blk.new (w.alloc (.cells #[.int .i64 (x : Int), .slice A n c] 62)) 62 #[.int .i64 (y : Int), .slice B m d]
  rw [World.size_alloc] at B1
  have H1 := Lib.hid (h1.via hB)
  have H2 := Lib.hid (h2.via hB)
  clear h1 h2
  go_enter Tryd.func39, Tryd.ntmps39
  go_upto_region 1 with fail
  generalize (w.alloc (.cells #[.int .i64 (x : Int), .slice A n c] 62)).alloc (.cells #[.int .i64 (y : Int), .slice B m d] 62) = W at *
  have J1 := Lib.hid (show ∀ w', Below W.heap.size W w' → Sl SyE ok w' A n c xs from fun w' hb => H1.out.via hb)
  have J2 := Lib.hid (show ∀ w', Below W.heap.size W w' → Sl SyE ok' w' B m d ys from fun w' hb => H2.out.via hb)
  have SOF := Lib.hid (show ∀ w', Below W.heap.size W w' → ((∀ i, w'.cell? ⟨w.heap.size, i, none⟩ = #[.int .i64 (x : Int), .slice A n c][i]?) ∧ (∀ i, w'.cell? ⟨w.heap.size + 1, i, none⟩ = #[.int .i64 (y : Int), .slice B m d][i]?) ∧ Below W.heap.size W w') from fun w' hb => ⟨(B0.via hb).cell, (B1.via hb).cell, hb⟩)
  have HBB := Lib.hid hB
  have hb0 := (Below.refl W.heap.size W).drew
  clear hB H1 H2 B0 B1
  go_region_held3 (fun w' => (∀ i, w'.cell? ⟨w.heap.size, i, none⟩ = #[.int .i64 (x : Int), .slice A n c][i]?) ∧ (∀ i, w'.cell? ⟨w.heap.size + 1, i, none⟩ = #[.int .i64 (y : Int), .slice B m d][i]?) ∧ Below W.heap.size W w') (exact SOF.out _ (by first | assumption | exact Below.al (by assumption) _)) (first
    | (go_at_call 53; (with_reducible refine (cmp_c _ _ _).mono ?_); rintro ee wk ⟨rfl, rfl⟩)
    | (go_at_call 54; (with_reducible refine (cmpS_c ok ok' A B n c m d xs ys _ (J1.out _ (by assumption)) (J2.out _ (by assumption)) hn).mono ?_); rintro ee wk ⟨rfl, hbk⟩; have hbm : Below W.heap.size W wk := Below.via (by assumption) hbk)
    | (go_at_call 52; (with_reducible refine (or_c (some ⟨_, 0, none⟩) 2 2 [_, _] _ (Ints.two _ _ _ _) (by omega)).mono ?_); rintro ee wk ⟨rfl, rfl⟩))
  have HF := Lib.hid (HBB.out.via (hbm.al (.cells #[.int .i64 (cmpI (x : Int) (y : Int)), .int .i64 (cmpS xs ys)] 3)))
  clear hb0 hbm hbk
  go_wp2_with fail
  go_ret
  exact ⟨rfl, HF.out⟩
set_option maxRecDepth 100000 in
set_option maxHeartbeats 2000000 in
theorem check2_c (ok ok' : Nat → Prop) (br x y : Nat) (A B : Option Addr) (n c m d : Nat) (xs ys : List Sy) (w : World) (h1 : Sl SyE ok w A n c xs) (hr : Blk w br 62 #[.int .i64 (y : Int), .slice B m d]) (h2 : Sl SyE ok' w B m d ys) (hn : n ≤ 1000000) (hne : (x, xs) ≠ (y, ys)) :
    Calls Tryd.prog 38 #[.agg #[.int .i64 (x : Int), .slice A n c], .pointer (some ⟨br, 0, none⟩)] w (TellB w false) := by
  have hlt := hr.lt
  have hq : (cmpR (x, xs) (y, ys) == 0) = false := by
    rw [beq_eq_false_iff_ne]; exact fun h => hne (cmpR_zero.1 h)
  obtain ⟨q, hqq⟩ : ∃ q, q = cmpR (x, xs) (y, ys) := ⟨_, rfl⟩
  rw [← hqq] at hq
  have HQ := Lib.hid hqq
  have HB := Lib.hid ((Below.refl w.heap.size w).al (.cells #[.int .i64 (x : Int), .slice A n c] 62))
  have H1 := Lib.hid (h1.al (.cells #[.int .i64 (x : Int), .slice A n c] 62))
  have H2 := Lib.hid (h2.al (.cells #[.int .i64 (x : Int), .slice A n c] 62))
  have Br := hr.al (.cells #[.int .i64 (x : Int), .slice A n c] 62)
  clear h1 h2 hr hne hqq
  have cBr := Br.cell
  have fBr := Br.frozen
  have lBr := Br.lt
  go_enter Tryd.func38, Tryd.ntmps38
  go_wp2_with fail
  refine (compareR_c ok ok' x y A B n c m d xs ys _ H1.out H2.out hn).mono ?_
  rintro e w' ⟨rfl, hb⟩
  rw [← HQ.out]
  have HF := Lib.hid (HB.out.via hb)
  clear hb
  go_wp2_with fail
  go_ret
  exact ⟨rfl, HF.out⟩
set_option maxRecDepth 100000 in
set_option maxHeartbeats 2000000 in
theorem rulesOk_c (ok ok' : Nat → Prop) (br y : Nat) (A B : Option Addr) (n c m d : Nat) (l : List Ru) (ys : List Sy) (w : World) (hl : Sl RuE ok w A n c l) (hr : Blk w br 62 #[.int .i64 (y : Int), .slice B m d]) (h2 : Sl SyE ok' w B m d ys) (hn : n ≤ 1000000) (h4 : ∀ r ∈ l, r.2.length ≤ 4) (hne : ∀ r ∈ l, r ≠ (y, ys)) :
    Calls Tryd.prog 27 #[.slice A n c, .func (.func 38) #[] #[.pointer (some ⟨br, 0, none⟩)]] w (TellB w false) := by
  have HL := Lib.hid hl
  have HR := Lib.hid hr
  have H2 := Lib.hid h2
  have H4 := Lib.hid h4
  have HN := Lib.hid hne
  clear hl hr h2 h4 hne
  have key : Calls Tryd.prog 42 #[.slice A n c, .func (.func 38) #[] #[.pointer (some ⟨br, 0, none⟩)]] w fun e w' => e = .returned (.int .i64 (-1)) ∧ Below w.heap.size w w' := by
    go_enter Tryd.func42, Tryd.ntmps42
    go_wp2_with fail
    go_loopw [8] (fun i wr => ∃ k : Nat, i = .int .i64 k ∧ k ≤ n ∧ Below w.heap.size w wr) (fun i _ => n - (intOf i).toNat)
    case atStart => exact ⟨0, rfl, Nat.zero_le _, Below.refl _ _⟩
    case round =>
      obtain ⟨k, rfl, hk, hb⟩ := hrel
      have HB := Lib.hid hb
      clear hb
      by_cases hlt : k < n
      · obtain ⟨b1, o1, ⟨sl, sA, sn, sc⟩, ⟨x, xs⟩, rfl, -, hbb, hy, ⟨hx1, hx2⟩, hc⟩ := (HL.out.via HB.out).at_ hlt
        simp only at hx1 hx2
        obtain rfl : sl = x := hx1
        have c0 := hc 0 _ rfl
        have c1 := hc 1 _ rfl
        simp only [RuE, Nat.add_zero] at c0 c1
        have i0 : (0 : Int) ≤ (k : Int) := by omega
        have i1 : (k : Int) < (n : Int) := by omega
        have HY := Lib.hid (HN.out _ (List.mem_of_getElem? hy))
        have hs4 : sn ≤ 1000000 := by have := H4.out _ (List.mem_of_getElem? hy); have := hx2.len; simp only at *; omega
        have HX := Lib.hid hx2
        clear hc hy hx2
        go_wp2_with fail
        refine (check2_c ok ok' br sl y sA B sn sc m d xs ys wr HX.out (HR.out.via HB.out) (H2.out.via HB.out) hs4 HY.out).mono ?_
        rintro e w' ⟨rfl, hb2⟩
        have HF := Lib.hid (HB.out.via hb2)
        clear hb2 c0 c1
        go_wp2_with fail
        exact ⟨⟨k + 1, by go_num, by omega, HF.out⟩, by simp [intOf]; omega⟩
      · go_wp2_with fail
        go_ret
        exact ⟨rfl, HB.out⟩
  go_enter Tryd.func27, Tryd.ntmps27
  have KEY := Lib.hid key
  clear key
  go_wp2_with fail
  refine KEY.out.mono ?_
  rintro e w' ⟨rfl, hb⟩
  have HF := Lib.hid hb
  clear hb
  go_wp2_with fail
  go_ret
  exact ⟨rfl, HF.out⟩

/-- a grammar that Check takes -/
structure GrOk (g : Gr) : Prop where
  ok : g.Ok
  nodup : g.rules.Nodup
theorem Sl.take {α ρ : Type} {E : Elem α ρ} {ok : Nat → Prop} {w : World} {A : Option Addr} {n c k : Nat} {l : List α} (h : Sl E ok w A n c l) (hk : k ≤ n) : Sl E ok w A k c (l.take k) := by
  obtain ⟨h1, h2, raw, h3, h4, h5⟩ := h
  refine ⟨by rw [List.length_take]; omega, by omega, raw.take k, by rw [List.length_take]; omega, fun hne => ?_, fun i r x hr hx => ?_⟩
  · have hf : flat E raw = flat E (raw.take k) ++ flat E (raw.drop k) := by
      unfold flat; rw [← List.flatMap_append, List.take_append_drop]
    have hne2 : flat E raw ≠ [] := by rw [hf]; simp [hne]
    obtain ⟨b, off, e, hb, hc⟩ := h4 hne2
    refine ⟨b, off, e, hb, fun j u hu => hc j u ?_⟩
    rw [hf, List.getElem?_append_left (List.getElem?_eq_some_iff.1 hu).1]; exact hu
  · have hi : i < k := by
      have := (List.getElem?_eq_some_iff.1 hr).1
      rw [List.length_take] at this; omega
    rw [List.getElem?_take, if_pos hi] at hr hx
    exact h5 i r x hr hx
end Go.Proofs.YthiikgjeamoocaaDoor

