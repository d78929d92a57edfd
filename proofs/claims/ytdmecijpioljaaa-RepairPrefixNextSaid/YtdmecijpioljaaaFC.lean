/- Texts FC, laid together. -/
import Derived.Test.YtdmecijpioljaaaFB


namespace Go.Proofs.Ytdmecijpioljaaa
open Go.RowKit

structure IsPre (g : Gr) (x : List Nat) (n : Nat) : Prop where
  le : n ≤ x.length
  yes : ∀ k t, k < n → x[k]? = some t → mayB (genR g) g.start x k t = true
  no : ∀ t, x[n]? = some t → mayB (genR g) g.start x n t = false
def natI (x : List Nat) : List Int := List.map (fun t : Nat => (t : Int)) x
def PrefP (g : Gr) (x : List Nat) (w : World) (e : Ending) (w' : World) : Prop :=
  ∃ n : Nat, IsPre g x n ∧ e = .returned (.tuple #[.int .i64 (n : Int), .int .i64 0]) ∧ Below w.heap.size w w'
theorem ends_get {g : Gr} (h : g.start < g.nons) : (endsF g)[g.start]? = some (endB g g.start) := by
  unfold endsF; rw [List.getElem?_map, List.getElem?_range h]; rfl
set_option maxRecDepth 100000 in
set_option maxHeartbeats 2000000 in
theorem Prefix_n (ok : Nat → Prop) (g : Gr) (Ag : Option Addr) (ng cg : Nat) (A : Option Addr) (c : Nat) (x : List Nat) (w : World) (hg : GrOk g) (hl : Sl RuE ok w Ag ng cg g.rules) (hx : Ints w A x.length c (natI x)) (hnx : x.length ≤ 12) (ht : ∀ t ∈ x, t < g.terms) (hend : endB g g.start = false) :
    Calls Try.prog 4 #[grVal g Ag ng cg, .slice A x.length c] w fun e w' => e = .returned (.tuple #[.int .i64 0, .int .i64 5]) ∧ Below w.heap.size w w' := by
  have hW := (Below.refl w.heap.size w).al (.cells #[.int .i64 (g.terms : Int), .int .i64 (g.nons : Int), .int .i64 (g.start : Int), .slice Ag ng cg] 28)
  have B0 := Blk.new w 28 #[.int .i64 (g.terms : Int), .int .i64 (g.nons : Int), .int .i64 (g.start : Int), .slice Ag ng cg]
  have HL := Lib.hid (hl.via hW)
  have HX := Lib.hid (hx.keep hW (Nat.le_refl _))
  have HB := Lib.hid hW
  have HGO := Lib.hid hg
  have HTT := Lib.hid ht
  have hss := hg.ok.start
  have hnn := hg.ok.nons.2
  have s0 : (0 : Int) ≤ (g.start : Int) := by omega
  have s1 : (g.start : Int) < (g.nons : Int) := by omega
  have HEG := Lib.hid (ends_get hss)
  have HNX := Lib.hid hnx
  clear hl hx hW hg ht
  simp only [grVal]
  go_enter Try.func4, Try.ntmps4
  have cB0 := B0.cell
  have fB0 := B0.frozen
  have lB0 := B0.lt
  go_upto_region 1 with fail
  have hwW : w.heap.size < (w.alloc (.cells #[.int .i64 (g.terms : Int), .int .i64 (g.nons : Int), .int .i64 (g.start : Int), .slice Ag ng cg] 28)).heap.size := by simp
  generalize w.alloc (.cells #[.int .i64 (g.terms : Int), .int .i64 (g.nons : Int), .int .i64 (g.start : Int), .slice Ag ng cg] 28) = W at *
  go_wp2_with fail
  clear cB0 fB0 lB0
  refine (Ends_q ok g Ag ng cg W HGO.out (by omega) HL.out).mono ?_
  rintro e w1 ⟨Ae, ce, rfl, hE, hb1⟩
  have HE1 := Lib.hid hE
  have B1 := B0.via hb1
  have HL1 := Lib.hid (HL.out.via hb1)
  have HX1 := Lib.hid (HX.out.keep hb1 (Nat.le_refl _))
  have hs1 : W.heap.size ≤ w1.heap.size := hb1.size
  have HB1 := Lib.hid (HB.out.trans (hb1.mono (by omega)))
  clear hE hb1 B0 HL HX HB
  have cB1 := B1.cell
  have fB1 := B1.frozen
  have lB1 := B1.lt
  go_wp2_with fail
  clear cB1 fB1 lB1
  refine (word_ok g Ag ng cg A x.length c 12 (natI x) w1 HX1.out hnx (by omega) (fun y hy => ?_)).mono ?_
  · unfold natI at hy
    obtain ⟨t, ht, rfl⟩ := List.mem_map.1 hy
    have := HTT.out t ht
    omega
  rintro e w2 ⟨rfl, hb2⟩
  have HE2 := Lib.hid (HE1.out.via hb2)
  have B2 := B1.via hb2
  have HL2 := Lib.hid (HL1.out.via hb2)
  have HX2 := Lib.hid (HX1.out.keep hb2 (Nat.le_refl _))
  have hs2 : w1.heap.size ≤ w2.heap.size := hb2.size
  have HB2 := Lib.hid (HB1.out.trans (hb2.mono (by omega)))
  clear hb2 B1 HE1 HL1 HX1 HB1
  obtain ⟨b9, o9, r9, x9, rfl, -, hb9, hx9, hr9, hc9⟩ := HE2.out.at_ hss
  have c9 := hc9 0 _ rfl
  simp only [BoE, Nat.add_zero, Nat.mul_one] at c9
  obtain rfl : r9 = x9 := hr9
  rw [HEG.out] at hx9
  obtain rfl := Option.some.inj hx9
  rw [hend] at c9
  clear hc9 hx9
  have cB2 := B2.cell
  have fB2 := B2.frozen
  have lB2 := B2.lt
  go_wp2_with fail
  clear cB2 fB2 lB2
  clear c9
  exact bodyPost_ret (v := .tuple #[.int .i64 0, .int .i64 5]) (by simp [results, Try.results4, go_sem]) rfl ⟨rfl, HB2.out⟩
set_option maxRecDepth 100000 in
set_option maxHeartbeats 2000000 in
theorem Prefix_y (ok : Nat → Prop) (g : Gr) (Ag : Option Addr) (ng cg : Nat) (A : Option Addr) (c : Nat) (x : List Nat) (w : World) (hg : GrOk g) (hl : Sl RuE ok w Ag ng cg g.rules) (hx : Ints w A x.length c (natI x)) (hnx : x.length ≤ 12) (ht : ∀ t ∈ x, t < g.terms) (hend : endB g g.start = true) :
    Calls Try.prog 4 #[grVal g Ag ng cg, .slice A x.length c] w (PrefP g x w) := by
  have hW := (Below.refl w.heap.size w).al (.cells #[.int .i64 (g.terms : Int), .int .i64 (g.nons : Int), .int .i64 (g.start : Int), .slice Ag ng cg] 28)
  have B0 := Blk.new w 28 #[.int .i64 (g.terms : Int), .int .i64 (g.nons : Int), .int .i64 (g.start : Int), .slice Ag ng cg]
  have HL := Lib.hid (hl.via hW)
  have HX := Lib.hid (hx.keep hW (Nat.le_refl _))
  have HB := Lib.hid hW
  have HGO := Lib.hid hg
  have HTT := Lib.hid ht
  have hss := hg.ok.start
  have hnn := hg.ok.nons.2
  have s0 : (0 : Int) ≤ (g.start : Int) := by omega
  have s1 : (g.start : Int) < (g.nons : Int) := by omega
  have HEG := Lib.hid (ends_get hss)
  have HNX := Lib.hid hnx
  clear hl hx hW hg ht
  simp only [grVal]
  go_enter Try.func4, Try.ntmps4
  have cB0 := B0.cell
  have fB0 := B0.frozen
  have lB0 := B0.lt
  go_upto_region 1 with fail
  have hwW : w.heap.size < (w.alloc (.cells #[.int .i64 (g.terms : Int), .int .i64 (g.nons : Int), .int .i64 (g.start : Int), .slice Ag ng cg] 28)).heap.size := by simp
  generalize w.alloc (.cells #[.int .i64 (g.terms : Int), .int .i64 (g.nons : Int), .int .i64 (g.start : Int), .slice Ag ng cg] 28) = W at *
  go_wp2_with fail
  clear cB0 fB0 lB0
  refine (Ends_q ok g Ag ng cg W HGO.out (by omega) HL.out).mono ?_
  rintro e w1 ⟨Ae, ce, rfl, hE, hb1⟩
  have HE1 := Lib.hid hE
  have B1 := B0.via hb1
  have HL1 := Lib.hid (HL.out.via hb1)
  have HX1 := Lib.hid (HX.out.keep hb1 (Nat.le_refl _))
  have hs1 : W.heap.size ≤ w1.heap.size := hb1.size
  have HB1 := Lib.hid (HB.out.trans (hb1.mono (by omega)))
  clear hE hb1 B0 HL HX HB
  have cB1 := B1.cell
  have fB1 := B1.frozen
  have lB1 := B1.lt
  go_wp2_with fail
  clear cB1 fB1 lB1
  refine (word_ok g Ag ng cg A x.length c 12 (natI x) w1 HX1.out hnx (by omega) (fun y hy => ?_)).mono ?_
  · unfold natI at hy
    obtain ⟨t, ht, rfl⟩ := List.mem_map.1 hy
    have := HTT.out t ht
    omega
  rintro e w2 ⟨rfl, hb2⟩
  have HE2 := Lib.hid (HE1.out.via hb2)
  have B2 := B1.via hb2
  have HL2 := Lib.hid (HL1.out.via hb2)
  have HX2 := Lib.hid (HX1.out.keep hb2 (Nat.le_refl _))
  have hs2 : w1.heap.size ≤ w2.heap.size := hb2.size
  have HB2 := Lib.hid (HB1.out.trans (hb2.mono (by omega)))
  clear hb2 B1 HE1 HL1 HX1 HB1
  obtain ⟨b9, o9, r9, x9, rfl, -, hb9, hx9, hr9, hc9⟩ := HE2.out.at_ hss
  have c9 := hc9 0 _ rfl
  simp only [BoE, Nat.add_zero, Nat.mul_one] at c9
  obtain rfl : r9 = x9 := hr9
  rw [HEG.out] at hx9
  obtain rfl := Option.some.inj hx9
  rw [hend] at c9
  clear hc9 hx9
  have cB2 := B2.cell
  have fB2 := B2.frozen
  have lB2 := B2.lt
  go_wp2_with fail
  clear cB2 fB2 lB2
  clear c9
  refine (New_c ok g Ag ng cg w2 HGO.out HL2.out).mono ?_
  rintro e w3 ⟨bF, B, bc, AR, nR, cR, s0', l0, rfl, hF, hI, hb3⟩
  have HF3 := Lib.hid hF
  have HI3 := Lib.hid (hI x)
  have HB3 := Lib.hid hb3
  clear hF hI hb3 B2 HE2 HL2
  go_wp2_with fail
  go_loopw [40] (fun a wq => ∃ (k : Nat) (s : ChSt) (L : List (List It3)) (wv : Value) (ws : List Int), a = .int .i64 k ∧ k ≤ x.length ∧ Hid (FeedM wq w2.heap.size bF g B bc AR nR cR s L wv ws) ∧ Hid (ws.length = k) ∧ Hid (InvI (genR g) g.start x k L) ∧ Hid (∀ j t, j < k → x[j]? = some t → mayB (genR g) g.start x j t = true) ∧ Hid (Below w2.heap.size w2 wq)) (fun a _ => x.length - (intOf a).toNat)
  case atStart => exact ⟨0, s0', [l0], _, [], rfl, Nat.zero_le _, HF3, Lib.hid rfl, HI3, Lib.hid (fun j t hj => absurd hj (Nat.not_lt_zero _)), HB3⟩
  case round =>
    obtain ⟨k, s, L, wv, ws, rfl, hk, HF, HWL, HI, HY, HBR⟩ := hrel
    by_cases hkl : k < x.length
    · obtain ⟨t, hxt⟩ : ∃ t, x[k]? = some t := ⟨_, List.getElem?_eq_getElem hkl⟩
      have htl := HTT.out t (List.mem_of_getElem? hxt)
      obtain ⟨b6, o6, rfl, hb6, c6⟩ := (HX2.out.keep HBR.out (Nat.le_refl _)).at_ hkl
      have e6 : (natI x).getD k 0 = (t : Int) := by simp [natI, List.getD_eq_getElem?_getD, hxt]
      rw [e6] at c6
      have k0 : (0 : Int) ≤ (k : Int) := by omega
      have k1 : (k : Int) < (x.length : Int) := by omega
      have HXT := Lib.hid hxt
      clear hxt e6
      go_wp2_with fail
      clear c6
      cases hm : mayB (genR g) g.start x k t with
      | true =>
        have HMY := Lib.hid hm
        clear hm
        refine (PutY_c w2.heap.size bF g B bc AR nR cR s L wv ws x k t wr HF.out HGO.out HI.out HXT.out htl HWL.out (by omega) HMY.out).mono ?_
        rintro e w5 ⟨rfl, s5, L5, wv5, ws5, hF5, hw5, hI5, hb5⟩
        have HF5 := Lib.hid hF5
        have HW5 := Lib.hid hw5
        have HI5 := Lib.hid hI5
        have HB5 := Lib.hid (HBR.out.trans hb5)
        clear hF5 hw5 hI5 hb5
        go_wp2_with fail
        exact ⟨⟨k + 1, s5, L5, wv5, ws5, by go_num, by omega, HF5, HW5, HI5, Lib.hid fun j q hj hq => by
          by_cases e : j = k
          · subst e
            rw [HXT.out] at hq
            obtain rfl := Option.some.inj hq
            exact HMY.out
          · exact HY.out j q (by omega) hq, HB5⟩, by simp [intOf]; omega⟩
      | false =>
        have HMN := Lib.hid hm
        clear hm
        refine (PutN_c w2.heap.size bF g B bc AR nR cR s L wv ws x k t wr HF.out HGO.out HI.out htl HWL.out (by omega) HMN.out).mono ?_
        rintro e w5 ⟨rfl, hb5⟩
        have hs5 : w2.heap.size ≤ wr.heap.size := HBR.out.size
        have HB5 := Lib.hid (HB2.out.trans ((HBR.out.trans (hb5.mono hs5)).mono (by omega)))
        clear hb5
        go_wp2_with fail
        refine bodyPost_ret (v := .tuple #[.int .i64 (k : Int), .int .i64 0]) (by simp [results, Try.results4, go_sem]) rfl ?_
        exact ⟨k, ⟨hk, HY.out, fun q hq => by
          rw [HXT.out] at hq
          obtain rfl := Option.some.inj hq
          exact HMN.out⟩, rfl, HB5.out⟩
    · obtain rfl : k = x.length := by omega
      have HB5 := Lib.hid (HB2.out.trans (HBR.out.mono (by omega)))
      go_wp2_with fail
      refine bodyPost_ret (v := .tuple #[.int .i64 (x.length : Int), .int .i64 0]) (by simp [results, Try.results4, go_sem]) rfl ?_
      exact ⟨x.length, ⟨Nat.le_refl _, HY.out, fun t ht => by simp at ht⟩, rfl, HB5.out⟩
end Go.Proofs.Ytdmecijpioljaaa

