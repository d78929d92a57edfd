/- Texts VP, SD, SE, SF, SG, SH, IW, VQ, laid together. -/
import Derived.Test.YthiikgjeamoocaaDoorQ29
import Derived.Test.YthiikgjeamoocaaDoorQ30
import Derived.Test.YthiikgjeamoocaaDoorQ7
import Derived.Test.YthiikgjeamoocaaDoorQ10
import Derived.Test.YthiikgjeamoocaaDoorQ15
import Derived.Test.YthiikgjeamoocaaDoorQ3
import Derived.Laws.EntriesVeiled
import Derived.Laws.StructEq



namespace Go.Proofs.YthiikgjeamoocaaDoor
open Go.RowKit

set_option maxRecDepth 100000 in
set_option maxHeartbeats 8000000 in
theorem means_c (w : World) (hT : TabW w) : Calls Tryd.prog 7 #[] w fun e w' => e = .returned (.bool true) ∧ Below w.heap.size w w' := by
  have HT := Lib.hid hT
  clear hT
  go_enter Tryd.func7, Tryd.ntmps7
  go_wp2_with fail
  refine (doubling_c w).mono ?_
  rintro e w1 ⟨Ag, rfl, hl, hb⟩
  rw [show grVal dblG Ag 2 2 = .agg #[.int .i64 1, .int .i64 1, .int .i64 0, .slice Ag 2 2] from rfl]
  have hal := (Below.refl w1.heap.size w1).al (.cells #[.int .i64 1, .int .i64 1, .int .i64 0, .slice Ag 2 2] 24)
  have BG := Blk.new w1 24 #[.int .i64 1, .int .i64 1, .int .i64 0, .slice Ag 2 2]
  have HB2 := Lib.hid (hb.via hal)
  have HL2 := Lib.hid (hl.via hal)
  clear hl hb hal
  go_upto_region 2 with fail
  generalize w1.alloc (.cells #[.int .i64 1, .int .i64 1, .int .i64 0, .slice Ag 2 2] 24) = w2 at *
  -- Accepts
  have hal := (Below.refl w2.heap.size w2).al (.cells #[.int .i64 0, .int .i64 0] 3)
  have hx := Ints.litB (xs := [0, 0]) (Blk.new w2 3 #[.int .i64 0, .int .i64 0]) rfl rfl
  have HA : Hid (Calls Tryd.prog 5 #[.agg #[.int .i64 1, .int .i64 1, .int .i64 0, .slice Ag 2 2], .slice (some ⟨w2.heap.size, 0, none⟩) 2 2] (w2.alloc (.cells #[.int .i64 0, .int .i64 0] 3)) (AccP (w2.alloc (.cells #[.int .i64 0, .int .i64 0] 3)) dblG [0, 0])) :=
    Lib.hid (accepts_c _ dblG Ag 2 2 _ 2 2 [0, 0] _ dblG_ok (HL2.out.via hal) hx (by omega) (by simp [dblG]) (HT.out.via (HB2.out.via hal)))
  have HB3 := Lib.hid (HB2.out.via hal)
  have HL3 := Lib.hid (HL2.out.via hal)
  have BG3 := Lib.hid (BG.via hal)
  clear hal hx HB2 HL2
  have cBG := BG.cell
  have fBG := BG.frozen
  have lBG := BG.lt
  go_wp2_with fail
  clear cBG fBG lBG
  clear BG
  refine HA.out.mono ?_
  clear HA
  generalize w2.alloc (.cells #[.int .i64 0, .int .i64 0] 3) = w3 at *
  rintro e w4 ⟨ba, rfl, hba, hb⟩
  have hbt : ba = true := hba.2 dv_s1
  subst hbt
  have HB4 := Lib.hid (HB3.out.via hb)
  have HL4 := Lib.hid (HL3.out.via hb)
  have BG := BG3.out.via hb
  clear hba hb HB3 HL3 BG3
  go_upto_region 3 with fail
  -- Count
  have hal := (Below.refl w4.heap.size w4).al (.cells #[.int .i64 0, .int .i64 0, .int .i64 0] 3)
  have hx := Ints.litB (xs := [0, 0, 0]) (Blk.new w4 3 #[.int .i64 0, .int .i64 0, .int .i64 0]) rfl rfl
  have HA : Hid (Calls Tryd.prog 17 #[.agg #[.int .i64 1, .int .i64 1, .int .i64 0, .slice Ag 2 2], .slice (some ⟨w4.heap.size, 0, none⟩) 3 3] (w4.alloc (.cells #[.int .i64 0, .int .i64 0, .int .i64 0] 3)) (McP (w4.alloc (.cells #[.int .i64 0, .int .i64 0, .int .i64 0] 3)) dblG [0, 0, 0])) :=
    Lib.hid (mcount_c _ dblG Ag 2 2 _ 3 3 [0, 0, 0] _ dblG_ok (HL4.out.via hal) hx (by omega) (by simp [dblG]) (HT.out.via (HB4.out.via hal)))
  have HB5 := Lib.hid (HB4.out.via hal)
  have HL5 := Lib.hid (HL4.out.via hal)
  have BG5 := Lib.hid (BG.via hal)
  clear hal hx HB4 HL4
  have cBG := BG.cell
  have fBG := BG.frozen
  have lBG := BG.lt
  go_wp2_with fail
  clear cBG fBG lBG
  clear BG
  refine HA.out.mono ?_
  clear HA
  generalize w4.alloc (.cells #[.int .i64 0, .int .i64 0, .int .i64 0] 3) = w5 at *
  rintro e w6 ⟨f, ⟨bf, hf⟩, rfl, hb⟩
  obtain ⟨rfl, -⟩ := dbl3_fo (by omega) hf
  rw [dbl3_cnt]
  have HB6 := Lib.hid (HB5.out.via hb)
  have HL6 := Lib.hid (HL5.out.via hb)
  have BG := BG5.out.via hb
  clear hf hb HB5 HL5 BG5
  go_upto_region 4 with fail
  -- Trees
  have hal := (Below.refl w6.heap.size w6).al (.cells #[.int .i64 0] 3)
  have hx := Ints.litB (xs := [0]) (Blk.new w6 3 #[.int .i64 0]) rfl rfl
  have HA : Hid (Calls Tryd.prog 18 #[.agg #[.int .i64 1, .int .i64 1, .int .i64 0, .slice Ag 2 2], .slice (some ⟨w6.heap.size, 0, none⟩) 1 1, .int .i64 3] (w6.alloc (.cells #[.int .i64 0] 3)) (MtP (w6.alloc (.cells #[.int .i64 0] 3)) dblG [0] 3)) :=
    Lib.hid (mtrees_c _ dblG Ag 2 2 _ 1 1 [0] 3 _ dblG_ok (HL6.out.via hal) hx (by omega) (by simp [dblG]) (HT.out.via (HB6.out.via hal)) (by omega))
  have HB7 := Lib.hid (HB6.out.via hal)
  clear hal hx HB6 HL6
  have cBG := BG.cell
  have fBG := BG.frozen
  have lBG := BG.lt
  go_wp2_with fail
  clear cBG fBG lBG
  clear BG
  refine HA.out.mono ?_
  clear HA
  generalize w6.alloc (.cells #[.int .i64 0] 3) = w7 at *
  rintro e w8 ⟨f, TA, tn, tc, q, ⟨bf, hf⟩, rfl, hq, hS, hb⟩
  obtain ⟨rfl, -⟩ := dbl1_fo (by omega) hf
  have htr := db_trs
  rw [show (((1 : Int), dbN1) : FoI).1 = 1 from rfl, show (((1 : Int), dbN1) : FoI).2 = dbN1 from rfl, db_trs] at hq hS
  simp only [if_true] at hq hS
  subst hq
  have hn := hS.len
  simp only [List.length_singleton] at hn
  subst hn
  obtain ⟨b, off, v, x, rfl, -, -, hx, hvx, hc⟩ := hS.at_ (i := 0) (by omega)
  obtain rfl : Tr.node 1 [.leaf 0] = x := by simpa using hx
  obtain ⟨v1, v2, vA, vn, vc⟩ := v
  obtain ⟨rfl, rfl, hk⟩ := TreeR.kids hvx
  have hkl := hk.len
  simp only [List.length_singleton] at hkl
  subst hkl
  have c0 := hc 0 _ rfl
  have c2 := hc 2 _ rfl
  simp only [TrE, Nat.zero_mul, Nat.add_zero] at c0 c2
  have HB8 := Lib.hid (HB7.out.via hb)
  clear hf hb hS hx hvx hc hk htr HB7
  go_wp2_with fail
  go_ret
  exact ⟨rfl, HB8.out⟩
end Go.Proofs.YthiikgjeamoocaaDoor



namespace Go.Proofs.YthiikgjeamoocaaDoor
open Go.RowKit

section
variable {D : Ky → Bool} {R : List Ru} {root x : Ky} {B left : Nat} {M S : List Ky}
end
/-! ### append of a row onto an own row; an own row without its last -/
section
variable {α ρ : Type} {E : Elem α ρ} {e : TypeId} {ok : Nat → Prop} {w : World} {base n : Nat} {v : Value} {l : List α}
theorem flat_app (a b : List ρ) : flat E (a ++ b) = flat E a ++ flat E b := by simp [flat]
theorem Own.pop {A : Option Addr} {c : Nat} {x : α} (h : Own E e ok w base (.slice A (n + 1) c) (n + 1) (l ++ [x])) : Own E e ok w base (.slice A n c) n l := by
  obtain ⟨h1, raw, h3, h4, h5⟩ := h
  have hl : l.length = n := by simp at h1; exact h1
  have hob : (Value.slice A n c).ownBlock = (Value.slice A (n + 1) c).ownBlock := by cases A <;> rfl
  refine ⟨hl, raw.take n, by rw [List.length_take]; omega, ⟨by rw [flat_len, List.length_take, h3, Nat.min_eq_left (by omega)], ?_⟩, fun i r x' hr hx => ?_⟩
  · rcases h4.2 with ⟨-, h0⟩ | ⟨g, cap, cur, hv, hbg, hh, hc1, hc2, hc3, hc4⟩
    · omega
    · cases hv
      refine Or.inr ⟨g, c, cur, rfl, hbg, hh, by omega, hc2, hc3, ?_⟩
      have e1 : flat E raw = flat E (raw.take n) ++ flat E (raw.drop n) := by rw [← flat_app, List.take_append_drop]
      rw [e1] at hc4
      have e2 : (flat E (raw.take n)).length = n * E.k := by rw [flat_len, List.length_take, h3, Nat.min_eq_left (by omega)]
      have e3 : cur.toList.take (n * E.k) = (cur.toList.take ((n + 1) * E.k)).take (n * E.k) := by
        rw [List.take_take, Nat.min_eq_left (Nat.mul_le_mul_right _ (by omega))]
      rw [e3, hc4, ← e2]
      exact List.take_left
  · rw [hob]
    have hi : i < n := by
      have := (List.getElem?_eq_some_iff.1 hr).1
      rw [List.length_take] at this; omega
    rw [List.getElem?_take_of_lt hi] at hr
    exact h5 i r x' hr (by rw [List.getElem?_append_left (by omega)]; exact hx)
end
end Go.Proofs.YthiikgjeamoocaaDoor




namespace Go.Proofs.YthiikgjeamoocaaDoor
open Go.RowKit
open Go.Sort (grow alloc_eq_grow grow_grow grow_empty SWO)

/-! ### the index -/
def RootP (w : World) (g : Gr) (n : Nat) (e : Ending) (w' : World) : Prop := e = .returned (kyVal ((false, g.start), 0, n)) ∧ Below w.heap.size w w'
set_option maxRecDepth 100000 in
set_option maxHeartbeats 2000000 in
theorem root_c (g : Gr) (Ag : Option Addr) (ng cg : Nat) (A : Option Addr) (n c bs bm : Nat) (S : Ky → Bool) (w : World) (hR : SpR w g Ag ng cg A n c bs bm S) :
    Calls Tryd.prog 9 #[.pointer (some ⟨bs, 0, none⟩)] w (RootP w g n) := by
  have BS := hR.blk.al (.cells #[.bool false, .int .i64 0, .int .i64 0, .int .i64 0] 41)
  have B2 := Blk.new w 41 #[.bool false, .int .i64 0, .int .i64 0, .int .i64 0]
  have HB := Lib.hid ((Below.refl w.heap.size w).al (.cells #[.bool false, .int .i64 0, .int .i64 0, .int .i64 0] 41))
  clear hR
  go_enter Tryd.func9, Tryd.ntmps9
  go_upto_region 1 with fail
  generalize w.alloc (.cells #[.bool false, .int .i64 0, .int .i64 0, .int .i64 0] 41) = W at *
  have cBS := BS.cell
  have fBS := BS.frozen
  have lBS := BS.lt
  have cB2 := B2.cell
  have fB2 := B2.frozen
  have lB2 := B2.lt
  go_still_tail 12, (by kernel_rfl)
  clear cBS fBS lBS cB2 fB2 lB2
  have HDW := Lib.hid (HB.out.via (Below.refl W.heap.size W).drew)
  have B3 := B2.via (Below.refl W.heap.size W).drew
  change wpList _ _ _ _ _ W.drew
  generalize W.drew = W2 at *
  clear BS B2 HB
  have cB3 := B3.cell
  have fB3 := B3.frozen
  have lB3 := B3.lt
  go_wp2_with fail
  have B4 := (((B3.set_ 0 (.bool false)).set_ 1 (.int .i64 (g.start : Int))).set_ 2 (.int .i64 0)).set_ 3 (.int .i64 (n : Int))
  simp only [List.setIfInBounds_toArray, List.set_cons_zero, List.set_cons_succ] at B4
  have c4 := B4.cell
  refine bodyPost_ret (v := kyVal ((false, g.start), 0, n)) (by simp [results, Tryd.results9, go_sem, c4, kyVal]) rfl ⟨rfl, ?_⟩
  exact (((HDW.out.setCell (p := ⟨w.heap.size, 0, none⟩) (Nat.le_refl _) _).setCell (p := ⟨w.heap.size, 1, none⟩) (Nat.le_refl _) _).setCell (p := ⟨w.heap.size, 2, none⟩) (Nat.le_refl _) _).setCell (p := ⟨w.heap.size, 3, none⟩) (Nat.le_refl _) _
end Go.Proofs.YthiikgjeamoocaaDoor





namespace Go.Proofs.YthiikgjeamoocaaDoor
open Go.RowKit

theorem Sl.upSw {ok : Nat → Prop} {w : World} {A : Option Addr} {n c : Nat} {l : List Sy} (h : Sl SyE ok w A n c l) : Sl SiE ok w A n c (l.map embS) := by
  obtain ⟨h1, h2, raw, h3, h4, h5⟩ := h
  have e : raw = l := List.ext_getElem (by omega) fun i a b => h5 i _ _ (List.getElem?_eq_getElem a) (List.getElem?_eq_getElem b)
  have ef : ∀ l : List Sy, flat SiE (l.map embS) = flat SyE l := fun l => by
    induction l with
    | nil => rfl
    | cons x l ih => simp only [flat, List.map_cons, List.flatMap_cons] at ih ⊢; rw [ih]; rfl
  refine ⟨by rw [List.length_map]; exact h1, h2, l.map embS, by rw [List.length_map]; exact h1, ?_, fun i r x hr hx => by rw [hr] at hx; exact Option.some.inj hx⟩
  rw [e, ← ef] at h4; exact h4
theorem Sl.upR {ok : Nat → Prop} {w : World} {A : Option Addr} {n c : Nat} {l : List Ru} (h : Sl RuE ok w A n c l) : Sl RiE ok w A n c (l.map embR) := by
  obtain ⟨h1, h2, raw, h3, h4, h5⟩ := h
  have ef : ∀ raw : List (Nat × SlV), flat RiE (raw.map fun r => ((r.1 : Int), r.2)) = flat RuE raw := fun raw => by
    induction raw with
    | nil => rfl
    | cons x l ih => simp only [flat, List.map_cons, List.flatMap_cons] at ih ⊢; rw [ih]; rfl
  refine ⟨by rw [List.length_map]; exact h1, h2, raw.map fun r => ((r.1 : Int), r.2), by rw [List.length_map]; exact h3, by rw [ef]; exact h4, fun i r x hr hx => ?_⟩
  rw [List.getElem?_map] at hr hx
  obtain ⟨r0, hr0, rfl⟩ := Option.map_eq_some_iff.1 hr
  obtain ⟨x0, hx0, rfl⟩ := Option.map_eq_some_iff.1 hx
  obtain ⟨k1, k2⟩ := h5 i r0 x0 hr0 hx0
  exact ⟨by simp only [embR]; rw [k1], Sl.upSw k2⟩
theorem Ints.slLt {w : World} {A : Option Addr} {n c : Nat} {xs : List Int} (h : Ints w A n c xs) : Sl InE (fun b => b < w.heap.size) w A n c xs := by
  rcases Nat.eq_zero_or_pos n with h0 | h0
  · have hx : xs = [] := List.eq_nil_of_length_eq_zero (by rw [h.1, h0])
    subst hx
    exact ⟨h.1, h.2.1, [], h.1, fun hne => absurd rfl hne, fun i r x hr => by simp at hr⟩
  · obtain ⟨b, off, e, hc⟩ := h.2.2 h0
    refine h.slE.mono fun b' _ hb => ?_
    obtain ⟨o, ho⟩ := hb
    rw [e] at ho
    have e1 : b = b' := by injection ho with ho; injection ho
    rw [← e1]
    exact World.block_lt_of_cell? _ _ (hc 0 h0)
def PickP (ok : Nat → Prop) (w : World) (e : Ending) (w' : World) : Prop :=
  ∃ (T N S : Int) (A : Option Addr) (n c : Nat) (rs : List Ri) (wA : Option Addr) (wn wc : Nat) (xs : List Int), e = .returned (.tuple #[.agg #[.int .i64 T, .int .i64 N, .int .i64 S, .slice A n c], .slice wA wn wc]) ∧
    Sl RiE (fun b => ok b ∨ w.heap.size ≤ b) w' A n c rs ∧ Sl InE (fun b => ok b ∨ w.heap.size ≤ b) w' wA wn wc xs ∧ Below w.heap.size w w'
/-- .. and where there are numbers, the grammar is a valid one and the word is of its terminals -/
def PickP2 (ok : Nat → Prop) (ln most : Nat) (w : World) (e : Ending) (w' : World) : Prop :=
  ∃ (T N S : Int) (A : Option Addr) (n c : Nat) (rs : List Ri) (wA : Option Addr) (wn wc : Nat) (xs : List Int), e = .returned (.tuple #[.agg #[.int .i64 T, .int .i64 N, .int .i64 S, .slice A n c], .slice wA wn wc]) ∧
    Sl RiE (fun b => ok b ∨ w.heap.size ≤ b) w' A n c rs ∧ Sl InE (fun b => ok b ∨ w.heap.size ≤ b) w' wA wn wc xs ∧ Below w.heap.size w w' ∧
    (ln ≠ 0 → ∃ g : Gr, GrOk g ∧ T = (g.terms : Int) ∧ N = (g.nons : Int) ∧ S = (g.start : Int) ∧ rs = g.rules.map embR ∧ (∀ x ∈ xs, 0 ≤ x ∧ x < T) ∧ xs.length ≤ most)
theorem MadeG.grOk9 {g : Gr} (h : MadeG g) : GrOk g :=
  ⟨⟨⟨h.terms.1, by have := h.terms.2; omega⟩, ⟨h.nons.1, by have := h.nons.2; omega⟩, h.start, by have := h.count; omega, fun r hr => (h.ok r hr).1, fun r hr => ⟨by have := (h.ok r hr).2.1; omega, fun s hs => (h.ok r hr).2.2 s hs⟩⟩, h.nodup⟩
set_option maxRecDepth 100000 in
set_option maxHeartbeats 4000000 in
theorem pick2_c (ok : Nat → Prop) (T N S : Int) (A : Option Addr) (n c : Nat) (rs : List Ri) (wA : Option Addr) (wn wcp : Nat) (xs : List Int) (lA : Option Addr) (ln lc : Nat) (ls : List Int) (most : Nat) (w : World) (hl : Sl RiE ok w A n c rs) (hx : Sl InE ok w wA wn wcp xs) (hls : Ints w lA ln lc ls) (hm : most ≤ 1000000) :
    Calls Tryd.prog 4 #[.agg #[.int .i64 T, .int .i64 N, .int .i64 S, .slice A n c], .slice wA wn wcp, .slice lA ln lc, .int .i64 (most : Int)] w (PickP2 ok ln most w) := by
  have hal := ((Below.refl w.heap.size w).al (.cells #[.int .i64 T, .int .i64 N, .int .i64 S, .slice A n c] 24)).al (.cells #[.int .i64 0, .int .i64 0, .int .i64 0, .slice none 0 0] 24)
  have BG := (Blk.new w 24 #[.int .i64 T, .int .i64 N, .int .i64 S, .slice A n c]).al (.cells #[.int .i64 0, .int .i64 0, .int .i64 0, .slice none 0 0] 24)
  have BR := Blk.newAt (w.alloc (.cells #[.int .i64 T, .int .i64 N, .int .i64 S, .slice A n c] 24)) 24 #[.int .i64 0, .int .i64 0, .int .i64 0, .slice none 0 0] (w.heap.size + 1) (by simp)
  have HL := Lib.hid ((hl.mono (ok' := fun b => (ok b ∨ w.heap.size ≤ b) ∧ b ≠ w.heap.size + 1 ∧ b ≠ w.heap.size) (fun b hb h => ⟨Or.inl h, by omega, by omega⟩)).via hal)
  have HX := Lib.hid ((hx.mono (ok' := fun b => (ok b ∨ w.heap.size ≤ b) ∧ b ≠ w.heap.size + 1 ∧ b ≠ w.heap.size) (fun b hb h => ⟨Or.inl h, by omega, by omega⟩)).via hal)
  have HLS := Lib.hid (hls.via hal)
  have HAL := Lib.hid hal
  have HSZ := Lib.hid (show ((w.alloc (.cells #[.int .i64 T, .int .i64 N, .int .i64 S, .slice A n c] 24)).alloc (.cells #[.int .i64 0, .int .i64 0, .int .i64 0, .slice none 0 0] 24)).heap.size = w.heap.size + 2 by simp)
  clear hl hx hal
  clear hls
  go_enter Tryd.func4, Tryd.ntmps4
  go_upto_region 1 with fail
  generalize (w.alloc (.cells #[.int .i64 T, .int .i64 N, .int .i64 S, .slice A n c] 24)).alloc (.cells #[.int .i64 0, .int .i64 0, .int .i64 0, .slice none 0 0] 24) = W2 at *
  have HBG := Lib.hid BG
  have HBR := Lib.hid BR
  by_cases hn : ln = 0
  · have e1 : ((ln : Int) == 0) = true := by simp [hn]
    have cBG := BG.cell
    have fBG := BG.frozen
    have lBG := BG.lt
    have cBR := BR.cell
    have fBR := BR.frozen
    have lBR := BR.lt
    go_wp2_with fail
    refine bodyPost_ret (v := .tuple #[.agg #[.int .i64 T, .int .i64 N, .int .i64 S, .slice A n c], .slice wA wn wcp]) (by simp [results, Tryd.results4, go_sem, cBR]) rfl ⟨T, N, S, A, n, c, rs, wA, wn, wcp, xs, rfl, ?_, ?_, ?_, fun h => absurd hn h⟩
    · exact (HL.out.agr ((((Agr.setCell (p := ⟨w.heap.size + 1, 0, none⟩) _ fun b hb => hb.2.1).trans (Agr.setCell (p := ⟨w.heap.size + 1, 1, none⟩) _ fun b hb => hb.2.1)).trans (Agr.setCell (p := ⟨w.heap.size + 1, 2, none⟩) _ fun b hb => hb.2.1)).trans (Agr.setCell (p := ⟨w.heap.size + 1, 3, none⟩) _ fun b hb => hb.2.1))).mono fun _ _ h => h.1
    · exact (HX.out.agr ((((Agr.setCell (p := ⟨w.heap.size + 1, 0, none⟩) _ fun b hb => hb.2.1).trans (Agr.setCell (p := ⟨w.heap.size + 1, 1, none⟩) _ fun b hb => hb.2.1)).trans (Agr.setCell (p := ⟨w.heap.size + 1, 2, none⟩) _ fun b hb => hb.2.1)).trans (Agr.setCell (p := ⟨w.heap.size + 1, 3, none⟩) _ fun b hb => hb.2.1))).mono fun _ _ h => h.1
    · exact (((HAL.out.setCell (by simp) _).setCell (by simp) _).setCell (by simp) _).setCell (by simp) _
  · have e1 : ((ln : Int) == 0) = false := by simp [hn]
    have cBG := BG.cell
    have fBG := BG.frozen
    have lBG := BG.lt
    go_wp2_with fail
    clear cBG fBG lBG
    refine (grammar_c lA ln lc ls W2 HLS.out).mono ?_
    rintro e w3 ⟨g, gA, gn, gc, rfl, hmg, hgl, hb3⟩
    have HG3 := Lib.hid (HBG.out.via hb3)
    have HR3 := Lib.hid (HBR.out.via hb3)
    have HA3 := Lib.hid (HAL.out.trans (hb3.mono HAL.out.size))
    have HX3 := Lib.hid (HX.out.via hb3)
    have HGL := Lib.hid (hgl.mono (ok' := fun b => (ok b ∨ w.heap.size ≤ b) ∧ b ≠ w.heap.size + 1 ∧ b ≠ w.heap.size) fun b _ hb => by have h : W2.heap.size ≤ b := hb; have := HSZ.out; exact ⟨Or.inr (by omega), by omega, by omega⟩)
    have HMG := Lib.hid hmg
    have BG3 := HG3.out
    clear hgl hb3 HL HX HLS HAL HBG HBR BG BR hmg
    simp only [grVal]
    have cBG3 := BG3.cell
    have fBG3 := BG3.frozen
    have lBG3 := BG3.lt
    go_upto_region 4 with fail
    clear cBG3 fBG3 lBG3
    have HG4 := Lib.hid (show Blk ((((w3.setCell ⟨w.heap.size, 0, none⟩ (.int .i64 (g.terms : Int))).setCell ⟨w.heap.size, 1, none⟩ (.int .i64 (g.nons : Int))).setCell ⟨w.heap.size, 2, none⟩ (.int .i64 (g.start : Int))).setCell ⟨w.heap.size, 3, none⟩ (.slice gA gn gc)) w.heap.size 24 #[.int .i64 (g.terms : Int), .int .i64 (g.nons : Int), .int .i64 (g.start : Int), .slice gA gn gc] from by
      have := (((BG3.set_ 0 (.int .i64 (g.terms : Int))).set_ 1 (.int .i64 (g.nons : Int))).set_ 2 (.int .i64 (g.start : Int))).set_ 3 (.slice gA gn gc); simpa using this)
    have hag : Agr (fun b => (ok b ∨ w.heap.size ≤ b) ∧ b ≠ w.heap.size + 1 ∧ b ≠ w.heap.size) w3 ((((w3.setCell ⟨w.heap.size, 0, none⟩ (.int .i64 (g.terms : Int))).setCell ⟨w.heap.size, 1, none⟩ (.int .i64 (g.nons : Int))).setCell ⟨w.heap.size, 2, none⟩ (.int .i64 (g.start : Int))).setCell ⟨w.heap.size, 3, none⟩ (.slice gA gn gc)) := ((((Agr.setCell (p := ⟨w.heap.size, 0, none⟩) _ fun b hb => hb.2.2).trans (Agr.setCell (p := ⟨w.heap.size, 1, none⟩) _ fun b hb => hb.2.2)).trans (Agr.setCell (p := ⟨w.heap.size, 2, none⟩) _ fun b hb => hb.2.2)).trans (Agr.setCell (p := ⟨w.heap.size, 3, none⟩) _ fun b hb => hb.2.2))
    have HR4 := Lib.hid ((((HR3.out.far (p := ⟨w.heap.size, 0, none⟩) (by simp) (.int .i64 (g.terms : Int))).far (p := ⟨w.heap.size, 1, none⟩) (by simp) (.int .i64 (g.nons : Int))).far (p := ⟨w.heap.size, 2, none⟩) (by simp) (.int .i64 (g.start : Int))).far (p := ⟨w.heap.size, 3, none⟩) (by simp) (.slice gA gn gc))
    have HA4 := Lib.hid ((((HA3.out.setCell (p := ⟨w.heap.size, 0, none⟩) (by simp) (.int .i64 (g.terms : Int))).setCell (p := ⟨w.heap.size, 1, none⟩) (by simp) (.int .i64 (g.nons : Int))).setCell (p := ⟨w.heap.size, 2, none⟩) (by simp) (.int .i64 (g.start : Int))).setCell (p := ⟨w.heap.size, 3, none⟩) (by simp) (.slice gA gn gc))
    have HX4 := Lib.hid (HX3.out.agr hag)
    have HL4 := Lib.hid ((Sl.upR HGL.out).agr hag)
    clear hag BG3 HG3 HR3 HA3 HX3 HGL
    generalize (((w3.setCell ⟨w.heap.size, 0, none⟩ (.int .i64 (g.terms : Int))).setCell ⟨w.heap.size, 1, none⟩ (.int .i64 (g.nons : Int))).setCell ⟨w.heap.size, 2, none⟩ (.int .i64 (g.start : Int))).setCell ⟨w.heap.size, 3, none⟩ (.slice gA gn gc) = w4 at *
    have BG4 := HG4.out
    have BR4 := HR4.out
    have SO := Lib.hid (show ∀ w', Agr (fun b => b ≠ w.heap.size + 1) w4 w' → ((∀ i, w'.cell? ⟨w.heap.size, i, none⟩ = #[.int .i64 (g.terms : Int), .int .i64 (g.nons : Int), .int .i64 (g.start : Int), .slice gA gn gc][i]?) ∧ Agr (fun b => b ≠ w.heap.size + 1) w4 w') from fun w' hb => ⟨(show Blk w' w.heap.size 24 _ from (hb _ (by omega) HG4.out.lt).trans HG4.out).cell, hb⟩)
    have HN := Lib.hid (show ∀ w', Agr (fun b => b ≠ w.heap.size + 1) w4 w' → Calls Tryd.prog 11 #[.int .i64 (g.terms : Int), .int .i64 (most : Int), .slice wA wn wcp] w' (WordPost w' (g.terms : Int) most xs) from fun w' hb => word_c _ most wA wn wcp xs w' (HX4.out.agr (hb.mono fun b hb => hb.2.1)).intsIn (by have := HMG.out.terms.1; omega) (by have := HMG.out.terms.2; omega) hm)
    have hb0 : Agr (fun b => b ≠ w.heap.size + 1) w4 w4.drew := Agr.below ((Below.refl w4.heap.size w4).drew)
    have BD4 := BR4.dr
    have hst : ∀ w', Agr (fun b => b ≠ w.heap.size + 1) w4 w' → Agr (fun b => b ≠ w.heap.size + 1) w4 ((((w'.setCell ⟨w.heap.size + 1, 0, none⟩ (.int .i64 (g.terms : Int))).setCell ⟨w.heap.size + 1, 1, none⟩ (.int .i64 (g.nons : Int))).setCell ⟨w.heap.size + 1, 2, none⟩ (.int .i64 (g.start : Int))).setCell ⟨w.heap.size + 1, 3, none⟩ (.slice gA gn gc)) := fun w' h => (((h.trans (Agr.setCell (p := ⟨w.heap.size + 1, 0, none⟩) _ fun b hb => hb)).trans (Agr.setCell (p := ⟨w.heap.size + 1, 1, none⟩) _ fun b hb => hb)).trans (Agr.setCell (p := ⟨w.heap.size + 1, 2, none⟩) _ fun b hb => hb)).trans (Agr.setCell (p := ⟨w.heap.size + 1, 3, none⟩) _ fun b hb => hb)
    have HST := Lib.hid hst
    have HBD := Lib.hid BD4
    clear hst BR4 BG4
    have cBD4 := BD4.cell
    have fBD4 := BD4.frozen
    have lBD4 := BD4.lt
    go_region_held3 (fun w' => (∀ i, w'.cell? ⟨w.heap.size, i, none⟩ = #[.int .i64 (g.terms : Int), .int .i64 (g.nons : Int), .int .i64 (g.start : Int), .slice gA gn gc][i]?) ∧ Agr (fun b => b ≠ w.heap.size + 1) w4 w') (exact SO.out _ (by first | assumption | exact HST.out _ hb0 | exact HST.out _ hbm)) (first
      | (go_at_call 11; (with_reducible refine (HN.out w4.drew hb0).mono ?_); rintro ee wn ⟨vW, kW, rfl, how, hbn⟩; have hbm : Agr (fun b => b ≠ w.heap.size + 1) w4 wn := Agr.trans hb0 (Agr.below hbn); have BDn := HBD.out.via hbn; have cBDn := BDn.cell; have fBDn := BDn.frozen; have lBDn := BDn.lt)
      | (go_at_call 11; (with_reducible refine (HN.out _ (HST.out _ hb0)).mono ?_); rintro ee wn ⟨vW, kW, rfl, how, hbn⟩; have hbm : Agr (fun b => b ≠ w.heap.size + 1) w4 wn := Agr.trans (HST.out _ hb0) (Agr.below hbn)))
    obtain ⟨vA, vc, rfl, -⟩ := how.form
    have HA9 := Lib.hid (HA4.out.trans (((Below.refl w4.heap.size w4).drew.via hbn).mono HA4.out.size))
    have how2 := (((how.setCell (p := ⟨w.heap.size + 1, 0, none⟩) lBD4 (.int .i64 (g.terms : Int))).setCell (p := ⟨w.heap.size + 1, 1, none⟩) lBD4 (.int .i64 (g.nons : Int))).setCell (p := ⟨w.heap.size + 1, 2, none⟩) lBD4 (.int .i64 (g.start : Int))).setCell (p := ⟨w.heap.size + 1, 3, none⟩) lBD4 (.slice gA gn gc)
    have HW9 := Lib.hid (how2.toInts.slE.mono (ok' := fun b => ok b ∨ w.heap.size ≤ b) fun b _ hb => by
      obtain ⟨o, ho⟩ := hb
      have h1 := (how2.block _ ho).1
      have h2 := HA4.out.size
      simp at h1
      exact Or.inr (by omega))
    have hagN := HST.out wn hbm
    have HL9 := Lib.hid (HL4.out.agr (hagN.mono fun b hb => hb.2.1))
    clear how how2 hbn hbm hagN fBD4 lBD4 cBD4 BD4 HBD HST SO HN
    go_wp2_with fail
    refine bodyPost_ret (v := .tuple #[.agg #[.int .i64 (g.terms : Int), .int .i64 (g.nons : Int), .int .i64 (g.start : Int), .slice gA gn gc], .slice vA kW vc]) (by simp [results, Tryd.results4, go_sem, cBDn]) rfl ⟨_, _, _, gA, gn, gc, g.rules.map embR, vA, kW, vc, wordI (g.terms : Int) most xs, rfl, HL9.out.mono fun _ _ h => h.1, HW9.out, ?_, fun _ => ⟨g, HMG.out.grOk9, rfl, rfl, rfl, rfl, wordI_mem _ _ _ (by have := HMG.out.terms.1; omega), wordI_len _ _ _⟩⟩
    exact (((HA9.out.setCell (by simp) _).setCell (by simp) _).setCell (by simp) _).setCell (by simp) _
theorem pick_c (ok : Nat → Prop) (T N S : Int) (A : Option Addr) (n c : Nat) (rs : List Ri) (wA : Option Addr) (wn wcp : Nat) (xs : List Int) (lA : Option Addr) (ln lc : Nat) (ls : List Int) (most : Nat) (w : World) (hl : Sl RiE ok w A n c rs) (hx : Sl InE ok w wA wn wcp xs) (hls : Ints w lA ln lc ls) (hm : most ≤ 1000000) :
    Calls Tryd.prog 4 #[.agg #[.int .i64 T, .int .i64 N, .int .i64 S, .slice A n c], .slice wA wn wcp, .slice lA ln lc, .int .i64 (most : Int)] w (PickP ok w) :=
  (pick2_c ok T N S A n c rs wA wn wcp xs lA ln lc ls most w hl hx hls hm).mono fun _ _ ⟨T, N, S, A, n, c, rs, wA, wn, wc, xs, h1, h2, h3, h4, _⟩ => ⟨T, N, S, A, n, c, rs, wA, wn, wc, xs, h1, h2, h3, h4⟩
end Go.Proofs.YthiikgjeamoocaaDoor





namespace Go.Proofs.YthiikgjeamoocaaDoor
open Go.RowKit

theorem chkB_okM {T N S : Int} {rs : List Ri} {xs : List Int} (h : chkB T N S rs xs = 0) : chkG T N S rs = 0 ∧ xs.length ≤ 12 ∧ ∀ x ∈ xs, 0 ≤ x ∧ x < T := by
  unfold chkB at h
  by_cases hG : chkG T N S rs = 0
  · rw [if_pos hG] at h
    unfold chkW at h
    split at h
    · cases h
    · rename_i hl
      split at h
      · cases h
      · rename_i ha
        refine ⟨hG, by omega, fun x hx => ?_⟩
        have h1 : (xs.any fun t => !okT T t) = false := by simpa using ha
        rw [List.any_eq_false] at h1
        have h2 := h1 x hx
        simp [okT] at h2
        exact h2
  · rw [if_neg hG] at h
    exact absurd h hG
set_option maxRecDepth 100000 in
set_option maxHeartbeats 8000000 in
theorem meanAccepts_walk (ok : Nat → Prop) (T0 N0 S0 : Int) (A0 : Option Addr) (n0 c0 : Nat) (rs0 : List Ri) (wA0 : Option Addr) (wn0 wc0 : Nat) (xs0 : List Int) (lA : Option Addr) (ln lc : Nat) (ls : List Int) (w : World) (hl : Sl RiE ok w A0 n0 c0 rs0) (hx : Ints w wA0 wn0 wc0 xs0) (hok : ∀ b, ok b → b < w.heap.size) (hls : Ints w lA ln lc ls) (hT : TabW w) :
    Calls Tryd.prog 3 #[.agg #[.int .i64 T0, .int .i64 N0, .int .i64 S0, .slice A0 n0 c0], .slice wA0 wn0 wc0, .slice lA ln lc] w fun e w' => e = .returned (.bool true) ∧ Below w.heap.size w w' := by
  have hal := (Below.refl w.heap.size w).al (.cells #[.int .i64 T0, .int .i64 N0, .int .i64 S0, .slice A0 n0 c0] 24)
  have HPI := Lib.hid (pick_c (fun b => b < w.heap.size) T0 N0 S0 A0 n0 c0 rs0 wA0 wn0 wc0 xs0 lA ln lc ls 8 (w.alloc (.cells #[.int .i64 T0, .int .i64 N0, .int .i64 S0, .slice A0 n0 c0] 24)) ((hl.mono fun b _ h => hok b h).via hal) (hx.slLt.via hal) (hls.via hal) (by omega))
  have BG := Blk.new w 24 #[.int .i64 T0, .int .i64 N0, .int .i64 S0, .slice A0 n0 c0]
  have HAL := Lib.hid hal
  have HT := Lib.hid hT
  have HSZ := Lib.hid (show (w.alloc (.cells #[.int .i64 T0, .int .i64 N0, .int .i64 S0, .slice A0 n0 c0] 24)).heap.size = w.heap.size + 1 by simp)
  clear hl hx hls hal hok hT
  have cBG := BG.cell
  have fBG := BG.frozen
  have lBG := BG.lt
  go_enter Tryd.func3, Tryd.ntmps3
  go_wp2_with fail
  clear cBG fBG lBG
  generalize w.alloc (.cells #[.int .i64 T0, .int .i64 N0, .int .i64 S0, .slice A0 n0 c0] 24) = W0 at *
  refine HPI.out.mono ?_
  rintro e w1 ⟨T, N, S, A, n, c, rs, wA, wn, wcp, xs, rfl, hl1, hx1, hb1⟩
  have BG1 := BG.via hb1
  have hne : ∀ b, (b < w.heap.size ∨ W0.heap.size ≤ b) → b ≠ w.heap.size := fun b h => by have := HSZ.out; omega
  have HL1 := Lib.hid (hl1.mono (ok' := fun b => b ≠ w.heap.size) fun b _ h => hne b h)
  have HX1 := Lib.hid (hx1.mono (ok' := fun b => b ≠ w.heap.size) fun b _ h => hne b h)
  have HA1 := Lib.hid (HAL.out.trans (hb1.mono (by have := HSZ.out; omega)))
  clear HPI BG hl1 hx1 hb1 hne HAL HSZ
  have cBG1 := BG1.cell
  have fBG1 := BG1.frozen
  have lBG1 := BG1.lt
  go_upto_region 2 with fail
  clear cBG1 fBG1 lBG1
  have BG2 : Blk ((((w1.setCell ⟨w.heap.size, 0, none⟩ (.int .i64 T)).setCell ⟨w.heap.size, 1, none⟩ (.int .i64 N)).setCell ⟨w.heap.size, 2, none⟩ (.int .i64 S)).setCell ⟨w.heap.size, 3, none⟩ (.slice A n c)) w.heap.size 24 #[.int .i64 T, .int .i64 N, .int .i64 S, .slice A n c] := by
    have := (((BG1.set_ 0 (.int .i64 T)).set_ 1 (.int .i64 N)).set_ 2 (.int .i64 S)).set_ 3 (.slice A n c); simpa using this
  have hag : Agr (fun b => b ≠ w.heap.size) w1 ((((w1.setCell ⟨w.heap.size, 0, none⟩ (.int .i64 T)).setCell ⟨w.heap.size, 1, none⟩ (.int .i64 N)).setCell ⟨w.heap.size, 2, none⟩ (.int .i64 S)).setCell ⟨w.heap.size, 3, none⟩ (.slice A n c)) := ((((Agr.setCell (p := ⟨w.heap.size, 0, none⟩) _ fun b hb => hb).trans (Agr.setCell (p := ⟨w.heap.size, 1, none⟩) _ fun b hb => hb)).trans (Agr.setCell (p := ⟨w.heap.size, 2, none⟩) _ fun b hb => hb)).trans (Agr.setCell (p := ⟨w.heap.size, 3, none⟩) _ fun b hb => hb))
  have HA2 := Lib.hid ((((HA1.out.setCell (p := ⟨w.heap.size, 0, none⟩) (by simp) (.int .i64 T)).setCell (p := ⟨w.heap.size, 1, none⟩) (by simp) (.int .i64 N)).setCell (p := ⟨w.heap.size, 2, none⟩) (by simp) (.int .i64 S)).setCell (p := ⟨w.heap.size, 3, none⟩) (by simp) (.slice A n c))
  have HL2 := Lib.hid (HL1.out.agr hag)
  have HX2 := Lib.hid (HX1.out.agr hag)
  have HBG2 := Lib.hid BG2
  clear hag BG1 HA1 HL1 HX1
  generalize (((w1.setCell ⟨w.heap.size, 0, none⟩ (.int .i64 T)).setCell ⟨w.heap.size, 1, none⟩ (.int .i64 N)).setCell ⟨w.heap.size, 2, none⟩ (.int .i64 S)).setCell ⟨w.heap.size, 3, none⟩ (.slice A n c) = w2 at *
  by_cases hbad : chkB T N S rs xs = 0
  · obtain ⟨hG0, hxl, hxt⟩ := chkB_okM hbad
    obtain ⟨g, hg, rfl, rfl, rfl, rfl⟩ := chkG_ok hG0
    have HG := Lib.hid hg
    have HBAD := Lib.hid hbad
    have HXT := Lib.hid hxt
    have hwn : wn ≤ 12 := by have := HX2.out.len; omega
    have HXL := Lib.hid (show xs.length = wn from HX2.out.len)
    clear hg hbad hG0 hxl hxt
    have hcy := accepts_c (fun b => b ≠ w.heap.size) g A n c wA wn wcp xs w2 HG.out HL2.out.lowR HX2.out.intsIn hwn HXT.out (HT.out.via HA2.out)
    simp only [grVal] at hcy
    have cBG2 := BG2.cell
    have fBG2 := BG2.frozen
    have lBG2 := BG2.lt
    go_wp2_with fail
    clear cBG2 fBG2 lBG2
    refine hcy.mono ?_
    clear hcy
    rintro e w3 ⟨ba, rfl, hba, hb3⟩
    have hbd : ba = dvD g.rules xs ((false, g.start), 0, wn) := by
      refine Bool.eq_iff_iff.2 (hba.trans ?_)
      rw [dvD_iff]
      have hl := HXL.out
      have hp : part xs 0 wn = xs := by unfold part; rw [← hl]; simp
      constructor
      · intro h; exact ⟨Nat.zero_le _, by show wn ≤ xs.length; omega, by show Dv g.rules [(false, g.start)] (part xs 0 wn); rw [hp]; exact h⟩
      · intro h
        have h2 : Dv g.rules [(false, g.start)] (part xs 0 wn) := h.2.2
        rwa [hp] at h2
    have HBD := Lib.hid hbd
    have HB3 := Lib.hid hb3
    have BG3 := HBG2.out.via hb3
    clear hba hbd hb3 BG2
    go_upto_region 3 with fail
    have hcb := refboth_c (fun b => b ≠ w.heap.size) g.terms g.nons g.start A n c (g.rules.map embR) wA wn wcp xs w3 (HL2.out.via HB3.out) (HX2.out.intsIn.via HB3.out)
    rw [HBAD.out] at hcb
    have HBG3 := Lib.hid BG3
    have cBG3 := BG3.cell
    have fBG3 := BG3.frozen
    have lBG3 := BG3.lt
    go_wp2_with fail
    clear cBG3 fBG3 lBG3
    refine hcb.mono ?_
    clear hcb BG3
    rintro e w4 ⟨rfl, hb4⟩
    have HB4 := Lib.hid (HB3.out.via hb4)
    have BG4 := HBG3.out.via hb4
    clear hb4 HB3 HBG3
    go_upto_region 4 with fail
    have HMN := Lib.hid (means_c w4 (HT.out.via (HA2.out.via HB4.out)))
    go_wp2_with fail
    refine HMN.out.mono ?_
    clear HMN
    rintro e w5 ⟨rfl, hb5⟩
    have HB5 := Lib.hid (HB4.out.via hb5)
    have BG5 := BG4.via hb5
    clear hb5 HB4 BG4
    go_upto_region 6 with fail
    have hsp := allspans_c (fun b => b ≠ w.heap.size) g A n c wA wn wcp xs w5 HG.out (HL2.out.lowR.via HB5.out) (HX2.out.intsIn.via HB5.out) hwn HXT.out
    simp only [grVal] at hsp
    have cBG5 := BG5.cell
    have fBG5 := BG5.frozen
    have lBG5 := BG5.lt
    go_wp2_with fail
    clear cBG5 fBG5 lBG5
    refine hsp.mono ?_
    clear hsp BG5
    rintro e w6 ⟨bs, bm, rfl, hR, -, -, hb6⟩
    have HR := Lib.hid hR
    have HB6 := Lib.hid (HB5.out.via hb6)
    clear hR hb6 HB5
    go_upto_region 7 with fail
    obtain ⟨kl, hkl⟩ := span_key ((false, g.start), 0, wn) (by have := HG.out.ok.start; have := HG.out.ok.nons.2; simp only; omega) (by simp) (by simp only; omega)
    have HKL := Lib.hid hkl
    have hdr := (Below.refl w6.heap.size w6).drew
    have HR7 := Lib.hid (HR.out.via hdr)
    have HB7 := Lib.hid (HB6.out.via hdr)
    clear hdr HR HB6 hkl
    have hlk : ∀ w', SpR w' g A n c wA wn wcp bs bm (dvD g.rules xs) → (Instr.lookup 35 (.map (some bm)) (.agg #[.bool false, .int .i64 (g.start : Int), .int .i64 0, .int .i64 (wn : Int)]) false).run Tryd.prog w' = .ok (.bool ba) w' := fun w' h => by
      rw [HBD.out]; exact spm_look h.map _ HKL.out
    have hHeld := And.intro HR7.out.blk.cell (hlk _ HR7.out)
    refine wp_region_noPanic ?_
    refine wp_region_N 13 (fun w' => (∀ x, w'.cell? ⟨bs, x, none⟩ = #[.int .i64 (g.terms : Int), .int .i64 (g.nons : Int), .int .i64 (g.start : Int), .slice A n c, .slice wA wn wcp, .map (some bm)][x]?) ∧ (Instr.lookup 35 (.map (some bm)) (.agg #[.bool false, .int .i64 (g.start : Int), .int .i64 0, .int .i64 (wn : Int)]) false).run Tryd.prog w' = .ok (.bool ba) w') (by kernel_rfl) ?_
    have HLK := Lib.hid hlk
    clear hlk
    generalize w6.drew = w7 at *
    refine wpAnyN.take (i := 0) (d := some 46) (v := ?_) rfl (by decide) (by kernel_rfl) (by kernel_rfl) (by kernel_rfl) (by kernel_rfl) (by kernel_rfl) rfl (fun _ _ _ h => h) (Or.inl ⟨by rfl, ?_⟩) (by assumption) ?_
    rotate_left
    · intro w hSw; (try dsimp only at hSw); go_simp; try with_reducible rfl
    simp only [Act.put, List.setIfInBounds_toArray, List.set_cons_zero, List.set_cons_succ]
    refine wpAnyN.take (i := 1) (d := some 47) (v := ?_) rfl (by decide) (by kernel_rfl) (by kernel_rfl) (by kernel_rfl) (by kernel_rfl) (by kernel_rfl) rfl (fun _ _ _ h => h) (Or.inl ⟨by rfl, ?_⟩) (by assumption) ?_
    rotate_left
    · intro w hSw; (try dsimp only at hSw); go_simp; try with_reducible rfl
    simp only [Act.put, List.setIfInBounds_toArray, List.set_cons_zero, List.set_cons_succ]
    refine wpAnyN.take (i := 2) (d := some 48) (v := ?_) rfl (by decide) (by kernel_rfl) (by kernel_rfl) (by kernel_rfl) (by kernel_rfl) (by kernel_rfl) rfl (fun _ _ _ h => h) (Or.inl ⟨by rfl, ?_⟩) (by assumption) ?_
    rotate_left
    · intro w hSw; (try dsimp only at hSw); go_simp; try with_reducible rfl
    simp only [Act.put, List.setIfInBounds_toArray, List.set_cons_zero, List.set_cons_succ]
    refine wpAnyN.take (i := 3) (d := some 49) (v := ?_) rfl (by decide) (by kernel_rfl) (by kernel_rfl) (by kernel_rfl) (by kernel_rfl) (by kernel_rfl) rfl (fun _ _ _ h => h) (Or.inl ⟨by rfl, ?_⟩) (by assumption) ?_
    rotate_left
    · intro w hSw; (try dsimp only at hSw); go_simp; try with_reducible rfl
    simp only [Act.put, List.setIfInBounds_toArray, List.set_cons_zero, List.set_cons_succ]
    refine wpAnyN.take (i := 4) (d := some 50) (v := ?_) rfl (by decide) (by kernel_rfl) (by kernel_rfl) (by kernel_rfl) (by kernel_rfl) (by kernel_rfl) rfl (fun _ _ _ h => h) (Or.inl ⟨by rfl, ?_⟩) (by assumption) ?_
    rotate_left
    · intro w hSw; (try dsimp only at hSw); go_simp; try with_reducible rfl
    simp only [Act.put, List.setIfInBounds_toArray, List.set_cons_zero, List.set_cons_succ]
    refine wpAnyN.take (i := 5) (d := some 51) (v := ?_) rfl (by decide) (by kernel_rfl) (by kernel_rfl) (by kernel_rfl) (by kernel_rfl) (by kernel_rfl) rfl (fun _ _ _ h => h) (Or.inl ⟨by rfl, ?_⟩) (by assumption) ?_
    rotate_left
    · intro w hSw; (try dsimp only at hSw); go_simp; try with_reducible rfl
    simp only [Act.put, List.setIfInBounds_toArray, List.set_cons_zero, List.set_cons_succ]
    refine wpAnyN.take (i := 6) (d := some 52) (v := ?_) rfl (by decide) (by kernel_rfl) (by kernel_rfl) (by kernel_rfl) (by kernel_rfl) (by kernel_rfl) rfl (fun _ _ _ h => h) (Or.inl ⟨by rfl, ?_⟩) (by assumption) ?_
    rotate_left
    · intro w hSw; (try dsimp only at hSw); go_simp; try with_reducible rfl
    simp only [Act.put, List.setIfInBounds_toArray, List.set_cons_zero, List.set_cons_succ]
    refine wpAnyN.take (i := 7) (d := some 53) (v := ?_) rfl (by decide) (by kernel_rfl) (by kernel_rfl) (by kernel_rfl) (by kernel_rfl) (by kernel_rfl) rfl (fun _ _ _ h => h) (Or.inl ⟨by rfl, ?_⟩) (by assumption) ?_
    rotate_left
    · intro w hSw; (try dsimp only at hSw); go_simp; try with_reducible rfl
    simp only [Act.put, List.setIfInBounds_toArray, List.set_cons_zero, List.set_cons_succ]
    refine wpAnyN.take (i := 8) (d := some 54) (v := ?_) rfl (by decide) (by kernel_rfl) (by kernel_rfl) (by kernel_rfl) (by kernel_rfl) (by kernel_rfl) rfl (fun _ _ _ h => h) (Or.inl ⟨by rfl, ?_⟩) (by assumption) ?_
    rotate_left
    · intro w hSw; (try dsimp only at hSw); go_simp; try with_reducible rfl
    simp only [Act.put, List.setIfInBounds_toArray, List.set_cons_zero, List.set_cons_succ]
    clear hHeld
    refine wpAnyN.ready (rs := [9]) (by kernel_rfl) (by simp) ?_
    refine AllN.cons rfl (fun K hK => ?_) AllN.nil
    go_simp
    go_at_call 9
    refine (root_c g A n c wA wn wcp bs bm (dvD g.rules xs) w7 HR7.out).mono ?_
    rintro e w8 ⟨rfl, hb8⟩
    simp only [kyVal]
    have HR8 := Lib.hid (HR7.out.via hb8)
    have HB8 := Lib.hid (HB7.out.via hb8)
    clear hb8 HR7 HB7
    go_wp2_with fail
    have hHeld := And.intro HR8.out.blk.cell (HLK.out _ HR8.out)
    refine hK.out _ _ (fun _ => hHeld) ?_
    clear hK K
    try simp only [Act.put, List.setIfInBounds_toArray, List.set_cons_zero, List.set_cons_succ]
    refine wpAnyN.take (i := 10) (d := some 56) (v := ?_) rfl (by decide) (by kernel_rfl) (by kernel_rfl) (by kernel_rfl) (by kernel_rfl) (by kernel_rfl) rfl (fun _ _ _ h => h) (Or.inl ⟨by rfl, ?_⟩) (by assumption) ?_
    rotate_left
    · intro w hSw; (try dsimp only at hSw); go_simp; try with_reducible rfl
    simp only [Act.put, List.setIfInBounds_toArray, List.set_cons_zero, List.set_cons_succ]
    refine wpAnyN.take (i := 11) (d := some 57) (v := ?_) rfl (by decide) (by kernel_rfl) (by kernel_rfl) (by kernel_rfl) (by kernel_rfl) (by kernel_rfl) rfl (fun _ _ _ h => h) (Or.inl ⟨by rfl, ?_⟩) (by assumption) ?_
    rotate_left
    · intro w hSw; (try dsimp only at hSw); go_simp; try with_reducible rfl
    simp only [Act.put, List.setIfInBounds_toArray, List.set_cons_zero, List.set_cons_succ]
    refine wpAnyN.take (i := 12) (d := some 58) (v := ?_) rfl (by decide) (by kernel_rfl) (by kernel_rfl) (by kernel_rfl) (by kernel_rfl) (by kernel_rfl) rfl (fun _ _ _ h => h) (Or.inl ⟨by rfl, ?_⟩) (by assumption) ?_
    rotate_left
    · intro w hSw; (try dsimp only at hSw); go_simp; try with_reducible rfl
    simp only [Act.put, List.setIfInBounds_toArray, List.set_cons_zero, List.set_cons_succ]
    refine wpAnyN.ready (rs := [13]) (by kernel_rfl) (by simp) ?_
    refine AllN.cons rfl (fun K hK => ?_) AllN.nil
    go_simp
    refine hK.out _ _ (fun h => absurd h (by decide)) ?_
    clear hK K hHeld
    refine wpAnyN.done (by kernel_rfl) ?_ _
    refine NoPanic.normal ?_
    go_wp2_with fail
    go_ret
    exact ⟨by simp, HA2.out.via HB8.out⟩
  · obtain ⟨q, hq⟩ : ∃ q, chkB T N S rs xs = q := ⟨_, rfl⟩
    have hq0 : q ≠ 0 := fun e => hbad (hq.trans e)
    have HQ := Lib.hid hq
    have hae := accepts_e (fun b => b ≠ w.heap.size) T N S A n c rs wA wn wcp xs w2 HL2.out HX2.out.intsIn q hq hq0
    have HQ0 := Lib.hid hq0
    clear hbad hq
    have cBG2 := BG2.cell
    have fBG2 := BG2.frozen
    have lBG2 := BG2.lt
    go_wp2_with fail
    clear cBG2 fBG2 lBG2
    refine hae.mono ?_
    clear hae
    rintro e w3 ⟨rfl, hb3⟩
    have HB3 := Lib.hid hb3
    have BG3 := HBG2.out.via hb3
    clear hb3 BG2
    go_upto_region 3 with fail
    have hcb := refboth_c (fun b => b ≠ w.heap.size) T N S A n c rs wA wn wcp xs w3 (HL2.out.via HB3.out) (HX2.out.intsIn.via HB3.out)
    rw [HQ.out] at hcb
    have cBG3 := BG3.cell
    have fBG3 := BG3.frozen
    have lBG3 := BG3.lt
    go_wp2_with fail
    clear cBG3 fBG3 lBG3
    refine hcb.mono ?_
    clear hcb BG3
    rintro e w4 ⟨rfl, hb4⟩
    have HB4 := Lib.hid (HB3.out.via hb4)
    clear hb4 HB3
    have HMN := Lib.hid (means_c w4 (HT.out.via (HA2.out.via HB4.out)))
    have hb0 : (q == 0) = false := by simpa using hq0
    have hb1 : (q == q) = true := by simp
    go_upto_region 5 with fail
    go_wp2_with fail
    refine HMN.out.mono ?_
    clear HMN
    rintro e w5 ⟨rfl, hb5⟩
    have HB5 := Lib.hid (HB4.out.via hb5)
    clear hb5 HB4
    go_wp2_with fail
    go_ret
    exact ⟨by simp, HA2.out.via HB5.out⟩
end Go.Proofs.YthiikgjeamoocaaDoor

