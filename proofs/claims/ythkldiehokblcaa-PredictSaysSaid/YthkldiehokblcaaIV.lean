/- Texts IV, laid together. -/
import Derived.Test.YthkldiehokblcaaIU
import Derived.Test.YthkldiehokblcaaIF
import Derived.Test.YthkldiehokblcaaEK




namespace Go.Proofs.Ythkldiehokblcaa
open Go.RowKit

def chnG : Gr := ⟨2, 1, 0, [(0, [(true, 0), (false, 0)]), (0, [(true, 1)])]⟩
theorem Sl.ofBlkK {α ρ : Type} {E : Elem α ρ} {ok : Nat → Prop} {w : World} {b n : Nat} {t : TypeId} {cs : Array Value} {l : List α} (h : Blk w b t cs) (raw : List ρ) (hcs : cs.toList = flat E raw) (hl : l.length = n) (hr : raw.length = n) (hok : ok b)
    (hrel : ∀ (i : Nat) (r : ρ) (x : α), raw[i]? = some r → l[i]? = some x → E.rel ok w r x) : Sl E ok w (some ⟨b, 0, none⟩) n n l :=
  ⟨hl, Nat.le_refl _, raw, hr, fun _ => ⟨b, 0, rfl, hok, fun j u hu => by rw [Nat.zero_add, h.cell]; rw [← hcs] at hu; simpa using hu⟩, hrel⟩
def ChainP (w : World) (e : Ending) (w' : World) : Prop := ∃ A, e = .returned (grVal chnG A 2 2) ∧ Sl RuE (fun _ => True) w' A 2 2 chnG.rules ∧ Below w.heap.size w w'
theorem chnG_ok : GrOk chnG := by
  refine ⟨⟨by simp [chnG], by simp [chnG], by simp [chnG], by simp [chnG], ?_, ?_⟩, by simp [chnG]⟩
  · intro r hr; simp [chnG] at hr; rcases hr with rfl | rfl <;> simp [chnG]
  · intro r hr; simp [chnG] at hr
    rcases hr with rfl | rfl
    · refine ⟨by simp, fun s hs => ?_⟩; simp at hs; rcases hs with rfl | rfl <;> simp [Gr.okSy, chnG]
    · refine ⟨by simp, fun s hs => ?_⟩; simp at hs; subst hs; simp [Gr.okSy, chnG]
theorem chn_0 : posL chnG 0 0 = [0] := by rw [← refK_ok chnG_ok.ok]; decide
theorem chn_1 : posL chnG 0 1 = [1] := by rw [← refK_ok chnG_ok.ok]; decide
theorem chn_2 : posL chnG 0 2 = [] := by rw [← refK_ok chnG_ok.ok]; decide
theorem chn_tab : tabT chnG 1 = [[0, 1, -1]] := by
  simp [tabT, rowP, chnG, List.range_succ]
  have h0 := chn_0; have h1 := chn_1; have h2 := chn_2
  simp only [chnG] at h0 h1 h2
  rw [h0, h1, h2]
  simp [headI]
theorem chn_cl : clN chnG 1 = [] := by
  simp [clN, clK, List.range_succ, chn_0, chn_1, chn_2, show chnG.terms = 2 from rfl]
theorem prs_t (g : Gr) (W : List Nat) (d a k : Nat) : prs g W (d + 1) (true, a) k = if laP g W k = a then some (some (.leaf a), k + 1) else some (none, k) := by simp [prs]
theorem prs_f {g : Gr} {W : List Nat} {d a k i : Nat} {is : List Nat} {u : Ru} (hp : posL g a (laP g W k) = i :: is) (hu : g.rules[i]? = some u) : prs g W (d + 1) (false, a) k = match prsL (prs g W d) u.2 k with
    | none => none
    | some (none, k') => some (none, k')
    | some (some ts, k') => some (some (.node i ts), k') := by
  simp [prs, hp, hu]
  rfl
theorem chn_prs {d : Nat} {r : Option Tr} {k : Nat} (h : prs chnG [0, 1] d (false, 0) 0 = some (r, k)) : r = some (.node 0 [.leaf 0, .node 1 [.leaf 1]]) ∧ k = 2 := by
  have a1 : prs chnG [0, 1] 1 (true, 1) 1 = some (some (.leaf 1), 2) := (prs_t chnG [0, 1] 0 1 1).trans rfl
  have a2 : prs chnG [0, 1] 2 (false, 0) 1 = some (some (.node 1 [.leaf 1]), 2) := by
    refine (prs_f (d := 1) (i := 1) (is := []) (u := (0, [(true, 1)])) chn_1 rfl).trans ?_
    simp [prsL, a1]
  have a3 : prs chnG [0, 1] 2 (true, 0) 0 = some (some (.leaf 0), 1) := (prs_t chnG [0, 1] 1 0 0).trans rfl
  have h3 : prs chnG [0, 1] 3 (false, 0) 0 = some (some (.node 0 [.leaf 0, .node 1 [.leaf 1]]), 2) := by
    refine (prs_f (d := 2) (i := 0) (is := []) (u := (0, [(true, 0), (false, 0)])) chn_0 rfl).trans ?_
    simp [prsL, a2, a3]
  have e1 := prs_mono (Nat.le_max_left d 3) h
  have e2 := prs_mono (Nat.le_max_right d 3) h3
  rw [e1] at e2
  simpa using e2
set_option maxRecDepth 100000 in
set_option maxHeartbeats 1000000 in
theorem chain_c (w : World) : Calls Try.prog 25 #[] w (ChainP w) := by
  go_enter Try.func25, Try.ntmps25
  go_wp2_with fail
  obtain ⟨w1, hw1⟩ : ∃ w1, w1 = w.alloc (.cells #[.int .i64 2, .int .i64 1, .int .i64 0, .slice (some ⟨w.heap.size + 1 + 1 + 1, 0, none⟩) 2 2] 24) := ⟨_, rfl⟩
  have hz : w1.heap.size = w.heap.size + 1 := by rw [hw1]; simp
  have hb1 : Below w.heap.size w w1 := by rw [hw1]; exact (Below.refl _ _).al _
  rw [← hw1]
  have b2 := ((Blk.new w1 68 #[.bool true, .int .i64 0, .bool false, .int .i64 0]).al (.cells #[.bool true, .int .i64 1] 68)).al (.cells #[.int .i64 0, .slice (some ⟨w.heap.size + 1, 0, none⟩) 2 2, .int .i64 0, .slice (some ⟨w.heap.size + 1 + 1, 0, none⟩) 1 1] 58)
  have b3 := (Blk.new (w1.alloc (.cells #[.bool true, .int .i64 0, .bool false, .int .i64 0] 68)) 68 #[.bool true, .int .i64 1]).al (.cells #[.int .i64 0, .slice (some ⟨w.heap.size + 1, 0, none⟩) 2 2, .int .i64 0, .slice (some ⟨w.heap.size + 1 + 1, 0, none⟩) 1 1] 58)
  have b4 := Blk.new ((w1.alloc (.cells #[.bool true, .int .i64 0, .bool false, .int .i64 0] 68)).alloc (.cells #[.bool true, .int .i64 1] 68)) 58 #[.int .i64 0, .slice (some ⟨w.heap.size + 1, 0, none⟩) 2 2, .int .i64 0, .slice (some ⟨w.heap.size + 1 + 1, 0, none⟩) 1 1]
  simp only [World.size_alloc, hz] at b2 b3 b4
  refine bodyPost_ret (v := .agg #[.int .i64 2, .int .i64 1, .int .i64 0, .slice (some ⟨w.heap.size + 1 + 1 + 1, 0, none⟩) 2 2]) ?_ rfl ⟨some ⟨w.heap.size + 1 + 1 + 1, 0, none⟩, rfl, ?_, ((hb1.al _).al _).al _⟩
  · rw [hw1]; simp [results, Try.results25, go_sem]
  · generalize ((w1.alloc (.cells #[.bool true, .int .i64 0, .bool false, .int .i64 0] 68)).alloc (.cells #[.bool true, .int .i64 1] 68)).alloc (.cells #[.int .i64 0, .slice (some ⟨w.heap.size + 1, 0, none⟩) 2 2, .int .i64 0, .slice (some ⟨w.heap.size + 1 + 1, 0, none⟩) 1 1] 58) = w4 at *
    refine Sl.ofBlkK b4 [(0, some ⟨w.heap.size + 1, 0, none⟩, 2, 2), (0, some ⟨w.heap.size + 1 + 1, 0, none⟩, 1, 1)] rfl rfl rfl trivial fun i r x hr hx => ?_
    match i, hr, hx with
    | 0, hr, hx =>
      simp [chnG] at hr hx; subst hr; subst hx
      exact ⟨rfl, Sl.ofBlkK b2 [(true, 0), (false, 0)] rfl rfl rfl trivial fun i r x hr hx => Option.some.inj (hr.symm.trans hx)⟩
    | 1, hr, hx =>
      simp [chnG] at hr hx; subst hr; subst hx
      exact ⟨rfl, Sl.ofBlkK b3 [(true, 1)] rfl rfl rfl trivial fun i r x hr hx => Option.some.inj (hr.symm.trans hx)⟩
    | i + 2, hr, hx => simp at hr
theorem Ints.litB {w : World} {b n : Nat} {t : TypeId} {cs : Array Value} {xs : List Int} (h : Blk w b t cs) (hcs : cs.toList = xs.map (Value.int .i64)) (hn : xs.length = n) : Ints w (some ⟨b, 0, none⟩) n n xs := by
  refine ⟨hn, Nat.le_refl _, fun _ => ⟨b, 0, rfl, fun i hi => ?_⟩⟩
  rw [Nat.zero_add, h.cell, ← Array.getElem?_toList, hcs, List.getElem?_map, List.getD_eq_getElem?_getD, List.getElem?_eq_getElem (by omega)]
  rfl
theorem ints_inj {a b : List Nat} (h : ints a = ints b) : a = b := by
  unfold ints at h
  exact (List.map_inj_right (fun x y e => by have e' : (x : Int) = (y : Int) := e; omega)).1 h
set_option maxRecDepth 100000 in
set_option maxHeartbeats 4000000 in
theorem predicts_c (w : World) : Calls Try.prog 8 #[] w fun e w' => e = .returned (.bool true) ∧ Below w.heap.size w w' := by
  go_enter Try.func8, Try.ntmps8
  go_wp2_with fail
  refine (chain_c w).mono ?_
  rintro e w1 ⟨A1, rfl, hr1, hb1⟩
  have HB1 := Lib.hid hb1
  have HPF := pof_c _ chnG A1 2 2 w1 chnG_ok hr1
  clear hr1 hb1
  simp only [grVal, chnG] at HPF ⊢
  go_wp2_with fail
  refine HPF.mono ?_
  clear HPF
  rintro e w2 ⟨I, base, v1, v2, C, rfl, hbase, hI, ho1, ho2, hcl, -, hb⟩
  have htab : tabT chnG 1 = [[0, 1, -1]] := chn_tab
  have hcln : clN chnG 1 = [] := chn_cl
  simp only [chnG] at htab hcln
  rw [htab] at ho1
  rw [hcln] at hcl
  simp only [List.length_nil] at hcl
  simp only [hcl] at ho2
  obtain ⟨tA, tc, rfl, -⟩ := ho1.form
  obtain ⟨vA, vc, rfl, -⟩ := ho2.form
  simp only [List.length_cons, List.length_nil, Nat.zero_add] at ho1 ⊢
  have hb3 := (Below.refl w2.heap.size w2).al (.cells #[.slice tA 1 tc, .slice vA 0 vc] 31)
  have HO1 := Lib.hid ((ho1.toSl (ok' := fun _ => True) (fun _ _ _ => trivial) (fun _ _ => trivial)).via hb3)
  have HBT := Lib.hid (Blk.new w2 31 #[.slice tA 1 tc, .slice vA 0 vc])
  have HB3 := Lib.hid ((HB1.out.via hb).via hb3)
  clear ho1 ho2 hcl hb hb3 htab hcln hbase hI HB1
  go_upto_region 2 with fail
  generalize w2.alloc (.cells #[.slice tA 1 tc, .slice vA 0 vc] 31) = W3 at *
  generalize w2.heap.size = bt at *
  go_wp2_with fail
  refine (chain_c W3).mono ?_
  rintro e w4 ⟨A4, rfl, hr4, hb4⟩
  have hb5 := (Below.refl w4.heap.size w4).al (.cells #[.int .i64 0, .int .i64 1] 3)
  have hw5 : Ints (w4.alloc (.cells #[.int .i64 0, .int .i64 1] 3)) (some ⟨w4.heap.size, 0, none⟩) 2 2 [0, 1] := Ints.litB (Blk.new w4 3 #[.int .i64 0, .int .i64 1]) rfl rfl
  have HPP : Calls Try.prog 6 #[.agg #[.int .i64 2, .int .i64 1, .int .i64 0, .slice A4 2 2], .slice (some ⟨w4.heap.size, 0, none⟩) 2 2] (w4.alloc (.cells #[.int .i64 0, .int .i64 1] 3)) (PparP (w4.alloc (.cells #[.int .i64 0, .int .i64 1] 3)) chnG [0, 1]) := ppar_c (fun _ => True) chnG A4 2 2 (some ⟨w4.heap.size, 0, none⟩) 2 2 [0, 1] (w4.alloc (.cells #[.int .i64 0, .int .i64 1] 3)) chnG_ok (hr4.via hb5) hw5
  have HB5 := Lib.hid ((HB3.out.via hb4).via hb5)
  have HO5 := Lib.hid ((HO1.out.via hb4).via hb5)
  have HT5 := Lib.hid ((HBT.out.via hb4).via hb5)
  clear HB3 HO1 HBT hr4 hb4 hb5 hw5
  simp only [grVal, chnG]
  go_wp2_with fail
  generalize w4.alloc (.cells #[.int .i64 0, .int .i64 1] 3) = W5 at *
  generalize w4.heap.size = b5 at *
  refine HPP.mono ?_
  clear HPP
  rintro e w6 ⟨v, k, q, rfl, hb6, -, -, h3⟩
  obtain ⟨W, d, r, k', hW, -, -, hp, hk', hR⟩ := h3 (by unfold chkW; simp [okT, chnG]) chn_cl
  obtain rfl : W = [0, 1] := (ints_inj (show ints [0, 1] = ints W from hW)).symm
  obtain ⟨rfl, rfl⟩ := chn_prs hp
  simp only [ParR, List.length_cons, List.length_nil, Nat.lt_irrefl, if_false] at hR
  obtain ⟨rfl, rfl, hT⟩ := hR
  obtain ⟨va, vb, vA2, vn2, vc2⟩ := v
  obtain ⟨e1, -, -⟩ := hT.parts
  simp only [Tr.rl] at e1
  subst e1
  have hb7 := (Below.refl w6.heap.size w6).al (.cells #[.int .i64 0, .int .i64 vb, .slice vA2 vn2 vc2] 37)
  have HB7 := Lib.hid ((HB5.out.via hb6).via hb7)
  have HO7 := Lib.hid ((HO5.out.via hb6).via hb7)
  have BT7 := (HT5.out.via hb6).via hb7
  have BN7 := Blk.new w6 37 #[.int .i64 0, .int .i64 vb, .slice vA2 vn2 vc2]
  clear HB5 HO5 HT5 hb6 hb7 hT hp hk' hW h3
  dsimp only [trVal]
  go_upto_region 3 with fail
  generalize w6.alloc (.cells #[.int .i64 0, .int .i64 vb, .slice vA2 vn2 vc2] 37) = W7 at *
  generalize w6.heap.size = b7 at *
  obtain ⟨bR, oR, ⟨sA, sn, sc⟩, x, rfl, -, -, hx, hrel, hc⟩ := HO7.out.at_ (i := 0) (by omega)
  have hc0 := hc 0 _ rfl
  simp only [RwE, Nat.zero_mul, Nat.add_zero] at hc0
  obtain rfl : [0, 1, -1] = x := by simpa using hx
  have hI : Ints W7 sA sn sc [0, 1, -1] := Sl.intsIn hrel
  have hb8 := (Below.refl W7.heap.size W7).al (.cells #[.int .i64 0, .int .i64 1, .int .i64 (-1)] 3)
  have HI8 := Lib.hid (hI.via hb8)
  have HB8 := Lib.hid (HB7.out.via hb8)
  have HN8 := Lib.hid (BN7.via hb8)
  have hL8 : Ints (W7.alloc (.cells #[.int .i64 0, .int .i64 1, .int .i64 (-1)] 3)) (some ⟨W7.heap.size, 0, none⟩) 3 3 [0, 1, -1] := Ints.litB (Blk.new W7 3 #[.int .i64 0, .int .i64 1, .int .i64 (-1)]) rfl rfl
  have HL8 := Lib.hid hL8
  have hsn3 : sn = 3 := by have := hI.1; simpa using this.symm
  subst hsn3
  clear hx hrel hc hI hb8 hL8 HO7 HB7
  have cBT7 := BT7.cell
  have fBT7 := BT7.frozen
  have lBT7 := BT7.lt
  have cBN7 := BN7.cell
  have fBN7 := BN7.frozen
  have lBN7 := BN7.lt
  go_wp2_with fail
  clear cBT7 fBT7 lBT7 cBN7 fBN7 lBN7
  generalize W7.alloc (.cells #[.int .i64 0, .int .i64 1, .int .i64 (-1)] 3) = W8 at *
  refine (equal_c sA (some ⟨W7.heap.size, 0, none⟩) 3 sc 3 3 [0, 1, -1] [0, 1, -1] W8 HI8.out HL8.out (by omega)).mono ?_
  rintro e w9 hbp
  obtain ⟨rfl, hb9⟩ := hbp.below
  have BN9 := HN8.out.via hb9
  have HB9 := Lib.hid (HB8.out.via hb9)
  clear hbp hb9
  simp only [decide_true]
  have cBN9 := BN9.cell
  have fBN9 := BN9.frozen
  have lBN9 := BN9.lt
  go_wp2_with fail
  go_ret
  exact ⟨rfl, HB9.out⟩
end Go.Proofs.Ythkldiehokblcaa

