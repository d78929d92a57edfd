/- Texts SM, SN, SO, laid together. -/
import Derived.Test.YtbfcnfgkccgbiaaGreatDoorSB
import Derived.Test.YtbfcnfgkccgbiaaGreatDoorBM
import Derived.Test.YtbfcnfgkccgbiaaGreatDoorBU
import Derived.Test.YtbfcnfgkccgbiaaGreatDoorEK
import Derived.Test.YtbfcnfgkccgbiaaGreatDoorSJ
import Derived.Test.YtbfcnfgkccgbiaaGreatDoorSK
import Derived.Test.YtbfcnfgkccgbiaaGreatDoorIW



namespace Go.Proofs.YtbfcnfgkccgbiaaGreatDoor
open Go.RowKit

def dblG : Gr := ⟨1, 1, 0, [(0, [(false, 0), (false, 0)]), (0, [(true, 0)])]⟩
theorem Sl.ofBlkK {α ρ : Type} {E : Elem α ρ} {ok : Nat → Prop} {w : World} {b n : Nat} {t : TypeId} {cs : Array Value} {l : List α} (h : Blk w b t cs) (raw : List ρ) (hcs : cs.toList = flat E raw) (hl : l.length = n) (hr : raw.length = n) (hok : ok b)
    (hrel : ∀ (i : Nat) (r : ρ) (x : α), raw[i]? = some r → l[i]? = some x → E.rel ok w r x) : Sl E ok w (some ⟨b, 0, none⟩) n n l :=
  ⟨hl, Nat.le_refl _, raw, hr, fun _ => ⟨b, 0, rfl, hok, fun j u hu => by rw [Nat.zero_add, h.cell]; rw [← hcs] at hu; simpa using hu⟩, hrel⟩
theorem Ints.litB {w : World} {b n : Nat} {t : TypeId} {cs : Array Value} {xs : List Int} (h : Blk w b t cs) (hcs : cs.toList = xs.map (Value.int .i64)) (hn : xs.length = n) : Ints w (some ⟨b, 0, none⟩) n n xs := by
  refine ⟨hn, Nat.le_refl _, fun _ => ⟨b, 0, rfl, fun i hi => ?_⟩⟩
  rw [Nat.zero_add, h.cell, ← Array.getElem?_toList, hcs, List.getElem?_map, List.getD_eq_getElem?_getD, List.getElem?_eq_getElem (by omega)]
  rfl
theorem dblG_ok : GrOk dblG := by
  refine ⟨⟨by simp [dblG], by simp [dblG], by simp [dblG], by simp [dblG], ?_, ?_⟩, by simp [dblG]⟩
  · intro r hr; simp [dblG] at hr; rcases hr with rfl | rfl <;> simp [dblG]
  · intro r hr; simp [dblG] at hr
    rcases hr with rfl | rfl
    · refine ⟨by simp, fun s hs => ?_⟩; simp at hs; subst hs; simp [Gr.okSy, dblG]
    · refine ⟨by simp, fun s hs => ?_⟩; simp at hs; subst hs; simp [Gr.okSy, dblG]
def DblP (w : World) (e : Ending) (w' : World) : Prop := ∃ A, e = .returned (grVal dblG A 2 2) ∧ Sl RuE (fun _ => True) w' A 2 2 dblG.rules ∧ Below w.heap.size w w'
set_option maxRecDepth 100000 in
set_option maxHeartbeats 1000000 in
theorem doubling_c (w : World) : Calls Tryz.prog 35 #[] w (DblP w) := by
  go_enter Tryz.func35, Tryz.ntmps35
  go_wp2_with fail
  obtain ⟨w1, hw1⟩ : ∃ w1, w1 = w.alloc (.cells #[.int .i64 1, .int .i64 1, .int .i64 0, .slice (some ⟨w.heap.size + 1 + 1 + 1, 0, none⟩) 2 2] 24) := ⟨_, rfl⟩
  have hz : w1.heap.size = w.heap.size + 1 := by rw [hw1]; simp
  have hb1 : Below w.heap.size w w1 := by rw [hw1]; exact (Below.refl _ _).al _
  rw [← hw1]
  have b2 := ((Blk.new w1 66 #[.bool false, .int .i64 0, .bool false, .int .i64 0]).al (.cells #[.bool true, .int .i64 0] 66)).al (.cells #[.int .i64 0, .slice (some ⟨w.heap.size + 1, 0, none⟩) 2 2, .int .i64 0, .slice (some ⟨w.heap.size + 1 + 1, 0, none⟩) 1 1] 97)
  have b3 := (Blk.new (w1.alloc (.cells #[.bool false, .int .i64 0, .bool false, .int .i64 0] 66)) 66 #[.bool true, .int .i64 0]).al (.cells #[.int .i64 0, .slice (some ⟨w.heap.size + 1, 0, none⟩) 2 2, .int .i64 0, .slice (some ⟨w.heap.size + 1 + 1, 0, none⟩) 1 1] 97)
  have b4 := Blk.new ((w1.alloc (.cells #[.bool false, .int .i64 0, .bool false, .int .i64 0] 66)).alloc (.cells #[.bool true, .int .i64 0] 66)) 97 #[.int .i64 0, .slice (some ⟨w.heap.size + 1, 0, none⟩) 2 2, .int .i64 0, .slice (some ⟨w.heap.size + 1 + 1, 0, none⟩) 1 1]
  simp only [World.size_alloc, hz] at b2 b3 b4
  refine bodyPost_ret (v := .agg #[.int .i64 1, .int .i64 1, .int .i64 0, .slice (some ⟨w.heap.size + 1 + 1 + 1, 0, none⟩) 2 2]) ?_ rfl ⟨some ⟨w.heap.size + 1 + 1 + 1, 0, none⟩, rfl, ?_, ((hb1.al _).al _).al _⟩
  · rw [hw1]; simp [results, Tryz.results35, go_sem]
  · generalize ((w1.alloc (.cells #[.bool false, .int .i64 0, .bool false, .int .i64 0] 66)).alloc (.cells #[.bool true, .int .i64 0] 66)).alloc (.cells #[.int .i64 0, .slice (some ⟨w.heap.size + 1, 0, none⟩) 2 2, .int .i64 0, .slice (some ⟨w.heap.size + 1 + 1, 0, none⟩) 1 1] 97) = w4 at *
    refine Sl.ofBlkK b4 [(0, some ⟨w.heap.size + 1, 0, none⟩, 2, 2), (0, some ⟨w.heap.size + 1 + 1, 0, none⟩, 1, 1)] rfl rfl rfl trivial fun i r x hr hx => ?_
    match i, hr, hx with
    | 0, hr, hx =>
      simp [dblG] at hr hx; subst hr; subst hx
      exact ⟨rfl, Sl.ofBlkK b2 [(false, 0), (false, 0)] rfl rfl rfl trivial fun i r x hr hx => Option.some.inj (hr.symm.trans hx)⟩
    | 1, hr, hx =>
      simp [dblG] at hr hx; subst hr; subst hx
      exact ⟨rfl, Sl.ofBlkK b3 [(true, 0)] rfl rfl rfl trivial fun i r x hr hx => Option.some.inj (hr.symm.trans hx)⟩
    | i + 2, hr, hx => simp at hr
/-! ### the word 0 0 -/
def dblS (k : Ky) : Bool := if k.1.1 then decide (k.1.2 = 0 ∧ k.2.2 = k.2.1 + 1 ∧ k.2.1 < 2) else decide (k.1.2 = 0 ∧ k.2.1 < k.2.2 ∧ k.2.2 ≤ 2)
theorem dv_s0 : Dv dblG.rules [(false, 0)] [0] := by
  have := Dv.non (rules := dblG.rules) 0 (rhs := [(true, 0)]) (l := []) (by simp [dblG]) (Dv.term 0 .nil) .nil
  simpa using this
theorem dv_s1 : Dv dblG.rules [(false, 0)] [0, 0] := by
  have h2 : Dv dblG.rules [(false, 0), (false, 0)] [0, 0] := dv_s0.append dv_s0
  have := Dv.non (rules := dblG.rules) 0 (rhs := [(false, 0), (false, 0)]) (l := []) (by simp [dblG]) h2 .nil
  simpa using this
theorem dbl_spo : SpOk dblG.rules [0, 0] dblS := by
  refine ⟨fun k h => ?_, fun i t h => ?_⟩
  · obtain ⟨⟨b, a⟩, i, j⟩ := k
    cases b with
    | true =>
      simp only [dblS, if_true, decide_eq_true_eq] at h
      obtain ⟨rfl, rfl, hi⟩ := h
      have h2 : i = 0 ∨ i = 1 := by omega
      rcases h2 with rfl | rfl
      · exact ⟨by simp, by simp, (Dv.term 0 .nil : Dv dblG.rules [(true, 0)] [((0 : Nat) : Int)])⟩
      · exact ⟨by simp, by simp, (Dv.term 0 .nil : Dv dblG.rules [(true, 0)] [((0 : Nat) : Int)])⟩
    | false =>
      simp only [dblS, Bool.false_eq_true, if_false, decide_eq_true_eq] at h
      obtain ⟨rfl, hi, hj⟩ := h
      have h2 : (i = 0 ∧ j = 1) ∨ (i = 1 ∧ j = 2) ∨ (i = 0 ∧ j = 2) := by omega
      rcases h2 with ⟨rfl, rfl⟩ | ⟨rfl, rfl⟩ | ⟨rfl, rfl⟩
      · exact ⟨by simp, by simp, dv_s0⟩
      · exact ⟨by simp, by simp, dv_s0⟩
      · exact ⟨by simp, by simp, dv_s1⟩
  · have hi : i < 2 := by
      have := (List.getElem?_eq_some_iff.1 h).1
      simpa using this
    have h2 : i = 0 ∨ i = 1 := by omega
    rcases h2 with rfl | rfl
    · have : t = 0 := by simp at h; omega
      subst this; rfl
    · have : t = 0 := by simp at h; omega
      subst this; rfl
theorem dbl_fix : FixS dblG.rules 2 dblS := by
  have h : ∀ u ∈ dblG.rules, ∀ i ∈ List.range 3, ∀ j ∈ List.range 3, i ≤ j → someF dblS u.2 i j = true → dblS ((false, u.1), i, j) = true := by decide
  exact fun u hu i j hij hj hs => h u hu i (List.mem_range.2 (by omega)) j (List.mem_range.2 (by omega)) hij hs
theorem dvD_dbl : dvD dblG.rules [0, 0] = dblS := by
  funext k
  exact Bool.eq_iff_iff.2 (dvD_iff.trans (dbl_spo.iff dbl_fix k).symm)
def dblL : List Ky := [((true, 0), 0, 1), ((false, 0), 0, 1), ((false, 0), 0, 2), ((true, 0), 1, 2), ((false, 0), 1, 2)]
theorem dbl_nds : IsNds dblS dblG.rules ((false, 0), 0, 2) dblL := by
  have hall : (dblL.all fun k => (packsF dblS dblG.rules k).all fun p => p.2.all fun q => decide (q ∈ dblL)) = true := by decide
  have hcl : ∀ k ∈ dblL, ∀ p ∈ packsF dblS dblG.rules k, ∀ q ∈ p.2, q ∈ dblL := fun k hk p hp q hq => by
    have h1 := List.all_eq_true.1 hall k hk
    have h2 := List.all_eq_true.1 h1 p hp
    exact of_decide_eq_true (List.all_eq_true.1 h2 q hq)
  have r0 : RchK dblS dblG.rules ((false, 0), 0, 2) ((false, 0), 0, 2) := .root
  have r1 : RchK dblS dblG.rules ((false, 0), 0, 2) ((false, 0), 0, 1) := .kid (p := (0, [((false, 0), 0, 1), ((false, 0), 1, 2)])) r0 (by decide) (by decide)
  have r2 : RchK dblS dblG.rules ((false, 0), 0, 2) ((false, 0), 1, 2) := .kid (p := (0, [((false, 0), 0, 1), ((false, 0), 1, 2)])) r0 (by decide) (by decide)
  have r3 : RchK dblS dblG.rules ((false, 0), 0, 2) ((true, 0), 0, 1) := .kid (p := (1, [((true, 0), 0, 1)])) r1 (by decide) (by decide)
  have r4 : RchK dblS dblG.rules ((false, 0), 0, 2) ((true, 0), 1, 2) := .kid (p := (1, [((true, 0), 1, 2)])) r2 (by decide) (by decide)
  refine ⟨by decide, fun k => ⟨fun h => ?_, fun h => ?_⟩⟩
  · simp only [dblL, List.mem_cons, List.not_mem_nil, or_false] at h
    rcases h with rfl | rfl | rfl | rfl | rfl
    · exact r3
    · exact r1
    · exact r0
    · exact r4
    · exact r2
  · induction h with
    | root => decide
    | kid _ hp hq ih => exact hcl _ ih _ hp _ hq
/-- what the forest of 0 0 is -/
theorem dbl_fo {f : FoI} {b : Bool} (h : IsFo (dvD dblG.rules [0, 0]) dblG.rules ((false, 0), 0, 2) 20000 f b) : f = foI dblS dblG.rules dblL ((false, 0), 0, 2) ∧ b = true := by
  rw [dvD_dbl] at h
  exact h.uniq (.fits (by decide) dbl_nds (by decide))
theorem dbl_len : (foI dblS dblG.rules dblL ((false, 0), 0, 2)).2.length = 5 := rfl
theorem dbl_root : (foI dblS dblG.rules dblL ((false, 0), 0, 2)).1 = 2 := by decide
end Go.Proofs.YtbfcnfgkccgbiaaGreatDoor





namespace Go.Proofs.YtbfcnfgkccgbiaaGreatDoor
open Go.RowKit

theorem dbl_parts : partsL (dvD dblG.rules [0, 0]) 1 0 2 = [0] := by rw [dvD_dbl]; decide
end Go.Proofs.YtbfcnfgkccgbiaaGreatDoor






namespace Go.Proofs.YtbfcnfgkccgbiaaGreatDoor
open Go.RowKit

theorem chkB_ok {T N S : Int} {rs : List Ri} {xs : List Int} (h : chkB T N S rs xs = 0) : chkG T N S rs = 0 ∧ xs.length ≤ 12 ∧ ∀ x ∈ xs, 0 ≤ x ∧ x < T := by
  unfold chkB at h
  by_cases hG : chkG T N S rs = 0
  · rw [if_pos hG] at h
    unfold chkW at h
    split at h
    · cases h
    · rename_i hl
      split at h
      · cases h
      · rename_i ha
        refine ⟨hG, by omega, fun x hx => ?_⟩
        have h1 : (xs.any fun t => !okT T t) = false := by simpa using ha
        rw [List.any_eq_false] at h1
        have h2 := h1 x hx
        simp [okT] at h2
        exact h2
  · rw [if_neg hG] at h
    exact absurd h hG
theorem dv_le {R : List Ru} {xs : List Int} {k : Ky} (h : dvD R xs k = true) : k.2.1 ≤ k.2.2 ∧ k.2.2 ≤ xs.length := ⟨(dvD_iff.1 h).1, (dvD_iff.1 h).2.1⟩
theorem fo_bound {g : Gr} {D : Ky → Bool} {n most : Nat} {f : FoI} {b : Bool} (hg : g.Ok) (hn : n ≤ 12) (hD : ∀ k, D k = true → k.2.1 ≤ k.2.2 ∧ k.2.2 ≤ n) (h : IsFo D g.rules ((false, g.start), 0, n) most f b) : FoB f.2 := by
  cases h with
  | none => exact ⟨by simp, by simp⟩
  | large => exact ⟨by simp, by simp⟩
  | @fits L h1 h2 h3 =>
    have hk : ∀ k ∈ L, KyOk g n k := fun k hk => RchK.ok hg hD ⟨by simpa [Gr.okSy] using hg.start, Nat.zero_le _, Nat.le_refl _⟩ ((h2.mem k).1 hk)
    have hl := nodup_len h2.nodup hk hg hn
    refine ⟨by simp [foI]; omega, fun x hx => ?_⟩
    obtain ⟨k, hkL, rfl⟩ := List.mem_map.1 hx
    have hp := packs_len (D := D) (k := k) (fun u hu => (hg.right u hu).1) hg.count (Nat.le_trans (hk k hkL).2.2 hn)
    rw [ndI_eq]
    refine ⟨by simp only [List.length_map]; omega, fun p hp => ?_⟩
    obtain ⟨q, hq, rfl⟩ := List.mem_map.1 hp
    obtain ⟨-, u, hu, -, hw⟩ := packs_mem hq
    have e1 := hw.len
    have e2 := (hg.right u (List.mem_of_getElem? hu)).1
    simp [rowI, intsN]; omega
/-- what Parts gives at any numbers -/
def prtL (D : Ky → Bool) (N n : Nat) (i j : Int) : List Nat := if 0 ≤ i ∧ i ≤ j ∧ j ≤ (n : Int) then partsL D N i.toNat j.toNat else []
def prtQ (n : Nat) (i j : Int) : Int := if 0 ≤ i ∧ i ≤ j ∧ j ≤ (n : Int) then 0 else 1
end Go.Proofs.YtbfcnfgkccgbiaaGreatDoor

