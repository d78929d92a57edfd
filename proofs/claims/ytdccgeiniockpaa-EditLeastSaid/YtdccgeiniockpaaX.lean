/- put, Put. -/
import Derived.Test.YtdccgeiniockpaaW
namespace Go.Proofs.Ytdccgeiniockpaa
open Go.RowKit

def Tr.mapKids (f : Nat → Tr → Tr) : Tr → Tr
  | .leaf k => .leaf k
  | .node r ks => .node r (ks.mapIdx f)
theorem Tr.mapKids_rl (f : Nat → Tr → Tr) (t : Tr) : (t.mapKids f).rl = t.rl := by cases t <;> rfl
theorem Tr.mapKids_tm (f : Nat → Tr → Tr) (t : Tr) : (t.mapKids f).tm = t.tm := by cases t <;> rfl
theorem Tr.mapKids_kids (f : Nat → Tr → Tr) (t : Tr) : (t.mapKids f).kids = t.kids.mapIdx f := by cases t <;> simp [Tr.mapKids, Tr.kids]
/-- the tree with another subtree at a path -/
def Tr.put (s : Tr) : List Nat → Tr → Tr
  | [], _ => s
  | i :: p, t => t.mapKids fun j k => if j = i then Tr.put s p k else k

theorem Tr.mapIdx_take {l : List Tr} {f : Nat → Tr → Tr} {k : Nat} {y : Tr} (h : l[k]? = some y) : (l.mapIdx f).take (k + 1) = (l.mapIdx f).take k ++ [f k y] := by
  have h2 : (l.mapIdx f)[k]? = some (f k y) := by rw [List.getElem?_mapIdx, h]; rfl
  have hl := List.getElem?_eq_some_iff.1 h2
  rw [List.take_succ_eq_append_getElem hl.1, hl.2]

structure PutRel (w : World) (t : Tr) (l : List Tr) (sv : TrV) (k : Nat) (v : Value) (wr : World) : Prop where
  bs : Blk wr (w.heap.size + 1) 36 #[.int .i64 sv.1, .int .i64 sv.2.1, .slice sv.2.2.1 sv.2.2.2.1 sv.2.2.2.2]
  b1 : Blk wr (w.heap.size + 1 + 1) 36 #[.int .i64 0, .int .i64 0, .slice none 0 0]
  b2 : Blk wr (w.heap.size + 1 + 1 + 1) 36 #[.int .i64 t.rl, .int .i64 t.tm, v]
  own : Own TrE 36 (fun b => w.heap.size + 4 ≤ b) wr (w.heap.size + 4) v k (l.take k)
  bel : Below w.heap.size w wr
  size : w.heap.size + 4 ≤ wr.heap.size
theorem PutRel.via {w wr wa : World} {t : Tr} {l : List Tr} {sv : TrV} {k : Nat} {v : Value} (h : PutRel w t l sv k v wr) (hb : Below wr.heap.size wr wa) : PutRel w t l sv k v wa :=
  ⟨h.bs.via hb, h.b1.via hb, h.b2.via hb, h.own.via hb, h.bel.via hb, Nat.le_trans h.size hb.size⟩
theorem PutRel.push {w wr w1 : World} {t y : Tr} {l : List Tr} {sv : TrV} {k : Nat} {v v' : Value} (h : PutRel w t l sv k v wr) (hy : l.take (k + 1) = l.take k ++ [y]) (ho : Own TrE 36 (fun b => w.heap.size + 4 ≤ b) w1 (w.heap.size + 4) v' (k + 1) (l.take k ++ [y])) (hg : wr.grownBy w1 v.ownBlock) :
    PutRel w t l sv (k + 1) v' (w1.setCell ⟨w.heap.size + 1 + 1 + 1, 2, none⟩ v') := by
  have hne : ∀ j, j < w.heap.size + 4 → some j ≠ v.ownBlock := fun j hj e => by have := (h.own.lt j e.symm).1; omega
  have hsz := h.size
  refine ⟨?_, ?_, ?_, ?_, ?_, ?_⟩
  · exact (h.bs.grown hg (hne _ (by omega))).far (by simp) _
  · exact (h.b1.grown hg (hne _ (by omega))).far (by simp) _
  · have := (h.b2.grown hg (hne _ (by omega))).set_ 2 v'; simpa using this
  · rw [hy]
    exact ho.setCell _ (fun b hb => by show b ≠ w.heap.size + 1 + 1 + 1; omega) (by show w.heap.size + 1 + 1 + 1 < _; omega)
  · exact (h.bel.grown hg (by omega) fun j hj => by have := (h.own.lt j hj).1; omega).setCell (by simp; omega) _
  · have := hg.size; simp; omega

set_option maxRecDepth 100000 in
set_option maxHeartbeats 8000000 in
theorem put_n (s : Tr) (hs : s.size ≤ 1000000) (q : List Nat) : ∀ (ok : Nat → Prop) (v sv : TrV) (t : Tr) (w : World) (A : Option Addr) (n c : Nat), TreeR ok w v t → TreeR ok w sv s → t.size ≤ 1000000 → Ints w A n c (q.map fun i : Nat => (i : Int)) →
    Calls Try.prog 50 #[trVal v, .slice A n c, trVal sv] w (CopyP w (Tr.put s q t)) := by
  induction q with
  | nil =>
    intro ok v sv t w A n c h1 h2 hM hI
    have hn : n = 0 := by have := hI.len; simpa using this.symm
    subst hn
    obtain ⟨a, b, B, m, d⟩ := v
    obtain ⟨sa, sb, sB, sm, sd⟩ := sv
    have HT := Lib.hid (((h2.al (.cells #[.int .i64 a, .int .i64 b, .slice B m d] 36)).al (.cells #[.int .i64 sa, .int .i64 sb, .slice sB sm sd] 36)).al (.cells #[.int .i64 0, .int .i64 0, .slice none 0 0] 36))
    have B1 := Blk.new ((w.alloc (.cells #[.int .i64 a, .int .i64 b, .slice B m d] 36)).alloc (.cells #[.int .i64 sa, .int .i64 sb, .slice sB sm sd] 36)) 36 #[.int .i64 0, .int .i64 0, .slice none 0 0]
    simp only [World.size_alloc] at B1
    have hB := (((Below.refl w.heap.size w).al (.cells #[.int .i64 a, .int .i64 b, .slice B m d] 36)).al (.cells #[.int .i64 sa, .int .i64 sb, .slice sB sm sd] 36)).al (.cells #[.int .i64 0, .int .i64 0, .slice none 0 0] 36)
    have hsz : (((w.alloc (.cells #[.int .i64 a, .int .i64 b, .slice B m d] 36)).alloc (.cells #[.int .i64 sa, .int .i64 sb, .slice sB sm sd] 36)).alloc (.cells #[.int .i64 0, .int .i64 0, .slice none 0 0] 36)).heap.size = w.heap.size + 3 := by simp
    clear h1 h2 hI
    simp only [trVal]
    go_enter Try.func50, Try.ntmps50
    go_wp2_with fail
    generalize (((w.alloc (.cells #[.int .i64 a, .int .i64 b, .slice B m d] 36)).alloc (.cells #[.int .i64 sa, .int .i64 sb, .slice sB sm sd] 36)).alloc (.cells #[.int .i64 0, .int .i64 0, .slice none 0 0] 36)) = W at *
    refine (clonet_c ok (sa, sb, sB, sm, sd) s W HT.out hs).mono ?_
    rintro e w' ⟨v2, rfl, hT2, hb2⟩
    replace B1 := B1.via hb2
    replace hB := hB.via hb2
    dsimp only [trVal]
    have H2 := Lib.hid hT2
    clear hT2 hb2
    obtain ⟨a2, b2, A2, n2, c2⟩ := v2
    have cB1 := B1.cell
    have fB1 := B1.frozen
    have lB1 := B1.lt
    go_wp2_with fail
    refine bodyPost_ret (v := trVal (a2, b2, A2, n2, c2)) (by simp [results, Try.results50, go_sem, trVal, cB1]) rfl ⟨_, rfl, ?_, ?_⟩
    · exact (H2.out.set3 (fun b hb => by omega) _ _ _).mono fun b _ hb => by omega
    · exact below_set3 hB (by omega) _ _ _
  | cons i q ih =>
    intro ok v sv t w A n c h1 h2 hM hI
    have hn : q.length + 1 = n := by have := hI.len; simpa using this
    obtain ⟨a, b, B, m, d⟩ := v
    obtain ⟨sa, sb, sB, sm, sd⟩ := sv
    obtain ⟨e1, e2, h3⟩ := h1.parts
    simp only at e1 e2 h3
    subst e1 e2
    obtain ⟨bq, oq, rfl, hbq, hxq⟩ := hI.at_ (show 0 < n by omega)
    have hn0 : ((n : Int) == 0) = false := by simp; omega
    have hxq' : w.cell? ⟨bq, oq, none⟩ = some (.int .i64 (i : Int)) := hxq
    have hlen := t.kids_len
    rw [h3.len] at hlen
    have HS := Lib.hid h2
    have HK := Lib.hid h3
    have HI := Lib.hid hI
    clear h1 h2 h3 hI hxq
    simp only [trVal]
    have q0 : (0 : Int) < (n : Int) := by omega
    go_enter Try.func50, Try.ntmps50
    go_wp2_with fail
    go_loopw [23] (fun i' wr => ∃ (k : Nat) (v : Value), i' = .int .i64 k ∧ k ≤ m ∧ PutRel w t (t.kids.mapIdx fun j k => if j = i then Tr.put s q k else k) (sa, sb, sB, sm, sd) k v wr) (fun i' _ => m - (intOf i').toNat)
    case atStart =>
      refine ⟨0, _, rfl, Nat.zero_le _, ?_, ?_, ?_, Own.nil _ _, ?_, ?_⟩
      · have := ((Blk.new (w.alloc (.cells #[.int .i64 t.rl, .int .i64 t.tm, .slice B m d] 36)) 36 #[.int .i64 sa, .int .i64 sb, .slice sB sm sd]).al (.cells #[.int .i64 0, .int .i64 0, .slice none 0 0] 36)).al (.cells #[.int .i64 t.rl, .int .i64 t.tm, .slice none 0 0] 36)
        simpa using this
      · have := (Blk.new ((w.alloc (.cells #[.int .i64 t.rl, .int .i64 t.tm, .slice B m d] 36)).alloc (.cells #[.int .i64 sa, .int .i64 sb, .slice sB sm sd] 36)) 36 #[.int .i64 0, .int .i64 0, .slice none 0 0]).al (.cells #[.int .i64 t.rl, .int .i64 t.tm, .slice none 0 0] 36)
        simpa using this
      · have := Blk.new (((w.alloc (.cells #[.int .i64 t.rl, .int .i64 t.tm, .slice B m d] 36)).alloc (.cells #[.int .i64 sa, .int .i64 sb, .slice sB sm sd] 36)).alloc (.cells #[.int .i64 0, .int .i64 0, .slice none 0 0] 36)) 36 #[.int .i64 t.rl, .int .i64 t.tm, .slice none 0 0]
        simpa using this
      · exact ((((Below.refl _ _).al _).al _).al _).al _
      · simp
    case round =>
      obtain ⟨k, v, rfl, hk, hr⟩ := hrel
      obtain ⟨Av, cv, rfl, -⟩ := hr.own.form
      by_cases hlt : k < m
      · obtain ⟨bk, ok2, x, y, rfl, hob, hb, hy, hxy, hc⟩ := HK.out.at_ hlt
        have hxy' : TreeR ok w x y := hxy
        have c0 := (hr.bel.cell (p := ⟨bk, ok2 + k * 3, none⟩) hb).trans (hc 0 _ rfl)
        have c1 := (hr.bel.cell (p := ⟨bk, ok2 + k * 3 + 1, none⟩) hb).trans (hc 1 _ rfl)
        have c2 := (hr.bel.cell (p := ⟨bk, ok2 + k * 3 + 2, none⟩) hb).trans (hc 2 _ rfl)
        have cq := (hr.bel.cell (p := ⟨bq, oq, none⟩) hbq).trans hxq'
        have i0 : (0 : Int) ≤ (k : Int) := by omega
        have i1 : (k : Int) < (m : Int) := by omega
        have hsy : y.size ≤ 1000000 := by have := Tr.size_kid (List.mem_of_getElem? hy); omega
        have HY := Lib.hid hy
        obtain ⟨xa, xb, xA, xn, xc⟩ := x
        simp only at c0 c1 c2
        have hbelow := (Below.refl wr.heap.size wr).alloc (Nat.le_refl _) (.cells #[.int .i64 xa, .int .i64 xb, .slice xA xn xc] 36)
        have HT := Lib.hid ((hxy'.agr (Agr.below hr.bel)).via hbelow)
        have HS2 := Lib.hid ((HS.out.agr (Agr.below hr.bel)).via hbelow)
        have HI2 := Lib.hid ((HI.out.keep hr.bel (Nat.le_refl _)).al (.cells #[.int .i64 xa, .int .i64 xb, .slice xA xn xc] 36))
        have Bk := Blk.new wr 36 #[.int .i64 xa, .int .i64 xb, .slice xA xn xc]
        have Bo := hr.b2.via hbelow
        have Bs := hr.bs.via hbelow
        have hsz := hr.size
        have HR := Lib.hid (hr.via hbelow)
        have hbqr : bq < wr.heap.size := Nat.lt_of_lt_of_le hbq hr.bel.size
        clear hc hy hxy hxy' hr hb hbelow
        by_cases hik : k = i
        · subst hik
          simp only at Bs
          go_wp2_with fail
          clear c0 c1 c2
          generalize hW : wr.alloc (.cells #[.int .i64 xa, .int .i64 xb, .slice xA xn xc] 36) = W at *
          have hWs : W.heap.size = wr.heap.size + 1 := by rw [← hW]; simp
          clear hW
          generalize wr.heap.size = bk2 at *
          have q1 : (1 : Int) ≤ (n : Int) := by omega
          have q2 := HI2.out.le
          have hcut : Ints W (if c = 1 then some ⟨bq, oq, none⟩ else some ⟨bq, oq + 1, none⟩) (n - 1) (c - 1) (q.map fun i : Nat => (i : Int)) := by
            have := HI2.out.cut (l := 1) (m := n) (by omega) (Nat.le_refl _)
            rw [List.take_of_length_le (by rw [HI2.out.len]; exact Nat.le_refl _)] at this
            simpa [Addr.add] using this
          obtain ⟨AA, hAA⟩ : ∃ AA, (if c = 1 then (some ⟨bq, oq, none⟩ : Option Addr) else some ⟨bq, oq + 1, none⟩) = AA := ⟨_, rfl⟩
          rw [hAA] at hcut
          have HC := Lib.hid hcut
          have htk := Tr.mapIdx_take (f := fun j x => if j = k then Tr.put s q x else x) HY.out
          rw [if_pos rfl] at htk
          have HTK := Lib.hid htk
          have hk1 : k + 1 ≤ 1000000 := by omega
          clear hcut htk
          have cBk := Bk.cell
          have fBk := Bk.frozen
          have lBk := Bk.lt
          have cBo := Bo.cell
          have fBo := Bo.frozen
          have lBo := Bo.lt
          have cBs := Bs.cell
          have fBs := Bs.frozen
          have lBs := Bs.lt
          go_region_law (first
            | (go_simp; go_at_call 50; refine (ih ok (xa, xb, xA, xn, xc) (sa, sb, sB, sm, sd) y W.drew AA (n - 1) (c - 1) HT.out.dr HS2.out.dr hsy HC.out.dr).mono ?_; rintro e w' ⟨v2, rfl, hT2, hb2⟩; have cP := (Bo.dr.via hb2).cell; have lP := (Bo.dr.via hb2).lt; dsimp only [trVal])
            | (have HB := ((HR.out.via ((Below.refl W.heap.size W).drew)).via hb2).via ((Below.refl w'.heap.size w').alloc (Nat.le_refl _) (.cells #[.int .i64 v2.1, .int .i64 v2.2.1, .slice v2.2.2.1 v2.2.2.2.1 v2.2.2.2.2] 36))
               refine step_append_tr _ rfl (.tmp 34) (.tmp 40) rfl (fun b => w.heap.size + 4 ≤ b) (w.heap.size + 4) (.slice Av k cv) k _ rfl HB.own w'.heap.size v2 _ rfl (Blk.new w' 36 #[.int .i64 v2.1, .int .i64 v2.2.1, .slice v2.2.2.1 v2.2.2.2.1 v2.2.2.2.2]) ((hT2.al _).mono fun b _ hb => ⟨Nat.le_trans HR.out.size hb, fun e => Nat.lt_irrefl b (Nat.lt_of_lt_of_le (HR.out.own.lt b e.symm).2 hb)⟩) hk1 HB.size ?_
               intro Av1 cv1 w1 ho1 hg1 hat1
               have B2g := HB.b2.grown hg1 (fun e => by have := (HB.own.lt _ e.symm).1; omega)
               have c2g := B2g.cell
               have f2g := B2g.frozen))
          all_goals
            have HQ := Lib.hid (PutRel.push HB HTK.out ho1 hg1)
            clear HB
            go_wp2_with fail
            exact ⟨⟨k + 1, _, by go_num, by omega, HQ.out⟩, by simp [intOf]; omega⟩
        · have hik' : ((k : Int) == (i : Int)) = false := by rw [beq_eq_false_iff_ne]; omega
          have HIK := Lib.hid hik
          clear hik
          simp only at Bs
          go_wp2_with fail
          clear c0 c1 c2
          generalize hW : wr.alloc (.cells #[.int .i64 xa, .int .i64 xb, .slice xA xn xc] 36) = W at *
          have hWs : W.heap.size = wr.heap.size + 1 := by rw [← hW]; simp
          clear hW
          generalize wr.heap.size = bk2 at *
          have htk := Tr.mapIdx_take (f := fun j x => if j = i then Tr.put s q x else x) HY.out
          rw [if_neg HIK.out] at htk
          have HTK := Lib.hid htk
          have hk1 : k + 1 ≤ 1000000 := by omega
          clear htk
          have cBk := Bk.cell
          have fBk := Bk.frozen
          have lBk := Bk.lt
          have cBo := Bo.cell
          have fBo := Bo.frozen
          have lBo := Bo.lt
          have cBs := Bs.cell
          have fBs := Bs.frozen
          have lBs := Bs.lt
          go_region_law (first
            | (go_simp; go_at_call 49; refine (clonet_c ok (xa, xb, xA, xn, xc) y W.drew HT.out.dr hsy).mono ?_; rintro e w' ⟨v2, rfl, hT2, hb2⟩; have cP := (Bo.dr.via hb2).cell; have lP := (Bo.dr.via hb2).lt; dsimp only [trVal])
            | (have HB := ((HR.out.via ((Below.refl W.heap.size W).drew)).via hb2).via ((Below.refl w'.heap.size w').alloc (Nat.le_refl _) (.cells #[.int .i64 v2.1, .int .i64 v2.2.1, .slice v2.2.2.1 v2.2.2.2.1 v2.2.2.2.2] 36))
               refine step_append_tr _ rfl (.tmp 44) (.tmp 47) rfl (fun b => w.heap.size + 4 ≤ b) (w.heap.size + 4) (.slice Av k cv) k _ rfl HB.own w'.heap.size v2 _ rfl (Blk.new w' 36 #[.int .i64 v2.1, .int .i64 v2.2.1, .slice v2.2.2.1 v2.2.2.2.1 v2.2.2.2.2]) ((hT2.al _).mono fun b _ hb => ⟨Nat.le_trans HR.out.size hb, fun e => Nat.lt_irrefl b (Nat.lt_of_lt_of_le (HR.out.own.lt b e.symm).2 hb)⟩) hk1 HB.size ?_
               intro Av1 cv1 w1 ho1 hg1 hat1
               have B2g := HB.b2.grown hg1 (fun e => by have := (HB.own.lt _ e.symm).1; omega)
               have c2g := B2g.cell
               have f2g := B2g.frozen))
          all_goals
            have HQ := Lib.hid (PutRel.push HB HTK.out ho1 hg1)
            clear HB
            go_wp2_with fail
            exact ⟨⟨k + 1, _, by go_num, by omega, HQ.out⟩, by simp [intOf]; omega⟩
      · have HKE := Lib.hid (show k = m by omega)
        have B1 := hr.b1
        have B2 := hr.b2
        have HR := Lib.hid hr
        clear hr
        have cB1 := B1.cell
        have fB1 := B1.frozen
        have lB1 := B1.lt
        have cB2 := B2.cell
        have fB2 := B2.frozen
        have lB2 := B2.lt
        go_wp2_with fail
        refine bodyPost_ret (v := trVal (t.rl, t.tm, Av, k, cv)) (by simp [results, Try.results50, go_sem, trVal, cB1]) rfl ⟨_, rfl, ?_, below_set3 HR.out.bel (by omega) _ _ _⟩
        have hs := HR.out.own.toSl (ok' := fun b => w.heap.size + 4 ≤ b) (fun b _ hb => by omega) (fun b hb => by omega)
        rw [List.take_of_length_le (by rw [List.length_mapIdx, HK.out.len, HKE.out]; exact Nat.le_refl _)] at hs
        have hs2 : Sl TrE (fun b => w.heap.size + 4 ≤ b) wr Av k cv (Tr.put s (i :: q) t).kids := by
          rw [Tr.put, Tr.mapKids_kids]; exact hs
        have ht := TreeR.of hs2
        rw [show (Tr.put s (i :: q) t).rl = t.rl by rw [Tr.put, Tr.mapKids_rl], show (Tr.put s (i :: q) t).tm = t.tm by rw [Tr.put, Tr.mapKids_tm]] at ht
        exact (ht.set3 (fun b hb => by omega) _ _ _).mono fun b _ hb => by omega
end Go.Proofs.Ytdccgeiniockpaa
