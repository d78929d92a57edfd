/- Texts PL, laid together. -/
import Derived.Test.YtdmecijpioljaaaPK


namespace Go.Proofs.Ytdmecijpioljaaa
open Go.RowKit

/-- what predicting symbol y gives in set k, by the first j rules -/
def PredI (R : List Ru) (k : Nat) (y : Sy) (j : Nat) (x : It3) : Prop := ∃ r u, r < j ∧ R[r]? = some u ∧ y = (false, u.1) ∧ x = ⟨r, 0, k⟩
theorem PredI.zero {R : List Ru} {k : Nat} {y : Sy} (x : It3) : ¬ PredI R k y 0 x := fun ⟨_, _, h, _⟩ => Nat.not_lt_zero _ h
theorem PredI.ok {R : List Ru} {k : Nat} {y : Sy} {j : Nat} {x : It3} (h : PredI R k y j x) : ItOk R k x := by
  obtain ⟨r, u, -, h1, -, rfl⟩ := h
  exact ⟨Nat.le_refl _, u, h1, Nat.zero_le _⟩
theorem PredI.hit {R : List Ru} {k : Nat} {y : Sy} {j : Nat} {u : Ru} (hu : R[j]? = some u) (hy : y = (false, u.1)) (x : It3) : PredI R k y (j + 1) x ↔ PredI R k y j x ∨ x = ⟨j, 0, k⟩ := by
  constructor
  · rintro ⟨r, u', h1, h2, h3, rfl⟩
    by_cases e : r = j
    · subst e; exact Or.inr rfl
    · exact Or.inl ⟨r, u', by omega, h2, h3, rfl⟩
  · rintro (⟨r, u', h1, h2, h3, rfl⟩ | rfl)
    · exact ⟨r, u', by omega, h2, h3, rfl⟩
    · exact ⟨j, u, by omega, hu, hy, rfl⟩
theorem PredI.miss {R : List Ru} {k : Nat} {y : Sy} {j : Nat} {u : Ru} (hu : R[j]? = some u) (hy : y ≠ (false, u.1)) (x : It3) : PredI R k y (j + 1) x ↔ PredI R k y j x := by
  constructor
  · rintro ⟨r, u', h1, h2, h3, rfl⟩
    by_cases e : r = j
    · subst e
      rw [hu] at h2
      obtain rfl := Option.some.inj h2
      exact absurd h3 hy
    · exact ⟨r, u', by omega, h2, h3, rfl⟩
  · rintro ⟨r, u', h1, h2, h3, rfl⟩
    exact ⟨r, u', by omega, h2, h3, rfl⟩
theorem Grew.ok {R : List Ru} {k : Nat} {P : It3 → Prop} {l l' : List It3} (h : Grew P l l') (h0 : ∀ x ∈ l, ItOk R k x) (hP : ∀ x, P x → ItOk R k x) : ∀ x ∈ l', ItOk R k x := fun x hx => (h.src x hx).elim (h0 x) (hP x)
theorem set_same {α : Type} {L : List α} {k : Nat} {l : α} (h : L[k]? = some l) : L.set k l = L := List.ext_getElem? fun j => by
  rw [List.getElem?_set]
  by_cases hj : k = j
  · subst hj
    rw [if_pos rfl, if_pos (List.getElem?_eq_some_iff.1 h).1, h]
  · rw [if_neg hj]
theorem set_get {α : Type} {L : List α} {k : Nat} {l m : α} (h : L[k]? = some l) : (L.set k m)[k]? = some m := List.getElem?_set_self (List.getElem?_eq_some_iff.1 h).1
/-- set k has grown by what P says -/
def GrewP (P : It3 → Prop) (k : Nat) (l : List It3) (w : World) (base bf : Nat) (c0 c1 c2 : Value) (AR : Option Addr) (nR cR : Nat) (R : List Ru) (v : Value) (hs : List SlV) (L : List (List It3)) (e : Ending) (w' : World) : Prop :=
  ∃ l', Grew P l l' ∧ AddP k w base bf c0 c1 c2 AR nR cR R v hs (L.set k l') e w'
set_option maxRecDepth 100000 in
set_option maxHeartbeats 2000000 in
theorem predict_c (w : World) (base bf k : Nat) (c0 c1 c2 : Value) (AR : Option Addr) (nR cR : Nat) (R : List Ru) (v : Value) (hs : List SlV) (L : List (List It3)) (l : List It3) (h : FolM w base bf c0 c1 c2 AR nR cR R v hs L) (hk : L.length = k + 1) (hl : L[k]? = some l) (hk2 : k ≤ 100) (hR : R.length ≤ 32) (h4 : ∀ u ∈ R, u.2.length ≤ 4) (hnd : l.Nodup) (hok : ∀ x ∈ l, ItOk R k x) (tb : Bool) (tn : Nat) :
    Calls Try.prog 23 #[.pointer (some ⟨bf, 0, none⟩), .agg #[.bool tb, .int .i64 (tn : Int)]] w (GrewP (PredI R k (tb, tn) nR) k l w base bf c0 c1 c2 AR nR cR R v hs L) := by
  have hb := (Below.refl w.heap.size w).al (.cells #[.bool tb, .int .i64 (tn : Int)] 45)
  have HS := Lib.hid (Blk.new w 45 #[.bool tb, .int .i64 (tn : Int)])
  have hM := h.via hb
  have f3 := hM.blk.cell 3
  simp at f3
  have hRn : nR ≤ 32 := by have := h.rules.len; omega
  have HSN := Lib.hid ((h.sets.no_ge (Nat.le_refl _)).nof (k := k) (i := true))
  have HM := Lib.hid hM
  have HB := Lib.hid (Mov.of (N := NoF k v hs) hb)
  have HK := Lib.hid hk
  have HL := Lib.hid hl
  have HND := Lib.hid hnd
  have HOK := Lib.hid hok
  have H4 := Lib.hid h4
  clear hb hM h hk hl hnd hok h4
  go_enter Try.func23, Try.ntmps23
  go_wp2_with fail
  generalize hW : w.alloc (.cells #[.bool tb, .int .i64 (tn : Int)] 45) = W at *
  have hWs : w.heap.size < W.heap.size := by rw [← hW]; simp
  clear hW f3
  go_loopw [12] (fun i wr => ∃ (j : Nat) (v1 : Value) (hs1 : List SlV) (l1 : List It3), i = .int .i64 j ∧ j ≤ nR ∧ Hid (Grew (PredI R k (tb, tn) j) l l1) ∧ Hid (FolM wr base bf c0 c1 c2 AR nR cR R v1 hs1 (L.set k l1)) ∧ Hid (Mov (NoF k v hs) (NoF k v1 hs1) W wr) ∧ Hid (Blk wr w.heap.size 45 #[.bool tb, .int .i64 (tn : Int)])) (fun i _ => nR - (intOf i).toNat)
  case atStart =>
    refine ⟨0, v, hs, l, rfl, Nat.zero_le _, Lib.hid (Grew.none fun x => PredI.zero x), Lib.hid ?_, Lib.hid (Mov.of (Below.refl _ _)), HS⟩
    have := HM.out
    rwa [set_same HL.out]
  case round =>
    obtain ⟨j, v1, hs1, l1, rfl, hj, HG, HF, HMV, HSB⟩ := hrel
    obtain ⟨A1, d1, hv1, -⟩ := HF.out.sets.row.form
    rw [List.length_set, HK.out] at hv1
    subst hv1
    by_cases hjl : j < nR
    · obtain ⟨b1, o1, ⟨xl, xA, xn, xc⟩, y, rfl, hbb, hb1, hy, ⟨e1, -⟩, hc⟩ := HF.out.rules.at_ hjl
      simp only at e1
      have r0 := hc 0 _ rfl
      have r1 := hc 1 _ rfl
      simp only [RuE, Nat.add_zero] at r0 r1
      have i0 : (0 : Int) ≤ (j : Int) := by omega
      have i1 : (j : Int) < (nR : Int) := by omega
      have HY := Lib.hid hy
      have HE := Lib.hid e1
      have hal := (Below.refl wr.heap.size wr).al (.cells #[.int .i64 (xl : Int), .slice xA xn xc] 47)
      have HRB := Lib.hid (Blk.new wr 47 #[.int .i64 (xl : Int), .slice xA xn xc])
      have HF1 := Lib.hid (HF.out.via hal)
      have HS1 := Lib.hid (HSB.out.via hal)
      have HM1 := Lib.hid (HMV.out.via hal)
      clear hc hy e1 hbb hal
      go_upto_region 4 with fail
      clear r0 r1
      generalize hW : wr.alloc (.cells #[.int .i64 (xl : Int), .slice xA xn xc] 47) = W1 at *
      clear hW
      have SOF := Lib.hid (show ∀ w', Below W1.heap.size W1 w' → ((∀ i, w'.cell? ⟨w.heap.size, i, none⟩ = #[.bool tb, .int .i64 (tn : Int)][i]?) ∧ (∀ i, w'.cell? ⟨wr.heap.size, i, none⟩ = #[.int .i64 (xl : Int), .slice xA xn xc][i]?) ∧ Below W1.heap.size W1 w') from fun w' hb => ⟨(HS1.out.via hb).cell, (HRB.out.via hb).cell, hb⟩)
      have hb0 := (Below.refl W1.heap.size W1).drew
      by_cases ht : tb = false ∧ tn = xl
      · obtain ⟨rfl, rfl⟩ := ht
        go_region_held3 (fun w' => (∀ i, w'.cell? ⟨w.heap.size, i, none⟩ = #[.bool false, .int .i64 (tn : Int)][i]?) ∧ (∀ i, w'.cell? ⟨wr.heap.size, i, none⟩ = #[.int .i64 (tn : Int), .slice xA xn xc][i]?) ∧ Below W1.heap.size W1 w') (exact SOF.out _ (by assumption)) (first
          | (go_at_call 24; (with_reducible refine (gN_c _ _).mono ?_); rintro ee wn ⟨rfl, hbn⟩; have hbm : Below W1.heap.size W1 wn := Below.via (by assumption) hbn))
        have HF2 := Lib.hid (HF1.out.via hbm)
        have HS2 := Lib.hid (HS1.out.via hbm)
        have HM2 := Lib.hid (HM1.out.via hbm)
        have hlen : l1.length ≤ 100000 := lenI hR H4.out hk2 (HG.out.nd HND.out) (HG.out.ok HOK.out fun x hx => hx.ok)
        have HNS := Lib.hid (show NoF k (.slice A1 (k + 1) d1) hs1 true w.heap.size from HMV.out.no _ _ hWs HSN.out)
        have f4 := HF2.out.blk.cell 4
        simp at f4
        have e1 : ((k + 1 : Nat) : Int) - 1 = (k : Int) := by omega
        clear hbm hbn hb0
        go_wp2_with fail
        clear f4 e1
        refine (add_c wn base bf k c0 c1 c2 _ nR cR R _ hs1 _ l1 ⟨j, 0, k⟩ HF2.out (by rw [List.length_set]; exact HK.out) (set_get HL.out) (by omega) hlen).mono ?_
        rintro e w2 ⟨rfl, v2, hs2, hF3, hM3⟩
        rw [List.set_set] at hF3
        have HF3 := Lib.hid hF3
        have HS3 := Lib.hid (hM3.blk HS2.out HNS.out)
        have HM3 := Lib.hid (HM2.out.trans hM3)
        clear hF3 hM3
        go_wp2_with fail
        exact ⟨⟨j + 1, v2, hs2, _, by go_num, by omega, Lib.hid ((HG.out.add _).iff (PredI.hit HY.out (by rw [HE.out]))), HF3, HM3, HS3⟩, by simp [intOf]; omega⟩
      · have hq : tb = true ∨ ((tn : Int) == (xl : Int)) = false := by
          cases tb with
          | true => exact Or.inl rfl
          | false => exact Or.inr (by rw [beq_eq_false_iff_ne]; exact fun e => ht ⟨rfl, by omega⟩)
        have HT := Lib.hid (show (tb, tn) ≠ (false, y.1) from fun e => ht ⟨congrArg Prod.fst e, by rw [HE.out]; exact congrArg Prod.snd e⟩)
        clear ht
        cases tb with
        | true =>
          clear hq
          go_region_held3 (fun w' => (∀ i, w'.cell? ⟨w.heap.size, i, none⟩ = #[.bool true, .int .i64 (tn : Int)][i]?) ∧ (∀ i, w'.cell? ⟨wr.heap.size, i, none⟩ = #[.int .i64 (xl : Int), .slice xA xn xc][i]?) ∧ Below W1.heap.size W1 w') (exact SOF.out _ (by assumption)) (first
            | (go_at_call 24; (with_reducible refine (gN_c _ _).mono ?_); rintro ee wn ⟨rfl, hbn⟩; have hbm : Below W1.heap.size W1 wn := Below.via (by assumption) hbn))
          have HF2 := Lib.hid (HF1.out.via hbm)
          have HS2 := Lib.hid (HS1.out.via hbm)
          have HM2 := Lib.hid (HM1.out.via hbm)
          clear hbm hbn hb0
          go_wp2_with fail
          exact ⟨⟨j + 1, _, hs1, l1, by go_num, by omega, Lib.hid (HG.out.iff (PredI.miss HY.out HT.out)), HF2, HM2, HS2⟩, by simp [intOf]; omega⟩
        | false =>
          have hq2 : ((tn : Int) == (xl : Int)) = false := hq.resolve_left (by simp)
          clear hq
          go_region_held3 (fun w' => (∀ i, w'.cell? ⟨w.heap.size, i, none⟩ = #[.bool false, .int .i64 (tn : Int)][i]?) ∧ (∀ i, w'.cell? ⟨wr.heap.size, i, none⟩ = #[.int .i64 (xl : Int), .slice xA xn xc][i]?) ∧ Below W1.heap.size W1 w') (exact SOF.out _ (by assumption)) (first
            | (go_at_call 24; (with_reducible refine (gN_c _ _).mono ?_); rintro ee wn ⟨rfl, hbn⟩; have hbm : Below W1.heap.size W1 wn := Below.via (by assumption) hbn))
          have HF2 := Lib.hid (HF1.out.via hbm)
          have HS2 := Lib.hid (HS1.out.via hbm)
          have HM2 := Lib.hid (HM1.out.via hbm)
          clear hbm hbn hb0
          go_wp2_with fail
          exact ⟨⟨j + 1, _, hs1, l1, by go_num, by omega, Lib.hid (HG.out.iff (PredI.miss HY.out HT.out)), HF2, HM2, HS2⟩, by simp [intOf]; omega⟩
    · obtain rfl : j = nR := by omega
      go_wp2_with fail
      exact bodyPost_ret (v := .tuple #[]) (by simp [results, Try.results23, go_sem]) rfl ⟨l1, HG.out, rfl, _, hs1, HF.out, HB.out.trans HMV.out⟩
end Go.Proofs.Ytdmecijpioljaaa

