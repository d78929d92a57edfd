/- Texts PV, PW, PX, PY, VG, laid together. -/
import Derived.Test.YtbfcnfgkccgbiaaGreatDoorQ27
import Derived.Test.YtbfcnfgkccgbiaaGreatDoorQ25
import Derived.Test.YtbfcnfgkccgbiaaGreatDoorQ21


namespace Go.Proofs.YtbfcnfgkccgbiaaGreatDoor
open Go.RowKit

theorem Sets.hdr2 {e ti : TypeId} {w : World} {base k : Nat} {v : Value} {hs : List SlV} {L : List (List It3)} {l : List It3} (h : Sets e ti w base v hs L) (hl : L[k]? = some l) : ∃ gb d qA qc, v = .slice (some ⟨gb, 0, none⟩) L.length d ∧ hs[k]? = some ((qA, l.length, qc) : SlV) ∧ w.cell? ⟨gb, k, none⟩ = some (.slice qA l.length qc) ∧ Own It3E ti (fun _ => False) w base (.slice qA l.length qc) l.length l := by
  have hsl := h.len
  have hkl := (List.getElem?_eq_some_iff.1 hl).1
  obtain ⟨qA, qn, qc, hq⟩ : ∃ qA qn qc, hs[k]? = some ((qA, qn, qc) : SlV) := ⟨_, _, _, List.getElem?_eq_getElem (by omega)⟩
  have hit := h.items k _ l hq hl
  obtain ⟨A', c', e', -⟩ := hit.form
  simp only [slV, Value.slice.injEq] at e'
  obtain ⟨rfl, rfl, rfl⟩ := e'
  obtain ⟨gb, c, hv, -, -, hcell, -⟩ := h.cell hq
  exact ⟨gb, c, qA, qc, hv, hq, hcell, hit⟩
theorem ChS.hdr2 {w : World} {base bf k : Nat} {c0 c1 c2 : Value} {AR : Option Addr} {nR cR : Nat} {R : List Ru} {s : ChSt} {L : List (List It3)} {l : List It3} (h : ChS w base bf c0 c1 c2 AR nR cR R s L) (hl : L[k]? = some l) : ∃ gb d qA qc, s.1 = .slice (some ⟨gb, 0, none⟩) L.length d ∧ s.2.1[k]? = some ((qA, l.length, qc) : SlV) ∧ w.cell? ⟨gb, k, none⟩ = some (.slice qA l.length qc) ∧ Own It3E 47 (fun _ => False) w base (.slice qA l.length qc) l.length l := (ChM.sets h).hdr2 hl
def PutP (k t : Nat) (l : List It3) (w : World) (base bf : Nat) (c0 c1 c2 : Value) (AR : Option Addr) (nR cR : Nat) (R : List Ru) (s : ChSt) (L : List (List It3)) (e : Ending) (w' : World) : Prop :=
  ∃ l0 l' s', Grew (ScanI R t l l.length) [] l0 ∧ Cl R (k + 1) (setI (L ++ [l0])) l0 l' ∧ e = .returned (.tuple #[]) ∧ ChS w' base bf c0 c1 c2 AR nR cR R s' (L ++ [l']) ∧ Mov (ChX bf s) (ChX bf s') w w'
set_option maxRecDepth 100000 in
set_option maxHeartbeats 4000000 in
theorem put_s (w : World) (base bf k : Nat) (c0 c1 c2 : Value) (AR : Option Addr) (nR cR : Nat) (R : List Ru) (s : ChSt) (L : List (List It3)) (l : List It3) (t : Nat) (h : ChS w base bf c0 c1 c2 AR nR cR R s L) (hbf : base ≤ bf) (hk : L.length = k + 1) (hl : L[k]? = some l) (hk2 : k + 1 ≤ 100) (hR : R.length ≤ 32) (h4 : ∀ u ∈ R, u.2.length ≤ 4) (hSo : ∀ (j : Nat) m, L[j]? = some m → m.length ≤ 100000 ∧ ∀ x ∈ m, ItOk R k x) :
    Calls Tryz.prog 26 #[.pointer (some ⟨bf, 0, none⟩), .int .i64 (t : Int)] w (PutP k t l w base bf c0 c1 c2 AR nR cR R s L) := by
  have hL0 : L ≠ [] := fun e => by rw [e] at hk; cases hk
  have HF0 := Lib.hid h
  have HBF := Lib.hid hbf
  have HK := Lib.hid hk
  have HL := Lib.hid hl
  have H4 := Lib.hid h4
  have HSO := Lib.hid hSo
  have HOK := Lib.hid ((hSo k l hl).2)
  have hll : l.length ≤ 100000 := (hSo k l hl).1
  have H1000 := Lib.hid (show ∀ u ∈ R, u.2.length ≤ 1000 from fun u hu => Nat.le_trans (h4 u hu) (by omega))
  obtain ⟨gb, d, qA, qc, hv, hq, g0, hown⟩ := h.hdr2 hl
  have f4 := h.cv
  rw [hv, hk] at f4
  have e1 : ((k + 1 : Nat) : Int) - 1 = (k : Int) := by omega
  have i0 : (0 : Int) ≤ (k : Int) := by omega
  have i1 : (k : Int) < ((k : Int) + 1) := by omega
  have hgl : gb < w.heap.size := World.block_lt_of_cell? w _ g0
  have hbl : bf < w.heap.size := h.lt
  have HV := Lib.hid hv
  have HQ := Lib.hid hq
  clear h hk hl h4 hSo hown hv hq hbf
  have hgB : gb < w.heap.size := hgl
  go_enter Tryz.func26, Tryz.ntmps26
  go_upto_region 0 with fail
  go_quiet (fail)
  have hdn := below_drewN (Below.refl w.heap.size w) nq
  have HDN := Lib.hid hdn
  have HF1' := Lib.hid (HF0.out.via hdn)
  clear hdn f4 g0
  generalize w.drewN nq = W at *
  go_wp2_with fail
  refine (set_c W base bf c0 c1 c2 AR nR cR R s.1 s.2.1 s.2.2.1 s.2.2.2 L HF1'.out HBF.out (by rw [HK.out]; omega)).mono ?_
  rintro e W3 ⟨rfl, v', vm', bm, hF, hM⟩
  obtain ⟨s1, hs1⟩ : ∃ s1 : ChSt, s1 = (v', s.2.1 ++ [(none, 0, 0)], vm', s.2.2.2 ++ [bm]) := ⟨_, rfl⟩
  have HS1 := Lib.hid hs1
  clear hs1
  have HF1 := Lib.hid (show ChS W3 base bf c0 c1 c2 AR nR cR R s1 (L ++ [[]]) from by rw [HS1.out]; exact hF)
  have HMV := Lib.hid (show Mov (ChX bf s) (ChX bf s1) w W3 from by rw [HS1.out]; exact (Mov.of HDN.out).trans hM)
  have hsl : s.2.1.length = k + 1 := by rw [(ChM.sets HF0.out).len, HK.out]
  have HQ1 := Lib.hid (show s1.2.1[k]? = some (qA, l.length, qc) from by
    rw [HS1.out]
    show (s.2.1 ++ [(none, 0, 0)])[k]? = _
    rw [List.getElem?_append_left (by omega)]; exact HQ.out)
  have HIT := Lib.hid ((ChM.sets HF1.out).items k _ l HQ1.out (by rw [List.getElem?_append_left (by rw [HK.out]; omega)]; exact HL.out))
  have HC1 := Lib.hid (Own.sl_own HIT.out)
  have HOL := Lib.hid (show ∀ b, (Value.slice qA l.length qc).ownBlock = some b → b < W3.heap.size from fun b hb => (HIT.out.lt b hb).2)
  have HON := Lib.hid (show ∀ b, (Value.slice qA l.length qc).ownBlock = some b → ChN (k + 1) s1 true b from fun b hb => by
    refine ⟨⟨(ChM.sets HF1.out).far k _ b HQ1.out hb, fun q hq => ?_⟩, fun e => (ChM.vfar HF1.out b e).2 k _ HQ1.out hb, fun b' hb' e => (ChM.mfar HF1.out (k + 1) b' hb').2.2 k _ HQ1.out (by rw [e]; exact hb)⟩
    rw [HS1.out] at hq
    rw [append_get s.2.1 (none, 0, 0) hsl.symm] at hq
    obtain rfl := Option.some.inj hq
    exact fun e => by cases e)
  clear hF hM HIT hsl HF1'
  go_wp2_with fail
  go_loopw [25] (fun a wq => ∃ (m : Nat) (s3 : ChSt) (l3 : List It3), a = .int .i64 m ∧ m ≤ l.length ∧ Hid (Grew (ScanI R t l m) [] l3) ∧ Hid (ChS wq base bf c0 c1 c2 AR nR cR R s3 (L ++ [l3])) ∧ Hid (Mov (ChN (k + 1) s1) (ChN (k + 1) s3) W3 wq) ∧ Hid (Sl It3E (fun b => (Value.slice qA l.length qc).ownBlock = some b) wq qA l.length qc l)) (fun a _ => 100001 - (intOf a).toNat)
  case atStart => exact ⟨0, s1, [], rfl, Nat.zero_le _, Lib.hid (Grew.none fun z => ScanI.zero z), HF1, Lib.hid (Mov.of (Below.refl _ _)), HC1⟩
  case round =>
    obtain ⟨m, s3, l3, rfl, hm, HG3, HF3, HM3, HC3⟩ := hrel
    have HND3 := Lib.hid (HG3.out.nd List.nodup_nil)
    have HOK3 := Lib.hid (show ∀ x ∈ l3, ItOk R (k + 1) x from fun x hx => (HG3.out.src x hx).elim (fun h => by cases h) (fun h => h.ok HOK.out))
    have hl3 : l3.length ≤ 100000 := lenI hR H4.out hk2 HND3.out HOK3.out
    have hLl : (L ++ [l3]).length = (k + 1) + 1 := by rw [List.length_append, HK.out]; rfl
    have HLG := Lib.hid (append_get L l3 HK.out.symm)
    have HLL := Lib.hid hLl
    clear hLl
    by_cases hml : m < l.length
    · as_aux_lemma =>
      obtain ⟨b6, o6, x, x', rfl, hb6o, hb6, hx, hxr, hcx⟩ := HC3.out.at_ hml
      obtain rfl : x = x' := hxr
      have x0 := hcx 0 _ rfl
      have x1 := hcx 1 _ rfl
      have x2 := hcx 2 _ rfl
      simp only [It3E, Nat.add_zero] at x0 x1 x2
      have m0 : (0 : Int) ≤ (m : Int) := by omega
      have m1 : (m : Int) < (l.length : Int) := by omega
      have hal := (Below.refl wr.heap.size wr).al (.cells #[.int .i64 (x.r : Int), .int .i64 (x.d : Int), .int .i64 (x.f : Int)] 47)
      have BX := Blk.new wr 47 #[.int .i64 (x.r : Int), .int .i64 (x.d : Int), .int .i64 (x.f : Int)]
      have HXB := Lib.hid BX
      have HXM := Lib.hid hx
      have HXO := Lib.hid (HOK.out x (List.mem_of_getElem? hx))
      have HF4 := Lib.hid (HF3.out.via hal)
      have HM4 := Lib.hid (HM3.out.via hal)
      have HC4 := Lib.hid (HC3.out.via hal)
      clear hcx hx hal hb6o
      go_upto_region 5 with fail
      clear x0 x1 x2
      generalize hW4 : wr.alloc (.cells #[.int .i64 (x.r : Int), .int .i64 (x.d : Int), .int .i64 (x.f : Int)] 47) = W4 at *
      have hbx : wr.heap.size < W4.heap.size := by rw [← hW4]; simp
      clear hW4
      obtain ⟨oz, hoz⟩ : ∃ oz, nxtI R x = oz := ⟨_, rfl⟩
      cases oz with
      | none =>
        have HX2 := Lib.hid hoz
        clear hoz
        have cBX := BX.cell
        have fBX := BX.frozen
        have lBX := BX.lt
        go_wp2_with fail
        clear cBX fBX lBX
        refine (cnexts_n HF4.out H1000.out k x HXO.out HX2.out).mono ?_
        rintro e w8 ⟨rfl, hb8⟩
        have hal8 := (Below.refl w8.heap.size w8).al (.cells #[.bool false, .int .i64 0] 66)
        have HF8 := Lib.hid ((HF4.out.via hb8).via hal8)
        have HM8 := Lib.hid ((HM4.out.via hb8).via hal8)
        have HC8 := Lib.hid ((HC4.out.via hb8).via hal8)
        clear hb8 BX hal8
        go_upto_region 6 with fail
        generalize w8.alloc (.cells #[.bool false, .int .i64 0] 66) = W8 at *
        go_quiet (fail)
        go_wp2_with fail
        have hdn := below_drewN (Below.refl W8.heap.size W8)
        exact ⟨⟨m + 1, s3, l3, by go_num, by omega, Lib.hid (HG3.out.iff (ScanI.miss HXM.out (by rw [HX2.out]; exact fun e => by cases e))), Lib.hid (HF8.out.via (hdn _)), Lib.hid (HM8.out.via (hdn _)), Lib.hid (HC8.out.via (hdn _))⟩, by simp [intOf]; omega⟩
      | some yy =>
        obtain ⟨tb, tn⟩ := yy
        have HX2 := Lib.hid hoz
        obtain ⟨u2, hu2, -, hxd⟩ := nxtI_lt hoz
        have hxd4 : x.d ≤ 4 := by have := H4.out u2 (List.mem_of_getElem? hu2); omega
        have HNO := Lib.hid (show ItOk R (k + 1) ⟨x.r, x.d + 1, x.f⟩ from ⟨Nat.le_succ_of_le HXO.out.1, u2, hu2, hxd⟩)
        clear hoz hu2
        have cBX := BX.cell
        have fBX := BX.frozen
        have lBX := BX.lt
        go_wp2_with fail
        clear cBX fBX lBX
        refine (cnexts_s HF4.out H1000.out x tb tn HX2.out).mono ?_
        rintro e w8 ⟨rfl, hb8⟩
        have hal8 := (Below.refl w8.heap.size w8).al (.cells #[.bool tb, .int .i64 (tn : Int)] 66)
        have HF8 := Lib.hid ((HF4.out.via hb8).via hal8)
        have HM8 := Lib.hid ((HM4.out.via hb8).via hal8)
        have HC8 := Lib.hid ((HC4.out.via hb8).via hal8)
        have HX8 := Lib.hid ((HXB.out.via hb8).via hal8)
        have HS8 := Lib.hid (Blk.new w8 66 #[.bool tb, .int .i64 (tn : Int)])
        have hbx8 : wr.heap.size < w8.heap.size := by have := hb8.size; omega
        clear hb8 BX hal8
        go_upto_region 6 with fail
        generalize w8.alloc (.cells #[.bool tb, .int .i64 (tn : Int)] 66) = W8 at *
        have SOF := Lib.hid (show ∀ w', Below W8.heap.size W8 w' → ((∀ i, w'.cell? ⟨w8.heap.size, i, none⟩ = #[.bool tb, .int .i64 (tn : Int)][i]?) ∧ Below W8.heap.size W8 w') from fun w' hb => ⟨(HS8.out.via hb).cell, hb⟩)
        have hb0 := (Below.refl W8.heap.size W8).drew
        by_cases ht : (tb, tn) = (true, t)
        · obtain ⟨rfl, rfl⟩ := Prod.mk.inj ht
          have HT := Lib.hid (show nxtI R x = some (true, tn) from HX2.out)
          go_region_held3 (fun w' => (∀ i, w'.cell? ⟨w8.heap.size, i, none⟩ = #[.bool true, .int .i64 (tn : Int)][i]?) ∧ Below W8.heap.size W8 w') (exact SOF.out _ (by assumption)) (first
            | (go_at_call 61; (with_reducible refine (gT_c _ _).mono ?_); rintro ee W9 ⟨rfl, hbn⟩; have hbm : Below W8.heap.size W8 W9 := Below.via (by assumption) hbn))
          have HF9 := Lib.hid (HF8.out.via hbm)
          have HM9 := Lib.hid (HM8.out.via hbm)
          have HC9 := Lib.hid (HC8.out.via hbm)
          have HX9 := Lib.hid (HX8.out.via hbm)
          clear hbm hbn hb0 ht
          have HA := Lib.hid (show Calls Tryz.prog 62 #[.pointer (some ⟨bf, 0, none⟩), .agg #[.int .i64 (x.r : Int), .int .i64 ((x.d : Int) + 1), .int .i64 (x.f : Int)]] W9 (AddC (k + 1) W9 base bf c0 c1 c2 AR nR cR R s3 ((L ++ [l3]).set (k + 1) (addI l3 ⟨x.r, x.d + 1, x.f⟩))) from by
            have hA := cadd_o HF9.out (k + 1) l3 ⟨x.r, x.d + 1, x.f⟩ HLL.out HLG.out (by omega) hl3 HNO.out hR H4.out
            rwa [show (((⟨x.r, x.d + 1, x.f⟩ : It3).d : Nat) : Int) = (x.d : Int) + 1 from by simp] at hA)
          have BX9 := HX9.out
          have cBX9 := BX9.cell
          have fBX9 := BX9.frozen
          have lBX9 := BX9.lt
          go_wp2_with fail
          clear cBX9 fBX9 lBX9
          refine HA.out.mono ?_
          rintro e w10 ⟨rfl, s4, hF10, hM10⟩
          rw [append_set L l3 _ HK.out.symm] at hF10
          have HF10 := Lib.hid hF10
          have HM10 := Lib.hid (HM9.out.trans hM10)
          have HC10 := Lib.hid (hM10.sl HC9.out fun b hb => HM9.out.no _ b (HOL.out b hb) (HON.out b hb))
          clear hF10 hM10 BX9
          go_wp2_with fail
          exact ⟨⟨m + 1, s4, _, by go_num, by omega, Lib.hid ((HG3.out.add _).iff (ScanI.hit HXM.out HT.out)), HF10, HM10, HC10⟩, by simp [intOf]; omega⟩
        · have HT := Lib.hid (show nxtI R x ≠ some (true, t) from by rw [HX2.out]; exact fun e => ht (Option.some.inj e))
          have hq : tb = false ∨ ((tn : Int) == (t : Int)) = false := by
            cases tb with
            | false => exact Or.inl rfl
            | true => exact Or.inr (by rw [beq_eq_false_iff_ne]; exact fun e => ht (by rw [show tn = t by omega]))
          clear ht
          cases tb with
          | false =>
            clear hq
            go_region_held3 (fun w' => (∀ i, w'.cell? ⟨w8.heap.size, i, none⟩ = #[.bool false, .int .i64 (tn : Int)][i]?) ∧ Below W8.heap.size W8 w') (exact SOF.out _ (by assumption)) (first
              | (go_at_call 61; (with_reducible refine (gT_c _ _).mono ?_); rintro ee W9 ⟨rfl, hbn⟩; have hbm : Below W8.heap.size W8 W9 := Below.via (by assumption) hbn))
            have HF9 := Lib.hid (HF8.out.via hbm)
            have HM9 := Lib.hid (HM8.out.via hbm)
            have HC9 := Lib.hid (HC8.out.via hbm)
            clear hbm hbn hb0
            go_wp2_with fail
            exact ⟨⟨m + 1, s3, l3, by go_num, by omega, Lib.hid (HG3.out.iff (ScanI.miss HXM.out HT.out)), HF9, HM9, HC9⟩, by simp [intOf]; omega⟩
          | true =>
            have hq2 : ((tn : Int) == (t : Int)) = false := hq.resolve_left (by simp)
            clear hq
            go_region_held3 (fun w' => (∀ i, w'.cell? ⟨w8.heap.size, i, none⟩ = #[.bool true, .int .i64 (tn : Int)][i]?) ∧ Below W8.heap.size W8 w') (exact SOF.out _ (by assumption)) (first
              | (go_at_call 61; (with_reducible refine (gT_c _ _).mono ?_); rintro ee W9 ⟨rfl, hbn⟩; have hbm : Below W8.heap.size W8 W9 := Below.via (by assumption) hbn))
            have HF9 := Lib.hid (HF8.out.via hbm)
            have HM9 := Lib.hid (HM8.out.via hbm)
            have HC9 := Lib.hid (HC8.out.via hbm)
            clear hbm hbn hb0
            go_wp2_with fail
            exact ⟨⟨m + 1, s3, l3, by go_num, by omega, Lib.hid (HG3.out.iff (ScanI.miss HXM.out HT.out)), HF9, HM9, HC9⟩, by simp [intOf]; omega⟩
    · obtain rfl : m = l.length := by omega
      have HSO3 := Lib.hid (show ∀ (j : Nat) p, (L ++ [l3])[j]? = some p → p.length ≤ 100000 ∧ ∀ x ∈ p, ItOk R (k + 1) x from fun j p hj => by
        rcases get_push hj with ⟨hj, -⟩ | ⟨-, rfl⟩
        · exact ⟨(HSO.out j p hj).1, fun x hx => ((HSO.out j p hj).2 x hx).succ⟩
        · exact ⟨hl3, HOK3.out⟩)
      go_wp2_with fail
      refine (ccomplete_s wr base bf (k + 1) c0 c1 c2 AR nR cR R s3 (L ++ [l3]) l3 HF3.out HLL.out HLG.out hk2 hR H4.out HND3.out HOK3.out HSO3.out).mono ?_
      rintro e w9 ⟨l4, hC, rfl, s4, hF4, hM4⟩
      rw [append_set L l3 l4 HK.out.symm] at hF4
      have HF9 := Lib.hid hF4
      have HM9 := Lib.hid (HMV.out.trans ((HM3.out.trans hM4).cx (bf := bf)))
      have HC9 := Lib.hid hC
      clear hF4 hM4 hC
      go_wp2_with fail
      exact bodyPost_ret (v := .tuple #[]) (by simp [results, Tryz.results26, go_sem]) rfl ⟨l3, l4, s4, HG3.out, HC9.out, rfl, HF9.out, HM9.out⟩
end Go.Proofs.YtbfcnfgkccgbiaaGreatDoor



namespace Go.Proofs.YtbfcnfgkccgbiaaGreatDoor
open Go.RowKit

/-- the sets 0 .. k hold just the items that the definition gives -/
structure InvI (R : List Ru) (s : Nat) (w : List Nat) (k : Nat) (L : List (List It3)) : Prop where
  len : L.length = k + 1
  nd : ∀ (j : Nat) l, L[j]? = some l → l.Nodup
  ok : ∀ (j : Nat) l, L[j]? = some l → ∀ x ∈ l, ItOk R j x
  iff : ∀ (j : Nat) l, L[j]? = some l → ∀ x, x ∈ l ↔ EIt R s w j x
section
variable {R : List Ru} {s : Nat} {w : List Nat} {k : Nat} {L : List (List It3)}
theorem InvI.take (h : InvI R s w k L) {w' : List Nat} (hw : ∀ i, i < k → w'[i]? = w[i]?) : InvI R s w' k L :=
  ⟨h.len, h.nd, h.ok, fun j l hl x => (h.iff j l hl x).trans (EIt.take_iff (fun i hi => hw i (by have := (List.getElem?_eq_some_iff.1 hl).1; have := h.len; omega))).symm⟩
theorem InvI.start {l0 l' : List It3} (hg : Grew (PredI R 0 (false, s) R.length) [] l0) (hc : Cl R 0 (setI [l0]) l0 l') : InvI R s w 0 [l'] := by
  have key : ∀ x, x ∈ l' ↔ EIt R s w 0 x := by
    refine done_iff (S := setI [l0]) (fun j hj => absurd hj (Nat.not_lt_zero _)) ⟨fun _ r u hr hu => ?_, fun j hj => by omega⟩ hc.shut (hc.snd s w (fun j hj => absurd hj (Nat.not_lt_zero _)) fun x hx => ?_)
    · obtain ⟨m, hm⟩ := hc.pre
      rw [hm]
      exact List.mem_append_left _ (hg.all _ ⟨r, u, (List.getElem?_eq_some_iff.1 hr).1, hr, by rw [hu], rfl⟩)
    · rcases hg.src x hx with h | ⟨r, u, -, hr, hu, rfl⟩
      · cases h
      · exact .start r u hr (congrArg Prod.snd hu).symm
  have one : ∀ (j : Nat) l, [l'][j]? = some l → j = 0 ∧ l = l' := by
    intro j l hl
    cases j with
    | zero => exact ⟨rfl, by simpa using hl.symm⟩
    | succ j => simp at hl
  refine ⟨rfl, fun j l hl => ?_, fun j l hl => ?_, fun j l hl => ?_⟩ <;> obtain ⟨rfl, rfl⟩ := one j l hl
  · exact hc.nd
  · exact hc.ok
  · exact key
theorem InvI.next (h : InvI R s w k L) {l l0 l' : List It3} {t : Nat} (hl : L[k]? = some l) (ht : w[k]? = some t) (hg : Grew (ScanI R t l l.length) [] l0) (hc : Cl R (k + 1) (setI (L ++ [l0])) l0 l') : InvI R s w (k + 1) (L ++ [l']) := by
  have hlen := h.len
  have hS : Done R s w (setI (L ++ [l0])) (k + 1) := fun j hj x => by
    have hq : L[j]? = some (L[j]'(by omega)) := List.getElem?_eq_getElem (by omega)
    have e : setI (L ++ [l0]) j = L[j]'(by omega) := by
      unfold setI
      rw [List.getD_eq_getElem?_getD, List.getElem?_append_left (by omega), hq]; rfl
    rw [e]
    exact h.iff j _ hq x
  have key : ∀ x, x ∈ l' ↔ EIt R s w (k + 1) x := by
    refine done_iff hS ⟨fun e => by omega, fun j hj x t' hx hn hw' => ?_⟩ hc.shut (hc.snd s w hS fun x hx => ?_)
    · obtain rfl : j = k := by omega
      rw [ht] at hw'
      obtain rfl := Option.some.inj hw'
      obtain ⟨m, hm⟩ := hc.pre
      obtain ⟨i, hi⟩ := List.getElem?_of_mem ((h.iff _ l hl x).2 hx)
      rw [hm]
      exact List.mem_append_left _ (hg.all _ ⟨i, x, (List.getElem?_eq_some_iff.1 hi).1, hi, hn, rfl⟩)
    · rcases hg.src x hx with h' | ⟨i, y, -, hi, hn, rfl⟩
      · cases h'
      · exact .scan k y t ((h.iff k l hl y).1 (List.mem_of_getElem? hi)) hn ht
  refine ⟨by rw [List.length_append, hlen]; rfl, fun j m hm => ?_, fun j m hm => ?_, fun j m hm => ?_⟩ <;> rcases get_push hm with ⟨hm, hj⟩ | ⟨hj, hm⟩
  · exact h.nd j m hm
  · subst hm; exact hc.nd
  · exact h.ok j m hm
  · subst hm; rw [hj, hlen]; exact hc.ok
  · exact h.iff j m hm
  · subst hm; rw [hj, hlen]; exact key
theorem InvI.last (h : InvI R s w k L) : ∃ l, L[k]? = some l := ⟨_, List.getElem?_eq_getElem (by rw [h.len]; omega)⟩
theorem InvI.small (h : InvI R s w k L) (hk : k ≤ 100) (hR : R.length ≤ 32) (h4 : ∀ u ∈ R, u.2.length ≤ 4) (j : Nat) (m : List It3) (hm : L[j]? = some m) : m.length ≤ 100000 ∧ ∀ x ∈ m, ItOk R k x := by
  have hj := (List.getElem?_eq_some_iff.1 hm).1
  have := h.len
  exact ⟨lenI hR h4 (by omega) (h.nd j m hm) (h.ok j m hm), fun x hx => ⟨Nat.le_trans (h.ok j m hm x hx).1 (by omega), (h.ok j m hm x hx).2⟩⟩
/-- which terminals stand behind the positions of the first m items -/
def mayI (R : List Ru) (l : List It3) (n m : Nat) : List Bool := (List.range n).map fun t => (l.take m).any fun x => decide (nxtI R x = some (true, t))
theorem mayI_get {l : List It3} {n m t : Nat} (ht : t < n) : (mayI R l n m)[t]? = some ((l.take m).any fun x => decide (nxtI R x = some (true, t))) := by
  simp [mayI, ht]
open Classical in
/-- what may come next, as the definition says -/
noncomputable def mayB (R : List Ru) (s : Nat) (w : List Nat) (k t : Nat) : Bool := decide (MayE R s w k t)
theorem InvI.may (h : InvI R s w k L) {l : List It3} (hl : L[k]? = some l) {n t : Nat} (ht : t < n) : (mayI R l n l.length)[t]? = some (mayB R s w k t) := by
  rw [mayI_get ht, List.take_length]
  refine congrArg some (Bool.eq_iff_iff.2 ?_)
  unfold mayB
  rw [List.any_eq_true, @decide_eq_true_iff _ (Classical.propDecidable _)]
  constructor
  · rintro ⟨x, hx, hn⟩
    exact ⟨x, (h.iff k l hl x).1 hx, of_decide_eq_true hn⟩
  · rintro ⟨x, hx, hn⟩
    exact ⟨x, (h.iff k l hl x).2 hx, decide_eq_true hn⟩
end
end Go.Proofs.YtbfcnfgkccgbiaaGreatDoor



namespace Go.Proofs.YtbfcnfgkccgbiaaGreatDoor
open Go.RowKit

theorem ChF.none (b : Nat) : ChF (.slice none 0 0, [], .slice none 0 0, []) b := ⟨⟨fun e => (by cases e), fun j h hj => (by simp at hj)⟩, fun e => (by cases e), fun j b' hj => by simp at hj⟩
theorem Sets.none (e ti : TypeId) (w : World) (base : Nat) : Sets e ti w base (.slice none 0 0) [] [] :=
  ⟨Own.nil _ _, rfl, fun j h l hj => by simp at hj, fun j j' h h' b _ hj => by simp at hj, fun j h b hj => by simp at hj⟩
theorem ChM.start {w : World} {base bf : Nat} {c0 c1 c2 : Value} {AR : Option Addr} {nR cR : Nat} {R : List Ru} (hb : Blk w bf 79 #[c0, c1, c2, .slice AR nR cR, .slice none 0 0, .slice none 0 0]) (hr : Sl RuE (fun b => b < base) w AR nR cR R) (hbase : base ≤ w.heap.size) :
    ChM w base bf c0 c1 c2 AR nR cR R (.slice none 0 0) [] (.slice none 0 0) [] [] :=
  ⟨hb, hr, Sets.none _ _ _ _, Own.nil _ _, fun j b l hj => by simp at hj, fun j j' b _ hj => by simp at hj, fun j b hj => by simp at hj, fun b hb => (by cases hb), ChF.none bf, hbase⟩
def StartP (g : Gr) (Ag : Option Addr) (ng cg : Nat) (w : World) (e : Ending) (w' : World) : Prop :=
  ∃ (bf : Nat) (s : ChSt) (l : List It3), e = .returned (.pointer (some ⟨bf, 0, none⟩)) ∧ w.heap.size ≤ bf ∧ ChS w' w.heap.size bf (.int .i64 (g.terms : Int)) (.int .i64 (g.nons : Int)) (.int .i64 (g.start : Int)) Ag ng cg g.rules s [l] ∧ (∀ x, InvI g.rules g.start x 0 [l]) ∧ Below w.heap.size w w'
set_option maxRecDepth 100000 in
set_option maxHeartbeats 2000000 in
theorem Start_c (ok : Nat → Prop) (g : Gr) (Ag : Option Addr) (ng cg : Nat) (w : World) (hl : Sl RuE ok w Ag ng cg g.rules) (hR : g.rules.length ≤ 32) (h4 : ∀ u ∈ g.rules, u.2.length ≤ 4) :
    Calls Tryz.prog 25 #[grVal g Ag ng cg] w (StartP g Ag ng cg w) := by
  have hng : g.rules.length = ng := hl.len
  obtain ⟨O1, hO1⟩ : ∃ O, O = Obj.cells #[.int .i64 (g.terms : Int), .int .i64 (g.nons : Int), .int .i64 (g.start : Int), .slice Ag ng cg] 24 := ⟨_, rfl⟩
  obtain ⟨O2, hO2⟩ : ∃ O, O = Obj.cells #[.int .i64 (g.terms : Int), .int .i64 (g.nons : Int), .int .i64 (g.start : Int), .slice Ag ng cg, .slice none 0 0, .slice none 0 0] 79 := ⟨_, rfl⟩
  have hB0 := (Below.refl w.heap.size w).al O1
  have hB := hB0.al O2
  have B1 := (Blk.new w 24 #[.int .i64 (g.terms : Int), .int .i64 (g.nons : Int), .int .i64 (g.start : Int), .slice Ag ng cg])
  rw [← hO1] at B1
  have B2 := Blk.newAt (w.alloc O1) 79 #[.int .i64 (g.terms : Int), .int .i64 (g.nons : Int), .int .i64 (g.start : Int), .slice Ag ng cg, .slice none 0 0, .slice none 0 0] (w.heap.size + 1) (by simp)
  rw [← hO2] at B2
  have HL := Lib.hid ((hl.mono (ok' := fun b => b < w.heap.size) fun b hb _ => hb).via hB)
  have HB := Lib.hid hB
  have HBX := Lib.hid (B1.al O2)
  have HBF := Lib.hid B2
  have H4 := Lib.hid h4
  have hW : ((w.alloc O1).alloc O2).heap.size = w.heap.size + 2 := by simp
  simp only [grVal]
  clear hl hB hB0 h4 B2
  subst hO1
  go_enter Tryz.func25, Tryz.ntmps25
  have cB1 := B1.cell
  have fB1 := B1.frozen
  have lB1 := B1.lt
  go_upto_region 2 with fail
  clear cB1 fB1 lB1
  clear B1
  subst hO2
  generalize (w.alloc (.cells #[.int .i64 (g.terms : Int), .int .i64 (g.nons : Int), .int .i64 (g.start : Int), .slice Ag ng cg] 24)).alloc (.cells #[.int .i64 (g.terms : Int), .int .i64 (g.nons : Int), .int .i64 (g.start : Int), .slice Ag ng cg, .slice none 0 0, .slice none 0 0] 79) = W at *
  have HF0 := Lib.hid (ChM.start HBF.out HL.out (by omega))
  clear HBF HL
  go_wp2_with fail
  refine (set_c W w.heap.size (w.heap.size + 1) _ _ _ Ag ng cg g.rules (.slice none 0 0) [] (.slice none 0 0) [] [] HF0.out (by omega) (by simp)).mono ?_
  rintro e w1 ⟨rfl, v1, vm1, bm1, hF, hM⟩
  simp only [List.nil_append] at hF hM
  have HF1 := Lib.hid hF
  have HM1 := Lib.hid hM
  have BX1 := hM.blk (i := true) HBX.out ⟨ChF.none _, by omega⟩
  have HBX1 := Lib.hid BX1
  clear hF hM HF0 HBX
  have cBX1 := BX1.cell
  have fBX1 := BX1.frozen
  have lBX1 := BX1.lt
  go_wp2_with fail
  clear cBX1 fBX1 lBX1
  clear BX1
  refine (gN_c _ _).mono ?_
  rintro e w2 ⟨rfl, hb2⟩
  have HF2 := Lib.hid (HF1.out.via hb2)
  have HM2 := Lib.hid (HM1.out.via hb2)
  clear hb2 HF1 HM1
  go_wp2_with fail
  refine (cpredict_s HF2.out 0 [] rfl rfl (by omega) hR H4.out List.nodup_nil (fun x h => by cases h) false g.start).mono ?_
  rintro e w3 ⟨l0, hG, rfl, s3, hF3, hM3⟩
  have HG := Lib.hid (show Grew (PredI g.rules 0 (false, g.start) g.rules.length) [] l0 from by rw [hng]; exact hG)
  have HF3 := Lib.hid (show ChS w3 w.heap.size (w.heap.size + 1) _ _ _ Ag ng cg g.rules s3 [l0] from hF3)
  have HM3 := Lib.hid (HM2.out.trans (hM3.cx (bf := w.heap.size + 1)))
  clear hG hF3 hM3 HF2 HM2
  have HND := Lib.hid (HG.out.nd List.nodup_nil)
  have HOK := Lib.hid (show ∀ x ∈ l0, ItOk g.rules 0 x from fun x hx => (HG.out.src x hx).elim (fun h => by cases h) (fun h => h.ok))
  have HSO := Lib.hid (show ∀ (j : Nat) m, [l0][j]? = some m → m.length ≤ 100000 ∧ ∀ x ∈ m, ItOk g.rules 0 x from fun j m hj => by
    cases j with
    | zero =>
      obtain rfl : l0 = m := by simpa using hj
      exact ⟨lenI hR H4.out (by omega) HND.out HOK.out, HOK.out⟩
    | succ j => simp at hj)
  go_wp2_with fail
  refine (ccomplete_s w3 w.heap.size (w.heap.size + 1) 0 _ _ _ Ag ng cg g.rules s3 [l0] l0 HF3.out rfl rfl (by omega) hR H4.out HND.out HOK.out HSO.out).mono ?_
  rintro e w4 ⟨l4, hC, rfl, s4, hF4, hM4⟩
  have HF4 := Lib.hid (show ChS w4 w.heap.size (w.heap.size + 1) _ _ _ Ag ng cg g.rules s4 [l4] from hF4)
  have HM4 := Lib.hid (HM3.out.trans (hM4.cx (bf := w.heap.size + 1)))
  have HI := Lib.hid (fun x => InvI.start (w := x) HG.out hC)
  clear hC hF4 hM4
  go_wp2_with fail
  refine bodyPost_ret (v := .pointer (some ⟨w.heap.size + 1, 0, none⟩)) (by simp [results, Tryz.results25, go_sem]) rfl ?_
  exact ⟨_, s4, l4, rfl, by omega, HF4.out, HI.out, HB.out.trans (HM4.out.below (i := true) (fun b hb => ⟨ChF.none _, by omega⟩) (by omega))⟩
end Go.Proofs.YtbfcnfgkccgbiaaGreatDoor





namespace Go.Proofs.YtbfcnfgkccgbiaaGreatDoor
open Go.RowKit

theorem eits_info : (Tryz.prog.info? 43).map (fun i => (i.zero, i.size, i.bytes)) = some (some (.slice none 0 0), 1, 24) := by kernel_rfl
theorem wpList_append_eir {ops : Array Oper} {rest : List Oper} {o : Oper} {a : Act} {Q : Exit → Act → World → Prop} (w : World) (hgd : o.guard = none) (s y : Operand)
    (ho : o.op = .call { callee := .builtin .append, args := #[s, y], argTypes := #[28, 28] })
    (ok : Nat → Prop) (base : Nat) (v : Value) (n : Nat) (l : List (List It3)) (hv : a.eval s = v) (hown : Own RwI 43 ok w base v n l)
    (b : Nat) (x : SlV) (xs : List It3) (hy : a.eval y = .slice (some ⟨b, 0, none⟩) 1 1) (hcell : w.cell? ⟨b, 0, none⟩ = some (.slice x.1 x.2.1 x.2.2)) (hrel : Sl It3E (fun b => ok b ∧ some b ≠ v.ownBlock) w x.1 x.2.1 x.2.2 xs)
    (h63 : n + 1 ≤ 1000000) (hbase : base ≤ w.heap.size)
    (h : ∀ A' c' w', Own RwI 43 ok w' base (.slice A' (n + 1) c') (n + 1) (l ++ [xs]) → w.grownBy w' v.ownBlock → ((Value.slice A' (n + 1) c').ownBlock = v.ownBlock ∨ (Value.slice A' (n + 1) c').ownBlock = some w.heap.size) → wpList Tryz.prog ops Q rest (a.put o.dst (.slice A' (n + 1) c')) w') : wpList Tryz.prog ops Q (o :: rest) a w := by
  obtain ⟨i, hi, hz⟩ := Option.map_eq_some_iff.1 eits_info
  simp only [Prod.mk.injEq] at hz
  refine wpList_append_E (E := RwI) w hgd s y 28 43 ho i (.slice none 0 0) 24 (by kernel_rfl) hi hz.1 hz.2.1 hz.2.2 rfl ok base v n l hv hown b x xs hy (fun j u hu => ?_) hrel (by simp [maxLen]; omega) (by omega) hbase h
  cases j with
  | zero => simp [RwI] at hu; subst hu; exact hcell
  | succ j => simp [RwI] at hu
theorem sets_e (ok : Nat → Prop) (T N S : Int) (A : Option Addr) (n c : Nat) (rs : List Ri) (wA : Option Addr) (wn wc : Nat) (xs : List Int) (w : World) (hl : Sl RiE ok w A n c rs) (hx : Ints w wA wn wc xs) (q : Int) (hq : chkB T N S rs xs = q) (hbad : q ≠ 0) :
    Calls Tryz.prog 6 #[.agg #[.int .i64 T, .int .i64 N, .int .i64 S, .slice A n c], .slice wA wn wc] w fun e w' => e = .returned (.tuple #[.slice none 0 0, .int .i64 q]) ∧ Below w.heap.size w w' := by
  have hal := (Below.refl w.heap.size w).al (.cells #[.int .i64 T, .int .i64 N, .int .i64 S, .slice A n c] 24)
  have B0 := Blk.new w 24 #[.int .i64 T, .int .i64 N, .int .i64 S, .slice A n c]
  have HC := Lib.hid (accepts_e ok T N S A n c rs wA wn wc xs _ (hl.via hal) (hx.keep hal (Nat.le_refl _)) q hq hbad)
  have HAL := Lib.hid hal
  have hq1 : (q != 0) = true := by simpa using hbad
  clear hl hx hq hal
  go_enter Tryz.func6, Tryz.ntmps6
  have cB0 := B0.cell
  have fB0 := B0.frozen
  have lB0 := B0.lt
  go_wp2_with fail
  clear cB0 fB0 lB0
  clear B0
  refine HC.out.mono ?_
  clear HC
  rintro e w1 ⟨rfl, hb⟩
  have HB := Lib.hid (HAL.out.via hb)
  clear hb HAL
  go_wp2_with fail
  exact bodyPost_ret (v := .tuple #[.slice none 0 0, .int .i64 q]) (by simp [results, Tryz.results6, go_sem]) rfl ⟨rfl, HB.out⟩
def ESetsP (R : List Ru) (s : Nat) (xw : List Nat) (n : Nat) (w : World) (e : Ending) (w' : World) : Prop :=
  ∃ (A : Option Addr) (c : Nat) (LL : List (List It3)), e = .returned (.tuple #[.slice A (n + 1) c, .int .i64 0]) ∧ Sl RwI (fun b => w.heap.size ≤ b) w' A (n + 1) c LL ∧ SrtI R s xw n LL ∧ Below w.heap.size w w'
set_option maxRecDepth 100000 in
set_option maxHeartbeats 8000000 in
theorem sets_c (ok : Nat → Prop) (g : Gr) (Ag : Option Addr) (ng cg : Nat) (A : Option Addr) (n c : Nat) (xs : List Int) (xw : List Nat) (w : World) (hg : GrOk g) (hl : Sl RuE ok w Ag ng cg g.rules) (hx : Ints w A n c xs) (hn : n ≤ 12) (hxt : ∀ x ∈ xs, 0 ≤ x ∧ x < (g.terms : Int)) (hT : TabW w) (hxw : ∀ (i t : Nat), xs[i]? = some (t : Int) ↔ xw[i]? = some t) :
    Calls Tryz.prog 6 #[grVal g Ag ng cg, .slice A n c] w (ESetsP g.rules g.start xw n w) := by
  have hal := (Below.refl w.heap.size w).al (.cells #[.int .i64 (g.terms : Int), .int .i64 (g.nons : Int), .int .i64 (g.start : Int), .slice Ag ng cg] 24)
  have B0 := Blk.new w 24 #[.int .i64 (g.terms : Int), .int .i64 (g.nons : Int), .int .i64 (g.start : Int), .slice Ag ng cg]
  have HC := Lib.hid (accepts_c ok g Ag ng cg A n c xs _ hg (hl.via hal) (hx.keep hal (Nat.le_refl _)) hn hxt (hT.via hal))
  have HL := Lib.hid (hl.via hal)
  have HX := Lib.hid (hx.keep hal (Nat.le_refl _))
  have HXT := Lib.hid hxt
  have HXW := Lib.hid hxw
  have HAL := Lib.hid hal
  have HB0 := Lib.hid B0
  have hR : g.rules.length ≤ 32 := hg.ok.count
  have H4 := Lib.hid (show ∀ u ∈ g.rules, u.2.length ≤ 4 from fun u hu => (hg.ok.right u hu).1)
  have hxl := hx.len
  simp only [grVal] at HC ⊢
  clear hl hx hal hxt hT hxw hg
  go_enter Tryz.func6, Tryz.ntmps6
  have cB0 := B0.cell
  have fB0 := B0.frozen
  have lB0 := B0.lt
  go_wp2_with fail
  clear cB0 fB0 lB0
  clear B0
  generalize w.alloc (.cells #[.int .i64 (g.terms : Int), .int .i64 (g.nons : Int), .int .i64 (g.start : Int), .slice Ag ng cg] 24) = W at *
  refine HC.out.mono ?_
  clear HC
  rintro e w1 ⟨b1, rfl, -, hb1⟩
  have HB1 := Lib.hid hb1
  have B1 := HB0.out.via hb1
  have hst := Start_c ok g Ag ng cg w1 (HL.out.via hb1) hR H4.out
  simp only [grVal] at hst
  clear hb1 HB0
  have cB1 := B1.cell
  have fB1 := B1.frozen
  have lB1 := B1.lt
  go_wp2_with fail
  clear cB1 fB1 lB1
  clear B1
  refine hst.mono ?_
  clear hst
  rintro e w2 ⟨bf, s0, l0, rfl, hbf, hCH, hI, hb2⟩
  have HCH := Lib.hid hCH
  have HI0 := Lib.hid (hI xw)
  have HB2 := Lib.hid (HB1.out.trans (hb2.mono HB1.out.size))
  have HX2 := Lib.hid (HX.out.via HB2.out)
  have HSZ1 := Lib.hid (show w.heap.size ≤ w1.heap.size from Nat.le_trans HAL.out.size HB1.out.size)
  have HWS := Lib.hid (show W.heap.size ≤ w1.heap.size from HB1.out.size)
  clear hCH hI hb2
  generalize w1.heap.size = B at *
  dsimp only
  go_wp2_with fail
  go_loopw [27] (fun q wr => ∃ (k : Nat) (s : ChSt) (L : List (List It3)), q = .int .i64 (k : Int) ∧ k ≤ n ∧ Hid (ChS wr B bf (.int .i64 (g.terms : Int)) (.int .i64 (g.nons : Int)) (.int .i64 (g.start : Int)) Ag ng cg g.rules s L ∧ InvI g.rules g.start xw k L) ∧ Hid (Below B w2 wr)) (fun q _ => n - (intOf q).toNat)
  case atStart => exact ⟨0, s0, [l0], rfl, Nat.zero_le _, Lib.hid ⟨HCH.out, HI0.out⟩, Lib.hid (Below.refl _ _)⟩
  case round =>
    obtain ⟨k, s, L, rfl, hk, HQ, HBW⟩ := hrel
    clear HCH HI0
    by_cases hkn : k < n
    · as_aux_lemma =>
      obtain ⟨l, hl⟩ := HQ.out.2.last
      have HLL := Lib.hid hl
      have HSM := Lib.hid (HQ.out.2.small (by omega) hR H4.out)
      have hxk : xs[k]? = some xs[k] := List.getElem?_eq_getElem (by omega)
      obtain ⟨t, ht⟩ : ∃ t : Nat, xs[k] = (t : Int) := ⟨xs[k].toNat, by have := (HXT.out _ (List.getElem_mem (show k < xs.length by omega))).1; omega⟩
      rw [ht] at hxk
      have HWT := Lib.hid ((HXW.out k t).1 hxk)
      obtain ⟨b4, o4, hA4, hb4, hc4⟩ := (HX.out.via (HB2.out.trans (HBW.out.mono HWS.out))).at_ hkn
      subst hA4
      rw [List.getD_eq_getElem?_getD, hxk] at hc4
      simp only [Option.getD_some] at hc4
      have k0 : (0 : Int) ≤ (k : Int) := by omega
      have k1 : (k : Int) < (n : Int) := by omega
      clear hl hxk ht
      go_wp2_with fail
      clear hc4
      refine (put_s wr B bf k _ _ _ Ag ng cg g.rules s L l t HQ.out.1 hbf HQ.out.2.len HLL.out (by omega) hR H4.out HSM.out).mono ?_
      rintro e w4 ⟨l1, l', s', hG, hC, rfl, hCH2, hM⟩
      have HC2 := Lib.hid hCH2
      have HI2 := Lib.hid (HQ.out.2.next HLL.out HWT.out hG hC)
      have HB4 := Lib.hid (hM.below (i := true) (fun b hb => ⟨ChM.no_of HQ.out.1 (Or.inl hb), by omega⟩) (ChS.bs HQ.out.1))
      clear hG hC hCH2 hM
      go_wp2_with fail
      exact ⟨⟨k + 1, s', L ++ [l'], by go_num, by omega, Lib.hid ⟨HC2.out, HI2.out⟩, Lib.hid (HBW.out.trans HB4.out)⟩, by simp [intOf]; omega⟩
    · obtain rfl : n = k := by omega
      as_aux_lemma =>
      have HLN := Lib.hid HQ.out.2.len
      obtain ⟨gb, d, qA0, qc0, hv0, -, -, -⟩ := ChS.hdr2 HQ.out.1 (k := 0) (List.getElem?_eq_getElem (show 0 < L.length by rw [HLN.out]; omega))
      have f5 := ChS.cv HQ.out.1
      rw [hv0, HLN.out] at f5
      have HV0 := Lib.hid hv0
      have HSM := Lib.hid (HQ.out.2.small (by omega) hR H4.out)
      have HBE := Lib.hid (show Below w.heap.size w wr from (HAL.out.trans (HB2.out.mono HAL.out.size)).trans (HBW.out.mono HSZ1.out))
      clear hv0 hkn hk HX HX2 HXT HL HB1 HB2 HBW
      go_upto_region 11 with fail
      go_wp2_with fail
      clear f5
      generalize hV : wr = V at *
      clear hV
      go_loopw [11, 40] (fun v q wr => ∃ (k : Nat) (vA : Option Addr) (vc : Nat) (LL : List (List It3)), q = .int .i64 (k : Int) ∧ v = .slice vA k vc ∧ k ≤ n + 1 ∧ Hid (Own RwI 43 (fun b => V.heap.size ≤ b) wr V.heap.size (.slice vA k vc) k LL ∧ ∀ (j : Nat) l', LL[j]? = some l' → (l'.Pairwise fun a b => itCmp a b ≤ 0) ∧ ∃ l, L[j]? = some l ∧ l'.Perm l) ∧ Hid (Below V.heap.size V wr)) (fun _ q _ => n + 1 - (intOf q).toNat)
      case atStart => exact ⟨0, none, 0, [], rfl, rfl, Nat.zero_le _, Lib.hid ⟨Own.nil _ _, fun j l' h => by simp at h⟩, Lib.hid (Below.refl _ _)⟩
      case round =>
        obtain ⟨k, vA, vc, LL, rfl, rfl, hk, HO, HBV⟩ := hrel
        by_cases hkn : k < n + 1
        · as_aux_lemma =>
          obtain ⟨l, hkl⟩ : ∃ l, L[k]? = some l := ⟨_, List.getElem?_eq_getElem (show k < L.length by rw [HLN.out]; omega)⟩
          have HKL := Lib.hid hkl
          obtain ⟨gb', d', qA, qc, hv', -, hcl, hown⟩ := ChS.hdr2 (ChS.via HQ.out.1 HBV.out) hkl
          obtain ⟨rfl, rfl⟩ : gb' = gb ∧ d' = d := by
            rw [HV0.out] at hv'
            injection hv' with h1 _ h3
            injection h1 with h1
            injection h1 with h1 _ _
            exact ⟨h1.symm, h3.symm⟩
          have hll := (HSM.out k l hkl).1
          have HSL := Lib.hid (hown.toSl (ok' := fun _ => True) (fun _ _ _ => trivial) (fun _ _ => trivial))
          have k0 : (0 : Int) ≤ (k : Int) := by omega
          have k1 : (k : Int) < (n : Int) + 1 := by omega
          clear hkl hv' hown
          go_wp2_with fail
          clear hcl
          refine (cloneEi_c (fun _ => True) qA l.length qc l wr HSL.out (by omega)).mono ?_
          rintro e w5 ⟨cA, cc, rfl, hown5, hb5⟩
          have HOC := Lib.hid (hown5.mono (ok' := fun b => b < wr.heap.size) fun _ _ h => h)
          have HB5 := Lib.hid hb5
          clear hown5 hb5
          dsimp only
          go_wp2_with fail
          refine (sortEI_c (fun b => b < wr.heap.size) w5 wr.heap.size l.length cA cc l (by omega) HOC.out).mono ?_
          rintro e w6 ⟨rfl, l', hperm, hsort, hown6, hbel, hagr, hsz⟩
          have hl' : l'.length = l.length := hperm.length_eq
          have HSO := Lib.hid hsort
          have HPE := Lib.hid hperm
          have hb6 : Below wr.heap.size wr w6 := HB5.out.trans hbel
          have HB6 := Lib.hid hb6
          have hoo := HO.out.1.via hb6
          have hown7 : Own It3E 47 (fun _ => False) w6 wr.heap.size (.slice cA l.length cc) l.length l' := by
            obtain ⟨h1, raw, h3, h4, h5⟩ := hown6
            exact ⟨h1, raw, h3, h4, fun i r x hr hx => h5 i r x hr hx⟩
          have HSR := Lib.hid (hown7.toSl (ok' := fun b => wr.heap.size ≤ b) (fun _ _ h => h.elim) (fun b hb => hb))
          clear hperm hsort hown6 hbel hagr hsz hb6 hown7
          have hal := (Below.refl w6.heap.size w6).al (.cells #[.slice cA l.length cc] 43)
          have HOW := Lib.hid (hoo.via hal)
          have HREL := Lib.hid (show Sl It3E (fun b => V.heap.size ≤ b ∧ some b ≠ (Value.slice vA k vc).ownBlock) (w6.alloc (.cells #[.slice cA l.length cc] 43)) cA l.length cc l' from (HSR.out.via hal).mono fun b _ hb => ⟨Nat.le_trans HBV.out.size hb, fun e => by have := (HO.out.1.lt b e.symm).2; omega⟩)
          have HCE := Lib.hid (show (w6.alloc (.cells #[.slice cA l.length cc] 43)).cell? ⟨w6.heap.size, 0, none⟩ = some (.slice cA l.length cc) by rw [World.cell?_alloc_new]; rfl)
          have HBB := Lib.hid (((HBV.out.trans (HB6.out.mono HBV.out.size))).al (.cells #[.slice cA l.length cc] 43))
          have HSZ := Lib.hid (show V.heap.size ≤ (w6.alloc (.cells #[.slice cA l.length cc] 43)).heap.size from HBB.out.size)
          clear hal hoo
          dsimp only
          go_wp2_with (at_builtin; refine wpList_append_eir _ rfl (.tmp 48) (.tmp 50) rfl (fun b => V.heap.size ≤ b) V.heap.size (.slice vA k vc) k LL rfl HOW.out w6.heap.size (cA, l.length, cc) l' rfl HCE.out HREL.out (by omega) HSZ.out ?_)
          intro A7 c7 w7 ho7 hg7 hat7
          go_wp2_with fail
          refine ⟨⟨k + 1, A7, c7, LL ++ [l'], by go_num, rfl, by omega, Lib.hid ⟨ho7, fun j m hm => ?_⟩, Lib.hid (HBB.out.grown hg7 HSZ.out (fun b hb => (HOW.out.lt b hb).1))⟩, by simp [intOf]; omega⟩
          rcases Nat.lt_or_ge j LL.length with hj | hj
          · rw [List.getElem?_append_left hj] at hm
            exact HO.out.2 j m hm
          · rw [List.getElem?_append_right hj] at hm
            have hj0 : j - LL.length = 0 := by
              have := (List.getElem?_eq_some_iff.1 hm).1
              simp at this; omega
            rw [hj0] at hm
            have hjk : j = k := by have := HO.out.1.len; omega
            obtain rfl : l' = m := by simpa using hm
            rw [hjk]
            exact ⟨HSO.out, l, HKL.out, HPE.out⟩
        · obtain rfl : k = n + 1 := by omega
          have HSR := Lib.hid (HO.out.1.toSl (ok' := fun b => w.heap.size ≤ b) (fun b _ hb => Nat.le_trans HBE.out.size hb) (fun b hb => Nat.le_trans HBE.out.size hb))
          go_wp2_with fail
          refine bodyPost_ret (v := .tuple #[.slice vA (n + 1) vc, .int .i64 0]) (by simp [results, Tryz.results6, go_sem]) rfl ⟨vA, vc, LL, rfl, HSR.out, ⟨HO.out.1.len, fun j l' h => (HO.out.2 j l' h).1, fun j l' h => ?_, fun j l' h x => ?_⟩, HBE.out.trans (HBV.out.mono HBE.out.size)⟩
          · obtain ⟨-, l, hl, hp⟩ := HO.out.2 j l' h
            exact hp.nodup_iff.2 (HQ.out.2.nd j l hl)
          · obtain ⟨-, l, hl, hp⟩ := HO.out.2 j l' h
            rw [hp.mem_iff]; exact HQ.out.2.iff j l hl x
end Go.Proofs.YtbfcnfgkccgbiaaGreatDoor

