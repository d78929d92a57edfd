/- Texts PV, laid together. -/
import Derived.Test.YtdmecijpioljaaaPU


namespace Go.Proofs.Ytdmecijpioljaaa
open Go.RowKit

theorem wpList_append_hrow {ops : Array Oper} {rest : List Oper} {o : Oper} {a : Act} {Q : Exit → Act → World → Prop} (w : World) (hgd : o.guard = none) (s y : Operand)
    (ho : o.op = .call { callee := .builtin .append, args := #[s, y], argTypes := #[57, 57] })
    (base : Nat) (v : Value) (n : Nat) (l : List SlV) (hv : a.eval s = v) (hown : Own SlE 66 (fun _ => False) w base v n l)
    (b : Nat) (x : SlV) (hy : a.eval y = .slice (some ⟨b, 0, none⟩) 1 1) (hcell : Blk w b 66 #[slV x])
    (h63 : n + 1 ≤ 1000000) (hbase : base ≤ w.heap.size)
    (h : ∀ A' c' w', Own SlE 66 (fun _ => False) w' base (.slice A' (n + 1) c') (n + 1) (l ++ [x]) → w.grownBy w' v.ownBlock → ((Value.slice A' (n + 1) c').ownBlock = v.ownBlock ∨ (Value.slice A' (n + 1) c').ownBlock = some w.heap.size) → wpList Try.prog ops Q rest (a.put o.dst (.slice A' (n + 1) c')) w') : wpList Try.prog ops Q (o :: rest) a w := by
  have hinf : (Try.prog.info? 66).map (fun i => (i.zero, i.size, i.bytes)) = some (some (.slice none 0 0), 1, 24) := by kernel_rfl
  obtain ⟨i, hi, hz⟩ := Option.map_eq_some_iff.1 hinf
  simp only [Prod.mk.injEq] at hz
  refine wpList_append_E (E := SlE) w hgd s y 57 66 ho i (.slice none 0 0) 24 (by kernel_rfl) hi hz.1 hz.2.1 hz.2.2 rfl (fun _ => False) base v n l hv hown b x x hy (fun j u hu => ?_) rfl (by simp [maxLen]; omega) (by omega) hbase h
  rw [hcell.cell j]
  rw [List.getElem?_toArray]; exact hu
theorem Sets.hdr2 {e ti : TypeId} {w : World} {base k : Nat} {v : Value} {hs : List SlV} {L : List (List It3)} {l : List It3} (h : Sets e ti w base v hs L) (hl : L[k]? = some l) : ∃ gb d qA qc, v = .slice (some ⟨gb, 0, none⟩) L.length d ∧ hs[k]? = some ((qA, l.length, qc) : SlV) ∧ w.cell? ⟨gb, k, none⟩ = some (.slice qA l.length qc) ∧ Own It3E ti (fun _ => False) w base (.slice qA l.length qc) l.length l := by
  have hsl := h.len
  have hkl := (List.getElem?_eq_some_iff.1 hl).1
  obtain ⟨qA, qn, qc, hq⟩ : ∃ qA qn qc, hs[k]? = some ((qA, qn, qc) : SlV) := ⟨_, _, _, List.getElem?_eq_getElem (by omega)⟩
  have hit := h.items k _ l hq hl
  obtain ⟨A', c', e', -⟩ := hit.form
  simp only [slV, Value.slice.injEq] at e'
  obtain ⟨rfl, rfl, rfl⟩ := e'
  obtain ⟨gb, c, hv, -, -, hcell, -⟩ := h.cell hq
  exact ⟨gb, c, qA, qc, hv, hq, hcell, hit⟩
theorem FolS.hdr2 {w : World} {base bf k : Nat} {c0 c1 c2 : Value} {AR : Option Addr} {nR cR : Nat} {R : List Ru} {s : Value × List SlV} {L : List (List It3)} {l : List It3} (h : FolS w base bf c0 c1 c2 AR nR cR R s L) (hl : L[k]? = some l) : ∃ gb d qA qc, s.1 = .slice (some ⟨gb, 0, none⟩) L.length d ∧ s.2[k]? = some ((qA, l.length, qc) : SlV) ∧ w.cell? ⟨gb, k, none⟩ = some (.slice qA l.length qc) ∧ Own It3E 68 (fun _ => False) w base (.slice qA l.length qc) l.length l := (FolM.sets h).hdr2 hl
theorem ChS.hdr2 {w : World} {base bf k : Nat} {c0 c1 c2 : Value} {AR : Option Addr} {nR cR : Nat} {R : List Ru} {s : ChSt} {L : List (List It3)} {l : List It3} (h : ChS w base bf c0 c1 c2 AR nR cR R s L) (hl : L[k]? = some l) : ∃ gb d qA qc, s.1 = .slice (some ⟨gb, 0, none⟩) L.length d ∧ s.2.1[k]? = some ((qA, l.length, qc) : SlV) ∧ w.cell? ⟨gb, k, none⟩ = some (.slice qA l.length qc) ∧ Own It3E 111 (fun _ => False) w base (.slice qA l.length qc) l.length l := (ChM.sets h).hdr2 hl
def ScanP (k t : Nat) (l : List It3) (w : World) (base bf : Nat) (c0 c1 c2 : Value) (AR : Option Addr) (nR cR : Nat) (R : List Ru) (s : Value × List SlV) (L : List (List It3)) (e : Ending) (w' : World) : Prop :=
  ∃ l0 l' s', Grew (ScanI R t l l.length) [] l0 ∧ Cl R (k + 1) (setI (L ++ [l0])) l0 l' ∧ e = .returned (.tuple #[]) ∧ FolS w' base bf c0 c1 c2 AR nR cR R s' (L ++ [l']) ∧ Mov (FolX bf s) (FolX bf s') w w'
set_option maxRecDepth 100000 in
set_option maxHeartbeats 4000000 in
theorem scan_s (w : World) (base bf k : Nat) (c0 c1 c2 : Value) (AR : Option Addr) (nR cR : Nat) (R : List Ru) (s : Value × List SlV) (L : List (List It3)) (l : List It3) (t : Nat) (h : FolS w base bf c0 c1 c2 AR nR cR R s L) (hbf : base ≤ bf) (hk : L.length = k + 1) (hl : L[k]? = some l) (hk2 : k + 1 ≤ 100) (hR : R.length ≤ 32) (h4 : ∀ u ∈ R, u.2.length ≤ 4) (hSo : ∀ (j : Nat) m, L[j]? = some m → m.length ≤ 100000 ∧ ∀ x ∈ m, ItOk R k x) :
    Calls Try.prog 26 #[.pointer (some ⟨bf, 0, none⟩), .agg #[.bool true, .int .i64 (t : Int)]] w (ScanP k t l w base bf c0 c1 c2 AR nR cR R s L) := by
  have hL0 : L ≠ [] := fun e => by rw [e] at hk; cases hk
  have HF0 := Lib.hid h
  have HBF := Lib.hid hbf
  have HK := Lib.hid hk
  have HL := Lib.hid hl
  have H4 := Lib.hid h4
  have HSO := Lib.hid hSo
  have HOK := Lib.hid ((hSo k l hl).2)
  have hll : l.length ≤ 100000 := (hSo k l hl).1
  have H1000 := Lib.hid (show ∀ u ∈ R, u.2.length ≤ 1000 from fun u hu => Nat.le_trans (h4 u hu) (by omega))
  obtain ⟨gb, d, qA, qc, hv, hq, g0, hown⟩ := h.hdr2 hl
  have f4 := h.cv
  rw [hv, hk] at f4
  have e1 : ((k + 1 : Nat) : Int) - 1 = (k : Int) := by omega
  have i0 : (0 : Int) ≤ (k : Int) := by omega
  have i1 : (k : Int) < ((k : Int) + 1) := by omega
  have hgl : gb < w.heap.size := World.block_lt_of_cell? w _ g0
  have hbl : bf < w.heap.size := h.lt
  have HV := Lib.hid hv
  have HQ := Lib.hid hq
  clear h hk hl h4 hSo hown hv hq hbf
  have hal := (Below.refl w.heap.size w).al (.cells #[.bool true, .int .i64 (t : Int)] 45)
  have HB0 := Lib.hid (Blk.new w 45 #[.bool true, .int .i64 (t : Int)])
  have HAL := Lib.hid hal
  replace f4 := (hal.cell (p := ⟨bf, 4, none⟩) hbl).trans f4
  replace g0 := (hal.cell (p := ⟨gb, k, none⟩) hgl).trans g0
  clear hal
  go_enter Try.func26, Try.ntmps26
  go_upto_region 1 with fail
  have hwW : w.heap.size < (w.alloc (.cells #[.bool true, .int .i64 (t : Int)] 45)).heap.size := by simp
  generalize w.alloc (.cells #[.bool true, .int .i64 (t : Int)] 45) = W at *
  go_quiet (fail)
  have hdn := below_drewN (Below.refl W.heap.size W) nq
  have HDN := Lib.hid (HAL.out.trans (hdn.mono (by omega)))
  replace f4 := (hdn.cell (p := ⟨bf, 4, none⟩) (by simp only; omega)).trans f4
  have HB1 := Lib.hid (HB0.out.via hdn)
  have hsz1 : w.heap.size < (W.drewN nq).heap.size := Nat.lt_of_lt_of_le hwW hdn.size
  clear hdn g0
  go_upto_region 2 with fail
  generalize W.drewN nq = W1 at *
  have HF1 := Lib.hid (HF0.out.via HDN.out)
  have hal := (Below.refl W1.heap.size W1).al (.cells #[.slice none 0 0] 66)
  have HF2 := Lib.hid (HF1.out.via hal)
  have HB2 := Lib.hid (HB1.out.via hal)
  have HDN2 := Lib.hid (HDN.out.trans (hal.mono (by omega)))
  have hwz : w.heap.size < (W1.alloc (.cells #[.slice none 0 0] 66)).heap.size := by simp; omega
  have hzz : base ≤ (W1.alloc (.cells #[.slice none 0 0] 66)).heap.size := HF2.out.bs
  have HROW := Lib.hid (show Own SlE 66 (fun _ => False) (W1.alloc (.cells #[.slice none 0 0] 66)) base (.slice (some ⟨gb, 0, none⟩) (k + 1) d) (k + 1) s.2 from by
    have h := (FolM.sets HF2.out).row
    rw [HV.out, HK.out] at h; exact h)
  have HNO := Lib.hid (show some bf ≠ (Value.slice (some ⟨gb, 0, none⟩) (k + 1) d).ownBlock from fun e => HF2.out.far.1 (by rw [HV.out, HK.out]; exact e.symm))
  have HBK := Lib.hid (FolM.blk HF2.out)
  clear hal
  go_wp2_with (at_builtin; refine wpList_append_hrow _ rfl (.tmp 25) (.tmp 26) rfl base (.slice (some ⟨gb, 0, none⟩) (k + 1) d) (k + 1) s.2 rfl HROW.out W1.heap.size (none, 0, 0) rfl (Blk.new W1 66 #[.slice none 0 0]) (by omega) hzz ?_; intro A1 d1 w3 ho1 hg1 hat1; have g5 := (HBK.out.grown hg1 HNO.out).frozen; have g4 := (HBK.out.grown hg1 HNO.out).cell)
  have HPU := Lib.hid (FolM.push (v' := .slice A1 (k + 1 + 1) d1) HF2.out HBF.out (by rw [HK.out]; exact ho1) (by rw [HV.out, HK.out]; exact hg1) (by rw [HV.out, HK.out]; exact hat1))
  clear ho1 hg1 hat1
  clear f4 g5 g4
  have hBW := HPU.out.2.blk (i := true) HB2.out ⟨(FolM.sets HF0.out).no_ge (Nat.le_refl _), by omega⟩
  have HB1x := Lib.hid hBW
  have HMV := Lib.hid ((Mov.of (N := FolX bf s) (HDN2.out)).trans HPU.out.2)
  have HFN := Lib.hid HPU.out.1
  clear HB0 HB1 hBW HF1 HB2 HF2 HDN HDN2 HROW HNO HBK
  have HB1 := Lib.hid HB1x.out
  clear HB1x
  generalize hW3 : w3.setCell ⟨bf, 4, none⟩ (.slice A1 (k + 1 + 1) d1) = W3 at *
  clear hW3
  obtain ⟨s1, hs1⟩ : ∃ s1 : Value × List SlV, s1 = (.slice A1 (k + 1 + 1) d1, s.2 ++ [(none, 0, 0)]) := ⟨_, rfl⟩
  have HS1 := Lib.hid hs1
  clear hs1
  have HF1 := Lib.hid (show FolS W3 base bf c0 c1 c2 AR nR cR R s1 (L ++ [[]]) from by rw [HS1.out]; exact HFN.out)
  replace HMV := Lib.hid (show Mov (FolX bf s) (FolX bf s1) w W3 from by rw [HS1.out]; exact HMV.out)
  have hsl : s.2.length = k + 1 := by rw [(FolM.sets HF0.out).len, HK.out]
  have HQ1 := Lib.hid (show s1.2[k]? = some (qA, l.length, qc) from by
    rw [HS1.out]
    show (s.2 ++ [(none, 0, 0)])[k]? = _
    rw [List.getElem?_append_left (by omega)]; exact HQ.out)
  have HIT := Lib.hid ((FolM.sets HF1.out).items k _ l HQ1.out (by rw [List.getElem?_append_left (by rw [HK.out]; omega)]; exact HL.out))
  have HC1 := Lib.hid (Own.sl_own HIT.out)
  have HOL := Lib.hid (show ∀ b, (Value.slice qA l.length qc).ownBlock = some b → b < W3.heap.size from fun b hb => (HIT.out.lt b hb).2)
  have HON := Lib.hid (show ∀ b, (Value.slice qA l.length qc).ownBlock = some b → FolN (k + 1) s1 true b from fun b hb => ⟨(FolM.sets HF1.out).far k _ b HQ1.out hb, fun q hq => by
    rw [HS1.out] at hq
    rw [append_get s.2 (none, 0, 0) hsl.symm] at hq
    obtain rfl := Option.some.inj hq
    exact fun e => by cases e⟩)
  have HBL := Lib.hid (show w.heap.size < W3.heap.size from HB1.out.lt)
  have HBN := Lib.hid (show FolN (k + 1) s1 true w.heap.size from by
    have h0 := HPU.out.2.no true w.heap.size hwz ⟨(FolM.sets HF0.out).no_ge (Nat.le_refl _), by omega⟩
    rw [HS1.out]
    exact Sets.no.nof h0.1)
  clear HFN HPU HIT hsl
  go_loopw [32] (fun a wq => ∃ (m : Nat) (s3 : Value × List SlV) (l3 : List It3), a = .int .i64 m ∧ m ≤ l.length ∧ Hid (Grew (ScanI R t l m) [] l3) ∧ Hid (FolS wq base bf c0 c1 c2 AR nR cR R s3 (L ++ [l3])) ∧ Hid (Mov (FolN (k + 1) s1) (FolN (k + 1) s3) W3 wq) ∧ Hid (Sl It3E (fun b => (Value.slice qA l.length qc).ownBlock = some b) wq qA l.length qc l) ∧ Hid (Blk wq w.heap.size 45 #[.bool true, .int .i64 (t : Int)])) (fun a _ => 100001 - (intOf a).toNat)
  case atStart => exact ⟨0, s1, [], rfl, Nat.zero_le _, Lib.hid (Grew.none fun z => ScanI.zero z), HF1, Lib.hid (Mov.of (Below.refl _ _)), HC1, HB1⟩
  case round =>
    obtain ⟨m, s3, l3, rfl, hm, HG3, HF3, HM3, HC3, HB3⟩ := hrel
    have HND3 := Lib.hid (HG3.out.nd List.nodup_nil)
    have HOK3 := Lib.hid (show ∀ x ∈ l3, ItOk R (k + 1) x from fun x hx => (HG3.out.src x hx).elim (fun h => by cases h) (fun h => h.ok HOK.out))
    have hl3 : l3.length ≤ 100000 := lenI hR H4.out hk2 HND3.out HOK3.out
    have hLl : (L ++ [l3]).length = (k + 1) + 1 := by rw [List.length_append, HK.out]; rfl
    have HLG := Lib.hid (append_get L l3 HK.out.symm)
    have HLL := Lib.hid hLl
    clear hLl
    by_cases hml : m < l.length
    · as_aux_lemma =>
      obtain ⟨b6, o6, x, x', rfl, hb6o, hb6, hx, hxr, hcx⟩ := HC3.out.at_ hml
      obtain rfl : x = x' := hxr
      have x0 := hcx 0 _ rfl
      have x1 := hcx 1 _ rfl
      have x2 := hcx 2 _ rfl
      simp only [It3E, Nat.add_zero] at x0 x1 x2
      have m0 : (0 : Int) ≤ (m : Int) := by omega
      have m1 : (m : Int) < (l.length : Int) := by omega
      have hal := (Below.refl wr.heap.size wr).al (.cells #[.int .i64 (x.r : Int), .int .i64 (x.d : Int), .int .i64 (x.f : Int)] 68)
      have BX := Blk.new wr 68 #[.int .i64 (x.r : Int), .int .i64 (x.d : Int), .int .i64 (x.f : Int)]
      have HXB := Lib.hid BX
      have HXM := Lib.hid hx
      have HXO := Lib.hid (HOK.out x (List.mem_of_getElem? hx))
      have HF4 := Lib.hid (HF3.out.via hal)
      have HM4 := Lib.hid (HM3.out.via hal)
      have HC4 := Lib.hid (HC3.out.via hal)
      have HB4 := Lib.hid (HB3.out.via hal)
      clear hcx hx hal hb6o
      go_upto_region 6 with fail
      clear x0 x1 x2
      generalize hW4 : wr.alloc (.cells #[.int .i64 (x.r : Int), .int .i64 (x.d : Int), .int .i64 (x.f : Int)] 68) = W4 at *
      have hbx : wr.heap.size < W4.heap.size := by rw [← hW4]; simp
      clear hW4
      obtain ⟨oz, hoz⟩ : ∃ oz, nxtI R x = oz := ⟨_, rfl⟩
      cases oz with
      | none =>
        have HX2 := Lib.hid hoz
        clear hoz
        have cBX := BX.cell
        have fBX := BX.frozen
        have lBX := BX.lt
        go_wp2_with fail
        clear cBX fBX lBX
        refine (nexts_n HF4.out H1000.out k x HXO.out HX2.out).mono ?_
        rintro e w8 ⟨rfl, hb8⟩
        have hal8 := (Below.refl w8.heap.size w8).al (.cells #[.bool false, .int .i64 0] 45)
        have HF8 := Lib.hid ((HF4.out.via hb8).via hal8)
        have HM8 := Lib.hid ((HM4.out.via hb8).via hal8)
        have HC8 := Lib.hid ((HC4.out.via hb8).via hal8)
        have HB8 := Lib.hid ((HB4.out.via hb8).via hal8)
        clear hb8 BX hal8
        go_wp2_with fail
        exact ⟨⟨m + 1, s3, l3, by go_num, by omega, Lib.hid (HG3.out.iff (ScanI.miss HXM.out (by rw [HX2.out]; exact fun e => by cases e))), HF8, HM8, HC8, HB8⟩, by simp [intOf]; omega⟩
      | some yy =>
        obtain ⟨tb, tn⟩ := yy
        have HX2 := Lib.hid hoz
        obtain ⟨u2, hu2, -, hxd⟩ := nxtI_lt hoz
        have hxd4 : x.d ≤ 4 := by have := H4.out u2 (List.mem_of_getElem? hu2); omega
        have HNO := Lib.hid (show ItOk R (k + 1) ⟨x.r, x.d + 1, x.f⟩ from ⟨Nat.le_succ_of_le HXO.out.1, u2, hu2, hxd⟩)
        clear hoz hu2
        have cBX := BX.cell
        have fBX := BX.frozen
        have lBX := BX.lt
        go_wp2_with fail
        clear cBX fBX lBX
        refine (nexts_s HF4.out H1000.out x tb tn HX2.out).mono ?_
        rintro e w8 ⟨rfl, hb8⟩
        have hal8 := (Below.refl w8.heap.size w8).al (.cells #[.bool tb, .int .i64 (tn : Int)] 45)
        have HF8 := Lib.hid ((HF4.out.via hb8).via hal8)
        have HM8 := Lib.hid ((HM4.out.via hb8).via hal8)
        have HC8 := Lib.hid ((HC4.out.via hb8).via hal8)
        have HX8 := Lib.hid ((HXB.out.via hb8).via hal8)
        have HS8 := Lib.hid (Blk.new w8 45 #[.bool tb, .int .i64 (tn : Int)])
        have hbx8 : wr.heap.size < w8.heap.size := by have := hb8.size; omega
        have HB8 := Lib.hid ((HB4.out.via hb8).via hal8)
        clear hb8 BX hal8
        go_upto_region 7 with fail
        generalize w8.alloc (.cells #[.bool tb, .int .i64 (tn : Int)] 45) = W8 at *
        have BS8 := HS8.out
        have BB8 := HB8.out
        by_cases ht : (tb, tn) = (true, t)
        · obtain ⟨rfl, rfl⟩ := Prod.mk.inj ht
          have HT := Lib.hid (show nxtI R x = some (true, tn) from HX2.out)
          have cBS8 := BS8.cell
          have fBS8 := BS8.frozen
          have lBS8 := BS8.lt
          have cBB8 := BB8.cell
          have fBB8 := BB8.frozen
          have lBB8 := BB8.lt
          go_wp2_with fail
          clear cBS8 fBS8 lBS8 cBB8 fBB8 lBB8
          refine (is_c (true, tn) (true, (tn : Int)) _).mono ?_
          rintro e W9 ⟨rfl, hb9⟩
          rw [isC_t, decide_eq_true rfl]
          have HF9 := Lib.hid (HF8.out.via hb9)
          have HM9 := Lib.hid (HM8.out.via hb9)
          have HC9 := Lib.hid (HC8.out.via hb9)
          have HB9 := Lib.hid (HB8.out.via hb9)
          have HX9 := Lib.hid (HX8.out.via hb9)
          clear hb9 BS8 BB8 ht
          have HA := Lib.hid (show Calls Try.prog 44 #[.pointer (some ⟨bf, 0, none⟩), .agg #[.int .i64 (x.r : Int), .int .i64 ((x.d : Int) + 1), .int .i64 (x.f : Int)]] W9 (AddS (k + 1) W9 base bf c0 c1 c2 AR nR cR R s3 ((L ++ [l3]).set (k + 1) (addI l3 ⟨x.r, x.d + 1, x.f⟩))) from by
            have hA := add_o HF9.out (k + 1) l3 ⟨x.r, x.d + 1, x.f⟩ HLL.out HLG.out (by omega) hl3 HNO.out hR H4.out
            rwa [show (((⟨x.r, x.d + 1, x.f⟩ : It3).d : Nat) : Int) = (x.d : Int) + 1 from by simp] at hA)
          have BX9 := HX9.out
          have cBX9 := BX9.cell
          have fBX9 := BX9.frozen
          have lBX9 := BX9.lt
          go_wp2_with fail
          clear cBX9 fBX9 lBX9
          refine HA.out.mono ?_
          rintro e w10 ⟨rfl, s4, hF10, hM10⟩
          rw [append_set L l3 _ HK.out.symm] at hF10
          have HF10 := Lib.hid hF10
          have HM10 := Lib.hid (HM9.out.trans hM10)
          have HC10 := Lib.hid (hM10.sl HC9.out fun b hb => HM9.out.no _ b (HOL.out b hb) (HON.out b hb))
          have HB10 := Lib.hid (hM10.blk HB9.out (HM9.out.no _ _ HBL.out HBN.out))
          clear hF10 hM10 BX9
          go_wp2_with fail
          exact ⟨⟨m + 1, s4, _, by go_num, by omega, Lib.hid ((HG3.out.add _).iff (ScanI.hit HXM.out HT.out)), HF10, HM10, HC10, HB10⟩, by simp [intOf]; omega⟩
        · have HT := Lib.hid (show nxtI R x ≠ some (true, t) from by rw [HX2.out]; exact fun e => ht (Option.some.inj e))
          have cBS8 := BS8.cell
          have fBS8 := BS8.frozen
          have lBS8 := BS8.lt
          have cBB8 := BB8.cell
          have fBB8 := BB8.frozen
          have lBB8 := BB8.lt
          go_wp2_with fail
          clear cBS8 fBS8 lBS8 cBB8 fBB8 lBB8
          refine (is_c (tb, tn) (true, (t : Int)) _).mono ?_
          rintro e W9 ⟨rfl, hb9⟩
          rw [isC_t, decide_eq_false (fun e => ht (Option.some.inj e))]
          have HF9 := Lib.hid (HF8.out.via hb9)
          have HM9 := Lib.hid (HM8.out.via hb9)
          have HC9 := Lib.hid (HC8.out.via hb9)
          have HB9 := Lib.hid (HB8.out.via hb9)
          clear hb9 BS8 BB8 ht
          go_wp2_with fail
          exact ⟨⟨m + 1, s3, l3, by go_num, by omega, Lib.hid (HG3.out.iff (ScanI.miss HXM.out HT.out)), HF9, HM9, HC9, HB9⟩, by simp [intOf]; omega⟩
    · obtain rfl : m = l.length := by omega
      have HSO3 := Lib.hid (show ∀ (j : Nat) p, (L ++ [l3])[j]? = some p → p.length ≤ 100000 ∧ ∀ x ∈ p, ItOk R (k + 1) x from fun j p hj => by
        rcases get_push hj with ⟨hj, -⟩ | ⟨-, rfl⟩
        · exact ⟨(HSO.out j p hj).1, fun x hx => ((HSO.out j p hj).2 x hx).succ⟩
        · exact ⟨hl3, HOK3.out⟩)
      go_wp2_with fail
      refine (complete_s wr base bf (k + 1) c0 c1 c2 AR nR cR R s3 (L ++ [l3]) l3 HF3.out HLL.out HLG.out hk2 hR H4.out HND3.out HOK3.out HSO3.out).mono ?_
      rintro e w9 ⟨l4, hC, rfl, s4, hF4, hM4⟩
      rw [append_set L l3 l4 HK.out.symm] at hF4
      have HF9 := Lib.hid hF4
      have HM9 := Lib.hid (HMV.out.trans ((HM3.out.trans hM4).fx (bf := bf)))
      have HC9 := Lib.hid hC
      clear hF4 hM4 hC
      go_wp2_with fail
      exact bodyPost_ret (v := .tuple #[]) (by simp [results, Try.results26, go_sem]) rfl ⟨l3, l4, s4, HG3.out, HC9.out, rfl, HF9.out, HM9.out⟩
def PutP (k t : Nat) (l : List It3) (w : World) (base bf : Nat) (c0 c1 c2 : Value) (AR : Option Addr) (nR cR : Nat) (R : List Ru) (s : ChSt) (L : List (List It3)) (e : Ending) (w' : World) : Prop :=
  ∃ l0 l' s', Grew (ScanI R t l l.length) [] l0 ∧ Cl R (k + 1) (setI (L ++ [l0])) l0 l' ∧ e = .returned (.tuple #[]) ∧ ChS w' base bf c0 c1 c2 AR nR cR R s' (L ++ [l']) ∧ Mov (ChX bf s) (ChX bf s') w w'
set_option maxRecDepth 100000 in
set_option maxHeartbeats 4000000 in
theorem put_s (w : World) (base bf k : Nat) (c0 c1 c2 : Value) (AR : Option Addr) (nR cR : Nat) (R : List Ru) (s : ChSt) (L : List (List It3)) (l : List It3) (t : Nat) (h : ChS w base bf c0 c1 c2 AR nR cR R s L) (hbf : base ≤ bf) (hk : L.length = k + 1) (hl : L[k]? = some l) (hk2 : k + 1 ≤ 100) (hR : R.length ≤ 32) (h4 : ∀ u ∈ R, u.2.length ≤ 4) (hSo : ∀ (j : Nat) m, L[j]? = some m → m.length ≤ 100000 ∧ ∀ x ∈ m, ItOk R k x) :
    Calls Try.prog 37 #[.pointer (some ⟨bf, 0, none⟩), .int .i64 (t : Int)] w (PutP k t l w base bf c0 c1 c2 AR nR cR R s L) := by
  have hL0 : L ≠ [] := fun e => by rw [e] at hk; cases hk
  have HF0 := Lib.hid h
  have HBF := Lib.hid hbf
  have HK := Lib.hid hk
  have HL := Lib.hid hl
  have H4 := Lib.hid h4
  have HSO := Lib.hid hSo
  have HOK := Lib.hid ((hSo k l hl).2)
  have hll : l.length ≤ 100000 := (hSo k l hl).1
  have H1000 := Lib.hid (show ∀ u ∈ R, u.2.length ≤ 1000 from fun u hu => Nat.le_trans (h4 u hu) (by omega))
  obtain ⟨gb, d, qA, qc, hv, hq, g0, hown⟩ := h.hdr2 hl
  have f4 := h.cv
  rw [hv, hk] at f4
  have e1 : ((k + 1 : Nat) : Int) - 1 = (k : Int) := by omega
  have i0 : (0 : Int) ≤ (k : Int) := by omega
  have i1 : (k : Int) < ((k : Int) + 1) := by omega
  have hgl : gb < w.heap.size := World.block_lt_of_cell? w _ g0
  have hbl : bf < w.heap.size := h.lt
  have HV := Lib.hid hv
  have HQ := Lib.hid hq
  clear h hk hl h4 hSo hown hv hq hbf
  have hgB : gb < w.heap.size := hgl
  go_enter Try.func37, Try.ntmps37
  go_upto_region 0 with fail
  go_quiet (fail)
  have hdn := below_drewN (Below.refl w.heap.size w) nq
  have HDN := Lib.hid hdn
  have HF1' := Lib.hid (HF0.out.via hdn)
  clear hdn f4 g0
  generalize w.drewN nq = W at *
  go_wp2_with fail
  refine (set_c W base bf c0 c1 c2 AR nR cR R s.1 s.2.1 s.2.2.1 s.2.2.2 L HF1'.out HBF.out (by rw [HK.out]; omega)).mono ?_
  rintro e W3 ⟨rfl, v', vm', bm, hF, hM⟩
  obtain ⟨s1, hs1⟩ : ∃ s1 : ChSt, s1 = (v', s.2.1 ++ [(none, 0, 0)], vm', s.2.2.2 ++ [bm]) := ⟨_, rfl⟩
  have HS1 := Lib.hid hs1
  clear hs1
  have HF1 := Lib.hid (show ChS W3 base bf c0 c1 c2 AR nR cR R s1 (L ++ [[]]) from by rw [HS1.out]; exact hF)
  have HMV := Lib.hid (show Mov (ChX bf s) (ChX bf s1) w W3 from by rw [HS1.out]; exact (Mov.of HDN.out).trans hM)
  have hsl : s.2.1.length = k + 1 := by rw [(ChM.sets HF0.out).len, HK.out]
  have HQ1 := Lib.hid (show s1.2.1[k]? = some (qA, l.length, qc) from by
    rw [HS1.out]
    show (s.2.1 ++ [(none, 0, 0)])[k]? = _
    rw [List.getElem?_append_left (by omega)]; exact HQ.out)
  have HIT := Lib.hid ((ChM.sets HF1.out).items k _ l HQ1.out (by rw [List.getElem?_append_left (by rw [HK.out]; omega)]; exact HL.out))
  have HC1 := Lib.hid (Own.sl_own HIT.out)
  have HOL := Lib.hid (show ∀ b, (Value.slice qA l.length qc).ownBlock = some b → b < W3.heap.size from fun b hb => (HIT.out.lt b hb).2)
  have HON := Lib.hid (show ∀ b, (Value.slice qA l.length qc).ownBlock = some b → ChN (k + 1) s1 true b from fun b hb => by
    refine ⟨⟨(ChM.sets HF1.out).far k _ b HQ1.out hb, fun q hq => ?_⟩, fun e => (ChM.vfar HF1.out b e).2 k _ HQ1.out hb, fun b' hb' e => (ChM.mfar HF1.out (k + 1) b' hb').2.2 k _ HQ1.out (by rw [e]; exact hb)⟩
    rw [HS1.out] at hq
    rw [append_get s.2.1 (none, 0, 0) hsl.symm] at hq
    obtain rfl := Option.some.inj hq
    exact fun e => by cases e)
  clear hF hM HIT hsl HF1'
  go_wp2_with fail
  go_loopw [25] (fun a wq => ∃ (m : Nat) (s3 : ChSt) (l3 : List It3), a = .int .i64 m ∧ m ≤ l.length ∧ Hid (Grew (ScanI R t l m) [] l3) ∧ Hid (ChS wq base bf c0 c1 c2 AR nR cR R s3 (L ++ [l3])) ∧ Hid (Mov (ChN (k + 1) s1) (ChN (k + 1) s3) W3 wq) ∧ Hid (Sl It3E (fun b => (Value.slice qA l.length qc).ownBlock = some b) wq qA l.length qc l)) (fun a _ => 100001 - (intOf a).toNat)
  case atStart => exact ⟨0, s1, [], rfl, Nat.zero_le _, Lib.hid (Grew.none fun z => ScanI.zero z), HF1, Lib.hid (Mov.of (Below.refl _ _)), HC1⟩
  case round =>
    obtain ⟨m, s3, l3, rfl, hm, HG3, HF3, HM3, HC3⟩ := hrel
    have HND3 := Lib.hid (HG3.out.nd List.nodup_nil)
    have HOK3 := Lib.hid (show ∀ x ∈ l3, ItOk R (k + 1) x from fun x hx => (HG3.out.src x hx).elim (fun h => by cases h) (fun h => h.ok HOK.out))
    have hl3 : l3.length ≤ 100000 := lenI hR H4.out hk2 HND3.out HOK3.out
    have hLl : (L ++ [l3]).length = (k + 1) + 1 := by rw [List.length_append, HK.out]; rfl
    have HLG := Lib.hid (append_get L l3 HK.out.symm)
    have HLL := Lib.hid hLl
    clear hLl
    by_cases hml : m < l.length
    · as_aux_lemma =>
      obtain ⟨b6, o6, x, x', rfl, hb6o, hb6, hx, hxr, hcx⟩ := HC3.out.at_ hml
      obtain rfl : x = x' := hxr
      have x0 := hcx 0 _ rfl
      have x1 := hcx 1 _ rfl
      have x2 := hcx 2 _ rfl
      simp only [It3E, Nat.add_zero] at x0 x1 x2
      have m0 : (0 : Int) ≤ (m : Int) := by omega
      have m1 : (m : Int) < (l.length : Int) := by omega
      have hal := (Below.refl wr.heap.size wr).al (.cells #[.int .i64 (x.r : Int), .int .i64 (x.d : Int), .int .i64 (x.f : Int)] 111)
      have BX := Blk.new wr 111 #[.int .i64 (x.r : Int), .int .i64 (x.d : Int), .int .i64 (x.f : Int)]
      have HXB := Lib.hid BX
      have HXM := Lib.hid hx
      have HXO := Lib.hid (HOK.out x (List.mem_of_getElem? hx))
      have HF4 := Lib.hid (HF3.out.via hal)
      have HM4 := Lib.hid (HM3.out.via hal)
      have HC4 := Lib.hid (HC3.out.via hal)
      clear hcx hx hal hb6o
      go_upto_region 5 with fail
      clear x0 x1 x2
      generalize hW4 : wr.alloc (.cells #[.int .i64 (x.r : Int), .int .i64 (x.d : Int), .int .i64 (x.f : Int)] 111) = W4 at *
      have hbx : wr.heap.size < W4.heap.size := by rw [← hW4]; simp
      clear hW4
      obtain ⟨oz, hoz⟩ : ∃ oz, nxtI R x = oz := ⟨_, rfl⟩
      cases oz with
      | none =>
        have HX2 := Lib.hid hoz
        clear hoz
        have cBX := BX.cell
        have fBX := BX.frozen
        have lBX := BX.lt
        go_wp2_with fail
        clear cBX fBX lBX
        refine (cnexts_n HF4.out H1000.out k x HXO.out HX2.out).mono ?_
        rintro e w8 ⟨rfl, hb8⟩
        have hal8 := (Below.refl w8.heap.size w8).al (.cells #[.bool false, .int .i64 0] 45)
        have HF8 := Lib.hid ((HF4.out.via hb8).via hal8)
        have HM8 := Lib.hid ((HM4.out.via hb8).via hal8)
        have HC8 := Lib.hid ((HC4.out.via hb8).via hal8)
        clear hb8 BX hal8
        go_upto_region 6 with fail
        generalize w8.alloc (.cells #[.bool false, .int .i64 0] 45) = W8 at *
        go_quiet (fail)
        go_wp2_with fail
        have hdn := below_drewN (Below.refl W8.heap.size W8)
        exact ⟨⟨m + 1, s3, l3, by go_num, by omega, Lib.hid (HG3.out.iff (ScanI.miss HXM.out (by rw [HX2.out]; exact fun e => by cases e))), Lib.hid (HF8.out.via (hdn _)), Lib.hid (HM8.out.via (hdn _)), Lib.hid (HC8.out.via (hdn _))⟩, by simp [intOf]; omega⟩
      | some yy =>
        obtain ⟨tb, tn⟩ := yy
        have HX2 := Lib.hid hoz
        obtain ⟨u2, hu2, -, hxd⟩ := nxtI_lt hoz
        have hxd4 : x.d ≤ 4 := by have := H4.out u2 (List.mem_of_getElem? hu2); omega
        have HNO := Lib.hid (show ItOk R (k + 1) ⟨x.r, x.d + 1, x.f⟩ from ⟨Nat.le_succ_of_le HXO.out.1, u2, hu2, hxd⟩)
        clear hoz hu2
        have cBX := BX.cell
        have fBX := BX.frozen
        have lBX := BX.lt
        go_wp2_with fail
        clear cBX fBX lBX
        refine (cnexts_s HF4.out H1000.out x tb tn HX2.out).mono ?_
        rintro e w8 ⟨rfl, hb8⟩
        have hal8 := (Below.refl w8.heap.size w8).al (.cells #[.bool tb, .int .i64 (tn : Int)] 45)
        have HF8 := Lib.hid ((HF4.out.via hb8).via hal8)
        have HM8 := Lib.hid ((HM4.out.via hb8).via hal8)
        have HC8 := Lib.hid ((HC4.out.via hb8).via hal8)
        have HX8 := Lib.hid ((HXB.out.via hb8).via hal8)
        have HS8 := Lib.hid (Blk.new w8 45 #[.bool tb, .int .i64 (tn : Int)])
        have hbx8 : wr.heap.size < w8.heap.size := by have := hb8.size; omega
        clear hb8 BX hal8
        go_upto_region 6 with fail
        generalize w8.alloc (.cells #[.bool tb, .int .i64 (tn : Int)] 45) = W8 at *
        have SOF := Lib.hid (show ∀ w', Below W8.heap.size W8 w' → ((∀ i, w'.cell? ⟨w8.heap.size, i, none⟩ = #[.bool tb, .int .i64 (tn : Int)][i]?) ∧ Below W8.heap.size W8 w') from fun w' hb => ⟨(HS8.out.via hb).cell, hb⟩)
        have hb0 := (Below.refl W8.heap.size W8).drew
        by_cases ht : (tb, tn) = (true, t)
        · obtain ⟨rfl, rfl⟩ := Prod.mk.inj ht
          have HT := Lib.hid (show nxtI R x = some (true, tn) from HX2.out)
          go_region_held3 (fun w' => (∀ i, w'.cell? ⟨w8.heap.size, i, none⟩ = #[.bool true, .int .i64 (tn : Int)][i]?) ∧ Below W8.heap.size W8 w') (exact SOF.out _ (by assumption)) (first
            | (go_at_call 40; (with_reducible refine (gT_c _ _).mono ?_); rintro ee W9 ⟨rfl, hbn⟩; have hbm : Below W8.heap.size W8 W9 := Below.via (by assumption) hbn))
          have HF9 := Lib.hid (HF8.out.via hbm)
          have HM9 := Lib.hid (HM8.out.via hbm)
          have HC9 := Lib.hid (HC8.out.via hbm)
          have HX9 := Lib.hid (HX8.out.via hbm)
          clear hbm hbn hb0 ht
          have HA := Lib.hid (show Calls Try.prog 57 #[.pointer (some ⟨bf, 0, none⟩), .agg #[.int .i64 (x.r : Int), .int .i64 ((x.d : Int) + 1), .int .i64 (x.f : Int)]] W9 (AddC (k + 1) W9 base bf c0 c1 c2 AR nR cR R s3 ((L ++ [l3]).set (k + 1) (addI l3 ⟨x.r, x.d + 1, x.f⟩))) from by
            have hA := cadd_o HF9.out (k + 1) l3 ⟨x.r, x.d + 1, x.f⟩ HLL.out HLG.out (by omega) hl3 HNO.out hR H4.out
            rwa [show (((⟨x.r, x.d + 1, x.f⟩ : It3).d : Nat) : Int) = (x.d : Int) + 1 from by simp] at hA)
          have BX9 := HX9.out
          have cBX9 := BX9.cell
          have fBX9 := BX9.frozen
          have lBX9 := BX9.lt
          go_wp2_with fail
          clear cBX9 fBX9 lBX9
          refine HA.out.mono ?_
          rintro e w10 ⟨rfl, s4, hF10, hM10⟩
          rw [append_set L l3 _ HK.out.symm] at hF10
          have HF10 := Lib.hid hF10
          have HM10 := Lib.hid (HM9.out.trans hM10)
          have HC10 := Lib.hid (hM10.sl HC9.out fun b hb => HM9.out.no _ b (HOL.out b hb) (HON.out b hb))
          clear hF10 hM10 BX9
          go_wp2_with fail
          exact ⟨⟨m + 1, s4, _, by go_num, by omega, Lib.hid ((HG3.out.add _).iff (ScanI.hit HXM.out HT.out)), HF10, HM10, HC10⟩, by simp [intOf]; omega⟩
        · have HT := Lib.hid (show nxtI R x ≠ some (true, t) from by rw [HX2.out]; exact fun e => ht (Option.some.inj e))
          have hq : tb = false ∨ ((tn : Int) == (t : Int)) = false := by
            cases tb with
            | false => exact Or.inl rfl
            | true => exact Or.inr (by rw [beq_eq_false_iff_ne]; exact fun e => ht (by rw [show tn = t by omega]))
          clear ht
          cases tb with
          | false =>
            clear hq
            go_region_held3 (fun w' => (∀ i, w'.cell? ⟨w8.heap.size, i, none⟩ = #[.bool false, .int .i64 (tn : Int)][i]?) ∧ Below W8.heap.size W8 w') (exact SOF.out _ (by assumption)) (first
              | (go_at_call 40; (with_reducible refine (gT_c _ _).mono ?_); rintro ee W9 ⟨rfl, hbn⟩; have hbm : Below W8.heap.size W8 W9 := Below.via (by assumption) hbn))
            have HF9 := Lib.hid (HF8.out.via hbm)
            have HM9 := Lib.hid (HM8.out.via hbm)
            have HC9 := Lib.hid (HC8.out.via hbm)
            clear hbm hbn hb0
            go_wp2_with fail
            exact ⟨⟨m + 1, s3, l3, by go_num, by omega, Lib.hid (HG3.out.iff (ScanI.miss HXM.out HT.out)), HF9, HM9, HC9⟩, by simp [intOf]; omega⟩
          | true =>
            have hq2 : ((tn : Int) == (t : Int)) = false := hq.resolve_left (by simp)
            clear hq
            go_region_held3 (fun w' => (∀ i, w'.cell? ⟨w8.heap.size, i, none⟩ = #[.bool true, .int .i64 (tn : Int)][i]?) ∧ Below W8.heap.size W8 w') (exact SOF.out _ (by assumption)) (first
              | (go_at_call 40; (with_reducible refine (gT_c _ _).mono ?_); rintro ee W9 ⟨rfl, hbn⟩; have hbm : Below W8.heap.size W8 W9 := Below.via (by assumption) hbn))
            have HF9 := Lib.hid (HF8.out.via hbm)
            have HM9 := Lib.hid (HM8.out.via hbm)
            have HC9 := Lib.hid (HC8.out.via hbm)
            clear hbm hbn hb0
            go_wp2_with fail
            exact ⟨⟨m + 1, s3, l3, by go_num, by omega, Lib.hid (HG3.out.iff (ScanI.miss HXM.out HT.out)), HF9, HM9, HC9⟩, by simp [intOf]; omega⟩
    · obtain rfl : m = l.length := by omega
      have HSO3 := Lib.hid (show ∀ (j : Nat) p, (L ++ [l3])[j]? = some p → p.length ≤ 100000 ∧ ∀ x ∈ p, ItOk R (k + 1) x from fun j p hj => by
        rcases get_push hj with ⟨hj, -⟩ | ⟨-, rfl⟩
        · exact ⟨(HSO.out j p hj).1, fun x hx => ((HSO.out j p hj).2 x hx).succ⟩
        · exact ⟨hl3, HOK3.out⟩)
      go_wp2_with fail
      refine (ccomplete_s wr base bf (k + 1) c0 c1 c2 AR nR cR R s3 (L ++ [l3]) l3 HF3.out HLL.out HLG.out hk2 hR H4.out HND3.out HOK3.out HSO3.out).mono ?_
      rintro e w9 ⟨l4, hC, rfl, s4, hF4, hM4⟩
      rw [append_set L l3 l4 HK.out.symm] at hF4
      have HF9 := Lib.hid hF4
      have HM9 := Lib.hid (HMV.out.trans ((HM3.out.trans hM4).cx (bf := bf)))
      have HC9 := Lib.hid hC
      clear hF4 hM4 hC
      go_wp2_with fail
      exact bodyPost_ret (v := .tuple #[]) (by simp [results, Try.results37, go_sem]) rfl ⟨l3, l4, s4, HG3.out, HC9.out, rfl, HF9.out, HM9.out⟩
end Go.Proofs.Ytdmecijpioljaaa

