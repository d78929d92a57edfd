/- Texts JQ, laid together. -/
import Derived.Test.YthkldiehokblcaaJP


namespace Go.Proofs.Ythkldiehokblcaa
open Go.RowKit

theorem Sl.tailE {α ρ : Type} {E : Elem α ρ} {ok : Nat → Prop} {w : World} {A : Option Addr} {n c : Nat} {xs : List α} (h : Sl E ok w A n c xs) {l : Nat} (hl : l ≤ n) : Sl E ok w (if c = l then A else Option.map (fun x => x.add (l * E.k)) A) (n - l) (c - l) (xs.drop l) := by
  obtain ⟨h1, h2, raw, h3, h4, h5⟩ := h
  refine ⟨by rw [List.length_drop, h1], by omega, raw.drop l, by rw [List.length_drop, h3], fun hne => ?_, fun i r x hr hx => ?_⟩
  · have hln : l < n := by
      rcases Nat.lt_or_ge l n with hh | hh
      · exact hh
      · exfalso; apply hne; rw [List.drop_eq_nil_of_le (by omega)]; rfl
    have hsplit : flat E raw = flat E (raw.take l) ++ flat E (raw.drop l) := by
      unfold flat
      rw [← List.flatMap_append, List.take_append_drop]
    have hlen : (flat E (raw.take l)).length = l * E.k := by rw [flat_len, List.length_take, Nat.min_eq_left (by omega)]
    obtain ⟨b, off, e, hb, hc⟩ := h4 (fun e => by
      rw [hsplit] at e
      exact hne (List.append_eq_nil_iff.1 e).2)
    rw [if_neg (by omega), e]
    refine ⟨b, off + l * E.k, ?_, hb, fun j u hu => ?_⟩
    · simp only [Option.map_some]
      unfold Addr.add
      split
      · rename_i h0; simp [h0]
      · rfl
    · have := hc (l * E.k + j) u (by rw [hsplit, List.getElem?_append_right (by omega), hlen, Nat.add_sub_cancel_left]; exact hu)
      rw [← Nat.add_assoc] at this; exact this
  · rw [List.getElem?_drop] at hr hx
    exact h5 (l + i) r x hr hx
theorem wpList_append_brow {ops : Array Oper} {rest : List Oper} {o : Oper} {a : Act} {Q : Exit → Act → World → Prop} (w : World) (hgd : o.guard = none) (s y : Operand)
    (ho : o.op = .call { callee := .builtin .append, args := #[s, y], argTypes := #[53, 53] })
    (base : Nat) (v : Value) (n : Nat) (l : List SlV) (hv : a.eval s = v) (hown : Own SlE 59 (fun _ => False) w base v n l)
    (b : Nat) (x : SlV) (hy : a.eval y = .slice (some ⟨b, 0, none⟩) 1 1) (hcell : Blk w b 59 #[slV x])
    (h63 : n + 1 ≤ 1000000) (hbase : base ≤ w.heap.size)
    (h : ∀ A' c' w', Own SlE 59 (fun _ => False) w' base (.slice A' (n + 1) c') (n + 1) (l ++ [x]) → w.grownBy w' v.ownBlock → ((Value.slice A' (n + 1) c').ownBlock = v.ownBlock ∨ (Value.slice A' (n + 1) c').ownBlock = some w.heap.size) → wpList Try.prog ops Q rest (a.put o.dst (.slice A' (n + 1) c')) w') : wpList Try.prog ops Q (o :: rest) a w := by
  have hinf : (Try.prog.info? 59).map (fun i => (i.zero, i.size, i.bytes)) = some (some (.slice none 0 0), 1, 24) := by kernel_rfl
  obtain ⟨i, hi, hz⟩ := Option.map_eq_some_iff.1 hinf
  simp only [Prod.mk.injEq] at hz
  refine wpList_append_E (E := SlE) w hgd s y 53 59 ho i (.slice none 0 0) 24 (by kernel_rfl) hi hz.1 hz.2.1 hz.2.2 rfl (fun _ => False) base v n l hv hown b x x hy (fun j u hu => ?_) rfl (by simp [maxLen]; omega) (by omega) hbase h
  rw [hcell.cell j]
  rw [List.getElem?_toArray]; exact hu
/-- while Follow runs: the row of what is reached, the table of what follows -/
structure FoM (w : World) (g : Gr) (rb hb : Nat) (rc : Nat → Bool) (bs : Nat → Nat) (fo : Nat → Nat → Bool) (wr : World) : Prop where
  rc : BRow wr rb g.nons rc
  hd : HRow wr hb g.nons 59 fun i => .slice (some ⟨bs i, 0, none⟩) (g.terms + 1) (g.terms + 1)
  row : ∀ i, i < g.nons → BRow wr (bs i) (g.terms + 1) (fo i)
  ap : ∀ i j, i < g.nons → j < g.nons → i ≠ j → bs i ≠ bs j
  f1 : ∀ i, i < g.nons → bs i ≠ hb ∧ bs i ≠ rb ∧ w.heap.size ≤ bs i
  bel : Below w.heap.size w wr
theorem FoM.via {w wr wa : World} {g : Gr} {rb hb : Nat} {rc : Nat → Bool} {bs : Nat → Nat} {fo : Nat → Nat → Bool} (h : FoM w g rb hb rc bs fo wr) (k : Below wr.heap.size wr wa) : FoM w g rb hb rc bs fo wa :=
  ⟨h.rc.via k, h.hd.via k, fun i hi => (h.row i hi).via k, h.ap, h.f1, h.bel.trans (k.mono h.bel.size)⟩
theorem FoM.union {w wr wa : World} {g : Gr} {rb hb n : Nat} {rc : Nat → Bool} {bs : Nat → Nat} {fo : Nat → Nat → Bool} {f : Nat → Bool} (h : FoM w g rb hb rc bs fo wr) (hn : n < g.nons) (hf : BRow wa (bs n) (g.terms + 1) f) (hg : wr.grownBy wa (some (bs n))) : FoM w g rb hb rc bs (putR fo n f) wa := by
  obtain ⟨n1, n2, n3⟩ := h.f1 n hn
  have ne : ∀ b, bs n ≠ b → some b ≠ some (bs n) := fun b hb e => hb (Option.some.inj e).symm
  refine ⟨h.rc.grown hg (ne _ n2), h.hd.grown hg (ne _ n1), fun i hi => ?_, h.ap, h.f1, bel_grow h.bel hg n3 h.bel.size⟩
  unfold putR
  by_cases e : i = n
  · rw [if_pos e, e]; exact hf
  · rw [if_neg e]; exact (h.row i hi).grown hg (ne _ (h.ap n i hn hi (fun q => e q.symm)))
def FolP (w : World) (g : Gr) (e : Ending) (w' : World) : Prop :=
  ∃ (hb hc : Nat) (bs : Nat → Nat) (fo : Nat → Nat → Bool), e = .returned (.slice (some ⟨hb, 0, none⟩) g.nons hc) ∧ HRow w' hb g.nons 59 (fun i => .slice (some ⟨bs i, 0, none⟩) (g.terms + 1) (g.terms + 1)) ∧ (∀ i, i < g.nons → BRow w' (bs i) (g.terms + 1) (fo i)) ∧ (∀ N t, fo N t = true ↔ FolN g.rules g.start g.terms N t) ∧ Below w.heap.size w w'
set_option maxRecDepth 100000 in
set_option maxHeartbeats 8000000 in
theorem follow_c (ok : Nat → Prop) (g : Gr) (L : FsL) (es : Nat → Bool) (fs : Nat → Nat → Bool) (w : World) (hg : GrOk g) (hF : FS w g L es fs) (hT : TabOk g.rules es fs) (hl : Sl RuE ok w L.Ag L.ng L.cg g.rules) :
    Calls Try.prog 38 #[.pointer (some ⟨L.bS, 0, none⟩)] w (FolP w g) := by
  have hn1 := hg.ok.nons.1
  have hn10 := hg.ok.nons.2
  have ht8 := hg.ok.terms.2
  have hlen := hl.len
  have hst := hg.ok.start
  have hng32 : L.ng ≤ 32 := by have := hg.ok.count; omega
  have HGO := Lib.hid hg
  have HL := Lib.hid hl
  have HF := Lib.hid hF
  have HT := Lib.hid hT
  have s0 : (0 : Int) ≤ (g.start : Int) := by omega
  have s1 : (g.start : Int) < (g.nons : Int) := by omega
  clear hg hl hlen hF hT
  have BH := HF.out.hdr
  simp only [FsL.cells] at BH
  go_enter Try.func38, Try.ntmps38
  have cBH := BH.cell
  have fBH := BH.frozen
  have lBH := BH.lt
  go_wp2_with fail
  clear cBH fBH lBH
  clear BH
  refine (Reached_c ok g L.Ag L.ng L.cg w HGO.out HL.out).mono ?_
  rintro e w1 ⟨rb, rc, rfl, hrow, hrc, hlo, hb1⟩
  have HRC := Lib.hid hrc
  have HB1 := Lib.hid hb1
  have HRW := Lib.hid hrow
  have hw1 : w.heap.size ≤ w1.heap.size := hb1.size
  have hrl : rb < w1.heap.size := hrow.lt
  have BH := (HF.out.via hb1).hdr
  simp only [FsL.cells] at BH
  clear hrow hrc hb1
  have cBH := BH.cell
  have fBH := BH.frozen
  have lBH := BH.lt
  go_wp2_with fail
  clear cBH fBH lBH
  clear BH
  go_loopw [5, 26] (fun v a wr => ∃ (k : Nat) (bs : Nat → Nat), a = .int .i64 k ∧ k ≤ g.nons ∧ Hid (BT wr w1.heap.size v (g.terms + 1) k bs) ∧ Hid (Below w1.heap.size w1 wr)) (fun _ a _ => g.nons - (intOf a).toNat)
  case atStart => exact ⟨0, fun _ => 0, rfl, Nat.zero_le _, Lib.hid (BT.nil _ _ _ _), Lib.hid (Below.refl _ _)⟩
  case round =>
    obtain ⟨k, bs, rfl, hk, HBT, HB2⟩ := hrel
    by_cases hlt : k < g.nons
    · obtain ⟨Av, cv, rfl, -⟩ := HBT.out.own.form
      have i0 : (0 : Int) ≤ (k : Int) := by omega
      have i1 : (k : Int) < (g.nons : Int) := by omega
      have BH := ((HF.out.via HB1.out).via HB2.out).hdr
      simp only [FsL.cells] at BH
      have hmb := mk_bools (g.terms + 1) (by omega)
      have ecast : ((g.terms + 1 : Nat) : Int) = (g.terms : Int) + 1 := by omega
      rw [ecast] at hmb
      have hal2 := ((Below.refl wr.heap.size wr).al (.cells (mkCells (.bool false) (g.terms + 1)) 4)).al (.cells #[.slice (some ⟨wr.heap.size, 0, none⟩) (g.terms + 1) (g.terms + 1)] 59)
      have HA2 := Lib.hid hal2
      have HRO := Lib.hid ((BRow.new wr (g.terms + 1)).al (.cells #[.slice (some ⟨wr.heap.size, 0, none⟩) (g.terms + 1) (g.terms + 1)] 59))
      have HBH := Lib.hid (Blk.newAt (wr.alloc (.cells (mkCells (.bool false) (g.terms + 1)) 4)) 59 #[.slice (some ⟨wr.heap.size, 0, none⟩) (g.terms + 1) (g.terms + 1)] (wr.heap.size + 1) (by simp))
      have HO2 := Lib.hid (HBT.out.own.via hal2)
      have hwl : w1.heap.size ≤ wr.heap.size := HB2.out.size
      have HS2 := Lib.hid (show w1.heap.size ≤ ((wr.alloc (.cells (mkCells (.bool false) (g.terms + 1)) 4)).alloc (.cells #[.slice (some ⟨wr.heap.size, 0, none⟩) (g.terms + 1) (g.terms + 1)] 59)).heap.size by simp; omega)
      clear hal2
      have cBH := BH.cell
      have fBH := BH.frozen
      have lBH := BH.lt
      go_wp2_with (at_builtin; refine wpList_append_brow _ rfl (.tmp 28) (.tmp 36) rfl w1.heap.size (.slice Av k cv) k (rowsL (g.terms + 1) k bs) rfl HO2.out (wr.heap.size + 1) (some ⟨wr.heap.size, 0, none⟩, g.terms + 1, g.terms + 1) rfl HBH.out (by omega) HS2.out ?_)
      intro Av1 cv1 w3 ho1 hg1 hat1
      have HB3 := Lib.hid (show Below w1.heap.size w1 w3 from ((HB2.out.trans (HA2.out.mono hwl)).grown hg1 HS2.out (fun j e => (HO2.out.lt j e).1)))
      have HBT3 := Lib.hid (HBT.out.push HA2.out HRO.out (Nat.le_refl _) hwl ho1 hg1 (by simpa using hat1))
      clear ho1 hg1 hat1 HA2 HRO HBH HO2 HS2 cBH fBH lBH BH HBT
      go_wp2_with fail
      exact ⟨⟨k + 1, _, by go_num, by omega, HBT3, HB3⟩, by simp [intOf]; omega⟩
    · obtain rfl : k = g.nons := by omega
      obtain ⟨hb, hc, rfl, hblo, hhd, hne⟩ := HBT.out.done (by omega)
      have HFO := Lib.hid (show FoM w g rb hb rc bs (fun _ _ => false) wr from
        ⟨HRW.out.via HB2.out, hhd, HBT.out.row, HBT.out.ap, fun i hi => ⟨hne i hi, by have := HBT.out.lo i hi; omega, by have := HBT.out.lo i hi; omega⟩, HB1.out.trans (HB2.out.mono hw1)⟩)
      clear HBT HB2 hhd hne hblo
      have BH := (HF.out.via HFO.out.bel).hdr
      simp only [FsL.cells] at BH
      have ch := HFO.out.hd.cell hst
      have fh := HFO.out.hd.frozen
      have t0 : (0 : Int) ≤ (g.terms : Int) := by omega
      have t1 : (g.terms : Int) < ((g.terms + 1 : Nat) : Int) := by omega
      have t2 : (g.terms : Int) < (g.terms : Int) + 1 := by omega
      have cBH := BH.cell
      have fBH := BH.frozen
      have lBH := BH.lt
      go_upto_region 7 with fail
      go_still_tail 14, (by kernel_rfl)
      clear cBH fBH lBH
      clear BH ch fh
      have HDW := Lib.hid (Below.refl wr.heap.size wr).drew
      change wpList _ _ _ _ _ wr.drew
      generalize wr.drew = w2 at *
      have HF2 := Lib.hid (HFO.out.via HDW.out)
      have ce := (HF2.out.row g.start hst).cell (j := g.terms) (by omega)
      have fe := (HF2.out.row g.start hst).frozen
      clear HDW HFO
      have H0 := Lib.hid (show FoM w g rb hb rc bs (putR (fun _ _ => false) g.start (fun j => if j = g.terms then true else false)) (w2.setCell ⟨bs g.start, g.terms, none⟩ (.bool true)) from
        HF2.out.union hst ((HF2.out.row g.start hst).set (by omega)) (grownBySet _ _ _ _))
      have HI0 := Lib.hid (show TabF g.rules g.start g.terms (putR (fun _ _ => false) g.start (fun j => if j = g.terms then true else false)) ∧ putR (fun _ _ => false) g.start (fun j => if j = g.terms then true else false) g.start g.terms = true from
        ⟨⟨fun N t h => by
          unfold putR at h
          by_cases e1 : N = g.start
          · rw [if_pos e1] at h
            by_cases e2 : t = g.terms
            · rw [e1, e2]; exact .start
            · simp only [if_neg e2] at h; cases h
          · rw [if_neg e1] at h; cases h⟩, by unfold putR; rw [if_pos rfl, if_pos rfl]⟩)
      go_upto_region 8 with fail
      clear ce fe HF2
      generalize w2.setCell ⟨bs g.start, g.terms, none⟩ (.bool true) = w3 at *
      generalize putR (fun _ _ => false) g.start (fun j => if j = g.terms then true else false) = fo0 at *
      go_wp2_with fail
      go_loopg [6] (2 * muF g.nons g.terms fo0 + 1) (fun gk a wx => ∃ fo ag, a = .bool ag ∧ Hid (FoM w g rb hb rc bs fo wx) ∧ Hid (TabF g.rules g.start g.terms fo ∧ fo g.start g.terms = true) ∧ Hid (ag = false → PassF g.terms g.rules es rc fs fo g.rules.length) ∧ gk = 2 * muF g.nons g.terms fo + (if ag then 1 else 0))
      case atStart => exact ⟨fo0, true, rfl, H0, HI0, Lib.hid (fun h => by cases h), rfl⟩
      case round =>
        obtain ⟨fo, ag, rfl, HM, HI, HS, hgk⟩ := hrel
        clear H0 HI0
        cases ag with
        | false =>
          clear hgk
          go_wp2_with fail
          go_ret
          refine ⟨hb, hc, bs, fo, rfl, HM.out.hd, HM.out.row, HI.out.1.ok HT.out HRC.out (fun u hu y hy h1 => ?_) HI.out.2 (HS.out trivial), HM.out.bel⟩
          have := (HGO.out.ok.right u hu).2 y hy
          simpa [Gr.okSy, h1] using this
        | true =>
          have HGK := Lib.hid hgk
          clear hgk HS
          have BH := (HF.out.via HM.out.bel).hdr
          simp only [FsL.cells] at BH
          have cBH := BH.cell
          have fBH := BH.frozen
          have lBH := BH.lt
          go_wp2_with fail
          clear cBH fBH lBH
          clear BH
          go_loopw [6, 60] (fun a q wr => ∃ (k : Nat) (fo1 : Nat → Nat → Bool) (ag : Bool), q = .int .i64 k ∧ k ≤ L.ng ∧ a = .bool ag ∧ Hid (FoM w g rb hb rc bs fo1 wr) ∧ Hid (FInv0 g es rc fs fo k fo1 ag)) (fun _ q _ => L.ng - (intOf q).toNat)
          case atStart => exact ⟨0, fo, false, rfl, Nat.zero_le _, rfl, HM, Lib.hid ⟨HI.out.1, HI.out.2, Chg.refl _, fun _ i u h => absurd h (Nat.not_lt_zero _)⟩⟩
          case round =>
            obtain ⟨k, fo1, ag, rfl, hk, rfl, HM1, HI1⟩ := hrel
            clear HM HI
            by_cases hkn : k < L.ng
            · obtain ⟨b1, o1, ⟨sl, sA, sn, sc⟩, ⟨sl', rhs⟩, hAg, -, hbb, hy, ⟨hx1, hx2⟩, hcc⟩ := HL.out.at_ hkn
              simp only at hx1 hx2
              obtain rfl : sl = sl' := hx1
              have d0 := (HM1.out.bel.cell (p := ⟨b1, o1 + k * RuE.k + 0, none⟩) hbb).trans (hcc 0 _ rfl)
              have d1 := (HM1.out.bel.cell (p := ⟨b1, o1 + k * RuE.k + 1, none⟩) hbb).trans (hcc 1 _ rfl)
              simp only [RuE, Nat.add_zero] at d0 d1
              have i0 : (0 : Int) ≤ (k : Int) := by omega
              have i1 : (k : Int) < (L.ng : Int) := by omega
              have hmem := List.mem_of_getElem? hy
              have hsl : sl < g.nons := HGO.out.ok.left _ hmem
              have j0 : (0 : Int) ≤ (sl : Int) := by omega
              have j1 : (sl : Int) < (g.nons : Int) := by omega
              have HRT := Lib.hid (HGO.out.ok.right _ hmem)
              have hsn : sn ≤ 4 := by rw [← hx2.len]; exact HRT.out.1
              have HY := Lib.hid hy
              have HMEM := Lib.hid hmem
              have hal := (Below.refl wr.heap.size wr).al (.cells #[.int .i64 (sl : Int), .slice sA sn sc] 58)
              have HSR := Lib.hid hx2
              have BX := Blk.new wr 58 #[.int .i64 (sl : Int), .slice sA sn sc]
              have HM4 := Lib.hid (HM1.out.via hal)
              have HNW := Lib.hid (show ∀ i, i < g.nons → bs i ≠ wr.heap.size from fun i hi e => by have := (HM1.out.row i hi).lt; omega)
              clear hcc hy hx2 hmem hbb hal
              rw [hAg]
              go_upto_region 14 with fail
              clear d0 d1
              generalize wr.alloc (.cells #[.int .i64 (sl : Int), .slice sA sn sc] 58) = W4 at *
              generalize wr.heap.size = bx at *
              have ce := HM4.out.rc.cell hsl
              have fe := HM4.out.rc.frozen
              have cBX := BX.cell
              have fBX := BX.frozen
              have lBX := BX.lt
              cases hrl : rc sl with
              | false =>
                rw [hrl] at ce
                go_wp2_with fail
                exact ⟨⟨k + 1, fo1, ag, by go_num, by omega, rfl, HM4, Lib.hid (HI1.out.skip HY.out hrl)⟩, by simp [intOf]; omega⟩
              | true =>
                rw [hrl] at ce
                have HRS := Lib.hid ((HRC.out sl).1 hrl)
                go_wp2_with fail
                clear cBX fBX lBX
                clear ce fe
                have BX4 := Lib.hid BX
                clear BX
                go_loopw [6, 73] (fun a q wr => ∃ (j : Nat) (fo2 : Nat → Nat → Bool) (ag : Bool), q = .int .i64 j ∧ j ≤ sn ∧ a = .bool ag ∧ Hid (FoM w g rb hb rc bs fo2 wr) ∧ Hid (Blk wr bx 58 #[.int .i64 (sl : Int), .slice sA sn sc]) ∧ Hid (FInv g es rc fs fo k sl rhs j fo2 ag)) (fun _ q _ => sn - (intOf q).toNat)
                case atStart => exact ⟨0, fo1, ag, rfl, Nat.zero_le _, rfl, HM4, BX4, Lib.hid HI1.out.start⟩
                case round =>
                  obtain ⟨j, fo2, ag2, rfl, hj, rfl, HM6, HX6, HI6⟩ := hrel
                  clear HM4 HI1 BX4
                  by_cases hjn : j < sn
                  · obtain ⟨b2, o2, ⟨tb, tn⟩, x', hA2, -, hb2, hx, hxr, hcc⟩ := HSR.out.at_ hjn
                    obtain rfl : (tb, tn) = x' := hxr
                    have x0 := (HM6.out.bel.cell (p := ⟨b2, o2 + j * SyE.k + 0, none⟩) hb2).trans (hcc 0 _ rfl)
                    have x1 := (HM6.out.bel.cell (p := ⟨b2, o2 + j * SyE.k + 1, none⟩) hb2).trans (hcc 1 _ rfl)
                    simp only [SyE, Nat.add_zero] at x0 x1
                    have q0 : (0 : Int) ≤ (j : Int) := by omega
                    have q1 : (j : Int) < (sn : Int) := by omega
                    have hsc : sn ≤ sc := HSR.out.le
                    have HTL := Lib.hid (HSR.out.tailE (l := j + 1) (by omega))
                    have HJ := Lib.hid hx
                    have hoks := HRT.out.2 _ (List.mem_of_getElem? hx)
                    have HDL := Lib.hid (show ∀ s ∈ rhs.drop (j + 1), g.okSy s from fun s hs => HRT.out.2 s (List.mem_of_mem_drop hs))
                    have hal := (Below.refl wr.heap.size wr).al (.cells #[.bool tb, .int .i64 (tn : Int)] 68)
                    have BY := Blk.new wr 68 #[.bool tb, .int .i64 (tn : Int)]
                    have HM7 := Lib.hid (HM6.out.via hal)
                    have HX7 := Lib.hid (HX6.out.via hal)
                    have HNY := Lib.hid (show ∀ i, i < g.nons → bs i ≠ wr.heap.size from fun i hi e => by have := (HM6.out.row i hi).lt; omega)
                    clear hcc hx hb2 hal
                    subst hA2
                    go_upto_region 18 with fail
                    clear x0 x1
                    generalize wr.alloc (.cells #[.bool tb, .int .i64 (tn : Int)] 68) = W7 at *
                    generalize wr.heap.size = by7 at *
                    cases tb with
                    | true =>
                      have cBY := BY.cell
                      have fBY := BY.frozen
                      have lBY := BY.lt
                      go_wp2_with fail
                      exact ⟨⟨j + 1, fo2, ag2, by go_num, by omega, rfl, HM7, HX7, Lib.hid (HI6.out.term HJ.out)⟩, by simp [intOf]; omega⟩
                    | false =>
                      have hxt : tn < g.nons := by simpa [Gr.okSy] using hoks
                      have p0 : (0 : Int) ≤ (tn : Int) := by omega
                      have p1 : (tn : Int) < (g.nons : Int) := by omega
                      have BY7 := Lib.hid BY
                      have HSA := Lib.hid (fun he => HI6.out.stepA HJ.out HMEM.out HRS.out HT.out hxt he)
                      have HSB := Lib.hid (fun he => HI6.out.stepB HJ.out HMEM.out HRS.out HT.out hxt he)
                      clear BY HI6 HM6 HX6
                      by_cases hcap : sc = j + 1
                      · have HTL2 := HTL.out
                        rw [if_pos hcap, show sc - (j + 1) = 0 by omega, show sn - (j + 1) = 0 by omega] at HTL2
                        have HTM := Lib.hid HTL2
                        clear HTL HTL2
                        subst hcap
                        have BX := HX7.out
                        have BY := BY7.out
                        have cBX := BX.cell
                        have fBX := BX.frozen
                        have lBX := BX.lt
                        have cBY := BY.cell
                        have fBY := BY.frozen
                        have lBY := BY.lt
                        go_wp2_with fail
                        clear cBX fBX lBX cBY fBY lBY
                        clear BX BY
                        refine (of_c W7 g HGO.out L es fs ok (some ⟨b2, o2, none⟩) 0 0 (rhs.drop (j + 1)) (HF.out.via HM7.out.bel) (HTM.out.via HM7.out.bel) (by omega) HDL.out).mono ?_
                        rintro e w8 ⟨o, rfl, hro, hol, hb8⟩
                        have HRO := Lib.hid hro
                        have HM8 := Lib.hid (HM7.out.via hb8)
                        have HX8 := Lib.hid (HX7.out.via hb8)
                        have BY8 := Lib.hid (BY7.out.via hb8)
                        have HOS := Lib.hid (show ∀ i, i < g.nons → bs i ≠ o from fun i hi e => by have := (HM7.out.row i hi).lt; omega)
                        clear hro hol hb8 HM7 HX7 BY7
                        have BX := HX8.out
                        have BY := BY8.out
                        have ch := HM8.out.hd.cell hxt
                        have fh := HM8.out.hd.frozen
                        have cBX := BX.cell
                        have fBX := BX.frozen
                        have lBX := BX.lt
                        have cBY := BY.cell
                        have fBY := BY.frozen
                        have lBY := BY.lt
                        go_wp2_with fail
                        clear cBX fBX lBX cBY fBY lBY
                        clear BX BY ch fh
                        refine (union_c w8 (bs tn) (g.terms + 1) (g.terms + 1) (fo2 tn) (ofB es fs (rhs.drop (j + 1))) o g.terms g.terms (HM8.out.row tn hxt) HRO.out (by omega) (by omega) (fun e => absurd e.symm (HOS.out tn hxt))).mono ?_
                        rintro e w9 ⟨rfl, hb9, hgr⟩
                        have HM9 := Lib.hid (show FoM w g rb hb rc bs (foA g es fs fo2 rhs j tn) w9 from HM8.out.union hxt hb9 hgr)
                        have HX9 := Lib.hid (HX8.out.grown hgr (fun e => HNW.out tn hxt (Option.some.inj e).symm))
                        have BY9 := Lib.hid (BY8.out.grown hgr (fun e => HNY.out tn hxt (Option.some.inj e).symm))
                        rw [show uniC (fo2 tn) (ofB es fs (rhs.drop (j + 1))) g.terms = cA g es fs fo2 rhs j tn from rfl]
                        clear hb9 hgr HM8 HX8 BY8 HRO HOS
                        generalize cA g es fs fo2 rhs j tn = cc at *
                        generalize foA g es fs fo2 rhs j tn = fo3 at *
                        cases cc with
                        | true =>
                          have BX := HX9.out
                          have BY := BY9.out
                          have ch := HM9.out.hd.cell hxt
                          have cs := HM9.out.hd.cell hsl
                          have fh := HM9.out.hd.frozen
                          have cBX := BX.cell
                          have fBX := BX.frozen
                          have lBX := BX.lt
                          have cBY := BY.cell
                          have fBY := BY.frozen
                          have lBY := BY.lt
                          cases he : ofE es (rhs.drop (j + 1)) with
                          | false =>
                            go_wp2_with fail
                            exact ⟨⟨j + 1, fo3, true, by go_num, by omega, rfl, HM9, HX9, Lib.hid (by have := HSA.out he; simpa using this)⟩, by simp [intOf]; omega⟩
                          | true =>
                            go_upto_region 22 with fail
                            go_still_tail 10, (by kernel_rfl)
                            clear cBX fBX lBX cBY fBY lBY
                            clear BX BY ch cs fh
                            have HDW := Lib.hid (Below.refl w9.heap.size w9).drew
                            change wpList _ _ _ _ _ w9.drew
                            generalize w9.drew = w10 at *
                            have HM10 := Lib.hid (HM9.out.via HDW.out)
                            have HX10 := Lib.hid (HX9.out.via HDW.out)
                            clear HDW HM9 HX9 BY9
                            go_wp2_with fail
                            refine (union_c w10 (bs tn) (g.terms + 1) (g.terms + 1) (fo3 tn) (fo3 sl) (bs sl) (g.terms + 1) (g.terms + 1) (HM10.out.row tn hxt) (HM10.out.row sl hsl) (Nat.le_refl _) (by omega) (fun e i _ => by
                              have : sl = tn := Classical.byContradiction fun q => HM10.out.ap sl tn hsl hxt q e
                              rw [this])).mono ?_
                            rintro e w11 ⟨rfl, hb11, hgr11⟩
                            have HM11 := Lib.hid (show FoM w g rb hb rc bs (foB g sl tn fo3) w11 from HM10.out.union hxt hb11 hgr11)
                            have HX11 := Lib.hid (HX10.out.grown hgr11 (fun e => HNW.out tn hxt (Option.some.inj e).symm))
                            have HSB2 := Lib.hid (HSB.out he)
                            rw [show uniC (fo3 tn) (fo3 sl) (g.terms + 1) = cB g sl tn fo3 from rfl]
                            clear hb11 hgr11 HM10 HX10 HSA HSB
                            generalize cB g sl tn fo3 = cc2 at *
                            cases cc2 with
                            | true =>
                              go_wp2_with fail
                              exact ⟨⟨j + 1, _, true, by go_num, by omega, rfl, HM11, HX11, Lib.hid (by have := HSB2.out; simpa using this)⟩, by simp [intOf]; omega⟩
                            | false =>
                              go_wp2_with fail
                              exact ⟨⟨j + 1, _, true, by go_num, by omega, rfl, HM11, HX11, Lib.hid (by have := HSB2.out; simpa using this)⟩, by simp [intOf]; omega⟩
                        | false =>
                          have BX := HX9.out
                          have BY := BY9.out
                          have ch := HM9.out.hd.cell hxt
                          have cs := HM9.out.hd.cell hsl
                          have fh := HM9.out.hd.frozen
                          have cBX := BX.cell
                          have fBX := BX.frozen
                          have lBX := BX.lt
                          have cBY := BY.cell
                          have fBY := BY.frozen
                          have lBY := BY.lt
                          cases he : ofE es (rhs.drop (j + 1)) with
                          | false =>
                            go_wp2_with fail
                            exact ⟨⟨j + 1, fo3, ag2, by go_num, by omega, rfl, HM9, HX9, Lib.hid (by have := HSA.out he; simpa using this)⟩, by simp [intOf]; omega⟩
                          | true =>
                            go_upto_region 22 with fail
                            go_still_tail 10, (by kernel_rfl)
                            clear cBX fBX lBX cBY fBY lBY
                            clear BX BY ch cs fh
                            have HDW := Lib.hid (Below.refl w9.heap.size w9).drew
                            change wpList _ _ _ _ _ w9.drew
                            generalize w9.drew = w10 at *
                            have HM10 := Lib.hid (HM9.out.via HDW.out)
                            have HX10 := Lib.hid (HX9.out.via HDW.out)
                            clear HDW HM9 HX9 BY9
                            go_wp2_with fail
                            refine (union_c w10 (bs tn) (g.terms + 1) (g.terms + 1) (fo3 tn) (fo3 sl) (bs sl) (g.terms + 1) (g.terms + 1) (HM10.out.row tn hxt) (HM10.out.row sl hsl) (Nat.le_refl _) (by omega) (fun e i _ => by
                              have : sl = tn := Classical.byContradiction fun q => HM10.out.ap sl tn hsl hxt q e
                              rw [this])).mono ?_
                            rintro e w11 ⟨rfl, hb11, hgr11⟩
                            have HM11 := Lib.hid (show FoM w g rb hb rc bs (foB g sl tn fo3) w11 from HM10.out.union hxt hb11 hgr11)
                            have HX11 := Lib.hid (HX10.out.grown hgr11 (fun e => HNW.out tn hxt (Option.some.inj e).symm))
                            have HSB2 := Lib.hid (HSB.out he)
                            rw [show uniC (fo3 tn) (fo3 sl) (g.terms + 1) = cB g sl tn fo3 from rfl]
                            clear hb11 hgr11 HM10 HX10 HSA HSB
                            generalize cB g sl tn fo3 = cc2 at *
                            cases cc2 with
                            | true =>
                              go_wp2_with fail
                              exact ⟨⟨j + 1, _, true, by go_num, by omega, rfl, HM11, HX11, Lib.hid (by have := HSB2.out; simpa using this)⟩, by simp [intOf]; omega⟩
                            | false =>
                              go_wp2_with fail
                              exact ⟨⟨j + 1, _, ag2, by go_num, by omega, rfl, HM11, HX11, Lib.hid (by have := HSB2.out; simpa using this)⟩, by simp [intOf]; omega⟩
                      · have HTL2 := HTL.out
                        rw [if_neg hcap] at HTL2
                        simp only [Option.map_some, Addr.add_lit, SyE] at HTL2
                        have HTM := Lib.hid HTL2
                        clear HTL HTL2
                        have BX := HX7.out
                        have BY := BY7.out
                        have cBX := BX.cell
                        have fBX := BX.frozen
                        have lBX := BX.lt
                        have cBY := BY.cell
                        have fBY := BY.frozen
                        have lBY := BY.lt
                        go_wp2_with fail
                        clear cBX fBX lBX cBY fBY lBY
                        clear BX BY
                        refine (of_c W7 g HGO.out L es fs ok (some ⟨b2, o2 + (j + 1) * 2, none⟩) (sn - (j + 1)) (sc - (j + 1)) (rhs.drop (j + 1)) (HF.out.via HM7.out.bel) (HTM.out.via HM7.out.bel) (by omega) HDL.out).mono ?_
                        rintro e w8 ⟨o, rfl, hro, hol, hb8⟩
                        have HRO := Lib.hid hro
                        have HM8 := Lib.hid (HM7.out.via hb8)
                        have HX8 := Lib.hid (HX7.out.via hb8)
                        have BY8 := Lib.hid (BY7.out.via hb8)
                        have HOS := Lib.hid (show ∀ i, i < g.nons → bs i ≠ o from fun i hi e => by have := (HM7.out.row i hi).lt; omega)
                        clear hro hol hb8 HM7 HX7 BY7
                        have BX := HX8.out
                        have BY := BY8.out
                        have ch := HM8.out.hd.cell hxt
                        have fh := HM8.out.hd.frozen
                        have cBX := BX.cell
                        have fBX := BX.frozen
                        have lBX := BX.lt
                        have cBY := BY.cell
                        have fBY := BY.frozen
                        have lBY := BY.lt
                        go_wp2_with fail
                        clear cBX fBX lBX cBY fBY lBY
                        clear BX BY ch fh
                        refine (union_c w8 (bs tn) (g.terms + 1) (g.terms + 1) (fo2 tn) (ofB es fs (rhs.drop (j + 1))) o g.terms g.terms (HM8.out.row tn hxt) HRO.out (by omega) (by omega) (fun e => absurd e.symm (HOS.out tn hxt))).mono ?_
                        rintro e w9 ⟨rfl, hb9, hgr⟩
                        have HM9 := Lib.hid (show FoM w g rb hb rc bs (foA g es fs fo2 rhs j tn) w9 from HM8.out.union hxt hb9 hgr)
                        have HX9 := Lib.hid (HX8.out.grown hgr (fun e => HNW.out tn hxt (Option.some.inj e).symm))
                        have BY9 := Lib.hid (BY8.out.grown hgr (fun e => HNY.out tn hxt (Option.some.inj e).symm))
                        rw [show uniC (fo2 tn) (ofB es fs (rhs.drop (j + 1))) g.terms = cA g es fs fo2 rhs j tn from rfl]
                        clear hb9 hgr HM8 HX8 BY8 HRO HOS
                        generalize cA g es fs fo2 rhs j tn = cc at *
                        generalize foA g es fs fo2 rhs j tn = fo3 at *
                        cases cc with
                        | true =>
                          have BX := HX9.out
                          have BY := BY9.out
                          have ch := HM9.out.hd.cell hxt
                          have cs := HM9.out.hd.cell hsl
                          have fh := HM9.out.hd.frozen
                          have cBX := BX.cell
                          have fBX := BX.frozen
                          have lBX := BX.lt
                          have cBY := BY.cell
                          have fBY := BY.frozen
                          have lBY := BY.lt
                          cases he : ofE es (rhs.drop (j + 1)) with
                          | false =>
                            go_wp2_with fail
                            exact ⟨⟨j + 1, fo3, true, by go_num, by omega, rfl, HM9, HX9, Lib.hid (by have := HSA.out he; simpa using this)⟩, by simp [intOf]; omega⟩
                          | true =>
                            go_upto_region 22 with fail
                            go_still_tail 10, (by kernel_rfl)
                            clear cBX fBX lBX cBY fBY lBY
                            clear BX BY ch cs fh
                            have HDW := Lib.hid (Below.refl w9.heap.size w9).drew
                            change wpList _ _ _ _ _ w9.drew
                            generalize w9.drew = w10 at *
                            have HM10 := Lib.hid (HM9.out.via HDW.out)
                            have HX10 := Lib.hid (HX9.out.via HDW.out)
                            clear HDW HM9 HX9 BY9
                            go_wp2_with fail
                            refine (union_c w10 (bs tn) (g.terms + 1) (g.terms + 1) (fo3 tn) (fo3 sl) (bs sl) (g.terms + 1) (g.terms + 1) (HM10.out.row tn hxt) (HM10.out.row sl hsl) (Nat.le_refl _) (by omega) (fun e i _ => by
                              have : sl = tn := Classical.byContradiction fun q => HM10.out.ap sl tn hsl hxt q e
                              rw [this])).mono ?_
                            rintro e w11 ⟨rfl, hb11, hgr11⟩
                            have HM11 := Lib.hid (show FoM w g rb hb rc bs (foB g sl tn fo3) w11 from HM10.out.union hxt hb11 hgr11)
                            have HX11 := Lib.hid (HX10.out.grown hgr11 (fun e => HNW.out tn hxt (Option.some.inj e).symm))
                            have HSB2 := Lib.hid (HSB.out he)
                            rw [show uniC (fo3 tn) (fo3 sl) (g.terms + 1) = cB g sl tn fo3 from rfl]
                            clear hb11 hgr11 HM10 HX10 HSA HSB
                            generalize cB g sl tn fo3 = cc2 at *
                            cases cc2 with
                            | true =>
                              go_wp2_with fail
                              exact ⟨⟨j + 1, _, true, by go_num, by omega, rfl, HM11, HX11, Lib.hid (by have := HSB2.out; simpa using this)⟩, by simp [intOf]; omega⟩
                            | false =>
                              go_wp2_with fail
                              exact ⟨⟨j + 1, _, true, by go_num, by omega, rfl, HM11, HX11, Lib.hid (by have := HSB2.out; simpa using this)⟩, by simp [intOf]; omega⟩
                        | false =>
                          have BX := HX9.out
                          have BY := BY9.out
                          have ch := HM9.out.hd.cell hxt
                          have cs := HM9.out.hd.cell hsl
                          have fh := HM9.out.hd.frozen
                          have cBX := BX.cell
                          have fBX := BX.frozen
                          have lBX := BX.lt
                          have cBY := BY.cell
                          have fBY := BY.frozen
                          have lBY := BY.lt
                          cases he : ofE es (rhs.drop (j + 1)) with
                          | false =>
                            go_wp2_with fail
                            exact ⟨⟨j + 1, fo3, ag2, by go_num, by omega, rfl, HM9, HX9, Lib.hid (by have := HSA.out he; simpa using this)⟩, by simp [intOf]; omega⟩
                          | true =>
                            go_upto_region 22 with fail
                            go_still_tail 10, (by kernel_rfl)
                            clear cBX fBX lBX cBY fBY lBY
                            clear BX BY ch cs fh
                            have HDW := Lib.hid (Below.refl w9.heap.size w9).drew
                            change wpList _ _ _ _ _ w9.drew
                            generalize w9.drew = w10 at *
                            have HM10 := Lib.hid (HM9.out.via HDW.out)
                            have HX10 := Lib.hid (HX9.out.via HDW.out)
                            clear HDW HM9 HX9 BY9
                            go_wp2_with fail
                            refine (union_c w10 (bs tn) (g.terms + 1) (g.terms + 1) (fo3 tn) (fo3 sl) (bs sl) (g.terms + 1) (g.terms + 1) (HM10.out.row tn hxt) (HM10.out.row sl hsl) (Nat.le_refl _) (by omega) (fun e i _ => by
                              have : sl = tn := Classical.byContradiction fun q => HM10.out.ap sl tn hsl hxt q e
                              rw [this])).mono ?_
                            rintro e w11 ⟨rfl, hb11, hgr11⟩
                            have HM11 := Lib.hid (show FoM w g rb hb rc bs (foB g sl tn fo3) w11 from HM10.out.union hxt hb11 hgr11)
                            have HX11 := Lib.hid (HX10.out.grown hgr11 (fun e => HNW.out tn hxt (Option.some.inj e).symm))
                            have HSB2 := Lib.hid (HSB.out he)
                            rw [show uniC (fo3 tn) (fo3 sl) (g.terms + 1) = cB g sl tn fo3 from rfl]
                            clear hb11 hgr11 HM10 HX10 HSA HSB
                            generalize cB g sl tn fo3 = cc2 at *
                            cases cc2 with
                            | true =>
                              go_wp2_with fail
                              exact ⟨⟨j + 1, _, true, by go_num, by omega, rfl, HM11, HX11, Lib.hid (by have := HSB2.out; simpa using this)⟩, by simp [intOf]; omega⟩
                            | false =>
                              go_wp2_with fail
                              exact ⟨⟨j + 1, _, ag2, by go_num, by omega, rfl, HM11, HX11, Lib.hid (by have := HSB2.out; simpa using this)⟩, by simp [intOf]; omega⟩
                  · obtain rfl : j = sn := by omega
                    have HLE := Lib.hid HSR.out.len
                    go_wp2_with fail
                    exact ⟨⟨k + 1, fo2, ag2, by go_num, by omega, rfl, HM6, Lib.hid (FInv.done (N := sl) (l := rhs) (by rw [HLE.out]; exact HI6.out) HY.out)⟩, by simp [intOf]; omega⟩
            · obtain rfl : k = L.ng := by omega
              have HLN := Lib.hid HL.out.len
              go_wp2_with fail
              go_roundg (2 * muF g.nons g.terms fo1 + (if ag then 1 else 0))
              case measure =>
                rw [HGK.out]
                rcases HI1.out.c with ⟨h1, h2⟩ | ⟨h1, h2⟩
                · rw [h1, h2]; simp
                · rw [h1]; simp; omega
              case rel =>
                exact ⟨fo1, ag, rfl, HM1, Lib.hid ⟨HI1.out.s, HI1.out.st⟩, Lib.hid (fun h => by have := HI1.out.p h; rwa [← HLN.out] at this), rfl⟩
end Go.Proofs.Ythkldiehokblcaa

