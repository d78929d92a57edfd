/- Texts VF, laid together. -/
import Derived.Test.YtbfcnfgkccgbiaaGreatDoorQ25
import Derived.Test.YtbfcnfgkccgbiaaGreatDoorQ29



namespace Go.Proofs.YtbfcnfgkccgbiaaGreatDoor
open Go.RowKit

theorem totI_take_le (L : List (List It3)) (k : Nat) : totI (L.take k) ≤ totI L := by
  have h : totI L = totI (L.take k) + totI (L.drop k) := by
    unfold totI
    rw [← List.sum_append, ← List.map_append, List.take_append_drop]
  omega
theorem item2_info : (Tryz.prog.info? 48).map (fun i => (i.zero, i.size, i.bytes)) = some (some (.agg #[.int .i64 0, .int .i64 0, .int .i64 0]), 3, 24) := by kernel_rfl
theorem step_append_i2 {ops : Array Oper} {o : Oper} {a : Act} {K : Act → World → Prop} {Q : Exit → Act → World → Prop} {F : Prop} (w : World) (hgd : o.guard = none) (s y : Operand)
    (ho : o.op = .call { callee := .builtin .append, args := #[s, y], argTypes := #[44, 44] })
    (base : Nat) (v : Value) (n : Nat) (l : List It3) (hv : a.eval s = v) (hown : Own It3E 48 (fun _ => False) w base v n l)
    (b : Nat) (x : It3) (hy : a.eval y = .slice (some ⟨b, 0, none⟩) 1 1) (hcell : Blk w b 48 #[.int .i64 (x.r : Int), .int .i64 (x.d : Int), .int .i64 (x.f : Int)])
    (h63 : n + 1 ≤ 1000000) (hbase : base ≤ w.heap.size)
    (h : ∀ A' c' w', Own It3E 48 (fun _ => False) w' base (.slice A' (n + 1) c') (n + 1) (l ++ [x]) → w.grownBy w' v.ownBlock → ((Value.slice A' (n + 1) c').ownBlock = v.ownBlock ∨ (Value.slice A' (n + 1) c').ownBlock = some w.heap.size) → K (a.put o.dst (.slice A' (n + 1) c')) w') :
    if Region.wanted o (yielded ops a.tmps) = true then Oper.wp Tryz.prog o a w K Q else F := by
  obtain ⟨i, hi, hz⟩ := Option.map_eq_some_iff.1 item2_info
  simp only [Prod.mk.injEq] at hz
  refine step_append_E (E := It3E) w hgd s y 44 48 ho i (.agg #[.int .i64 0, .int .i64 0, .int .i64 0]) 24 (by kernel_rfl) hi hz.1 hz.2.1 hz.2.2 rfl (fun _ => False) base v n l hv hown b x x hy (fun j u hu => ?_) rfl (by simp [maxLen]; omega) (by omega) hbase h
  rw [hcell.cell j]
  rw [List.getElem?_toArray]; exact hu
/-- the rows 0 .. k - 1 are made -/
structure OutI (w0 : World) (L : List (List It3)) (bo n k : Nat) (hs : Nat → SlV) (S : Nat → List It3) (wr : World) : Prop where
  top : ∃ C : Array Value, Blk wr bo 44 C ∧ C.size = n + 1 ∧ (∀ j, j < k → C[j]? = some (.slice (hs j).1 (hs j).2.1 (hs j).2.2)) ∧ ∀ j, k ≤ j → j ≤ n → C[j]? = some (.slice none 0 0)
  row : ∀ j, j < k → Sl It3E (fun b => bo < b) wr (hs j).1 (hs j).2.1 (hs j).2.2 (S j)
  srt : ∀ j, j < k → ((S j).Pairwise fun a b => itCmp a b ≤ 0) ∧ (S j).Perm (atI L j)
  bel : Below bo w0 wr
theorem OutI.fin {w0 wr : World} {L : List (List It3)} {bo n : Nat} {hs : Nat → SlV} {S : Nat → List It3} (h : OutI w0 L bo n (n + 1) hs S wr) : Sl RwI (fun b => bo ≤ b) wr (some ⟨bo, 0, none⟩) (n + 1) (n + 1) ((List.range (n + 1)).map S) := by
  obtain ⟨⟨C, c1, c2, c3, -⟩, h2, h3, h4⟩ := h
  refine ⟨by simp, Nat.le_refl _, (List.range (n + 1)).map hs, by simp, fun _ => ⟨bo, 0, rfl, Nat.le_refl _, fun j u hu => ?_⟩, fun i r x hr hx => ?_⟩
  · rw [Nat.zero_add, c1.cell]
    have e : flat RwI ((List.range (n + 1)).map hs) = (List.range (n + 1)).map fun j => Value.slice (hs j).1 (hs j).2.1 (hs j).2.2 := by
      generalize List.range (n + 1) = l
      induction l with
      | nil => rfl
      | cons a l ih =>
        unfold flat at ih ⊢
        rw [List.map_cons, List.flatMap_cons, ih]; rfl
    rw [e, List.getElem?_map] at hu
    rcases Nat.lt_or_ge j (n + 1) with hj | hj
    · rw [List.getElem?_range hj] at hu
      rw [c3 j hj]; exact hu
    · rw [List.getElem?_eq_none (by simp; omega)] at hu; cases hu
  · rw [List.getElem?_map] at hr hx
    rcases Nat.lt_or_ge i (n + 1) with hi | hi
    · rw [List.getElem?_range hi] at hr hx
      obtain rfl := Option.some.inj hr
      obtain rfl := Option.some.inj hx
      exact (h2 i hi).mono fun b _ hb => Nat.le_of_lt hb
    · rw [List.getElem?_eq_none (by simp; omega)] at hr; cases hr
theorem OutI.srtI {w0 wr : World} {L : List (List It3)} {R : List Ru} {s : Nat} {xw : List Nat} {bo n : Nat} {hs : Nat → SlV} {S : Nat → List It3} (h : OutI w0 L bo n (n + 1) hs S wr) (hn : ∀ j, (atI L j).Nodup) (hf : ∀ k, k ≤ n → ∀ x, x ∈ atI L k ↔ EIt R s xw k x) : SrtI R s xw n ((List.range (n + 1)).map S) := by
  have key : ∀ (j : Nat) l, ((List.range (n + 1)).map S)[j]? = some l → j ≤ n ∧ l = S j := fun j l hl => by
    rw [List.getElem?_map] at hl
    rcases Nat.lt_or_ge j (n + 1) with hj | hj
    · rw [List.getElem?_range hj] at hl
      exact ⟨by omega, (Option.some.inj hl).symm⟩
    · rw [List.getElem?_eq_none (by simp; omega)] at hl; cases hl
  refine ⟨by simp, fun j l hl => ?_, fun j l hl => ?_, fun j l hl x => ?_⟩ <;> obtain ⟨hj, rfl⟩ := key j l hl
  · exact (h.srt j (by omega)).1
  · exact ((h.srt j (by omega)).2.nodup_iff).2 (hn j)
  · rw [(h.srt j (by omega)).2.mem_iff]; exact hf j hj x
set_option maxRecDepth 100000 in
set_option maxHeartbeats 8000000 in
theorem setsOf_c (ok okx : Nat → Prop) (g : Gr) (Ag : Option Addr) (ng cg : Nat) (A : Option Addr) (n cw : Nat) (xs : List Int) (xw : List Nat) (w : World) (hl : Sl RuE ok w Ag ng cg g.rules) (hx : Sl InE okx w A n cw xs)
    (hR : g.rules.length ≤ 32) (h4 : ∀ u ∈ g.rules, u.2.length ≤ 4) (hn : n ≤ 12) (hxw : ∀ (i t : Nat), xs[i]? = some (t : Int) ↔ xw[i]? = some t) (hxl : xw.length = n) :
    Calls Tryz.prog 11 #[grVal g Ag ng cg, .slice A n cw] w (SetsP g.rules g.start xw n w) := by
  have hal := ((Below.refl w.heap.size w).al (.cells #[.int .i64 (g.terms : Int), .int .i64 (g.nons : Int), .int .i64 (g.start : Int), .slice Ag ng cg] 24)).al (.cells (mkCells (.map none) (n + 1)) 94)
  have HBG := Lib.hid ((Blk.new w 24 #[.int .i64 (g.terms : Int), .int .i64 (g.nons : Int), .int .i64 (g.start : Int), .slice Ag ng cg]).al (.cells (mkCells (.map none) (n + 1)) 94))
  have HBI := Lib.hid (Blk.newAt (w.alloc (.cells #[.int .i64 (g.terms : Int), .int .i64 (g.nons : Int), .int .i64 (g.start : Int), .slice Ag ng cg] 24)) 94 (mkCells (.map none) (n + 1)) (w.heap.size + 1) (by simp))
  have HL := Lib.hid ((hl.mono (ok' := fun b => b < w.heap.size) fun b hb _ => hb).via hal)
  have HX := Lib.hid ((hx.mono (ok' := fun b => b < w.heap.size) fun b hb _ => hb).via hal)
  have HAL := Lib.hid hal
  have H4 := Lib.hid h4
  have HXW := Lib.hid hxw
  have HXLN := Lib.hid hxl
  have hlng : g.rules.length = ng := hl.len
  have hmk := mk_maps2 n (by omega)
  have hwx : IntKind.i64.wrap ((n : Int) + 1) = (n : Int) + 1 := IntWalk.i64_in _ (by omega)
  have B0 := Blk.new w 24 #[.int .i64 (g.terms : Int), .int .i64 (g.nons : Int), .int .i64 (g.start : Int), .slice Ag ng cg]
  clear hl hx hal hxw hxl h4
  simp only [grVal]
  go_enter Tryz.func11, Tryz.ntmps11
  have cB0 := B0.cell
  have fB0 := B0.frozen
  have lB0 := B0.lt
  go_wp2_with fail
  clear cB0 fB0 lB0
  clear B0 hmk hwx
  generalize (w.alloc (.cells #[.int .i64 (g.terms : Int), .int .i64 (g.nons : Int), .int .i64 (g.start : Int), .slice Ag ng cg] 24)).alloc (.cells (mkCells (.map none) (n + 1)) 94) = W at *
  obtain ⟨bi, hbi⟩ : ∃ bi, bi = w.heap.size + 1 := ⟨_, rfl⟩
  rw [← hbi] at HBI ⊢
  have HBIE := Lib.hid hbi
  clear hbi
  have HK0 := Lib.hid (show MkI W bi n 0 (fun _ => 0) W from ⟨⟨_, HBI.out, mkCells_size _ _, fun j h => absurd h (Nat.not_lt_zero _)⟩, fun j h => absurd h (Nat.not_lt_zero _), fun j j' h => absurd h (Nat.not_lt_zero _), fun j h => absurd h (Nat.not_lt_zero _), Below.refl _ _⟩)
  go_loopw [22] (fun q wr => ∃ (k : Nat) (ms : Nat → Nat), q = .int .i64 (k : Int) ∧ k ≤ n + 1 ∧ Hid (MkI W bi n k ms wr)) (fun q _ => n + 1 - (intOf q).toNat)
  case atStart => exact ⟨0, _, rfl, Nat.zero_le _, HK0⟩
  case round =>
    obtain ⟨k, ms, rfl, hk, HMK⟩ := hrel
    clear HK0
    by_cases hkn : k < n + 1
    · as_aux_lemma =>
      have hkn' : k ≤ n := by omega
      have hobl := (HMK.out.top.choose_spec.1).lt
      have hjn := HMK.out.next hkn'
      rw [World.setCell_alloc_past _ bi k _ hobl] at hjn
      have HJN := Lib.hid hjn
      obtain ⟨C, C1, C2, -⟩ := HMK.out.top
      have cR : ∃ u, wr.cell? ⟨bi, k, none⟩ = some u := ⟨C[k]'(by omega), by rw [C1.cell]; exact Array.getElem?_eq_getElem (by omega)⟩
      obtain ⟨u, cR⟩ := cR
      have fR := C1.frozen k
      have i0 : (0 : Int) ≤ (k : Int) := by omega
      have i1 : (k : Int) < (n : Int) + 1 := by omega
      clear hjn C1 C2
      have hmm := @run_makeMap Tryz.prog
      go_wp2_with fail
      exact ⟨⟨k + 1, _, by go_num, by omega, HJN⟩, by simp [intOf]; omega⟩
    · obtain rfl : k = n + 1 := by omega
      have HM := Lib.hid HMK.out.fin
      have HML := Lib.hid (show ∀ j, j ≤ n → bi < ms j from fun j hj => HMK.out.lo j (by omega))
      have HBW := Lib.hid HMK.out.bel
      clear HMK hkn
      obtain ⟨W1, hW1⟩ : ∃ W1, W1 = wr := ⟨_, rfl⟩
      have HNM := Lib.hid (show ∀ b, b < bi → NoM n ms b from fun b hb j hj e => by have := HML.out j hj; omega)
      have HBG1 := Lib.hid (show Blk wr w.heap.size 24 #[.int .i64 (g.terms : Int), .int .i64 (g.nons : Int), .int .i64 (g.start : Int), .slice Ag ng cg] from (HBW.out.block _ (by have := HBIE.out; omega)).trans HBG.out)
      have hAg : Agr (fun b => b < w.heap.size) W wr := fun b hb hlt => HBW.out.block b (by have := HBIE.out; omega)
      have HL1 := Lib.hid ((HL.out.agr hAg).mono (ok' := NoM n ms) fun b _ hb => HNM.out b (by have := HBIE.out; omega))
      have HX1 := Lib.hid ((HX.out.agr hAg).mono (ok' := NoM n ms) fun b _ hb => HNM.out b (by have := HBIE.out; omega))
      have HBW1 := Lib.hid (show Below w.heap.size w wr from HAL.out.trans (HBW.out.mono (by have := HBIE.out; omega)))
      have HNG := Lib.hid (HNM.out w.heap.size (by have := HBIE.out; omega))
      clear hAg HBW HAL HL HX HBG HBI
      have BG1 := HBG1.out
      have HM0 := HM
      rw [← hW1] at HBG1 HL1 HX1 HBW1
      have HST := Lib.hid (show StpM n ms W1 wr from by rw [hW1]; exact StpM.of (Below.refl _ _))
      clear hW1
      have cBG1 := BG1.cell
      have fBG1 := BG1.frozen
      have lBG1 := BG1.lt
      go_wp2_with fail
      clear cBG1 fBG1 lBG1
      clear BG1
      have hng : ng ≤ 32 := by omega
      go_loopw [33] (fun q wr => ∃ (i : Nat) (L : List (List It3)), q = .int .i64 (i : Int) ∧ i ≤ ng ∧ Hid (MsI wr bi n ms L ∧ SndI g.rules g.start xw L ∧ ∀ r u, r < i → g.rules[r]? = some u → u.1 = g.start → (⟨r, 0, 0⟩ : It3) ∈ atI L 0) ∧ Hid (StpM n ms W1 wr)) (fun q _ => ng - (intOf q).toNat)
      case atStart => exact ⟨0, _, rfl, Nat.zero_le _, Lib.hid ⟨HM.out, SndI.rep _, fun r u h => absurd h (Nat.not_lt_zero _)⟩, HST⟩
      case round =>
        obtain ⟨i, L, rfl, hi, HQ, HSW⟩ := hrel
        clear HM HM0 HST
        by_cases hin : i < ng
        · as_aux_lemma =>
          obtain ⟨b2, o2, ⟨rl, rA, rn, rc⟩, u2, rfl, hbb2, hlt2, hy2, ⟨e2, -⟩, hc2⟩ := (HL1.out.agr HSW.out.agr).at_ hin
          simp only at e2
          have q0 := hc2 0 _ rfl
          have q1 := hc2 1 _ rfl
          simp only [RuE, Nat.add_zero] at q0 q1
          have j0 : (0 : Int) ≤ (i : Int) := by omega
          have j1 : (i : Int) < (ng : Int) := by omega
          have HU2 := Lib.hid hy2
          have HE2 := Lib.hid e2
          have hal := (Below.refl wr.heap.size wr).al (.cells #[.int .i64 (rl : Int), .slice rA rn rc] 97)
          have BR := Blk.new wr 97 #[.int .i64 (rl : Int), .slice rA rn rc]
          have HSN := Lib.hid (HSW.out.trans (StpM.of hal))
          have HMN := Lib.hid (HQ.out.1.via hal)
          have BGx : Blk (wr.alloc (.cells #[.int .i64 (rl : Int), .slice rA rn rc] 97)) w.heap.size 24 _ := (HSN.out.agr _ HNG.out HBG1.out.lt).trans HBG1.out
          clear hc2 hy2 e2 hal hbb2 hlt2
          by_cases hrs : rl = g.start
          · have eq1 : ((rl : Int) == (g.start : Int)) = true := by simp [hrs]
            have HRS := Lib.hid hrs
            clear hrs
            have cBR := BR.cell
            have fBR := BR.frozen
            have lBR := BR.lt
            go_upto_region 10 with fail
            clear cBR fBR lBR
            clear q0 q1
            generalize wr.alloc (.cells #[.int .i64 (rl : Int), .slice rA rn rc] 97) = wx at *
            generalize wr.heap.size = bx at *
            have cm := HMN.out.cell 0 (Nat.zero_le _)
            have hmk := HMN.out.map 0 (Nat.zero_le _)
            have hn1 : (0 : Int) < (n : Int) + 1 := by omega
            obtain ⟨kl, hkl⟩ := item2_key ⟨i, 0, 0⟩ (by simp only; omega) (by simp only; omega) (by simp only; omega)
            have HKL := Lib.hid hkl
            have HRM := Lib.hid (show ∀ es clock, wx.heap[ms 0]? = some (.map es clock) → es.size < maxLen from fun es clock he => by
              have := (HMN.out.map 0 (Nat.zero_le _)).room3 es clock he
              have h2 := lenI hR H4.out (show 0 ≤ 100 by omega) (HQ.out.2.1.nd 0) (fun z hz => (HQ.out.2.1.ok 0 z hz).ok)
              simp only [maxLen]; omega)
            clear hkl
            have cBR := BR.cell
            have fBR := BR.frozen
            have lBR := BR.lt
            have cBGx := BGx.cell
            have fBGx := BGx.frozen
            have lBGx := BGx.lt
            go_wp2_with (at_mapUpdate; refine wpList_put_I rfl item2_keyed 94 Tryz.underlying94 itVal_inj _ _ _ rfl (ms 0) ⟨i, 0, 0⟩ (.bool true) rfl rfl rfl hmk HKL.out HRM.out ?_)
            intro wp hm9 hg9 hz9 hr9
            clear cBR fBR lBR cBGx fBGx lBGx
            have HMP := Lib.hid (HMN.out.put (Nat.zero_le _) hm9 hg9)
            have HSP := Lib.hid (HSN.out.trans (StpM.put HMN.out (Nat.zero_le _) hg9 hz9 hr9))
            have hkL' : 0 < L.length := by rw [HQ.out.1.len]; omega
            clear hm9 hg9 hz9 hr9 hmk cm BGx BR
            go_wp2_with fail
            refine ⟨⟨_, _, _, _, _, _, _, _, _, _, _, _, _, _, _, _, _, _, ⟨i + 1, putI L 0 ⟨i, 0, 0⟩, ?_, by omega, Lib.hid ⟨HMP.out, HQ.out.2.1.put hkL' (.start i u2 HU2.out (by rw [← HE2.out]; exact HRS.out)), fun r u' hr hu' hu2 => ?_⟩, HSP⟩, rfl⟩, ?_⟩
            · go_num
            · by_cases hri : r = i
              · subst hri; exact putI_mem hkL'
              · exact (putI_ext hkL').mem (HQ.out.2.2 r u' (by omega) hu' hu2)
            · simp [intOf]; omega
          · have eq1 : ((rl : Int) == (g.start : Int)) = false := by simp; omega
            have HRS := Lib.hid hrs
            clear hrs
            have cBR := BR.cell
            have fBR := BR.frozen
            have lBR := BR.lt
            have cBGx := BGx.cell
            have fBGx := BGx.frozen
            have lBGx := BGx.lt
            go_wp2_with fail
            clear cBR fBR lBR cBGx fBGx lBGx
            refine ⟨⟨i + 1, L, by go_num, by omega, Lib.hid ⟨HMN.out, HQ.out.2.1, fun r u' hr hu' hu2 => ?_⟩, HSN⟩, by simp [intOf]; omega⟩
            by_cases hri : r = i
            · subst hri
              have := Option.some.inj (hu'.symm.trans HU2.out)
              subst this
              exact absurd (HE2.out.trans hu2) HRS.out
            · exact HQ.out.2.2 r u' (by omega) hu' hu2
        · obtain rfl : ng = i := by omega
          have HSEED := Lib.hid (show ∀ r u, g.rules[r]? = some u → u.1 = g.start → (⟨r, 0, 0⟩ : It3) ∈ atI L 0 from fun r u hr hu => HQ.out.2.2 r u (by have := (List.getElem?_eq_some_iff.1 hr).1; omega) hr hu)
          clear hin hi
          have HTOT := Lib.hid (show ∀ L' : List (List It3), L'.length = n + 1 → SndI g.rules g.start xw L' → (∀ j, (atI L' j).length ≤ 100000) ∧ totI L' ≤ 1300000 from fun L' hl' hs' => by
            have h1 : ∀ j, (atI L' j).length ≤ 100000 := fun j => by
              rcases Nat.lt_or_ge j (n + 1) with h | h
              · exact lenI hR H4.out (show j ≤ 100 by omega) (hs'.nd j) fun z hz => (hs'.ok j z hz).ok
              · rw [atI_none (by omega)]; simp
            have h2 := totI_le h1
            have h3 : L'.length * 100000 ≤ 13 * 100000 := Nat.mul_le_mul_right _ (by omega)
            exact ⟨h1, by omega⟩)
          go_wp2_with fail
          go_loopw [9] (fun s wr => ∃ (L' : List (List It3)) (sz : Int), s = .int .i64 sz ∧ Hid (MsI wr bi n ms L' ∧ SndI g.rules g.start xw L' ∧ ExtI L L' ∧ (sz = -1 ∨ sz = (totI L' : Int))) ∧ Hid (StpM n ms W1 wr)) (fun s _ => 1300002 - (intOf s + 1).toNat)
          case atStart => exact ⟨L, -1, rfl, Lib.hid ⟨HQ.out.1, HQ.out.2.1, ExtI.refl L, Or.inl rfl⟩, HSW⟩
          case round =>
            obtain ⟨L', sz, rfl, HP, HSV⟩ := hrel
            clear HSW
            have HQL := Lib.hid HQ.out.2.1
            go_wp2_with fail
            go_loopw [10, 51] (fun now q wr => ∃ (k : Nat) (L2 : List (List It3)), q = .int .i64 (k : Int) ∧ now = .int .i64 (totI (L2.take k) : Int) ∧ k ≤ n + 1 ∧ Hid (MsI wr bi n ms L2 ∧ SndI g.rules g.start xw L2 ∧ ExtI L' L2 ∧ ∀ j x, j < k → x ∈ atI L' j → CnsI g.rules xw j x L' L2) ∧ Hid (StpM n ms W1 wr)) (fun _ q _ => n + 1 - (intOf q).toNat)
            case atStart => exact ⟨0, L', rfl, rfl, Nat.zero_le _, Lib.hid ⟨HP.out.1, HP.out.2.1, ExtI.refl _, fun j x h => absurd h (Nat.not_lt_zero _)⟩, HSV⟩
            case round =>
              obtain ⟨k, L2, rfl, rfl, hk, HP2, HSV2⟩ := hrel
              by_cases hkn : k < n + 1
              · as_aux_lemma =>
                have hkn' : k ≤ n := by omega
                have cm := HP2.out.1.cell k hkn'
                have hmk := HP2.out.1.map k hkn'
                have k0 : (0 : Int) ≤ (k : Int) := by omega
                have k1 : (k : Int) < (n : Int) + 1 := by omega
                generalize hWk : wr = Wk at *
                clear hWk
                go_wp2_with (at_range; refine wpList_range_I rfl 94 4 Tryz.underlying94 _ rfl (ms k) rfl hmk ?_)
                intro w1 hr1 hb1 hz1
                go_wp2_with fail
                have HM1 := Lib.hid (HP2.out.1.via hb1)
                have HRG1 := Lib.hid hr1
                have HSW1 := Lib.hid (StpM.of (n := n) (ms := ms) hb1)
                have HNB := Lib.hid (HP2.out.1.noM (Nat.le_refl Wk.heap.size))
                have hne : Wk.heap.size ≠ ms k := fun e => HNB.out k hkn' e.symm
                have HBIW := Lib.hid HP2.out.1.lt
                clear hmk cm hr1 hb1 hz1
                obtain ⟨br, hbr⟩ : ∃ br, br = Wk.heap.size := ⟨_, rfl⟩
                rw [← hbr] at HRG1 HNB hne HBIW ⊢
                have HBR := Lib.hid hbr
                clear hbr
                go_loopw [12] (fun _ wr => ∃ (L3 : List (List It3)) (need : It3 → Bool) (cnt : Nat), Hid (MsI wr bi n ms L3 ∧ SndI g.rules g.start xw L3 ∧ ExtI L2 L3 ∧ (∀ j, j ≠ k → j ≠ k + 1 → atI L3 j = atI L2 j) ∧ RngI itVal wr br (ms k) need cnt ∧ ∀ x, x ∈ atI L2 k → need x = true ∨ CnsI g.rules xw k x L2 L3) ∧ Hid (StpM n ms Wk wr)) (fun _ wr => 100001 - World.rngSeen wr br)
                case atStart => exact ⟨L2, _, 0, Lib.hid ⟨HM1.out, HP2.out.2.1, ExtI.refl _, fun _ _ _ => rfl, HRG1.out, fun y hy => Or.inl (by show (setF3 (atI L2 k) y).isSome = true; unfold setF3; rw [if_pos hy]; rfl)⟩, HSW1⟩
                case round =>
                  obtain ⟨L3, need, cnt, HP3, HSV3⟩ := hrel
                  clear HM1 HRG1 HSW1
                  go_wp2_with (at_next; refine wpList_next_I rfl _ rfl br (ms k) need cnt rfl HP3.out.2.2.2.2.1 (HP3.out.1.map k hkn') itVal_inj hne ?_ ?_)
                  · intro w9 hd hbd hhd
                    have HD := Lib.hid hd
                    have HMD := Lib.hid (HP3.out.1.via hbd)
                    have HSD := Lib.hid ((HSV2.out.trans HSV3.out).trans (StpM.of hbd))
                    have hlen := (HMD.out.map k hkn').len3 (HP3.out.2.1.nd k) Tryz.underlying94
                    have cm := HMD.out.cell k hkn'
                    have HTK := Lib.hid (show totI (L2.take k) + (atI L3 k).length = totI (L3.take (k + 1)) by
                      rw [totI_take (by rw [HP3.out.1.len]; omega), take_same HP3.out.2.2.1.len (k := k) fun j hj => HP3.out.2.2.2.1 j (by omega) (by omega)])
                    have HT1 := Lib.hid ((HTOT.out L3 HP3.out.1.len HP3.out.2.1).1 k)
                    have HT2 := Lib.hid (show totI (L2.take k) ≤ 1300000 by
                      have h1 := (HTOT.out L2 HP2.out.1.len HP2.out.2.1).2
                      have h2 := totI_take_le L2 k
                      omega)
                    have e9 : IntKind.i64.wrap ((totI (L2.take k) : Int) + ((atI L3 k).length : Int)) = ((totI (L3.take (k + 1)) : Nat) : Int) := by
                      have h1 := HT1.out
                      have h2 := HT2.out
                      rw [IntWalk.i64_in _ (by omega), ← HTK.out]; omega
                    clear hd hbd hhd
                    go_wp2_with fail
                    clear hlen cm e9
                    refine ⟨?_, by simp [intOf]; omega⟩
                    repeat apply Exists.intro
                    refine ⟨⟨k + 1, L3, by go_num, rfl, by omega, Lib.hid ⟨HMD.out, HP3.out.2.1, HP2.out.2.2.1.trans HP3.out.2.2.1, fun j x hj hx => ?_⟩, HSD⟩, rfl⟩
                    by_cases hjk : j = k
                    · subst hjk
                      rcases HP3.out.2.2.2.2.2 x (HP2.out.2.2.1.mem hx) with h | h
                      · rw [HD.out x] at h; cases h
                      · exact h.mono HP2.out.2.2.1 (ExtI.refl _)
                    · exact (HP2.out.2.2.2 j x (by omega) hx).mono (ExtI.refl _) HP3.out.2.2.1
                  · intro x v w9 hf hrg hgr hsz hen
                    obtain ⟨xr, xd, xf⟩ := x
                    have hxm := setF3_some hf
                    have hal := (Below.refl w9.heap.size w9).al (.cells #[.int .i64 (xr : Int), .int .i64 (xd : Int), .int .i64 (xf : Int)] 48)
                    have hmb : ∀ j, j ≤ n → br ≠ ms j := fun j hj e => HNB.out j hj e.symm
                    have HSN := Lib.hid ((HSV3.out.aside hgr (by rw [HBR.out]; exact Nat.le_refl _) HNB.out).trans (StpM.of hal))
                    have HRN := Lib.hid (hrg.via hal)
                    have HMN := Lib.hid (show MsI (w9.alloc (.cells #[.int .i64 (xr : Int), .int .i64 (xd : Int), .int .i64 (xf : Int)] 48)) bi n ms L3 from MsI.via ⟨fun j hj => (World.cell?_of_block (w := wr) (a := ⟨bi, j, none⟩) (hgr.block bi HP3.out.1.lt (fun e => by have := Option.some.inj e; have := HBIW.out; omega))).trans (HP3.out.1.cell j hj), fun j hj => (HP3.out.1.map j hj).grown hgr (fun e => hmb j hj (Option.some.inj e).symm), HP3.out.1.inj, HP3.out.1.ne, HP3.out.1.len⟩ hal)
                    have BY := Blk.new w9 48 #[.int .i64 (xr : Int), .int .i64 (xd : Int), .int .i64 (xf : Int)]
                    have HXM := Lib.hid hxm
                    simp only [itVal] at hen
                    clear hal hgr hrg hf hsz hxm hmb
                    have cBY := BY.cell
                    have fBY := BY.frozen
                    have lBY := BY.lt
                    go_upto_region 21 with fail
                    clear cBY fBY lBY
                    clear hen
                    generalize w9.alloc (.cells #[.int .i64 (xr : Int), .int .i64 (xd : Int), .int .i64 (xf : Int)] 48) = wx at *
                    generalize w9.heap.size = bx at *
                    have HSX := Lib.hid (HSV2.out.trans HSN.out)
                    have BGx : Blk wx w.heap.size 24 _ := (HSX.out.agr _ HNG.out HBG1.out.lt).trans HBG1.out
                    have hst := step2_c g Ag ng cg A cw xs xw bi n ms L3 k ⟨xr, xd, xf⟩ wx (HL1.out.agr HSX.out.agr) (HX1.out.agr HSX.out.agr) hR H4.out hn HMN.out HP3.out.2.1 HXW.out hkn' HXM.out
                    simp only [grVal, itVal] at hst
                    have cBGx := BGx.cell
                    have fBGx := BGx.frozen
                    have lBGx := BGx.lt
                    have cBY := BY.cell
                    have fBY := BY.frozen
                    have lBY := BY.lt
                    go_wp2_with fail
                    clear cBGx fBGx lBGx cBY fBY lBY
                    refine hst.mono ?_
                    clear hst BGx BY
                    rintro e wz ⟨rfl, L4, hM4, hE4, hS4, hC4, hO4, hT4⟩
                    have HM4 := Lib.hid hM4
                    have HE4 := Lib.hid hE4
                    have HS4 := Lib.hid hS4
                    have HC4 := Lib.hid hC4
                    have HO4 := Lib.hid hO4
                    have HT4 := Lib.hid hT4
                    clear hM4 hE4 hS4 hC4 hO4 hT4
                    dsimp only
                    go_wp2_with fail
                    have HRP := Lib.hid (HT4.out.itr br k _ _ hkn' HNB.out HRN.out)
                    refine ⟨⟨L4, _, cnt + 1, Lib.hid ⟨HM4.out, HS4.out, HP3.out.2.2.1.trans HE4.out, fun j hj hj2 => (HO4.out j hj hj2).trans (HP3.out.2.2.2.1 j hj hj2), HRP.out, fun y hy => ?_⟩, Lib.hid (HSN.out.trans HT4.out)⟩, ?_⟩
                    · by_cases he : y = ⟨xr, xd, xf⟩
                      · subst he; exact Or.inr (HC4.out.mono HP3.out.2.2.1 (ExtI.refl _))
                      · rcases HP3.out.2.2.2.2.2 y hy with h | h
                        · exact Or.inl (by simp [h, he])
                        · exact Or.inr (h.mono (ExtI.refl _) HE4.out)
                    · rw [HRP.out.cnt_eq, HP3.out.2.2.2.2.1.cnt_eq]
                      have h1 := HP3.out.2.2.2.2.1.le (HP3.out.1.map k hkn').room3
                      have h2 := (HTOT.out L3 HP3.out.1.len HP3.out.2.1).1 k
                      omega
              · obtain rfl : k = n + 1 := by omega
                have htk : L2.take (n + 1) = L2 := List.take_of_length_le (by rw [HP2.out.1.len]; exact Nat.le_refl _)
                rw [htk]
                have HT2 := Lib.hid (HTOT.out L2 HP2.out.1.len HP2.out.2.1).2
                have HTL := Lib.hid (totI_ext HP2.out.2.2.1)
                clear htk hkn hk
                by_cases hsz : (totI L2 : Int) = sz
                · have e1 : ((totI L2 : Int) == sz) = true := by simp [hsz]
                  have HFIN := Lib.hid (show ∀ k, k ≤ n → ∀ x, x ∈ atI L2 k ↔ EIt g.rules g.start xw k x from by
                    have he : L2 = L' := HTL.out.2 (by rcases HP.out.2.2.2 with h | h <;> omega)
                    subst he
                    exact fun k hk x => ⟨HP2.out.2.1.ok k x, fun h => closedI (n := n) (fun r u hr hu => HP.out.2.2.1.mem (HSEED.out r u hr hu)) (fun k hk x hx => HP2.out.2.2.2 k x (by omega) hx) h hk⟩)
                  have HM2 := Lib.hid HP2.out.1
                  have HND := Lib.hid HP2.out.2.1.nd
                  have HLE := Lib.hid (HTOT.out L2 HP2.out.1.len HP2.out.2.1).1
                  clear hsz HTL HT2 HP HP2 HSEED HQL HTOT HQ HSV
                  go_upto_region 26 with fail
                  clear e1
                  as_aux_lemma =>
                  have hmk := mk_itrs n (by omega)
                  have HW0 := Lib.hid (show Below w.heap.size W1 wr from HSV2.out.below (fun j hj => by have := HML.out j hj; have := HBIE.out; omega) (by have := HBW1.out.size; omega))
                  have HMA := Lib.hid (HM2.out.via ((Below.refl wr.heap.size wr).al (.cells (mkCells (.slice none 0 0) (n + 1)) 44)))
                  have HBO := Lib.hid (Blk.new wr 44 (mkCells (.slice none 0 0) (n + 1)))
                  have HWA := Lib.hid ((HBW1.out.trans HW0.out).al (.cells (mkCells (.slice none 0 0) (n + 1)) 44))
                  have HMLT := Lib.hid (show bi < wr.heap.size ∧ ∀ j, j ≤ n → ms j < wr.heap.size from ⟨HM2.out.lt, fun j hj => (HM2.out.map j hj).lt⟩)
                  have HBOG := Lib.hid (show w.heap.size ≤ wr.heap.size from (HBW1.out.trans HW0.out).size)
                  go_wp2_with fail
                  clear hmk
                  generalize wr.alloc (.cells (mkCells (.slice none 0 0) (n + 1)) 44) = V at *
                  generalize wr.heap.size = bo at *
                  have HO0 := Lib.hid (show OutI V L2 bo n 0 (fun _ => (none, 0, 0)) (fun _ => []) V from ⟨⟨_, HBO.out, mkCells_size _ _, fun j h => absurd h (Nat.not_lt_zero _), fun j _ hj => by unfold mkCells; rw [made_one, Array.getElem?_replicate, if_pos (by omega)]⟩, fun j h => absurd h (Nat.not_lt_zero _), fun j h => absurd h (Nat.not_lt_zero _), Below.refl _ _⟩)
                  go_loopw [86] (fun q wr => ∃ (k : Nat) (hs : Nat → SlV) (S : Nat → List It3), q = .int .i64 (k : Int) ∧ k ≤ n + 1 ∧ Hid (OutI V L2 bo n k hs S wr)) (fun q _ => n + 1 - (intOf q).toNat)
                  case atStart => exact ⟨0, _, _, rfl, Nat.zero_le _, HO0⟩
                  case round =>
                    obtain ⟨k, hs, S, rfl, hk, HO⟩ := hrel
                    clear HO0
                    by_cases hkn : k < n + 1
                    · as_aux_lemma =>
                      have hkn' : k ≤ n := by omega
                      have HMW := Lib.hid (show ∀ w', Below bo V w' → (MapK Tryz.prog 48 itVal w' (ms k) (setF3 (atI L2 k)) ∧ w'.cell? ⟨bi, k, none⟩ = some (.map (some (ms k)))) from fun w' hb => ⟨(HMA.out.map k hkn').agr_ (hb.block _ (HMLT.out.2 k hkn')), (World.cell?_of_block (w := V) (a := ⟨bi, k, none⟩) (hb.block bi HMLT.out.1)).trans (HMA.out.cell k hkn')⟩)
                      obtain ⟨hmk, cm⟩ := HMW.out _ HO.out.bel
                      obtain ⟨C, C1, C2, C3, C4⟩ := HO.out.top
                      have HC3 := Lib.hid C3
                      have HC4 := Lib.hid C4
                      have HBO1 := Lib.hid C1
                      have k0 : (0 : Int) ≤ (k : Int) := by omega
                      have k1 : (k : Int) < (n : Int) + 1 := by omega
                      have hbo := C1.lt
                      clear C1 C3 C4
                      generalize hWk : wr = Wk at *
                      clear hWk
                      go_wp2_with (at_range; refine wpList_range_K rfl 94 4 Tryz.underlying94 _ rfl (ms k) rfl hmk ?_)
                      intro w1 cnt0 hr1 hb1 hz1
                      go_wp2_with fail
                      have HRG1 := Lib.hid hr1
                      have HB1 := Lib.hid hb1
                      have hmb : ms k < Wk.heap.size := hmk.lt
                      clear hmk cm hr1 hb1
                      obtain ⟨br, hbr⟩ : ∃ br, br = Wk.heap.size := ⟨_, rfl⟩
                      rw [← hbr] at HRG1 hz1 hmb hbo ⊢
                      have HBR := Lib.hid hbr
                      clear hbr
                      have hF : ∀ y v, setF3 (atI L2 k) y = some v → y ∈ atI L2 k := fun y v h => setF3_some h
                      have HF := Lib.hid hF
                      clear hF
                      go_loopw [15] (fun _ wr => ∃ (left : It3 → Bool) (cnt : Nat) (vA : Option Addr) (vc : Nat) (l : List It3), Hid (RngK itVal (setF3 (atI L2 k)) wr br (ms k) left cnt ∧ Own It3E 48 (fun _ => False) wr (br + 1) (.slice vA l.length vc) l.length l ∧ Blk wr bo 44 (C.setIfInBounds k (.slice vA l.length vc)) ∧ l.Nodup ∧ ∀ x, x ∈ l ↔ x ∈ atI L2 k ∧ left x = false) ∧ Hid (Agr (fun b => b ≠ bo) Wk wr ∧ Below bo Wk wr)) (fun _ wr => World.rngLeftK wr br)
                      case atStart =>
                        refine ⟨_, _, none, 0, [], Lib.hid ⟨HRG1.out, Own.nil _ _, ?_, List.nodup_nil, fun x => ?_⟩, Lib.hid ⟨Agr.below HB1.out, HB1.out.mono (by rw [← HBR.out]; omega)⟩⟩
                        · have e : C.setIfInBounds k (.slice none ([] : List It3).length 0) = C := by
                            apply Array.ext_getElem?
                            intro j
                            rw [Array.getElem?_setIfInBounds]
                            by_cases hj : k = j
                            · subst hj
                              rw [if_pos rfl, if_pos (by omega), HC4.out k (Nat.le_refl _) hkn']; rfl
                            · rw [if_neg hj]
                          rw [e]; exact HBO1.out.via HB1.out
                        · simp only [List.not_mem_nil, false_iff, not_and, Bool.not_eq_false]
                          intro hx
                          show (setF3 (atI L2 k) x).isSome = true
                          unfold setF3; rw [if_pos hx]; rfl
                      case round =>
                        obtain ⟨left, cnt, vA, vc, l, HP, HG⟩ := hrel
                        clear HRG1
                        have hne : br ≠ ms k := by omega
                        have hll := Lib.hid (show l.length ≤ 100000 from Nat.le_trans (nodup_sub_len l (atI L2 k) HP.out.2.2.2.1 fun x hx => ((HP.out.2.2.2.2 x).1 hx).1) (HLE.out k))
                        go_wp2_with (at_next; refine wpList_next_K rfl _ rfl br (ms k) left cnt rfl HP.out.1 itVal_inj hne ?_ ?_)
                        · intro hd
                          have HPM := Lib.hid (show l.Perm (atI L2 k) from (List.perm_ext_iff_of_nodup HP.out.2.2.2.1 (HND.out k)).2 fun x => by rw [HP.out.2.2.2.2 x]; simp [hd x])
                          have BO := HP.out.2.2.1
                          have cO : wr.cell? ⟨bo, k, none⟩ = some (.slice vA l.length vc) := by rw [BO.cell, Array.getElem?_setIfInBounds, if_pos rfl, if_pos (by omega)]
                          clear hd BO
                          go_wp2_with fail
                          clear cO
                          refine (sortRI_c (fun _ => False) wr (br + 1) l.length vA vc l (by have := hll.out; omega) HP.out.2.1).mono ?_
                          rintro e w5 ⟨rfl, l', hperm, hsort, hown, hbel, hagr, hsz⟩
                          have HSO := Lib.hid hsort
                          have HPE := Lib.hid (hperm.trans HPM.out)
                          have HRW := Lib.hid (hown.toSl (ok' := fun b => bo < b) (fun _ _ h => h.elim) (fun b hb => by omega))
                          have HBE := Lib.hid hbel
                          clear hperm hsort hown hbel hagr hsz
                          dsimp only
                          go_wp2_with fail
                          have hB5 : Below bo Wk w5 := HG.out.2.trans (HBE.out.mono (by omega))
                          have hA5 : Agr (fun b => b ≠ bo) Wk w5 := fun b hb hlt => (HBE.out.block b (by have := HBR.out; omega)).trans (HG.out.1 b hb hlt)
                          refine ⟨?_, by simp [intOf]; omega⟩
                          repeat apply Exists.intro
                          refine ⟨⟨k + 1, fun j => if j = k then (vA, l.length, vc) else hs j, fun j => if j = k then l' else S j, by go_num, by omega, Lib.hid ⟨⟨_, (HBE.out.block bo (by omega)).trans HP.out.2.2.1, by simp [C2], fun j hj => ?_, fun j hj hj2 => ?_⟩, fun j hj => ?_, fun j hj => ?_, HO.out.bel.trans hB5⟩⟩, rfl⟩
                          · rw [Array.getElem?_setIfInBounds]
                            by_cases he : j = k
                            · subst he; rw [if_pos rfl, if_pos (by omega), if_pos rfl]
                            · rw [if_neg (Ne.symm he), if_neg he]; exact HC3.out j (by omega)
                          · rw [Array.getElem?_setIfInBounds, if_neg (by omega)]
                            exact HC4.out j (by omega) hj2
                          · by_cases he : j = k
                            · subst he; simp only [if_pos]; exact HRW.out
                            · simp only [if_neg he]
                              exact (HO.out.row j (by omega)).agr (hA5.mono fun b hb => by omega)
                          · by_cases he : j = k
                            · subst he; simp only [if_pos]; exact ⟨HSO.out, HPE.out⟩
                            · simp only [if_neg he]; exact HO.out.srt j (by omega)
                        · intro x v w9 cnt' hl hf hrg hlt hgr hsz hen
                          obtain ⟨xr, xd, xf⟩ := x
                          have HXM := Lib.hid (HF.out _ _ hf)
                          have HLX := Lib.hid hl
                          have hal := (Below.refl w9.heap.size w9).al (.cells #[.int .i64 (xr : Int), .int .i64 (xd : Int), .int .i64 (xf : Int)] 48)
                          have hrlt := HP.out.1.lt
                          have ho9 : Own It3E 48 (fun _ => False) w9 (br + 1) (.slice vA l.length vc) l.length l := HP.out.2.1.agr (Agr.grown hgr fun b hb e => by
                            rcases hb with hb | hb
                            · exact hb
                            · have h1 := (HP.out.2.1.lt b hb.symm).1
                              have := Option.some.inj e; omega)
                          have HRN := Lib.hid (hrg.via hal)
                          have HOW := Lib.hid (ho9.via hal)
                          have HNX := Lib.hid (show some w9.heap.size ≠ (Value.slice vA l.length vc).ownBlock from fun e => by have := (ho9.lt _ e.symm).2; omega)
                          have HNO := Lib.hid (show ∀ b, b ≤ br → some b ≠ (Value.slice vA l.length vc).ownBlock from fun b hb e => by have := (ho9.lt _ e.symm).1; omega)
                          have HBX := Lib.hid ((HP.out.2.2.1.grown hgr (fun e => by have := Option.some.inj e; omega)).via hal)
                          have HGX := Lib.hid (show Agr (fun b => b ≠ bo) Wk (w9.alloc (.cells #[.int .i64 (xr : Int), .int .i64 (xd : Int), .int .i64 (xf : Int)] 48)) ∧ Below bo Wk (w9.alloc (.cells #[.int .i64 (xr : Int), .int .i64 (xd : Int), .int .i64 (xf : Int)] 48)) from ⟨fun b hb hlt => by
                            have h0 : b < br := by have := HBR.out; omega
                            rw [← HG.out.1 b hb hlt]
                            exact (hal.block b (by omega)).trans (hgr.block b (by omega) (fun e => by have := Option.some.inj e; omega)), (HG.out.2.grown hgr (by omega) (fun b e => by have := Option.some.inj e; omega)).trans (hal.mono (by omega))⟩)
                          have BY := Blk.new w9 48 #[.int .i64 (xr : Int), .int .i64 (xd : Int), .int .i64 (xf : Int)]
                          have HLT := Lib.hid hlt
                          have HSZX := Lib.hid (show br + 1 ≤ w9.heap.size by omega)
                          have HWX := Lib.hid (show (w9.alloc (.cells #[.int .i64 (xr : Int), .int .i64 (xd : Int), .int .i64 (xf : Int)] 48)).heap.size = w9.heap.size + 1 by simp)
                          simp only [itVal] at hen
                          clear hal hgr hrg hf hsz hl hlt ho9 hrlt
                          have cBY := BY.cell
                          have fBY := BY.frozen
                          have lBY := BY.lt
                          go_upto_region 33 with fail
                          clear cBY fBY lBY
                          clear hen
                          generalize w9.alloc (.cells #[.int .i64 (xr : Int), .int .i64 (xd : Int), .int .i64 (xf : Int)] 48) = wx at *
                          generalize w9.heap.size = bx at *
                          have hbxx : bx < wx.heap.size := by have := HWX.out; omega
                          have hbox : bo < wx.heap.size := by have := HSZX.out; omega
                          have hbx1 : br + 1 ≤ wx.heap.size := by have := HSZX.out; omega
                          have cO : wx.cell? ⟨bo, k, none⟩ = some (.slice vA l.length vc) := by rw [HBX.out.cell, Array.getElem?_setIfInBounds, if_pos rfl, if_pos (by omega)]
                          have cY := BY.cell
                          have hHeld : wx.drew.cell? ⟨bo, k, none⟩ = some (.slice vA l.length vc) ∧ (∀ i, wx.drew.cell? ⟨bx, i, none⟩ = #[.int .i64 (xr : Int), .int .i64 (xd : Int), .int .i64 (xf : Int)][i]?) := ⟨cO, cY⟩
                          refine wp_region_noPanic ?_
                          refine wp_region_L 10 (fun w' => w'.cell? ⟨bo, k, none⟩ = some (.slice vA l.length vc) ∧ (∀ i, w'.cell? ⟨bx, i, none⟩ = #[.int .i64 (xr : Int), .int .i64 (xd : Int), .int .i64 (xf : Int)][i]?)) (by kernel_rfl) ?_
                          refine wpAnyL.take (i := 0) (d := some 98) (v := ?_) rfl (by kernel_rfl) (by kernel_rfl) (by kernel_rfl) (by kernel_rfl) rfl (fun _ _ _ h => h) (Or.inl ⟨by rfl, ?_⟩) (by assumption) ?_
                          rotate_left
                          · intro w hSw; (try dsimp only at hSw); go_simp; try with_reducible rfl
                          simp only [Act.put, List.setIfInBounds_toArray, List.set_cons_zero, List.set_cons_succ]
                          refine wpAnyL.take (i := 1) (d := some 99) (v := ?_) rfl (by kernel_rfl) (by kernel_rfl) (by kernel_rfl) (by kernel_rfl) rfl (fun _ _ _ h => h) (Or.inl ⟨by rfl, ?_⟩) (by assumption) ?_
                          rotate_left
                          · intro w hSw; (try dsimp only at hSw); go_simp; try with_reducible rfl
                          simp only [Act.put, List.setIfInBounds_toArray, List.set_cons_zero, List.set_cons_succ]
                          refine wpAnyL.take (i := 2) (d := some 100) (v := ?_) rfl (by kernel_rfl) (by kernel_rfl) (by kernel_rfl) (by kernel_rfl) rfl (fun _ _ _ h => h) (Or.inl ⟨by rfl, ?_⟩) (by assumption) ?_
                          rotate_left
                          · intro w hSw; (try dsimp only at hSw); go_simp; try with_reducible rfl
                          simp only [Act.put, List.setIfInBounds_toArray, List.set_cons_zero, List.set_cons_succ]
                          refine wpAnyL.take (i := 3) (d := some 101) (v := ?_) rfl (by kernel_rfl) (by kernel_rfl) (by kernel_rfl) (by kernel_rfl) rfl (fun _ _ _ h => h) (Or.inl ⟨by rfl, ?_⟩) (by assumption) ?_
                          rotate_left
                          · intro w hSw; (try dsimp only at hSw); go_simp; try with_reducible rfl
                          simp only [Act.put, List.setIfInBounds_toArray, List.set_cons_zero, List.set_cons_succ]
                          refine wpAnyL.take (i := 4) (d := some 102) (v := ?_) rfl (by kernel_rfl) (by kernel_rfl) (by kernel_rfl) (by kernel_rfl) rfl (fun _ _ _ h => h) (Or.inl ⟨by rfl, ?_⟩) (by assumption) ?_
                          rotate_left
                          · intro w hSw; (try dsimp only at hSw); go_simp; try with_reducible rfl
                          simp only [Act.put, List.setIfInBounds_toArray, List.set_cons_zero, List.set_cons_succ]
                          refine wpAnyL.take (i := 5) (d := some 103) (v := ?_) rfl (by kernel_rfl) (by kernel_rfl) (by kernel_rfl) (by kernel_rfl) rfl (fun _ _ _ h => h) (Or.inl ⟨by rfl, ?_⟩) (by assumption) ?_
                          rotate_left
                          · intro w hSw; (try dsimp only at hSw); go_simp; try with_reducible rfl
                          simp only [Act.put, List.setIfInBounds_toArray, List.set_cons_zero, List.set_cons_succ]
                          refine wpAnyL.take (i := 6) (d := some 104) (v := ?_) rfl (by kernel_rfl) (by kernel_rfl) (by kernel_rfl) (by kernel_rfl) rfl (fun _ _ _ h => h) (Or.inl ⟨by rfl, ?_⟩) (by assumption) ?_
                          rotate_left
                          · intro w hSw; (try dsimp only at hSw); go_simp; try with_reducible rfl
                          simp only [Act.put, List.setIfInBounds_toArray, List.set_cons_zero, List.set_cons_succ]
                          refine wpAnyL.ready (rs := [7]) (by kernel_rfl) (by simp) ?_
                          refine AllL.cons rfl (fun K hK => ?_) AllL.nil
                          go_simp
                          have hal2 := ((Below.refl wx.heap.size wx).drew).al (.cells #[.int .i64 (xr : Int), .int .i64 (xd : Int), .int .i64 (xf : Int)] 48)
                          have hS2 := And.intro ((hal2.cell (p := ⟨bo, k, none⟩) hbox).trans cO) (fun i => (hal2.cell (p := ⟨bx, i, none⟩) hbxx).trans (cY i))
                          refine hK.out _ _ (fun _ => hS2) ?_
                          clear hK K
                          try dsimp only [Act.put]
                          refine wpAnyL.ready (rs := [8]) (by kernel_rfl) (by simp) ?_
                          refine AllL.cons rfl (fun K hK => ?_) AllL.nil
                          refine step_append_i2 _ rfl (.tmp 103) (.tmp 105) rfl (br + 1) (.slice vA l.length vc) l.length l rfl (HOW.out.via hal2) wx.heap.size ⟨xr, xd, xf⟩ rfl (Blk.new wx.drew 48 #[.int .i64 (xr : Int), .int .i64 (xd : Int), .int .i64 (xf : Int)]) (by have := hll.out; omega) (by simp; omega) ?_
                          intro A1 d1 w2 ho2 hg2 hat2
                          have BO2 := (HBX.out.via hal2).grown hg2 (HNO.out bo (by omega))
                          have BY2 := (BY.via hal2).grown hg2 HNX.out
                          have HR2 := Lib.hid ((HRN.out.via hal2).grown hg2 (HNO.out br (Nat.le_refl _)) (HNO.out (ms k) (by omega)))
                          have HG2 := Lib.hid (show Agr (fun b => b ≠ bo) Wk (w2.setCell ⟨bo, k, none⟩ (.slice A1 (l.length + 1) d1)) ∧ Below bo Wk (w2.setCell ⟨bo, k, none⟩ (.slice A1 (l.length + 1) d1)) from ⟨fun b hb hlt => by
                            have h0 : b < br := by have := HBR.out; omega
                            rw [← HGX.out.1 b hb hlt]
                            exact (Below.heap_setCell w2 ⟨bo, k, none⟩ _ b hb).trans ((hg2.block b (by simp; omega) (HNO.out b (by omega))).trans (hal2.block b (by omega))), ((HGX.out.2.trans (hal2.mono (by omega))).grown hg2 (by simp; omega) (fun b e => by
                              have h1 := (HOW.out.lt b e).1
                              omega)).setCell (p := ⟨bo, k, none⟩) (Nat.le_refl _) _⟩)
                          have g5 : w2.cell? ⟨bo, k, none⟩ = some (.slice vA l.length vc) := by rw [BO2.cell, Array.getElem?_setIfInBounds, if_pos rfl, if_pos (by omega)]
                          have g6 := BY2.cell
                          have g7 := BO2.frozen
                          have HO2 := Lib.hid ho2
                          have HBO2 := Lib.hid BO2
                          have HAT := Lib.hid hat2
                          clear ho2 hg2 hat2
                          refine hK.out _ _ (fun _ => ⟨g5, g6⟩) ?_
                          clear hK K
                          try dsimp only [Act.put]
                          refine wpAnyL.ready (rs := [9]) (by kernel_rfl) (by simp) ?_
                          refine AllL.cons rfl (fun K hK => ?_) AllL.nil
                          go_simp
                          refine hK.out _ _ (fun _ => ⟨g5, g6⟩) ?_
                          clear hK K
                          try dsimp only [Act.put]
                          refine wpAnyL.ready (rs := [10]) (by kernel_rfl) (by simp) ?_
                          refine AllL.cons rfl (fun K hK => ?_) AllL.nil
                          go_simp
                          refine hK.out _ _ (fun h => absurd rfl h) ?_
                          clear hK K
                          refine wpAnyL.done (by kernel_rfl) ?_ _
                          refine NoPanic.normal ?_
                          clear g5 g6 g7 cO cY hHeld hS2 BO2 BY2
                          go_wp2_with fail
                          have hlen : (l ++ [(⟨xr, xd, xf⟩ : It3)]).length = l.length + 1 := by simp
                          have hml := HMLT.out.2 k hkn'
                          have HR3 := Lib.hid (HR2.out.agr_ (w' := w2.setCell ⟨bo, k, none⟩ (.slice A1 (l.length + 1) d1)) (Below.heap_setCell w2 ⟨bo, k, none⟩ _ br (by show br ≠ bo; omega)) (Below.heap_setCell w2 ⟨bo, k, none⟩ _ (ms k) (by show ms k ≠ bo; omega)))
                          refine ⟨⟨_, cnt', A1, d1, l ++ [⟨xr, xd, xf⟩], Lib.hid ⟨HR3.out, ?_, ?_, ?_, fun x => ?_⟩, HG2⟩, ?_⟩
                          · rw [hlen]
                            exact HO2.out.setCell (p := ⟨bo, k, none⟩) _ (fun _ h => h.elim) (by show bo < br + 1; omega)
                          · rw [hlen]
                            have := HBO2.out.set_ k (.slice A1 (l.length + 1) d1)
                            rw [Array.setIfInBounds_setIfInBounds] at this
                            exact this
                          · rw [List.nodup_append]
                            refine ⟨HP.out.2.2.2.1, by simp, fun a ha b hb e => ?_⟩
                            simp only [List.mem_singleton] at hb
                            subst hb
                            subst e
                            have := ((HP.out.2.2.2.2 _).1 ha).2
                            rw [HLX.out] at this; cases this
                          · rw [List.mem_append, List.mem_singleton, HP.out.2.2.2.2 x]
                            constructor
                            · rintro (⟨h1, h2⟩ | rfl)
                              · exact ⟨h1, by rw [h2]; rfl⟩
                              · exact ⟨HXM.out, by simp⟩
                            · rintro ⟨h1, h2⟩
                              by_cases he : x = ⟨xr, xd, xf⟩
                              · exact Or.inr he
                              · exact Or.inl ⟨h1, by simpa [he] using h2⟩
                          · rw [HR3.out.left_eq, HP.out.1.left_eq]; exact HLT.out
                    · obtain rfl : k = n + 1 := by omega
                      go_wp2_with fail
                      go_ret
                      refine ⟨_, _, _, rfl, HO.out.fin.mono (fun b _ hb => Nat.le_trans HBOG.out hb), HO.out.srtI HND.out HFIN.out, HWA.out.trans (HO.out.bel.mono HBOG.out)⟩
                · have e1 : ((totI L2 : Int) == sz) = false := by simp [hsz]
                  have HSZ := Lib.hid hsz
                  go_wp2_with fail
                  clear e1 hsz
                  refine ⟨⟨L2, (totI L2 : Int), rfl, Lib.hid ⟨HP2.out.1, HP2.out.2.1, HP.out.2.2.1.trans HP2.out.2.2.1, Or.inr rfl⟩, HSV2⟩, ?_⟩
                  have h1 := HSZ.out
                  have h2 := HT2.out
                  have h3 := HTL.out.1
                  simp only [intOf]
                  rcases HP.out.2.2.2 with h | h <;> omega
end Go.Proofs.YtbfcnfgkccgbiaaGreatDoor

