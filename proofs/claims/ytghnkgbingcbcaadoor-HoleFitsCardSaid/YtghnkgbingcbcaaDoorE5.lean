/- Texts AK, laid together. -/
import Derived.Test.YtghnkgbingcbcaaDoorE3
import Derived.Test.YtghnkgbingcbcaaDoorE4




namespace Go.Proofs.YtghnkgbingcbcaaDoor
open Go.RowKit

theorem Ms.dv {rules : List Ru} {l : List Sy} {cs : List Ce} {v : List Int} (h : Ms rules l cs v) : Dv rules l v := by
  induction h with
  | nil => exact .nil
  | term t c hc h ih => exact .term t ih
  | non N hr h1 h2 ih1 ih2 => exact .non N hr ih1 ih2
theorem Dv.ms {rules : List Ru} {l : List Sy} {v : List Int} (h : Dv rules l v) : Ms rules l (v.map fun x => (true, x)) v := by
  induction h with
  | nil => exact .nil
  | term t h ih => exact .term t _ (by simp [isC]) ih
  | non N hr h1 h2 ih1 ih2 => rw [List.map_append]; exact .non N hr ih1 ih2
theorem Ms.fit {rules : List Ru} {l : List Sy} {cs : List Ce} {v : List Int} (h : Ms rules l cs v) : ∀ (j : Nat) (c : Ce) (y : Int), cs[j]? = some c → v[j]? = some y → c = (true, -1) ∨ c = (true, y) := by
  induction h with
  | nil => intro j c y h; simp at h
  | @term t c0 hc l cs v h ih =>
    intro j c y h1 h2
    cases j with
    | zero =>
      simp at h1 h2
      subst h1; subst h2
      obtain ⟨cb, cn⟩ := c0
      simp only [isC, Bool.or_eq_true, decide_eq_true_eq, Bool.and_eq_true] at hc
      rcases hc with hc | hc
      · exact Or.inr hc
      · exact Or.inl hc.2
    | succ j => exact ih j c y (by simpa using h1) (by simpa using h2)
  | @non N rhs l c1 c2 u v hr h1 h2 ih1 ih2 =>
    intro j c y k1 k2
    have hu := h1.len
    rcases Nat.lt_or_ge j c1.length with hj | hj
    · rw [List.getElem?_append_left hj] at k1
      rw [List.getElem?_append_left (by omega)] at k2
      exact ih1 j c y k1 k2
    · rw [List.getElem?_append_right hj] at k1
      rw [List.getElem?_append_right (by omega), hu] at k2
      exact ih2 _ c y k1 k2
/-- the letters of xs, some left out -/
def Holed (xs : List Int) (cs : List Ce) : Prop := cs.length = xs.length ∧ ∀ (j : Nat) (c : Ce), cs[j]? = some c → c = (true, -1) ∨ ∃ y, xs[j]? = some y ∧ c = (true, y)
theorem Holed.start (xs : List Int) : Holed xs (xs.map fun x => (true, x)) := ⟨by simp, fun j c h => by
  rw [List.getElem?_map] at h
  cases hx : xs[j]? with
  | none => rw [hx] at h; cases h
  | some y => rw [hx] at h; exact Or.inr ⟨y, rfl, (Option.some.inj h).symm⟩⟩
theorem Holed.put {xs : List Int} {cs : List Ce} (h : Holed xs cs) (i : Nat) : Holed xs (cs.set i (true, -1)) := ⟨by simp [h.1], fun j c hc => by
  by_cases e : i = j
  · subst e
    have hi : i < cs.length := by have := (List.getElem?_eq_some_iff.1 hc).1; simpa using this
    rw [List.getElem?_set_self hi] at hc
    exact Or.inl (Option.some.inj hc).symm
  · rw [List.getElem?_set_ne e] at hc; exact h.2 j c hc⟩
theorem Holed.fst {xs : List Int} {cs : List Ce} (h : Holed xs cs) {c : Ce} (hc : c ∈ cs) : c.1 = true := by
  obtain ⟨j, hj, rfl⟩ := List.getElem_of_mem hc
  rcases h.2 j _ (List.getElem?_eq_getElem hj) with e | ⟨y, _, e⟩ <;> rw [e]
theorem Holed.ok {g : Gr} {xs : List Int} {cs : List Ce} (h : Holed xs cs) (hx : ∀ x ∈ xs, 0 ≤ x ∧ x < (g.terms : Int)) : ∀ c ∈ cs, okCe g c := by
  intro c hc
  obtain ⟨j, hj, rfl⟩ := List.getElem_of_mem hc
  rcases h.2 j _ (List.getElem?_eq_getElem hj) with e | ⟨y, hy, e⟩
  · rw [e]; exact ⟨rfl, Or.inr rfl⟩
  · have := hx y (List.mem_of_getElem? hy)
    rw [e]; exact ⟨rfl, Or.inl ⟨y.toNat, by simp; omega, by omega⟩⟩
theorem Holed.ms {rules : List Ru} {l : List Sy} {xs : List Int} {cs : List Ce} (h : Holed xs cs) (hd : Dv rules l xs) : Ms rules l cs xs :=
  hd.ms.up cs (by simp [h.1]) fun j x x' hx hx' s hs => by
    rw [List.getElem?_map] at hx
    rcases h.2 j x' hx' with e | ⟨y, hy, e⟩
    · rw [e]
      cases hxj : xs[j]? with
      | none => rw [hxj] at hx; cases hx
      | some z =>
        rw [hxj] at hx
        have e2 : (true, z) = x := Option.some.inj hx
        rw [← e2] at hs
        obtain ⟨sb, sn⟩ := s
        simp only [isC, Bool.or_eq_true, decide_eq_true_eq, Bool.and_eq_true, Prod.mk.injEq] at hs ⊢
        rcases hs with hs | hs
        · exact Or.inr ⟨hs.1.symm, trivial⟩
        · exact Or.inr ⟨hs.1, trivial⟩
    · rw [hy] at hx
      have e2 : (true, y) = x := Option.some.inj hx
      rw [e, e2]; exact hs
theorem numW_pos {B : Nat} : ∀ {xs ys : List Int}, xs.length = ys.length → (∀ x ∈ xs, 0 ≤ x ∧ x < (B : Int)) → (∀ x ∈ ys, 0 ≤ x ∧ x < (B : Int)) → 0 < cmpL xs ys → numW B ys < numW B xs
  | [], [], _, _, _, h => by simp [cmpL] at h
  | [], _ :: _, hl, _, _, _ => by simp at hl
  | _ :: _, [], hl, _, _, _ => by simp at hl
  | x :: xs, y :: ys, hl, hx, hy, h => by
    have hl' : xs.length = ys.length := by simpa using hl
    rw [cmpL] at h
    rw [numW, numW, hl']
    split at h
    · rename_i e
      have := numW_pos hl' (fun z hz => hx z (List.mem_cons_of_mem _ hz)) (fun z hz => hy z (List.mem_cons_of_mem _ hz)) h
      rw [cmpI_zero.1 e]; omega
    · rename_i e
      have h1 : y < x := cmpI_pos.1 h
      have h2 := numW_lt (B := B) (xs := ys) fun z hz => hy z (List.mem_cons_of_mem _ hz)
      have hy0 := hy y (List.mem_cons_self ..)
      have h3 : y.toNat + 1 ≤ x.toNat := by omega
      have h4 : (y.toNat + 1) * B ^ ys.length ≤ x.toNat * B ^ ys.length := Nat.mul_le_mul_right _ h3
      rw [Nat.add_mul, Nat.one_mul] at h4
      omega
theorem GrOk.lets {g : Gr} (h : GrOk g) : ∀ r ∈ g.rules, ∀ s ∈ r.2, s.1 = true → s.2 < g.terms := fun r hr s hs hb => by
  have := (h.ok.right r hr).2 s hs
  rwa [Gr.okSy, if_pos hb] at this
/-- Fill where there is a completion -/
theorem FillF.yes {w w' : World} {g : Gr} {cs : List Ce} {e : Ending} (hg : GrOk g) (hc : cs.length ≤ 12) (h : FillF w g cs e w') (hd : CanDo g cs) :
    ∃ (A : Option Addr) (c : Nat) (v : List Int), e = .returned (.tuple #[.slice A cs.length c, .int .i64 0]) ∧ Ints w' A cs.length c v ∧ Ms g.rules [(false, g.start)] cs v ∧ (∀ u, Ms g.rules [(false, g.start)] cs u → ¬ 0 < cmpL v u) ∧ (∀ x ∈ v, 0 ≤ x ∧ x < (g.terms : Int)) ∧ Below w.heap.size w w' := by
  obtain ⟨st, hgd, hfx, hb, h⟩ := h
  have h8 : ∀ r ∈ g.rules, ∀ s ∈ r.2, s.1 = true → s.2 < 8 := fun r hr s hs hb => by have := hg.lets r hr s hs hb; have := hg.ok.terms.2; omega
  have hok := (canDo_iff hgd hfx).2 hd
  rcases h with ⟨_, h⟩ | ⟨A, n, c, rfl, _, hI⟩
  · rw [h] at hok; cases hok
  · obtain ⟨_, h2, _, v, h3, h4, h5⟩ := hgd.snd g.start 0 cs.length hok
    rw [gpart_all] at h3
    have h6 := h3.len
    have h7 := hI.len
    rw [h5] at h7 hI
    have hn : n = cs.length := by omega
    subst hn
    refine ⟨A, c, v, rfl, hI, h3, fun u hu hp => ?_, ?_, hb⟩
    · have h9 := hfx.min hgd h8 (by omega) hu
      rw [h5] at h9
      have h10 : ∀ {l : List Int}, Ms g.rules [(false, g.start)] cs l → ∀ y ∈ l, 0 ≤ y ∧ y < ((8 : Nat) : Int) := fun hl => hl.lets h8 fun s hs hb => by rw [List.mem_singleton.1 hs] at hb; cases hb
      have := numW_pos (B := 8) (by rw [h6, hu.len]) (h10 h3) (h10 hu) hp
      omega
    · exact h3.lets hg.lets fun s hs hb => by rw [List.mem_singleton.1 hs] at hb; cases hb
/-- a row of cells, or none -/
def CR (w : World) (base : Nat) (B : Option Addr) (n d : Nat) (cs : List Ce) : Prop := cs.length = n ∧ n ≤ d ∧ (n = 0 ∨ ∃ b, B = some ⟨b, 0, none⟩ ∧ base ≤ b ∧ CeB w b n d cs)
theorem CR.via {w w' : World} {base n d : Nat} {B : Option Addr} {cs : List Ce} (h : CR w base B n d cs) (k : Below w.heap.size w w') : CR w' base B n d cs :=
  ⟨h.1, h.2.1, h.2.2.imp id fun ⟨b, e, hb, hc⟩ => ⟨b, e, hb, hc.via k⟩⟩
theorem CR.sl {w : World} {base n d : Nat} {B : Option Addr} {cs : List Ce} (h : CR w base B n d cs) : Sl CeE (fun _ => True) w B n d cs := by
  obtain ⟨h1, h2, h3 | ⟨b, rfl, hb, hc⟩⟩ := h
  · subst h3
    have : cs = [] := List.length_eq_zero_iff.1 h1
    subst this
    exact ⟨rfl, h2, [], rfl, Cel.nil, fun i r x h => by simp at h⟩
  · exact hc.toSl.mono fun _ _ _ => trivial
theorem CR.of {w : World} {base n d : Nat} {B : Option Addr} {cs : List Ce} (h : Own CeE 44 (fun _ => False) w base (.slice B n d) n cs) : CR w base B n d cs := by
  obtain ⟨A, c, e, hc⟩ := h.form
  cases e
  refine ⟨h.len, hc, ?_⟩
  rcases Nat.eq_zero_or_pos n with h0 | h0
  · exact Or.inl h0
  · obtain ⟨b, rfl, hb, hce⟩ := h.toCeB h0
    exact Or.inr ⟨b, rfl, hb, hce⟩
theorem list_can : CanDo listG [(true, -1)] := ⟨[0], Ms.one (rules := listG.rules) (N := 0) (rhs := [(true, 0)]) (by simp [listG]) (.term 0 (true, -1) rfl .nil)⟩
theorem TreeR.zero (ok : Nat → Prop) (w : World) : TreeR ok w (0, 0, none, 0, 0) (.node 0 []) :=
  .node 0 none 0 0 [] [] rfl (Nat.le_refl _) rfl Cel.nil fun i x t h => by simp at h
set_option maxRecDepth 100000 in
set_option maxHeartbeats 4000000 in
theorem fits_walk (A B D : Option Addr) (n c m d p f : Nat) (l1 l2 l3 : List Int) (w : World) (h1 : Ints w A n c l1) (h2 : Ints w B m d l2) (h3 : Ints w D p f l3) (hp : p ≤ maxLen) (hT : TabW w) :
    Calls Tryd.prog 4 #[.slice A n c, .slice B m d, .slice D p f] w fun e w' => e = .returned (.bool true) ∧ Below w.heap.size w w' := by
  go_enter Tryd.func4, Tryd.ntmps4
  have H1 := Lib.hid h1
  have H2 := Lib.hid h2
  have H3 := Lib.hid h3
  have HT := Lib.hid hT
  have hpp : p ≤ 9223372036854775807 := by have e : maxLen = 9223372036854775807 := rfl; omega
  clear h1 h2 h3 hT hp
  go_wp2_with fail
  refine (list_c w).mono ?_
  rintro e w1 ⟨Al, rfl, hL, hb⟩
  have HL := Lib.hid (hL.al (.cells #[.bool true, .int .i64 (-1)] 44))
  have HB := Lib.hid (hb.al (.cells #[.bool true, .int .i64 (-1)] 44))
  have HCE := Lib.hid (CeB.one w1)
  clear hL hb
  dsimp only [grVal]
  go_wp2_with fail
  refine (Fill_c _ _ listG Al 2 2 _ 1 1 [(true, -1)] _ listG_ok HL.out HCE.out.toSl (by omega) (fun x hx => by rw [List.mem_singleton.1 hx]; exact ⟨rfl, Or.inr rfl⟩)).mono ?_
  rintro e w2 hfl
  obtain ⟨A2, c2, v2, rfl, -, -, -, -, hb⟩ := hfl.yes listG_ok (by simp) list_can
  have HB2 := Lib.hid (HB.out.via hb)
  clear hfl hb HB HL HCE
  simp only [List.length_singleton]
  go_wp2_with fail
  refine (grammar_c A n c l1 w2 (H1.out.keep HB2.out (Nat.le_refl _))).mono ?_
  rintro e w3 ⟨g, Ag, ng, cg, rfl, hM, hG, hb⟩
  have HM := Lib.hid hM
  have hgt1 := hM.terms.1
  have hgt2 := hM.terms.2
  dsimp only [grVal]
  have Bg := Blk.new w3 28 #[.int .i64 (g.terms : Int), .int .i64 (g.nons : Int), .int .i64 (g.start : Int), .slice Ag ng cg]
  have HB3 := Lib.hid ((HB2.out.via hb).al (.cells #[.int .i64 (g.terms : Int), .int .i64 (g.nons : Int), .int .i64 (g.start : Int), .slice Ag ng cg] 28))
  have HG3 := Lib.hid (hG.al (.cells #[.int .i64 (g.terms : Int), .int .i64 (g.nons : Int), .int .i64 (g.start : Int), .slice Ag ng cg] 28))
  have HBG3 := Lib.hid Bg
  have hwg := (HB2.out.via hb).size
  clear hb hM hG HB2
  have cBg := Bg.cell
  have fBg := Bg.frozen
  have lBg := Bg.lt
  go_wp2_with fail
  clear cBg fBg lBg
  generalize w3.alloc (.cells #[.int .i64 (g.terms : Int), .int .i64 (g.nons : Int), .int .i64 (g.start : Int), .slice Ag ng cg] 28) = W3 at *
  generalize w3.heap.size = bg at *
  refine (make_z (fun b => True) g Ag ng cg (by have := HM.out.count; omega) (fun r hr => by have := (HM.out.ok r hr).2.1; omega) B m d l2 W3 (HG3.out.mono fun _ _ _ => trivial) (H2.out.keep HB3.out (Nat.le_refl _))).mono ?_
  rintro e w5 ⟨⟨ta, tb, tA, tn, tcc⟩, bo, rfl, hb, hT, hT0⟩
  have HB5 := Lib.hid ((HB3.out.via hb).al (.cells #[.int .i64 ta, .int .i64 tb, .slice tA tn tcc] 48))
  have HG5 := Lib.hid ((HG3.out.via hb).al (.cells #[.int .i64 ta, .int .i64 tb, .slice tA tn tcc] 48))
  have HBG5 := Lib.hid ((HBG3.out.via hb).al (.cells #[.int .i64 ta, .int .i64 tb, .slice tA tn tcc] 48))
  have Bt := Blk.new w5 48 #[.int .i64 ta, .int .i64 tb, .slice tA tn tcc]
  have HTT := Lib.hid hT
  have HT0 := Lib.hid hT0
  clear hb hT hT0 HB3 HG3 HBG3 Bg
  dsimp only [trVal]
  have cBt := Bt.cell
  have fBt := Bt.frozen
  have lBt := Bt.lt
  go_wp2_with fail
  clear cBt fBt lBt
  clear Bt
  cases bo with
  | false =>
    have e0 := HT0.out rfl
    simp only [Prod.mk.injEq] at e0
    obtain ⟨rfl, rfl, rfl, rfl, rfl⟩ := e0
    clear HT0 HTT
    generalize w5.alloc (.cells #[.int .i64 0, .int .i64 0, .slice none 0 0] 48) = W5 at *
    refine (word_t (fun _ => True) (0, 0, none, 0, 0) (.node 0 []) W5 (TreeR.zero _ _) (by simp [Tr.size, Tr.sizes])).mono ?_
    rintro e w6 ⟨A6, n6, c6, rfl, ho, hb⟩
    have HB6 := Lib.hid (HB5.out.via hb)
    clear ho hb
    go_wp2_with fail
    go_ret
    exact ⟨rfl, HB6.out⟩
  | true =>
    obtain ⟨t, hTr, hD, hsz⟩ := HTT.out rfl
    have HTR := Lib.hid (hTr.al (.cells #[.int .i64 ta, .int .i64 tb, .slice tA tn tcc] 48))
    have HD := Lib.hid hD.dv
    clear HT0 HTT hTr hD
    generalize w5.alloc (.cells #[.int .i64 ta, .int .i64 tb, .slice tA tn tcc] 48) = W5 at *
    refine (word_t _ (ta, tb, tA, tn, tcc) t W5 HTR.out (by omega)).mono ?_
    rintro e w6 ⟨Aw, nw, cw, rfl, ho, hb⟩
    rw [Tr.pre_word] at ho
    have HI6 := Lib.hid ho.toInts
    have HB6 := Lib.hid (HB5.out.via hb)
    have HG6 := Lib.hid (HG5.out.via hb)
    have HBG6 := Lib.hid (HBG5.out.via hb)
    obtain ⟨xs, hxs⟩ : ∃ xs, xs = t.word.map fun i : Nat => (i : Int) := ⟨_, rfl⟩
    rw [← hxs] at HI6 HD
    have hxl := HI6.out.len
    have hgo := HM.out.grOk
    have HXT := Lib.hid (show ∀ x ∈ xs, 0 ≤ x ∧ x < (g.terms : Int) from HD.out.lets hgo.lets fun s hs hb => by rw [List.mem_singleton.1 hs] at hb; cases hb)
    have HGO := Lib.hid hgo
    clear ho hb hxs HB5 HG5 HBG5 HTR hgo
    by_cases hn8 : 8 < nw
    · have e1 : decide ((8 : Int) < (nw : Int)) = true := by simp; omega
      go_wp2_with fail
      go_ret
      exact ⟨rfl, HB6.out⟩
    · have e1 : decide ((8 : Int) < (nw : Int)) = false := by simp; omega
      have HXL := Lib.hid hxl
      clear hxl
      go_wp2_with fail
      clear e1
      refine (terminals_c Aw nw cw xs w6 HI6.out (by omega)).mono ?_
      rintro e w7 ⟨B7, d7, rfl, how, hb⟩
      have HCR := Lib.hid (CR.of how)
      have HW7 := Lib.hid hb
      have HHO := Lib.hid (Holed.start xs)
      have hbg6 : bg < w6.heap.size := HBG6.out.lt
      have hw6 : w.heap.size ≤ w6.heap.size := HB6.out.size
      clear how hb
      go_wp2_with fail
      go_loopw [57] (fun q wr => ∃ (k : Nat) (cs : List Ce), q = .int .i64 k ∧ k ≤ p ∧ CR wr w6.heap.size B7 nw d7 cs ∧ Holed xs cs ∧ Below w6.heap.size w6 wr) (fun q _ => p - (intOf q).toNat)
      case atStart => exact ⟨0, _, rfl, Nat.zero_le _, HCR.out, HHO.out, HW7.out⟩
      case round =>
        obtain ⟨k, cs, rfl, hk, hcr, hho, hbw⟩ := hrel
        clear HCR HHO HW7
        by_cases hkp : k < p
        · have hbb := HB6.out.trans (hbw.mono hw6)
          obtain ⟨b9, off9, rfl, hb9, hx9⟩ := (H3.out.keep hbb (Nat.le_refl _)).at_ hkp
          generalize l3.getD k 0 = x at *
          have i0 : (0 : Int) ≤ (k : Int) := by omega
          have i1 : (k : Int) < (p : Int) := by omega
          by_cases hn0 : nw = 0
          · have e1 : decide ((0 : Int) < (nw : Int)) = false := by simp; omega
            have HC := Lib.hid hcr
            have HO := Lib.hid hho
            have HW := Lib.hid hbw
            clear hcr hho hbw hbb
            have e2 : (nw : Int) = 0 := by omega
            have e3 : decide (0 < nw) = false := by simp; omega
            go_wp2_with fail
            exact ⟨⟨k + 1, cs, by go_num, by omega, HC.out, HO.out, HW.out⟩, by simp [intOf]; omega⟩
          · have HCX := Lib.hid hcr.2.2
            rcases HCX.out with h0 | ⟨b, rfl, hbl, hce⟩
            · exact absurd h0 hn0
            · have e1 : decide ((0 : Int) < (nw : Int)) = true := by simp; omega
              have e3 : decide (0 < nw) = true := by simp; omega
              have hcl := hce.len
              have HCL := Lib.hid hcl
              have HC := Lib.hid hcr
              have HCE := Lib.hid hce
              have HO := Lib.hid hho
              have HW := Lib.hid hbw
              clear HCX hcr hho hbw hbb hcl hce
              go_upto_region 14 with fail
              clear hx9
              go_wp2_with fail
              refine (below_c x (nw : Int) wr (by omega) (by omega)).mono ?_
              rintro e w8 ⟨rfl, rfl⟩
              have hq0 := belowI_lo x (nw : Int) (by omega)
              have hq1 := belowI_hi x (nw : Int) (by omega)
              obtain ⟨q, hq⟩ : ∃ q : Nat, belowI x (nw : Int) = (q : Int) := ⟨(belowI x (nw : Int)).toNat, by omega⟩
              rw [hq] at hq0 hq1 ⊢
              clear hq
              have hqn : q < nw := by omega
              have hcq : cs[q]? = some (cs[q]'(by have := HCL.out; omega)) := List.getElem?_eq_getElem _
              generalize cs[q]'(by have := HCL.out; omega) = y at hcq
              have hfst := HO.out.fst (List.mem_of_getElem? hcq)
              have c1 := (HCE.out.cell hcq).2
              have f0 := HCE.out.frozen
              have hset := HCE.out.setN hcq (-1)
              rw [hfst] at hset
              have HC2 := Lib.hid (show CR (wr.setCell ⟨b, q * 2 + 1, none⟩ (.int .i64 (-1))) w6.heap.size (some ⟨b, 0, none⟩) nw d7 (cs.set q (true, -1)) from ⟨hset.len, HC.out.2.1, Or.inr ⟨b, rfl, hbl, hset⟩⟩)
              have HO2 := Lib.hid (HO.out.put q)
              have HW2 := Lib.hid (HW.out.setCell (p := ⟨b, q * 2 + 1, none⟩) hbl (.int .i64 (-1)))
              clear hset hcq hfst HC HO HW HCE
              go_wp2_with fail
              exact ⟨⟨k + 1, _, by go_num, by omega, HC2.out, HO2.out, HW2.out⟩, by simp [intOf]; omega⟩
        · have HO := Lib.hid hho
          have HSC := Lib.hid hcr.sl
          have HB8 := Lib.hid (HB6.out.trans (hbw.mono hw6))
          have HI8 := Lib.hid (HI6.out.keep hbw (Nat.le_refl _))
          have HG8 := Lib.hid (HG6.out.via hbw)
          have HBG8 := Lib.hid (HBG6.out.via hbw)
          have HCL := Lib.hid hcr.1
          have Bg := HBG8.out
          clear hho hcr hbw HI6 HB6 HG6 HBG6
          have cBg := Bg.cell
          have fBg := Bg.frozen
          have lBg := Bg.lt
          go_wp2_with fail
          clear cBg fBg lBg
          refine (Fill_c _ _ g Ag ng cg B7 nw d7 cs wr HGO.out HG8.out HSC.out (by omega) (HO.out.ok HXT.out)).mono ?_
          rintro e w9 hfl
          obtain ⟨A9, c9, v9, rfl, hI9, hms, hmin, hvt, hb⟩ := hfl.yes HGO.out (by have := HCL.out; omega) ⟨xs, HO.out.ms HD.out⟩
          rw [HCL.out] at hI9 ⊢
          have HMS := Lib.hid hms
          have HMN := Lib.hid (hmin xs (HO.out.ms HD.out))
          have HVT := Lib.hid hvt
          have HI9 := Lib.hid hI9
          have HB9 := Lib.hid (HB8.out.via hb)
          have HIX9 := Lib.hid (HI8.out.keep hb (Nat.le_refl _))
          have HG9 := Lib.hid (HG8.out.via hb)
          have HSC9 := Lib.hid (HSC.out.via hb)
          have Bg := HBG8.out.via hb
          clear hfl hI9 hms hmin hvt hb HB8 HI8 HG8 HSC HBG8
          have cBg := Bg.cell
          have fBg := Bg.frozen
          have lBg := Bg.lt
          go_wp2_with fail
          clear cBg fBg lBg
          clear Bg
          refine (accepts_c _ g Ag ng cg A9 nw c9 v9 w9 HGO.out HG9.out HI9.out (by omega) HVT.out (HT.out.via HB9.out)).mono ?_
          rintro e w10 ⟨bb, rfl, hbi, hb⟩
          obtain rfl : bb = true := hbi.2 HMS.out.dv
          have HI10 := Lib.hid (HI9.out.keep hb (Nat.le_refl _))
          have HIX10 := Lib.hid (HIX9.out.keep hb (Nat.le_refl _))
          have HB10 := Lib.hid (HB9.out.via hb)
          have HSC10 := Lib.hid (HSC9.out.via hb)
          clear hbi hb HI9 HIX9 HB9 HSC9 HG9
          go_wp2_with fail
          refine (cmpL_c A9 Aw nw c9 nw cw v9 xs w10 HI10.out HIX10.out (by omega)).mono ?_
          rintro e w11 ⟨rfl, rfl⟩
          have e4 : decide (0 < cmpL v9 xs) = false := by simpa using HMN.out
          generalize cmpL v9 xs = z at *
          go_wp2_with fail
          clear HMN e4
          obtain ⟨wo, rfl⟩ : ∃ wo : World, wo = w11 := ⟨_, rfl⟩
          go_loopw [109] (fun q wr => ∃ k : Nat, q = .int .i64 k ∧ k ≤ nw ∧ Below wo.heap.size wo wr) (fun q _ => nw - (intOf q).toNat)
          case atStart => exact ⟨0, rfl, Nat.zero_le _, Below.refl _ _⟩
          case round =>
            obtain ⟨k, rfl, hk, hbw⟩ := hrel
            by_cases hkn : k < nw
            · obtain ⟨b1, o1, c0, c0', rfl, -, hb1, hy, hxy, hc⟩ := (HSC10.out.via hbw).at_ hkn
              obtain rfl : c0 = c0' := hxy
              have d0 := hc 0 _ rfl
              have d1 := hc 1 _ rfl
              simp only [CeE, Nat.add_zero] at d0 d1
              have i0 : (0 : Int) ≤ (k : Int) := by omega
              have i1 : (k : Int) < (nw : Int) := by omega
              obtain ⟨b2, o2, rfl, hb2, hx2⟩ := (HI10.out.keep hbw (Nat.le_refl _)).at_ hkn
              have hvk : v9[k]? = some (v9.getD k 0) := by
                have := HI10.out.len
                rw [List.getD_eq_getElem?_getD, List.getElem?_eq_getElem (by omega)]; rfl
              have hy0 := (HVT.out _ (List.mem_of_getElem? hvk)).1
              have hfit := HMS.out.fit k c0 _ hy hvk
              generalize v9.getD k 0 = y at *
              have HFT := Lib.hid hfit
              have HBW := Lib.hid (hbw.al (.cells #[.bool c0.1, .int .i64 c0.2] 44))
              have hx3 := (((Below.refl wr.heap.size wr).al (.cells #[.bool c0.1, .int .i64 c0.2] 44)).cell (p := ⟨b2, o2 + k, none⟩) hb2).trans hx2
              have Bs := Blk.new wr 44 #[.bool c0.1, .int .i64 c0.2]
              have hb2s : b2 < wr.heap.size := hb2
              clear hfit hvk hc hy hbw hx2
              go_upto_region 23 with fail
              clear d0 d1
              generalize wr.alloc (.cells #[.bool c0.1, .int .i64 c0.2] 44) = W9 at *
              generalize wr.heap.size = bs at *
              have cBs := Bs.cell
              have fBs := Bs.frozen
              have lBs := Bs.lt
              rcases HFT.out with rfl | rfl
              · go_quiet (fail)
                have HBX := Lib.hid (below_drewN HBW.out nq)
                clear HFT hx3 cBs fBs lBs
                go_wp2_with fail
                exact ⟨⟨k + 1, by go_num, by omega, HBX.out⟩, by simp [intOf]; omega⟩
              · have e1 : (y != -1) = true := by simp; omega
                have e2 : (y != y) = false := by simp
                have e3 : (y == -1) = false := by rw [beq_eq_false_iff_ne]; omega
                go_quiet (fail)
                have HBX := Lib.hid (below_drewN HBW.out nq)
                clear HFT hx3 cBs fBs lBs
                go_wp2_with fail
                exact ⟨⟨k + 1, by go_num, by omega, HBX.out⟩, by simp [intOf]; omega⟩
            · have HBF := Lib.hid (HB10.out.via hbw)
              clear hbw
              go_wp2_with fail
              go_ret
              exact ⟨rfl, HBF.out⟩
end Go.Proofs.YtghnkgbingcbcaaDoor

