/- Texts LG, LI, laid together. -/
import Derived.Test.YtdmecijpioljaaaH2
import Derived.Test.YtdmecijpioljaaaP1



namespace Go.Proofs.Ytdmecijpioljaaa
open Go.RowKit

def valL (xs : List Int) (s : Sy) : Int := if s.1 then 1 else xs.getD s.2 (-1)
def sumN (xs : List Int) : List Sy → Int
  | [] => 0
  | s :: l => valL xs s + sumN xs l
def okL (xs : List Int) (l : List Sy) : Bool := l.all fun s => decide (0 ≤ valL xs s)
def sumV (xs : List Int) (l : List Sy) : Int := if okL xs l then sumN xs l else -1
theorem sumN_append (xs : List Int) (a b : List Sy) : sumN xs (a ++ b) = sumN xs a + sumN xs b := by
  induction a with
  | nil => simp [sumN]
  | cons s a ih => rw [List.cons_append, sumN, ih, sumN]; omega
theorem okL_append (xs : List Int) (a b : List Sy) : okL xs (a ++ b) = (okL xs a && okL xs b) := by simp [okL, List.all_append]
theorem okL_mem {xs : List Int} {l : List Sy} (h : okL xs l = true) {s : Sy} (hs : s ∈ l) : 0 ≤ valL xs s := by
  have := List.all_eq_true.1 h s hs
  simpa using this
theorem okL_iff {xs : List Int} {l : List Sy} : okL xs l = true ↔ ∀ s ∈ l, 0 ≤ valL xs s := ⟨fun h _ hs => okL_mem h hs, fun h => List.all_eq_true.2 fun s hs => by simpa using h s hs⟩
theorem sumN_nonneg {xs : List Int} {l : List Sy} (h : okL xs l = true) : 0 ≤ sumN xs l := by
  induction l with
  | nil => exact Int.le_refl _
  | cons s l ih =>
    have h1 := okL_iff.1 h
    have h2 := ih (okL_iff.2 fun t ht => h1 t (List.mem_cons_of_mem _ ht))
    have h3 := h1 s (List.mem_cons_self ..)
    rw [sumN]; omega
theorem sumV_nonneg {xs : List Int} {l : List Sy} : 0 ≤ sumV xs l ↔ okL xs l = true := by
  unfold sumV
  split
  · rename_i h; exact ⟨fun _ => h, fun _ => sumN_nonneg h⟩
  · rename_i h; exact ⟨fun h2 => by omega, fun h2 => absurd h2 h⟩
theorem sumV_snoc_ok {xs : List Int} {l : List Sy} {s : Sy} (h : 0 ≤ sumV xs l) (hs : 0 ≤ valL xs s) : sumV xs (l ++ [s]) = sumV xs l + valL xs s := by
  have h1 := sumV_nonneg.1 h
  have h2 : okL xs (l ++ [s]) = true := by rw [okL_append, h1]; simpa [okL] using hs
  unfold sumV
  rw [if_pos h1, if_pos h2, sumN_append]
  simp [sumN]
theorem sumV_snoc_no {xs : List Int} {l : List Sy} {s : Sy} (h : ¬ (0 ≤ sumV xs l ∧ 0 ≤ valL xs s)) : sumV xs (l ++ [s]) = -1 := by
  have h2 : okL xs (l ++ [s]) = false := by
    cases h3 : okL xs (l ++ [s]) with
    | false => rfl
    | true =>
      rw [okL_append, Bool.and_eq_true] at h3
      exact absurd ⟨sumV_nonneg.2 h3.1, okL_mem h3.2 (List.mem_singleton.2 rfl)⟩ h
  unfold sumV
  rw [h2]; rfl
/-- each set number is the length of a word -/
def SndL (rules : List Ru) (xs : List Int) : Prop := ∀ N, 0 ≤ xs.getD N (-1) → ∃ v, Dv rules [(false, N)] v ∧ (v.length : Int) = xs.getD N (-1)
def FixR (xs : List Int) (r : Ru) : Prop := 0 ≤ sumV xs r.2 → 0 ≤ xs.getD r.1 (-1) ∧ xs.getD r.1 (-1) ≤ sumV xs r.2
def FixL (rules : List Ru) (xs : List Int) : Prop := ∀ r ∈ rules, FixR xs r
section
variable {rules : List Ru} {xs : List Int}
theorem SndL.start (n : Nat) : SndL rules (List.replicate n (-1)) := fun N h => by
  rw [List.getD_eq_getElem?_getD, List.getElem?_replicate] at h
  split at h <;> simp at h
theorem SndL.sum (h : SndL rules xs) {l : List Sy} (hl : okL xs l = true) : ∃ v, Dv rules l v ∧ (v.length : Int) = sumN xs l := by
  induction l with
  | nil => exact ⟨[], .nil, rfl⟩
  | cons s l ih =>
    have h1 := okL_iff.1 hl
    obtain ⟨v, hv, hvl⟩ := ih (okL_iff.2 fun t ht => h1 t (List.mem_cons_of_mem _ ht))
    have h2 := h1 s (List.mem_cons_self ..)
    obtain ⟨b, t⟩ := s
    cases b with
    | true => exact ⟨(t : Int) :: v, .term t hv, by rw [sumN]; simp [valL]; omega⟩
    | false =>
      have h2' : 0 ≤ xs.getD t (-1) := by simpa [valL] using h2
      obtain ⟨u, hu, hul⟩ := h t h2'
      exact ⟨u ++ v, by have := hu.append hv; simpa using this, by rw [sumN, List.length_append, Int.natCast_add, hul, hvl]; simp [valL]⟩
theorem SndL.put (h : SndL rules xs) {r : Ru} (hr : r ∈ rules) (hs : 0 ≤ sumV xs r.2) : SndL rules (xs.set r.1 (sumV xs r.2)) := by
  intro N hN
  by_cases e : r.1 = N ∧ r.1 < xs.length
  · obtain ⟨rfl, hl⟩ := e
    have hg : (xs.set r.1 (sumV xs r.2)).getD r.1 (-1) = sumV xs r.2 := by rw [List.getD_eq_getElem?_getD, List.getElem?_set_self hl]; rfl
    rw [hg]
    obtain ⟨v, hv, hvl⟩ := h.sum (sumV_nonneg.1 hs)
    exact ⟨v, Dv.one hr hv, by rw [hvl, sumV, if_pos (sumV_nonneg.1 hs)]⟩
  · have hg : (xs.set r.1 (sumV xs r.2)).getD N (-1) = xs.getD N (-1) := by
      rw [List.getD_eq_getElem?_getD, List.getD_eq_getElem?_getD, List.getElem?_set]
      by_cases e1 : r.1 = N
      · subst e1
        rw [if_pos rfl, if_neg (fun hl => e ⟨rfl, hl⟩)]
        rw [List.getElem?_eq_none (by have : ¬ r.1 < xs.length := fun hl => e ⟨rfl, hl⟩; omega)]
      · rw [if_neg e1]
    rw [hg] at hN ⊢
    exact h N hN
theorem FixL.le (hf : FixL rules xs) {l : List Sy} {v : List Int} (h : Dv rules l v) : okL xs l = true ∧ sumN xs l ≤ (v.length : Int) := by
  induction h with
  | nil => exact ⟨rfl, by simp [sumN]⟩
  | term t h ih =>
    refine ⟨okL_iff.2 fun s hs => ?_, by rw [sumN]; simp [valL]; omega⟩
    rcases List.mem_cons.1 hs with rfl | hs
    · simp [valL]
    · exact okL_mem ih.1 hs
  | @non N rhs l u v hr h1 h2 ih1 ih2 =>
    have h3 : sumV xs rhs = sumN xs rhs := by unfold sumV; rw [if_pos ih1.1]
    obtain ⟨h4, h5⟩ := hf _ hr (sumV_nonneg.2 ih1.1)
    simp only at h4 h5
    refine ⟨okL_iff.2 fun s hs => ?_, ?_⟩
    · rcases List.mem_cons.1 hs with rfl | hs
      · simpa [valL] using h4
      · exact okL_mem ih2.1 hs
    · rw [sumN, List.length_append]
      have : valL xs (false, N) = xs.getD N (-1) := by simp [valL]
      rw [this]; have := ih1.2; have := ih2.2; omega
theorem FixL.one (hf : FixL rules xs) {N : Nat} {v : List Int} (h : Dv rules [(false, N)] v) : 0 ≤ xs.getD N (-1) ∧ xs.getD N (-1) ≤ (v.length : Int) := by
  obtain ⟨h1, h2⟩ := hf.le h
  have h3 := okL_mem h1 (List.mem_singleton.2 rfl)
  simp only [valL, Bool.false_eq_true, if_false] at h3
  refine ⟨h3, ?_⟩
  simpa [sumN, valL] using h2
end
/-- what a round has seen -/
def ProgL (n : Nat) (rules : List Ru) (xs0 xs : List Int) (ag : Bool) (k : Nat) : Prop := (ag = false ∧ xs = xs0 ∧ ∀ k' r, k' < k → rules[k']? = some r → FixR xs0 r) ∨ (ag = true ∧ muS (4 ^ n + 1) xs < muS (4 ^ n + 1) xs0)
theorem ProgL.step {n k k' : Nat} {rules : List Ru} {xs0 xs ys : List Int} {ag : Bool} (h : ProgL n rules xs0 xs ag k) (hm : muS (4 ^ n + 1) ys < muS (4 ^ n + 1) xs) : ProgL n rules xs0 ys true k' := by
  rcases h with ⟨_, rfl, _⟩ | ⟨_, h⟩
  · exact Or.inr ⟨rfl, hm⟩
  · exact Or.inr ⟨rfl, by omega⟩
theorem ProgL.skip {n k : Nat} {rules : List Ru} {xs0 xs : List Int} {ag : Bool} {r : Ru} (h : ProgL n rules xs0 xs ag k) (hr : rules[k]? = some r) (hf : FixR xs r) : ProgL n rules xs0 xs ag (k + 1) := by
  rcases h with ⟨h1, rfl, h2⟩ | h
  · refine Or.inl ⟨h1, rfl, fun k' r' hk hr' => ?_⟩
    by_cases e : k' = k
    · subst e; rw [hr] at hr'; rw [← Option.some.inj hr']; exact hf
    · exact h2 k' r' (by omega) hr'
  · exact Or.inr h
end Go.Proofs.Ytdmecijpioljaaa




namespace Go.Proofs.Ytdmecijpioljaaa
open Go.RowKit

def LenQ (w : World) (gr : Gr) (e : Ending) (w' : World) : Prop := ∃ (g : Nat) (xs : List Int), e = .returned (.slice (some ⟨g, 0, none⟩) gr.nons gr.nons) ∧ LenG gr.nons xs ∧ Blk w' g 3 (iVals xs) ∧ Below w.heap.size w w' ∧ w.heap.size < g ∧ SndL gr.rules xs ∧ FixL gr.rules xs
set_option maxRecDepth 100000 in
set_option maxHeartbeats 8000000 in
theorem lengths_q (ok : Nat → Prop) (g : Gr) (Ag : Option Addr) (ng cg : Nat) (w : World) (hg : GrOk g) (hl : Sl RuE ok w Ag ng cg g.rules) :
    Calls Try.prog 51 #[grVal g Ag ng cg] w (LenQ w g) := by
  have B0 := Blk.new w 28 #[.int .i64 (g.terms : Int), .int .i64 (g.nons : Int), .int .i64 (g.start : Int), .slice Ag ng cg]
  have hB := (Below.refl w.heap.size w).al (.cells #[.int .i64 (g.terms : Int), .int .i64 (g.nons : Int), .int .i64 (g.start : Int), .slice Ag ng cg] 28)
  have hn1 := hg.ok.nons.1
  have hn10 := hg.ok.nons.2
  have hlen := hl.len
  have HGO := Lib.hid hg
  have HL0 := Lib.hid hl
  have HB := Lib.hid hB
  have HB0 := Lib.hid B0
  have hng32 : ng ≤ 32 := by have := hg.ok.count; omega
  simp only [grVal]
  clear hg hl hB hlen
  go_enter Try.func51, Try.ntmps51
  have cB0 := B0.cell
  have fB0 := B0.frozen
  have lB0 := B0.lt
  go_wp2_with fail
  clear cB0 fB0 lB0
  have BS := Blk.new (w.alloc (.cells #[.int .i64 (g.terms : Int), .int .i64 (g.nons : Int), .int .i64 (g.start : Int), .slice Ag ng cg] 28)) 3 #[.int .i64 (-1)]
  rw [World.size_alloc] at BS
  have HB2 := Lib.hid (HB.out.al (.cells #[.int .i64 (-1)] 3))
  have HBG := Lib.hid (HB0.out.al (.cells #[.int .i64 (-1)] 3))
  clear B0 HB HB0
  generalize hW : (w.alloc (.cells #[.int .i64 (g.terms : Int), .int .i64 (g.nons : Int), .int .i64 (g.start : Int), .slice Ag ng cg] 28)).alloc (.cells #[.int .i64 (-1)] 3) = W at *
  have hWs : w.heap.size < W.heap.size := HBG.out.lt
  clear hW
  refine (repeat_c (w.heap.size + 1) g.nons W (BS.cell 0) hn1 (by omega)).mono ?_
  rintro e w2 ⟨rfl, hb2, hbel⟩
  have HLR := Lib.hid (show LR w W.heap.size #[.int .i64 (g.terms : Int), .int .i64 (g.nons : Int), .int .i64 (g.start : Int), .slice Ag ng cg] (List.replicate g.nons (-1)) w2 from
    ⟨by have q : iVals (List.replicate g.nons (-1)) = (List.replicate g.nons (Value.int .i64 (-1))).toArray := by simp [iVals]
        rw [q]; exact hb2, HBG.out.via hbel, HB2.out.via hbel, hWs⟩)
  have HLG := Lib.hid (LenG.start g.nons)
  have HSN := Lib.hid (SndL.start (rules := g.rules) g.nons)
  clear BS HB2 HBG hb2 hbel hWs
  generalize W.heap.size = bo at *
  generalize List.replicate g.nons (-1) = xs0 at *
  go_wp2_with fail
  go_loopg [4] (2 * muS (4 ^ g.nons + 1) xs0 + 1) (fun gk a wx => ∃ xs ag, a = .bool ag ∧ LenG g.nons xs ∧ LR w bo #[.int .i64 (g.terms : Int), .int .i64 (g.nons : Int), .int .i64 (g.start : Int), .slice Ag ng cg] xs wx ∧ SndL g.rules xs ∧ (ag = false → FixL g.rules xs) ∧ gk = 2 * muS (4 ^ g.nons + 1) xs + (if ag then 1 else 0))
  case atStart => exact ⟨xs0, true, rfl, HLG.out, HLR.out, HSN.out, fun h => (by cases h), rfl⟩
  case round =>
    obtain ⟨xs, ag, rfl, hlg, hlr, hsn, hfx, hgk⟩ := hrel
    clear HLR HLG HSN
    have HSN := Lib.hid hsn
    clear hsn
    cases ag with
    | false =>
      have HLG := Lib.hid hlg
      have HLR := Lib.hid hlr
      have HFX := Lib.hid (hfx rfl)
      clear hlg hlr hgk hfx
      go_wp2_with fail
      go_ret
      exact ⟨bo, xs, rfl, HLG.out, HLR.out.blk, HLR.out.bel, HLR.out.l1, HSN.out, HFX.out⟩
    | true =>
      have HLG := Lib.hid hlg
      have HLR := Lib.hid hlr
      have HGK := Lib.hid hgk
      have Bg := hlr.hg
      clear hlg hlr hgk hfx
      have cBg := Bg.cell
      have fBg := Bg.frozen
      have lBg := Bg.lt
      go_wp2_with fail
      clear cBg fBg lBg
      clear Bg
      obtain ⟨wo, rfl⟩ : ∃ wo : World, wo = wr := ⟨_, rfl⟩
      go_loopw [4, 19] (fun a q wr => ∃ (k : Nat) (ys : List Int) (ag : Bool), q = .int .i64 k ∧ k ≤ ng ∧ a = .bool ag ∧ LenG g.nons ys ∧ LR w bo #[.int .i64 (g.terms : Int), .int .i64 (g.nons : Int), .int .i64 (g.start : Int), .slice Ag ng cg] ys wr ∧ SndL g.rules ys ∧ ProgL g.nons g.rules xs ys ag k) (fun _ q _ => ng - (intOf q).toNat)
      case atStart => exact ⟨0, xs, false, rfl, Nat.zero_le _, rfl, HLG.out, HLR.out, HSN.out, Or.inl ⟨rfl, rfl, fun k' r hk' => by omega⟩⟩
      case round =>
        obtain ⟨k, ys, ag, rfl, hk, rfl, hlg, hlr, hsn, hpg⟩ := hrel
        clear HLR HLG HSN
        have HSN := Lib.hid hsn
        clear hsn
        by_cases hkn : k < ng
        · obtain ⟨b1, o1, ⟨sl, sA, sn, sc⟩, ⟨sl', rhs⟩, hAg, -, hbb, hy, ⟨hx1, hx2⟩, hc⟩ := (HL0.out.via hlr.bel).at_ hkn
          simp only at hx1 hx2
          obtain rfl : sl = sl' := hx1
          subst hAg
          have d0 := hc 0 _ rfl
          have d1 := hc 1 _ rfl
          simp only [RuE, Nat.add_zero] at d0 d1
          have i0 : (0 : Int) ≤ (k : Int) := by omega
          have i1 : (k : Int) < (ng : Int) := by omega
          have hmem := List.mem_of_getElem? hy
          have hsl : sl < g.nons := HGO.out.ok.left _ hmem
          have HRT := Lib.hid (HGO.out.ok.right _ hmem)
          have hsn : sn ≤ 4 := by rw [← hx2.len]; exact HRT.out.1
          have HYK := Lib.hid hy
          have HMEM := Lib.hid hmem
          have HRL := Lib.hid hx2.len
          have HSR := Lib.hid (hx2.al (.cells #[.int .i64 (sl : Int), .slice sA sn sc] 47))
          have HLR1 := Lib.hid (hlr.via ((Below.refl wr.heap.size wr).al (.cells #[.int .i64 (sl : Int), .slice sA sn sc] 47)))
          have HBK := Lib.hid (Blk.new wr 47 #[.int .i64 (sl : Int), .slice sA sn sc])
          have HLG1 := Lib.hid hlg
          have HPG1 := Lib.hid hpg
          have hbx : bo < wr.heap.size := hlr.blk.lt
          clear hc hy hx2 hlg hlr hpg hmem hbb
          go_wp2_with fail
          clear d0 d1
          generalize wr.alloc (.cells #[.int .i64 (sl : Int), .slice sA sn sc] 47) = W4 at *
          generalize wr.heap.size = brx at *
          obtain ⟨wp, rfl⟩ : ∃ wp : World, wp = wr := ⟨_, rfl⟩
          go_loopw [7, 26] (fun a q wr => ∃ (j : Nat) (s : Int), q = .int .i64 j ∧ j ≤ sn ∧ a = .int .i64 s ∧ s = sumV ys (rhs.take j) ∧ SumB ys j s ∧ LR w bo #[.int .i64 (g.terms : Int), .int .i64 (g.nons : Int), .int .i64 (g.start : Int), .slice (some ⟨b1, o1, none⟩) ng cg] ys wr ∧ Blk wr brx 47 #[.int .i64 (sl : Int), .slice sA sn sc] ∧ Below W4.heap.size W4 wr) (fun _ q _ => sn - (intOf q).toNat)
          case atStart => exact ⟨0, 0, rfl, Nat.zero_le _, rfl, rfl, SumB.start ys, HLR1.out, HBK.out, Below.refl _ _⟩
          case round =>
            obtain ⟨j, s, rfl, hj, rfl, hsv, hsb, hlr, hbk, hbw⟩ := hrel
            clear HLR1 HBK
            have HSV := Lib.hid hsv
            clear hsv
            by_cases hjn : j < sn
            · obtain ⟨b2, o2, sx, sy, rfl, -, hbb2, hy2, hxy, hc2⟩ := (HSR.out.via hbw).at_ hjn
              obtain rfl : sx = sy := hxy
              obtain ⟨tb, tn⟩ := sx
              have c0 := hc2 0 _ rfl
              have c1 := hc2 1 _ rfl
              simp only [SyE, Nat.add_zero] at c0 c1
              have j0 : (0 : Int) ≤ (j : Int) := by omega
              have j1 : (j : Int) < (sn : Int) := by omega
              have hsy := HRT.out.2 _ (List.mem_of_getElem? hy2)
              have HTK := Lib.hid (show rhs.take (j + 1) = rhs.take j ++ [(tb, tn)] by rw [List.take_add_one, hy2]; rfl)
              have hsm := hsb.small HLG1.out (by omega) (by omega)
              have hs0 := hsb.1
              have HSB := Lib.hid hsb
              have hal := (Below.refl wr.heap.size wr).al (.cells #[.bool tb, .int .i64 (tn : Int)] 45)
              have HLR2 := Lib.hid (hlr.via hal)
              have HBK2 := Lib.hid (hbk.via hal)
              have HBW2 := Lib.hid (hbw.via hal)
              have Bs := Blk.new wr 45 #[.bool tb, .int .i64 (tn : Int)]
              clear hc2 hy2 hbb2 hsb hlr hbw hal
              have chbk := hbk.cell
              have fhbk := hbk.frozen
              have lhbk := hbk.lt
              go_upto_region 13 with fail
              clear chbk fhbk lhbk
              clear c0 c1 hbk
              generalize wr.alloc (.cells #[.bool tb, .int .i64 (tn : Int)] 45) = W5 at *
              generalize wr.heap.size = bs5 at *
              by_cases hs : 0 ≤ s
              · cases tb with
                | true =>
                  have HV := Lib.hid (show s + 1 = sumV ys (rhs.take (j + 1)) by
                    rw [HTK.out, sumV_snoc_ok (by rw [← HSV.out]; exact hs) (by simp [valL]), ← HSV.out]; simp [valL])
                  have cBs := Bs.cell
                  have fBs := Bs.frozen
                  have lBs := Bs.lt
                  go_wp2_with fail
                  exact ⟨⟨j + 1, s + 1, by go_num, by omega, by go_num, HV.out, HSB.out.one, HLR2.out, HBK2.out, HBW2.out⟩, by simp [intOf]; omega⟩
                | false =>
                  rw [Gr.okSy, if_neg (by simp)] at hsy
                  have htn : tn < g.nons := by simpa using hsy
                  obtain ⟨x, hx⟩ : ∃ x, ys[tn]? = some x := ⟨_, List.getElem?_eq_getElem (by rw [HLG1.out.len]; exact htn)⟩
                  have hcx := HLR2.out.cell hx
                  have t0 : (0 : Int) ≤ (tn : Int) := by omega
                  have t1 : (tn : Int) < (g.nons : Int) := by omega
                  have HX := Lib.hid (List.mem_of_getElem? hx)
                  have HVX := Lib.hid (show valL ys (false, tn) = x by simp [valL, List.getD_eq_getElem?_getD, hx])
                  clear hx hsy
                  by_cases hx0 : 0 ≤ x
                  · have HA := Lib.hid (HSB.out.add HLG1.out HX.out hx0)
                    have hA2 := HA.out.small HLG1.out (by omega) (by omega)
                    have HV := Lib.hid (show s + x = sumV ys (rhs.take (j + 1)) by
                      rw [HTK.out, sumV_snoc_ok (by rw [← HSV.out]; exact hs) (by rw [HVX.out]; exact hx0), ← HSV.out, HVX.out])
                    have cBs := Bs.cell
                    have fBs := Bs.frozen
                    have lBs := Bs.lt
                    go_wp2_with fail
                    exact ⟨⟨j + 1, s + x, by go_num, by omega, by go_num, HV.out, HA.out, HLR2.out, HBK2.out, HBW2.out⟩, by simp [intOf]; omega⟩
                  · have e2 : decide ((0 : Int) ≤ x) = false := by simpa using hx0
                    have HV := Lib.hid (show -1 = sumV ys (rhs.take (j + 1)) by
                      rw [HTK.out, sumV_snoc_no (by rw [HVX.out]; exact fun h => hx0 h.2)])
                    have cBs := Bs.cell
                    have fBs := Bs.frozen
                    have lBs := Bs.lt
                    go_wp2_with fail
                    exact ⟨⟨j + 1, -1, by go_num, by omega, rfl, HV.out, SumB.no ys _, HLR2.out, HBK2.out, HBW2.out⟩, by simp [intOf]; omega⟩
              · have e1 : decide ((0 : Int) ≤ s) = false := by simpa using hs
                have HV := Lib.hid (show -1 = sumV ys (rhs.take (j + 1)) by
                  rw [HTK.out, sumV_snoc_no (by rw [← HSV.out]; exact fun h => hs h.1)])
                cases tb with
                | true =>
                  have cBs := Bs.cell
                  have fBs := Bs.frozen
                  have lBs := Bs.lt
                  go_wp2_with fail
                  exact ⟨⟨j + 1, -1, by go_num, by omega, rfl, HV.out, SumB.no ys _, HLR2.out, HBK2.out, HBW2.out⟩, by simp [intOf]; omega⟩
                | false =>
                  have cBs := Bs.cell
                  have fBs := Bs.frozen
                  have lBs := Bs.lt
                  go_wp2_with fail
                  exact ⟨⟨j + 1, -1, by go_num, by omega, rfl, HV.out, SumB.no ys _, HLR2.out, HBK2.out, HBW2.out⟩, by simp [intOf]; omega⟩
            · have hs0 := hsb.1
              have HSF := Lib.hid (show s = sumV ys rhs by
                rw [HSV.out, List.take_of_length_le (by rw [HRL.out]; omega)])
              obtain ⟨x, hx⟩ : ∃ x, ys[sl]? = some x := ⟨_, List.getElem?_eq_getElem (by rw [HLG1.out.len]; exact hsl)⟩
              have hcx := hlr.cell hx
              have hsm := hsb.small HLG1.out (by omega) (by omega)
              have h4 := Lib.hid (hsb.four (show j ≤ 4 by omega))
              have fr := hlr.blk.frozen
              have HX := Lib.hid hx
              have HVX := Lib.hid (show ys.getD sl (-1) = x by simp [List.getD_eq_getElem?_getD, hx])
              have HLR2 := Lib.hid hlr
              have HS := Lib.hid hsb
              have s0 : (0 : Int) ≤ (sl : Int) := by omega
              have s1 : (sl : Int) < (g.nons : Int) := by omega
              clear hsb hlr hbw hx
              by_cases hs : 0 ≤ s
              · by_cases hxn : x < 0
                · have HP := Lib.hid (HLG1.out.put HX.out hs h4.out (Or.inl hxn))
                  have chbk := hbk.cell
                  have fhbk := hbk.frozen
                  have lhbk := hbk.lt
                  go_wp2_with fail
                  exact ⟨⟨k + 1, ys.set sl s, true, by go_num, by omega, rfl, HP.out.1, HLR2.out.put s, by have := HSN.out.put HMEM.out (by rw [← HSF.out]; exact hs); rwa [← HSF.out] at this, HPG1.out.step HP.out.2⟩, by simp [intOf]; omega⟩
                · by_cases hsx : s < x
                  · have HP := Lib.hid (HLG1.out.put HX.out hs h4.out (Or.inr hsx))
                    have chbk := hbk.cell
                    have fhbk := hbk.frozen
                    have lhbk := hbk.lt
                    go_wp2_with fail
                    exact ⟨⟨k + 1, ys.set sl s, true, by go_num, by omega, rfl, HP.out.1, HLR2.out.put s, by have := HSN.out.put HMEM.out (by rw [← HSF.out]; exact hs); rwa [← HSF.out] at this, HPG1.out.step HP.out.2⟩, by simp [intOf]; omega⟩
                  · have chbk := hbk.cell
                    have fhbk := hbk.frozen
                    have lhbk := hbk.lt
                    go_wp2_with fail
                    exact ⟨⟨k + 1, ys, ag, by go_num, by omega, rfl, HLG1.out, HLR2.out, HSN.out, HPG1.out.skip HYK.out (fun _ => by show 0 ≤ ys.getD sl (-1) ∧ ys.getD sl (-1) ≤ sumV ys rhs; rw [HVX.out, ← HSF.out]; omega)⟩, by simp [intOf]; omega⟩
              · have e1 : decide ((0 : Int) ≤ s) = false := by simpa using hs
                have chbk := hbk.cell
                have fhbk := hbk.frozen
                have lhbk := hbk.lt
                go_wp2_with fail
                exact ⟨⟨k + 1, ys, ag, by go_num, by omega, rfl, HLG1.out, HLR2.out, HSN.out, HPG1.out.skip HYK.out (fun h => absurd h (by show ¬ 0 ≤ sumV ys rhs; rw [← HSF.out]; exact hs))⟩, by simp [intOf]; omega⟩
        · have HLG := Lib.hid hlg
          have HLR := Lib.hid hlr
          have HPG := Lib.hid hpg
          clear hlg hlr hpg
          have HNG := Lib.hid HL0.out.len
          have HKN := Lib.hid (show k = ng by omega)
          go_wp2_with fail
          go_roundg (2 * muS (4 ^ g.nons + 1) ys + (if ag then 1 else 0))
          case measure =>
            rw [HGK.out]
            rcases HPG.out with ⟨rfl, rfl, _⟩ | ⟨rfl, h⟩
            · simp
            · simp; omega
          case rel =>
            refine ⟨ys, ag, rfl, HLG.out, HLR.out, HSN.out, fun ha => ?_, rfl⟩
            rcases HPG.out with ⟨_, rfl, hv⟩ | ⟨rfl, _⟩
            · intro r hr
              obtain ⟨k', hk', e⟩ := List.getElem_of_mem hr
              exact hv k' r (by rw [HKN.out, ← HNG.out]; exact hk') (by rw [List.getElem?_eq_getElem hk', e])
            · cases ha
end Go.Proofs.Ytdmecijpioljaaa

