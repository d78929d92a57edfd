/- Texts WF, laid together. -/
import Derived.Test.YtdmecijpioljaaaL2
import Derived.Deep.CutBlock



namespace Go.Proofs.Ytdmecijpioljaaa
open Go.RowKit

theorem catW_len {rules : List Ru} {lens : List Int} {kn : KnS} {ou : OuS} (h : WdG rules lens kn ou) : ∀ l : List Sy, (catW ou l).length ≤ 2000 * l.length := by
  intro l
  induction l with
  | nil => exact Nat.le_refl _
  | cons s l ih =>
    rw [catW, List.length_append, List.length_cons]
    have : (symO ou s).length ≤ 2000 := by
      obtain ⟨b, t⟩ := s
      cases b with
      | true => simp [symO]
      | false =>
        simp only [symO, Bool.false_eq_true, if_false]
        cases hk : kn t with
        | true => have := h.snd t hk; omega
        | false => rw [h.no t hk]; simp
    omega
theorem OwnI.dr {w : World} {base n : Nat} {v : Value} {xs : List Int} (h : OwnI w base v n xs) : OwnI w.drew base v n xs := h.keep ((Below.refl w.heap.size w).drew) (Nat.le_refl _)
theorem orL_two (z : Int) : orL [0, z] = z := by
  show (if (0 : Int) = 0 then (if z = 0 then 0 else z) else 0) = z
  rw [if_pos rfl]; split <;> omega
theorem WJ.next {W wa : World} {lens : List Int} {kn : KnS} {ou : OuS} {r : Ru} {j n : Nat} {v : Value} {s : Sy} {x : Int} (hs : r.2[j]? = some s) (hx : lens.getD r.1 (-1) = x) (h0 : 0 ≤ x) (h2 : x ≤ 2000) (hk : knL kn (r.2.take j)) (hsk : s.1 = true ∨ kn s.2 = true)
    (own : OwnI wa W.heap.size v n (catW ou (r.2.take j) ++ symO ou s)) (hn : n ≤ 2000 * (j + 1)) (hb : Below W.heap.size W wa) : WJ W lens kn ou r (j + 1) v (decide ((n : Int) ≤ x)) wa := by
  have ht : r.2.take (j + 1) = r.2.take j ++ [s] := by rw [List.take_add_one, hs]; rfl
  have hl : (catW ou (r.2.take (j + 1))).length = n := by
    rw [ht, catW_snoc]
    obtain ⟨A, c, _, hI⟩ := own.form
    exact hI.1
  refine ⟨⟨n, by rw [ht, catW_snoc]; exact own, hn⟩, ?_, fun hd => ?_, fun hd hc => ?_, hb⟩
  · rw [ht]
    intro t h
    rcases List.mem_append.1 h with h | h
    · exact hk t h
    · rw [List.mem_singleton.1 h]; exact hsk
  · have := of_decide_eq_true hd
    exact ⟨by omega, by omega, by omega⟩
  · have h1 := of_decide_eq_false hd
    have h3 := hc.2.2.2
    have h4 : catW ou r.2 = catW ou (r.2.take (j + 1)) ++ catW ou (r.2.drop (j + 1)) := by rw [← catW_append, List.take_append_drop]
    rw [h4, List.length_append] at h3
    omega
theorem WJ.brk {kn : KnS} {ou : OuS} {lens : List Int} {r : Ru} {j : Nat} {s : Sy} (hs : r.2[j]? = some s) (h1 : s.1 = false) (h2 : kn s.2 = false) : ¬ Cand lens kn ou r := by
  intro hc
  rcases hc.2.2.1 s (List.mem_of_getElem? hs) with h | h
  · rw [h1] at h; cases h
  · rw [h2] at h; cases h
theorem WJ.via {W wr wa : World} {lens : List Int} {kn : KnS} {ou : OuS} {r : Ru} {j : Nat} {v : Value} {b : Bool} (h : WJ W lens kn ou r j v b wr) (k : Below wr.heap.size wr wa) : WJ W lens kn ou r j v b wa := by
  obtain ⟨⟨n, hn, hb⟩, h2, h3, h4, h5⟩ := h
  exact ⟨⟨n, hn.keep k (Nat.le_refl _), hb⟩, h2, h3, h4, h5.via k⟩
theorem WJ.stop {W wr : World} {lens : List Int} {kn : KnS} {ou : OuS} {r : Ru} {j : Nat} {v : Value} (h : WJ W lens kn ou r j v false wr) : WI W lens kn ou r v false wr := by
  obtain ⟨n, hn, _⟩ := h.own
  exact ⟨⟨n, _, hn, fun h => (by cases h)⟩, fun h => (by cases h), h.no, h.bel⟩
theorem WJ.fin {W wr : World} {lens : List Int} {kn : KnS} {ou : OuS} {r : Ru} {j : Nat} {v : Value} {b : Bool} (h : WJ W lens kn ou r j v b wr) (hj : r.2.length ≤ j) : WI W lens kn ou r v b wr := by
  obtain ⟨⟨n, hn, _⟩, hk, hy, hno, hb⟩ := h
  rw [List.take_of_length_le hj] at hn hk hy
  exact ⟨⟨n, _, hn, fun _ => rfl⟩, fun hb => ⟨(hy hb).1, (hy hb).2.1, hk, (hy hb).2.2⟩, hno, hb⟩
set_option maxRecDepth 100000 in
set_option maxHeartbeats 8000000 in
theorem words_c (ok : Nat → Prop) (g : Gr) (Ag : Option Addr) (ng cg lb : Nat) (lens : List Int) (w : World) (hg : GrOk g) (hl : Sl RuE ok w Ag ng cg g.rules)
    (hlb : Blk w lb 3 (iVals lens)) (hln : lens.length = g.nons) (hf : FixL g.rules lens) :
    Calls Try.prog 64 #[grVal g Ag ng cg, .slice (some ⟨lb, 0, none⟩) g.nons g.nons] w (WordsP w g lens) := by
  have B0 := Blk.new w 28 #[.int .i64 (g.terms : Int), .int .i64 (g.nons : Int), .int .i64 (g.start : Int), .slice Ag ng cg]
  have hB := (Below.refl w.heap.size w).al (.cells #[.int .i64 (g.terms : Int), .int .i64 (g.nons : Int), .int .i64 (g.start : Int), .slice Ag ng cg] 28)
  have hn1 := hg.ok.nons.1
  have hn10 := hg.ok.nons.2
  have hlen := hl.len
  have HGO := Lib.hid hg
  have HL0 := Lib.hid hl
  have HLB := Lib.hid hlb
  have HLN := Lib.hid hln
  have HF := Lib.hid hf
  have hmk := mk_words g.nons (by omega)
  have hmb := mk_bools g.nons (by omega)
  have H8 := Lib.hid (show ∀ r ∈ g.rules, ∀ s ∈ r.2, s.1 = true → s.2 < 8 from fun r hr s hs hb => by
    have h1 := (HGO.out.ok.right r hr).2 s hs
    have h2 := HGO.out.ok.terms.2
    rw [Gr.okSy, if_pos hb] at h1
    have h3 : s.2 < g.terms := by simpa using h1
    omega)
  have hng32 : ng ≤ 32 := by have := hg.ok.count; omega
  have hw0 := WR.start w _ w.heap.size g.nons _ B0 hB (Nat.le_refl _)
  rw [World.size_alloc] at hw0
  have HW0 := Lib.hid hw0
  simp only [grVal]
  clear hg hl hB hlen hlb hln hf hw0
  go_enter Try.func64, Try.ntmps64
  have cB0 := B0.cell
  have fB0 := B0.frozen
  have lB0 := B0.lt
  go_upto_region 3 with fail
  clear cB0 fB0 lB0
  clear hmk hmb B0
  generalize ((w.alloc (.cells #[.int .i64 (g.terms : Int), .int .i64 (g.nons : Int), .int .i64 (g.start : Int), .slice Ag ng cg] 28)).alloc (.cells (mkCells (.slice none 0 0) g.nons) 22)).alloc (.cells (mkCells (.bool false) g.nons) 4) = W0 at *
  generalize w.heap.size + 1 + 1 = bk at *
  generalize w.heap.size + 1 = bo at *
  have HWG := Lib.hid (WdG.start g.rules lens)
  generalize (fun _ => false : KnS) = kn0 at *
  generalize (fun _ => [] : OuS) = ou0 at *
  go_wp2_with fail
  go_loopg [7] (2 * muW g.nons kn0 ou0 + 1) (fun gk a wx => ∃ kn ou ag, a = .bool ag ∧ WR w w.heap.size bo bk g.nons #[.int .i64 (g.terms : Int), .int .i64 (g.nons : Int), .int .i64 (g.start : Int), .slice Ag ng cg] kn ou wx ∧ WdG g.rules lens kn ou ∧ (ag = false → ∀ r ∈ g.rules, FixWr lens kn ou r) ∧ gk = 2 * muW g.nons kn ou + (if ag then 1 else 0))
  case atStart => exact ⟨kn0, ou0, true, rfl, HW0.out, HWG.out, fun h => (by cases h), rfl⟩
  case round =>
    clear HW0 HWG kn0 ou0
    obtain ⟨kn0, ou0, ag, rfl, hwr, hwg, hfx, hgk⟩ := hrel
    have HWG := Lib.hid hwg
    clear hwg
    cases ag with
    | false =>
      have HWR := Lib.hid hwr
      have HFX := Lib.hid (hfx rfl)
      clear hwr hgk hfx
      go_wp2_with fail
      go_ret
      exact ⟨_, bo, bk, kn0, ou0, _, rfl, HWR.out, HWG.out, HFX.out⟩
    | true =>
      have HWR := Lib.hid hwr
      have HGK := Lib.hid hgk
      have Bg := hwr.hg
      clear hwr hgk hfx
      have cBg := Bg.cell
      have fBg := Bg.frozen
      have lBg := Bg.lt
      go_wp2_with fail
      clear cBg fBg lBg
      clear Bg
      obtain ⟨wo, rfl⟩ : ∃ wo : World, wo = wr := ⟨_, rfl⟩
      go_loopw [7, 24] (fun a q wr => ∃ (k : Nat) (kn : KnS) (ou : OuS) (ag : Bool), q = .int .i64 k ∧ k ≤ ng ∧ a = .bool ag ∧ WR w w.heap.size bo bk g.nons #[.int .i64 (g.terms : Int), .int .i64 (g.nons : Int), .int .i64 (g.start : Int), .slice Ag ng cg] kn ou wr ∧ WdG g.rules lens kn ou ∧ ProgW g.nons g.rules lens kn0 ou0 kn ou ag k) (fun _ q _ => ng - (intOf q).toNat)
      case atStart => exact ⟨0, kn0, ou0, false, rfl, Nat.zero_le _, rfl, HWR.out, HWG.out, Or.inl ⟨rfl, rfl, rfl, fun k' r hk' => by omega⟩⟩
      case round =>
        clear HWR HWG
        obtain ⟨k, kn, ou, ag, rfl, hk, rfl, hwr, hwg, hpg⟩ := hrel
        have HWG := Lib.hid hwg
        have HPG := Lib.hid hpg
        clear hwg hpg
        by_cases hkn : k < ng
        · obtain ⟨b1, o1, ⟨sl, sA, sn, sc⟩, ⟨sl', rhs⟩, hAg, -, hbb, hy, ⟨hx1, hx2⟩, hc⟩ := (HL0.out.via hwr.bel).at_ hkn
          simp only at hx1 hx2
          obtain rfl : sl = sl' := hx1
          subst hAg
          have d0 := hc 0 _ rfl
          have d1 := hc 1 _ rfl
          simp only [RuE, Nat.add_zero] at d0 d1
          have i0 : (0 : Int) ≤ (k : Int) := by omega
          have i1 : (k : Int) < (ng : Int) := by omega
          have hmem := List.mem_of_getElem? hy
          have hsl : sl < g.nons := HGO.out.ok.left _ hmem
          have HRT := Lib.hid (HGO.out.ok.right _ hmem)
          have hsn : sn ≤ 4 := by rw [← hx2.len]; exact HRT.out.1
          have HYK := Lib.hid hy
          have HMEM := Lib.hid hmem
          have HRL := Lib.hid hx2.len
          have HSR := Lib.hid (hx2.al (.cells #[.int .i64 (sl : Int), .slice sA sn sc] 47))
          have HWR1 := Lib.hid (hwr.via ((Below.refl wr.heap.size wr).al (.cells #[.int .i64 (sl : Int), .slice sA sn sc] 47)))
          have HBK := Lib.hid (Blk.new wr 47 #[.int .i64 (sl : Int), .slice sA sn sc])
          have hbx : bk < wr.heap.size := hwr.l3
          have hW4 : wr.heap.size < (wr.alloc (.cells #[.int .i64 (sl : Int), .slice sA sn sc] 47)).heap.size := by simp
          obtain ⟨x, hx⟩ : ∃ x, lens[sl]? = some x := ⟨_, List.getElem?_eq_getElem (by rw [HLN.out]; exact hsl)⟩
          have HVX := Lib.hid (show lens.getD sl (-1) = x by simp [List.getD_eq_getElem?_getD, hx])
          have HCX := Lib.hid (show ∀ w', Below w.heap.size w w' → w'.cell? ⟨lb, sl, none⟩ = some (.int .i64 x) from fun w' hb => ((HLB.out.via hb).cell sl).trans (by simp [iVals, hx]))
          have s0 : (0 : Int) ≤ (sl : Int) := by omega
          have s1 : (sl : Int) < (g.nons : Int) := by omega
          clear hc hy hx2 hwr hmem hbb hx
          go_upto_region 9 with fail
          clear d0 d1
          generalize wr.alloc (.cells #[.int .i64 (sl : Int), .slice sA sn sc] 47) = W4 at *
          generalize wr.heap.size = brx at *
          go_cut [10, 11] from 28 to 42 (fun v okv wx => ∃ b, okv = .bool b ∧ OwnI wx W4.heap.size v 0 [] ∧ Below W4.heap.size W4 wx ∧ (b = true ↔ 0 ≤ x ∧ x ≤ 2000))
          case first =>
            have cx := HCX.out _ HWR1.out.bel
            have lx : lb < W4.heap.size := World.block_lt_of_cell? _ _ cx
            have hbk := HBK.out
            have chbk := hbk.cell
            have fhbk := hbk.frozen
            have lhbk := hbk.lt
            by_cases hx0 : 0 ≤ x
            · by_cases hx2 : x ≤ 2000
              · go_region
                go_wp2_with fail
                go_meet
                exact ⟨_, rfl, OwnI.dr (World.ownsRow_lit W4 #[] 0 (Nat.le_refl _) (by omega) rfl), ((Below.refl _ _).al _).drew, by simp; omega⟩
              · go_region
                go_wp2_with fail
                go_meet
                exact ⟨_, rfl, OwnI.dr (World.ownsRow_lit W4 #[] 0 (Nat.le_refl _) (by omega) rfl), ((Below.refl _ _).al _).drew, by simp; omega⟩
            · go_region
              go_wp2_with fail
              go_meet
              exact ⟨_, rfl, OwnI.dr (World.ownsRow_lit W4 #[] 0 (Nat.le_refl _) (by omega) rfl), ((Below.refl _ _).al _).drew, by simp; omega⟩
          case rest =>
            obtain ⟨b, rfl, hown, hbw, hbv⟩ := hcut
            have HWJ := Lib.hid (show WJ W4 lens kn ou (sl, rhs) 0 u10 b wc from
              ⟨⟨0, hown, Nat.le_refl _⟩, fun s hs => (by cases hs), fun hb => by have := hbv.1 hb; rw [HVX.out]; exact ⟨this.1, this.2, this.1⟩, fun hb hc => by
                have h1 := hc.1; have h2 := hc.2.1; rw [HVX.out] at h1 h2; rw [hbv.2 ⟨h1, h2⟩] at hb; exact absurd hb (by simp), hbw⟩)
            have hbk := HBK.out.via hbw
            have HBW := Lib.hid hbw
            clear hown hbv hbw
            have chbk := hbk.cell
            have fhbk := hbk.frozen
            have lhbk := hbk.lt
            go_upto_block 4 with fail
            clear chbk fhbk lhbk
            clear hbk
            go_cut [10, 11] (fun v okv wx => ∃ b, okv = .bool b ∧ WI W4 lens kn ou (sl, rhs) v b wx)
            case first =>
              go_wp2_with fail
              go_loopw [10, 11, 46] (fun v okv q wr => ∃ (j : Nat) (b : Bool), q = .int .i64 j ∧ j ≤ sn ∧ okv = .bool b ∧ WJ W4 lens kn ou (sl, rhs) j v b wr) (fun _ _ q _ => sn - (intOf q).toNat)
              case atStart => exact ⟨0, b, rfl, Nat.zero_le _, rfl, HWJ.out⟩
              case round =>
                clear HWJ HBW b
                obtain ⟨j, b, rfl, hj, rfl, hwj⟩ := hrel
                by_cases hjn : j < sn
                · obtain ⟨b2, o2, sx, sy, rfl, -, hbb2, hy2, hxy, hc2⟩ := (HSR.out.via hwj.bel).at_ hjn
                  obtain rfl : sx = sy := hxy
                  obtain ⟨tb, tn⟩ := sx
                  have c0 := hc2 0 _ rfl
                  have c1 := hc2 1 _ rfl
                  simp only [SyE, Nat.add_zero] at c0 c1
                  have j0 : (0 : Int) ≤ (j : Int) := by omega
                  have j1 : (j : Int) < (sn : Int) := by omega
                  have hsy := HRT.out.2 _ (List.mem_of_getElem? hy2)
                  have HYJ := Lib.hid hy2
                  have hal := (Below.refl wr.heap.size wr).al (.cells #[.bool tb, .int .i64 (tn : Int)] 45)
                  have HWR2 := Lib.hid ((HWR1.out.via hwj.bel).via hal)
                  have hwj5 := hwj.via hal
                  have Bs := Blk.new wr 45 #[.bool tb, .int .i64 (tn : Int)]
                  clear hc2 hy2 hbb2 hwj hal
                  go_upto_region 13 with fail
                  clear c0 c1
                  generalize wr.alloc (.cells #[.bool tb, .int .i64 (tn : Int)] 45) = W5 at *
                  generalize wr.heap.size = bs5 at *
                  cases b with
                  | false =>
                    have HWJ := Lib.hid hwj5
                    clear hwj5
                    have cBs := Bs.cell
                    have fBs := Bs.frozen
                    have lBs := Bs.lt
                    go_wp2_with fail
                    go_meet
                    exact ⟨false, rfl, HWJ.out.stop⟩
                  | true =>
                    obtain ⟨n, hown, hnb⟩ := hwj5.own
                    have HY := Lib.hid (hwj5.yes rfl)
                    have HKN := Lib.hid hwj5.known
                    have HB5 := Lib.hid hwj5.bel
                    have HOWN := Lib.hid hown
                    have hx0 : 0 ≤ x := by have := HY.out.1; rw [HVX.out] at this; exact this
                    have hx2 : x ≤ 2000 := by have := HY.out.2.1; rw [HVX.out] at this; exact this
                    have hn8 : n ≤ 8000 := by omega
                    have hlo := HB5.out.size
                    clear hwj5 hown
                    cases tb with
                    | true =>
                      have cBs := Bs.cell
                      have fBs := Bs.frozen
                      have lBs := Bs.lt
                      go_wp2_with (at_builtin; refine wpList_append_ints _ rfl (.tmp 66) (.tmp 69) rfl W4.heap.size u10 n _ rfl (HOWN.out.alloc _) (some ⟨W5.heap.size, 0, none⟩) 1 1 [(tn : Int)] rfl (Ints.one W5 _ _) (by omega) (by simp; omega) ?_; intro A' c' w' ho hg ha; have hb5 := OwnI.grown (HOWN.out.alloc (.cells #[.int .i64 (tn : Int)] 3)) (HB5.out.al _) hg (Nat.le_refl _) (by simp; omega); have cx := HCX.out _ (HWR1.out.bel.via hb5); have hbk := HBK.out.via hb5; have chbk := hbk.cell; have HO := Lib.hid ho; have HB6 := Lib.hid hb5; clear ho hg ha hb5)
                      exact ⟨⟨j + 1, decide (((n + 1 : Nat) : Int) ≤ x), by go_num, by omega, by simp, WJ.next (r := (sl, rhs)) (s := (true, tn)) HYJ.out HVX.out hx0 hx2 HKN.out (Or.inl rfl) HO.out (by omega) HB6.out⟩, by simp [intOf]; omega⟩
                    | false =>
                      rw [Gr.okSy, if_neg (by simp)] at hsy
                      have htn : tn < g.nons := by simpa using hsy
                      have t0 : (0 : Int) ≤ (tn : Int) := by omega
                      have t1 : (tn : Int) < (g.nons : Int) := by omega
                      have hck := HWR2.out.known htn
                      cases hkt : kn tn with
                      | false =>
                        rw [hkt] at hck
                        have HNO := Lib.hid (WJ.brk (lens := lens) (ou := ou) (r := (sl, rhs)) (s := (false, tn)) HYJ.out rfl hkt)
                        have cBs := Bs.cell
                        have fBs := Bs.frozen
                        have lBs := Bs.lt
                        go_wp2_with fail
                        go_meet
                        exact ⟨false, rfl, ⟨⟨n, _, HOWN.out, fun h => (by cases h)⟩, fun h => (by cases h), fun _ => HNO.out, HB5.out⟩⟩
                      | true =>
                        rw [hkt] at hck
                        obtain ⟨A2, m2, c2, hcw, hsw⟩ := HWR2.out.word htn
                        have HSW := Lib.hid hsw
                        have hm2 : m2 ≤ 2000 := by rw [← hsw.len]; have := HWG.out.snd _ hkt; omega
                        clear hsw
                        have cBs := Bs.cell
                        have fBs := Bs.frozen
                        have lBs := Bs.lt
                        go_wp2_with (at_builtin; refine wpList_append_ints _ rfl (.tmp 71) (.tmp 76) rfl W4.heap.size u10 n _ rfl HOWN.out A2 m2 c2 (ou tn) rfl HSW.out.ints (by omega) (by omega) ?_; intro A' c' w' ho hg ha; have hb5 := OwnI.grown HOWN.out HB5.out hg (Nat.le_refl _) (by omega); have cx := HCX.out _ (HWR1.out.bel.via hb5); have hbk := HBK.out.via hb5; have chbk := hbk.cell; have HO := Lib.hid ho; have HB6 := Lib.hid hb5; clear ho hg ha hb5)
                        exact ⟨⟨j + 1, decide (((n + m2 : Nat) : Int) ≤ x), by go_num, by omega, by simp, WJ.next (r := (sl, rhs)) (s := (false, tn)) HYJ.out HVX.out hx0 hx2 HKN.out (Or.inr hkt) HO.out (by omega) HB6.out⟩, by simp [intOf]; omega⟩
                · have HWI := Lib.hid (hwj.fin (r := (sl, rhs)) (by show rhs.length ≤ j; rw [HRL.out]; omega))
                  clear hwj
                  go_wp2_with fail
                  go_meet
                  exact ⟨b, rfl, HWI.out⟩
            case rest =>
              clear HWJ HBW b
              obtain ⟨b, rfl, hwi⟩ := hcut
              have HWR2 := Lib.hid (HWR1.out.via hwi.bel)
              have hbk := HBK.out.via hwi.bel
              have cbk := hbk.cell
              have lbk := hbk.lt
              clear HWR1 HBK
              cases b with
              | false =>
                have HNO := Lib.hid (hwi.no rfl)
                clear hwi
                go_upto_region 20 with fail
                go_quiet (fail)
                have HWR3 := Lib.hid (HWR2.out.via (below_drewN (Below.refl wc.heap.size wc) nq))
                go_wp2_with fail
                exact ⟨⟨k + 1, kn, ou, ag, by go_num, by omega, rfl, HWR3.out, HWG.out, HPG.out.skip HYK.out fun hc => absurd hc HNO.out⟩, by simp [intOf]; omega⟩
              | true =>
                have HC := Lib.hid (hwi.yes rfl)
                obtain ⟨n, xs, hown, hxs⟩ := hwi.own
                obtain rfl := hxs rfl
                obtain ⟨A, c, rfl, hI⟩ := hown.form
                have hbl := hown.block
                have HI := Lib.hid hI
                have hn2 : n ≤ 2000 := by have h1 := hI.1; have h3 := (HC.out.word HWG.out HF.out HMEM.out).2.2; rw [← h1]; exact h3
                have HSV := Lib.hid (show Sl IntE (fun b => bk < b) wc A n c (catW ou rhs) from hI.sl fun b off e _ => by have := (hbl _ e).1; simp at this; omega)
                clear hwi hown hxs hI hbl
                have hck := HWR2.out.known hsl
                cases hks : kn sl with
                | false =>
                  rw [hks] at hck
                  have fk := HWR2.out.frk sl
                  have fo := HWR2.out.fro sl
                  obtain ⟨A2, m2, c2, hcw, -⟩ := HWR2.out.word hsl
                  have lo := World.block_lt_of_cell? _ _ hcw
                  have lk := World.block_lt_of_cell? _ _ hck
                  have l2 := HWR2.out.l2
                  go_upto_region 20 with fail
                  go_quiet (fail)
                  have HWR3 := Lib.hid ((HWR2.out.via (below_drewN (Below.refl wc.heap.size wc) (nq + 1))).put (N := sl) (HSV.out.via (below_drewN (Below.refl wc.heap.size wc) (nq + 1))))
                  have HMU := Lib.hid (HPG.out.step (k' := k + 1) (HWG.out.less HF.out H8.out HMEM.out hsl HC.out (Or.inl hks)))
                  have HWG3 := Lib.hid (WdG.put HWG.out HF.out HMEM.out HC.out)
                  go_upto_region 21 with fail
                  go_region
                  go_wp2_with fail
                  exact ⟨⟨k + 1, _, _, true, by go_num, by omega, rfl, HWR3.out, HWG3.out, HMU.out⟩, by simp [intOf]; omega⟩
                | true =>
                  rw [hks] at hck
                  have fk := HWR2.out.frk sl
                  have fo := HWR2.out.fro sl
                  obtain ⟨A2, m2, c2, hcw, hsw⟩ := HWR2.out.word hsl
                  have lo := World.block_lt_of_cell? _ _ hcw
                  have lk := World.block_lt_of_cell? _ _ hck
                  have l2 := HWR2.out.l2
                  have hnm : n = m2 := by
                    have h1 := HI.out.1; have h3 := (HC.out.word HWG.out HF.out HMEM.out).2.1; have h4 := HWG.out.len HF.out hks; have h5 := hsw.len
                    rw [← h1, ← h5]
                    exact Int.ofNat_inj.1 (h3.trans h4.symm)
                  subst hnm
                  have HOR := Lib.hid (show orL [cmpI (n : Int) (n : Int), cmpL (catW ou rhs) (ou sl)] = cmpL (catW ou rhs) (ou sl) by rw [show cmpI (n : Int) (n : Int) = 0 by simp [cmpI]]; exact orL_two _)
                  have J1 := Lib.hid (show ∀ w', Below wc.heap.size wc w' → Ints w' A n c (catW ou rhs) from fun w' hb => HI.out.keep hb (Nat.le_refl _))
                  have J2 := Lib.hid (show ∀ w', Below wc.heap.size wc w' → Ints w' A2 n c2 (ou sl) from fun w' hb => hsw.ints.keep hb (Nat.le_refl _))
                  have SOF := Lib.hid (show ∀ w', Below wc.heap.size wc w' → ((∀ i, w'.cell? ⟨brx, i, none⟩ = #[.int .i64 (sl : Int), .slice sA sn sc][i]?) ∧ w'.cell? ⟨bk, sl, none⟩ = some (.bool true) ∧ w'.cell? ⟨bo, sl, none⟩ = some (.slice A2 n c2) ∧ Below wc.heap.size wc w') from fun w' hb => ⟨fun i => (hb.cell (p := ⟨brx, i, none⟩) lbk).trans (cbk i), (hb.cell (p := ⟨bk, sl, none⟩) lk).trans hck, (hb.cell (p := ⟨bo, sl, none⟩) lo).trans hcw, hb⟩)
                  clear hsw
                  by_cases hlt : orL [cmpI (n : Int) (n : Int), cmpL (catW ou rhs) (ou sl)] < 0
                  · have e1 : decide (orL [cmpI (n : Int) (n : Int), cmpL (catW ou rhs) (ou sl)] < 0) = true := decide_eq_true hlt
                    go_upto_region 20 with fail
                    clear cbk hck hcw
                    have hb0 := (Below.refl wc.heap.size wc).drew
                    go_region_held3 (fun w' => (∀ i, w'.cell? ⟨brx, i, none⟩ = #[.int .i64 (sl : Int), .slice sA sn sc][i]?) ∧ w'.cell? ⟨bk, sl, none⟩ = some (.bool true) ∧ w'.cell? ⟨bo, sl, none⟩ = some (.slice A2 n c2) ∧ Below wc.heap.size wc w') (exact SOF.out _ (by first | assumption | exact Below.al (by assumption) _)) (first
                      | (go_at_call 68; (with_reducible refine (cmp_c _ _ _).mono ?_); rintro ee wk ⟨rfl, rfl⟩)
                      | (go_at_call 69; (with_reducible refine (cmpL_c A A2 n c n c2 (catW ou rhs) (ou sl) _ (J1.out _ (by assumption)) (J2.out _ (by assumption)) (by omega)).mono ?_); rintro ee wk ⟨rfl, rfl⟩)
                      | (go_at_call 67; (with_reducible refine (or_c (some ⟨_, 0, none⟩) 2 2 [_, _] _ (Ints.two _ _ _ _).dr (by omega)).mono ?_); rintro ee wk ⟨rfl, rfl⟩))
                    have hbf := ((Below.refl wc.heap.size wc).al (.cells #[.int .i64 (cmpI (n : Int) (n : Int)), .int .i64 (cmpL (catW ou rhs) (ou sl))] 3)).drew
                    obtain ⟨cbk, hck, hcw, -⟩ := SOF.out _ hbf
                    have HWR4 := Lib.hid (HWR2.out.via hbf)
                    have HSV4 := Lib.hid (HSV.out.via hbf)
                    clear hb0 SOF J1 J2
                    generalize (wc.alloc (.cells #[.int .i64 (cmpI (n : Int) (n : Int)), .int .i64 (cmpL (catW ou rhs) (ou sl))] 3)).drew = W6 at *
                    have fk := HWR4.out.frk sl
                    have fo := HWR4.out.fro sl
                    have lo := World.block_lt_of_cell? _ _ hcw
                    have lk := World.block_lt_of_cell? _ _ hck
                    have HWR3 := Lib.hid ((HWR4.out.via (Below.refl W6.heap.size W6).drew).put (N := sl) (HSV4.out.via (Below.refl W6.heap.size W6).drew))
                    have HMU := Lib.hid (HPG.out.step (k' := k + 1) (HWG.out.less HF.out H8.out HMEM.out hsl HC.out (Or.inr (by rw [← HOR.out]; exact hlt))))
                    have HWG3 := Lib.hid (WdG.put HWG.out HF.out HMEM.out HC.out)
                    go_upto_region 21 with fail
                    go_region
                    go_wp2_with fail
                    exact ⟨⟨k + 1, _, _, true, by go_num, by omega, rfl, HWR3.out, HWG3.out, HMU.out⟩, by simp [intOf]; omega⟩
                  · have e1 : decide (orL [cmpI (n : Int) (n : Int), cmpL (catW ou rhs) (ou sl)] < 0) = false := decide_eq_false hlt
                    go_upto_region 20 with fail
                    clear cbk hck hcw
                    have hb0 := (Below.refl wc.heap.size wc).drew
                    go_region_held3 (fun w' => (∀ i, w'.cell? ⟨brx, i, none⟩ = #[.int .i64 (sl : Int), .slice sA sn sc][i]?) ∧ w'.cell? ⟨bk, sl, none⟩ = some (.bool true) ∧ w'.cell? ⟨bo, sl, none⟩ = some (.slice A2 n c2) ∧ Below wc.heap.size wc w') (exact SOF.out _ (by first | assumption | exact Below.al (by assumption) _)) (first
                      | (go_at_call 68; (with_reducible refine (cmp_c _ _ _).mono ?_); rintro ee wk ⟨rfl, rfl⟩)
                      | (go_at_call 69; (with_reducible refine (cmpL_c A A2 n c n c2 (catW ou rhs) (ou sl) _ (J1.out _ (by assumption)) (J2.out _ (by assumption)) (by omega)).mono ?_); rintro ee wk ⟨rfl, rfl⟩)
                      | (go_at_call 67; (with_reducible refine (or_c (some ⟨_, 0, none⟩) 2 2 [_, _] _ (Ints.two _ _ _ _).dr (by omega)).mono ?_); rintro ee wk ⟨rfl, rfl⟩))
                    have HWR4 := Lib.hid (HWR2.out.via ((Below.refl wc.heap.size wc).al (.cells #[.int .i64 (cmpI (n : Int) (n : Int)), .int .i64 (cmpL (catW ou rhs) (ou sl))] 3)).drew)
                    go_wp2_with fail
                    exact ⟨⟨k + 1, kn, ou, ag, by go_num, by omega, rfl, HWR4.out, HWG.out, HPG.out.skip HYK.out fun _ => ⟨hks, fun h => by have h2 := HOR.out; rw [h2] at hlt; exact absurd h (Int.not_lt.2 hlt)⟩⟩, by simp [intOf]; omega⟩
        · have HWR := Lib.hid hwr
          have HNG := Lib.hid HL0.out.len
          have HKN := Lib.hid (show k = ng by omega)
          clear hwr
          go_wp2_with fail
          go_roundg (2 * muW g.nons kn ou + (if ag then 1 else 0))
          case measure =>
            rw [HGK.out]
            rcases HPG.out with ⟨rfl, rfl, rfl, _⟩ | ⟨rfl, h⟩
            · simp
            · simp; omega
          case rel =>
            refine ⟨kn, ou, ag, rfl, HWR.out, HWG.out, fun ha => ?_, rfl⟩
            rcases HPG.out with ⟨_, rfl, rfl, hv⟩ | ⟨rfl, _⟩
            · intro r hr
              obtain ⟨k', hk', e⟩ := List.getElem_of_mem hr
              exact hv k' r (by rw [HKN.out, ← HNG.out]; exact hk') (by rw [List.getElem?_eq_getElem hk', e])
            · cases ha
end Go.Proofs.Ytdmecijpioljaaa

