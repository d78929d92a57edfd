/- Texts FE, laid together. -/
import Derived.Test.YtdmecijpioljaaaFD


namespace Go.Proofs.Ytdmecijpioljaaa
open Go.RowKit

theorem endB_list : endB listG 0 = true := by
  unfold endB
  exact @decide_eq_true _ (Classical.propDecidable _) ⟨[0], by simpa using Dv.non (rules := listG.rules) 0 (rhs := [(true, 0)]) (l := []) (by simp [listG]) (Dv.letter 0) .nil⟩
theorem genR_list : genR listG = listG.rules := by
  have he : endsF listG = [true] := by
    unfold endsF
    simp [listG, List.range_succ]
    exact endB_list
  unfold genR
  rw [he]
  simp [listG, badR, badS]
theorem EIt0 : EIt listG.rules 0 [0, 0] 0 ⟨1, 0, 0⟩ := .start 1 (0, [(true, 0)]) (by simp [listG]) rfl
theorem EIt1 : EIt listG.rules 0 [0, 0] 0 ⟨0, 0, 0⟩ := .start 0 (0, [(false, 0), (true, 0)]) (by simp [listG]) rfl
theorem may0 : mayB (genR listG) listG.start [0, 0] 0 0 = true := by
  unfold mayB
  rw [genR_list]
  exact @decide_eq_true _ (Classical.propDecidable _) ⟨⟨1, 0, 0⟩, EIt0, by simp [nxtI, listG]⟩
theorem may1 : mayB (genR listG) listG.start [0, 0] 1 0 = true := by
  unfold mayB
  rw [genR_list]
  have h1 : EIt listG.rules 0 [0, 0] 1 ⟨1, 1, 0⟩ := .scan 0 ⟨1, 0, 0⟩ 0 EIt0 (by simp [nxtI, listG]) rfl
  have h2 : EIt listG.rules 0 [0, 0] 1 ⟨0, 1, 0⟩ := .comp 1 ⟨1, 1, 0⟩ ⟨0, 0, 0⟩ h1 EIt1 (by simp [nxtI, listG]) (by simp [nxtI, lftI, listG])
  exact @decide_eq_true _ (Classical.propDecidable _) ⟨⟨0, 1, 0⟩, h2, by simp [nxtI, listG]⟩
theorem list_pre {n : Nat} (h : IsPre listG [0, 0] n) : n = 2 := by
  have hle := h.le
  simp at hle
  match n, h with
  | 0, h => have := h.no 0 rfl; rw [may0] at this; cases this
  | 1, h => have := h.no 0 rfl; rw [may1] at this; cases this
  | 2, _ => rfl
  | n + 3, _ => omega
theorem mayB_take {R : List Ru} {s k t : Nat} {x : List Nat} : mayB R s (x.take k) k t = mayB R s x k t := by
  unfold mayB
  have h : MayE R s (x.take k) k t ↔ MayE R s x k t := MayE.take fun i hi => by rw [List.getElem?_take, if_pos hi]
  rw [propext h]
theorem natI_toNat : ∀ {l : List Int}, (∀ y ∈ l, 0 ≤ y) → natI (l.map Int.toNat) = l
  | [], _ => rfl
  | y :: l, h => by
    have h1 := h y (List.mem_cons_self ..)
    have h2 := natI_toNat (l := l) fun z hz => h z (List.mem_cons_of_mem _ hz)
    unfold natI at h2 ⊢
    simp only [List.map_cons, h2]
    rw [show ((y.toNat : Nat) : Int) = y by omega]
/-- what hole.Next hands over, without a disjunction in sight -/
def NxtB (g : Gr) (x : List Nat) (A : Option Addr) (n : Nat) (er : Int) (w : World) : Prop :=
  ∃ m : List Bool, (∀ t, t < g.terms → m[t]? = some (mayB (genR g) g.start x x.length t)) ∧
    ((er = 0 ∧ n = g.terms + 1 ∧ ∃ b, A = some ⟨b, 0, none⟩ ∧ Blk w b 4 (bVals m)) ∨ (er = 10 ∧ A = none ∧ n = 0 ∧ ¬ true ∈ m))
theorem Next_q (ok okc : Nat → Prop) (g : Gr) (Ag : Option Addr) (ng cg : Nat) (A : Option Addr) (n c : Nat) (x : List Nat) (w : World) (hg : GrOk g) (hl : Sl RuE ok w Ag ng cg g.rules) (hx : Sl CeE okc w A n c (termC x)) (hn : x.length = n) (hnx : n < 12) (ht : ∀ t ∈ x, t < g.terms) :
    Calls Try.prog 8 #[.agg #[.int .i64 (g.terms : Int), .int .i64 (g.nons : Int), .int .i64 (g.start : Int), .slice Ag ng cg], .slice A n c] w fun e w' => ∃ (Am : Option Addr) (nm : Nat) (er : Int), e = .returned (.tuple #[.slice Am nm nm, .int .i64 er]) ∧ Hid (NxtB g x Am nm er w') ∧ Below w.heap.size w w' := by
  subst hn
  refine (Next_c ok okc g Ag ng cg A c x w hg hl hx hnx ht).mono ?_
  rintro e w' ⟨m, hm, hg, (⟨hin, b, rfl, hb⟩ | ⟨hno, rfl⟩), hbb⟩
  · exact ⟨_, _, _, rfl, Lib.hid ⟨m, hg, Or.inl ⟨rfl, rfl, b, rfl, hb⟩⟩, hbb⟩
  · exact ⟨none, 0, 10, rfl, Lib.hid ⟨m, hg, Or.inr ⟨rfl, rfl, rfl, hno⟩⟩, hbb⟩
set_option maxRecDepth 100000 in
set_option maxHeartbeats 4000000 in
theorem prefnext_walk (A B : Option Addr) (n c m d : Nat) (l1 l2 : List Int) (w : World) (h1 : Ints w A n c l1) (h2 : Ints w B m d l2) :
    Calls Try.prog 3 #[.slice A n c, .slice B m d] w fun e w' => e = .returned (.bool true) ∧ Below w.heap.size w w' := by
  go_enter Try.func3, Try.ntmps3
  have H1 := Lib.hid h1
  have H2 := Lib.hid h2
  clear h1 h2
  go_wp2_with fail
  refine (list_c w).mono ?_
  rintro e w1 ⟨Al, rfl, hL, hb⟩
  have HL := Lib.hid (hL.al (.cells #[.int .i64 0, .int .i64 0] 3))
  have HB := Lib.hid (hb.al (.cells #[.int .i64 0, .int .i64 0] 3))
  have HI := Lib.hid (Ints.two w1 0 0 3)
  clear hL hb
  go_wp2_with fail
  refine (Prefix_y _ listG Al 2 2 _ 2 [0, 0] _ listG_ok HL.out HI.out (by simp) (fun t ht => by simp at ht; subst ht; simp [listG]) endB_list).mono ?_
  rintro e w2 ⟨nn, hpre, rfl, hb2⟩
  obtain rfl := list_pre hpre
  have HB2 := Lib.hid (HB.out.via hb2)
  clear hpre hb2 HB HL HI
  go_wp2_with fail
  refine (grammar_c A n c l1 w2 (H1.out.keep HB2.out (Nat.le_refl _))).mono ?_
  rintro e w4 ⟨g, Ag, ng, cg, rfl, hM, hG, hb⟩
  have HM := Lib.hid hM
  have hgt1 := hM.terms.1
  have hgt2 := hM.terms.2
  dsimp only [grVal]
  have Bg := Blk.new w4 28 #[.int .i64 (g.terms : Int), .int .i64 (g.nons : Int), .int .i64 (g.start : Int), .slice Ag ng cg]
  have HB4 := Lib.hid ((HB2.out.via hb).al (.cells #[.int .i64 (g.terms : Int), .int .i64 (g.nons : Int), .int .i64 (g.start : Int), .slice Ag ng cg] 28))
  have HG4 := Lib.hid (hG.al (.cells #[.int .i64 (g.terms : Int), .int .i64 (g.nons : Int), .int .i64 (g.start : Int), .slice Ag ng cg] 28))
  have hw4 := (HB2.out.via hb).size
  clear hb hM hG HB2
  have cBg := Bg.cell
  have fBg := Bg.frozen
  have lBg := Bg.lt
  go_wp2_with fail
  clear cBg fBg lBg
  generalize w4.alloc (.cells #[.int .i64 (g.terms : Int), .int .i64 (g.nons : Int), .int .i64 (g.start : Int), .slice Ag ng cg] 28) = W4 at *
  generalize w4.heap.size = bg at *
  refine (word_c (g.terms : Int) 8 B m d l2 W4 (H2.out.keep HB4.out (Nat.le_refl _)) (by omega) (by omega) (by omega)).mono ?_
  rintro e w5 ⟨v5, k5, rfl, ho, hb⟩
  obtain ⟨Aw, cw, rfl, -⟩ := ho.form
  have HB5 := Lib.hid (HB4.out.via hb)
  have HG5 := Lib.hid (HG4.out.via hb)
  have BG5 := Bg.via hb
  obtain ⟨xs, hxs, hxt⟩ : ∃ xs : List Nat, wordI (g.terms : Int) 8 l2 = natI xs ∧ ∀ t ∈ xs, t < g.terms := by
    have hw := wordI_mem (g.terms : Int) 8 l2 (by omega)
    refine ⟨(wordI (g.terms : Int) 8 l2).map Int.toNat, ?_, fun t ht => ?_⟩
    · exact (natI_toNat fun y hy => (hw y hy).1).symm
    · obtain ⟨y, hy, rfl⟩ := List.mem_map.1 ht
      have := hw y hy; omega
  have hi := ho.toInts
  have hk5 : k5 ≤ 8 := by rw [← hi.len]; exact wordI_len _ _ _
  rw [hxs] at hi
  have hkl : xs.length = k5 := by have := hi.len; simpa [natI] using this
  subst hkl
  have HI := Lib.hid hi
  have HXT := Lib.hid hxt
  clear ho hb HB4 HG4 Bg hxs hi hxt
  have HBG := Lib.hid BG5
  have cBG5 := BG5.cell
  have fBG5 := BG5.frozen
  have lBG5 := BG5.lt
  go_wp2_with fail
  clear cBG5 fBG5 lBG5
  clear BG5
  cases he : endB g g.start with
  | false =>
    have HE := Lib.hid he
    clear he
    refine (Prefix_n _ g Ag ng cg Aw cw xs w5 HM.out.grOk HG5.out HI.out (by omega) HXT.out HE.out).mono ?_
    rintro e w6 ⟨rfl, hb6⟩
    have HB6 := Lib.hid (HB5.out.via hb6)
    clear hb6
    go_wp2_with fail
    go_ret
    exact ⟨rfl, HB6.out⟩
  | true =>
    have HE := Lib.hid he
    clear he
    refine (Prefix_y _ g Ag ng cg Aw cw xs w5 HM.out.grOk HG5.out HI.out (by omega) HXT.out HE.out).mono ?_
    rintro e w6 ⟨nn, hpre, rfl, hb6⟩
    have HP := Lib.hid hpre
    have hnn := hpre.le
    have HB6 := Lib.hid (HB5.out.via hb6)
    have HG6 := Lib.hid (HG5.out.via hb6)
    have HI6 := Lib.hid (HI.out.keep hb6 (Nat.le_refl _))
    have BG6 := HBG.out.via hb6
    have HBG6 := Lib.hid BG6
    clear hb6 hpre HB5 HG5 HI HBG
    obtain ⟨M, hM⟩ : ∃ M : Nat, (if (xs.length : Int) < (nn : Int) + 1 then (xs.length : Int) else (nn : Int) + 1) = (M : Int) := ⟨if xs.length < nn + 1 then xs.length else nn + 1, by split <;> split <;> omega⟩
    have hM1 : M ≤ nn + 1 := by
      rcases Nat.lt_or_ge xs.length (nn + 1) with h | h
      · rw [if_pos (by omega)] at hM; omega
      · rw [if_neg (by omega)] at hM; omega
    have hM2 : M ≤ xs.length := by
      rcases Nat.lt_or_ge xs.length (nn + 1) with h | h
      · rw [if_pos (by omega)] at hM; omega
      · rw [if_neg (by omega)] at hM; omega
    have d1 : decide ((nn : Int) < 0) = false := decide_eq_false (by omega)
    have d2 : decide (xs.length < nn) = false := decide_eq_false (by omega)
    go_wp2_with fail
    clear hM d1 d2
    go_loopw [57] (fun a wq => ∃ k : Nat, a = .int .i64 k ∧ k ≤ M ∧ Hid (Below w6.heap.size w6 wq)) (fun a _ => M - (intOf a).toNat)
    case atStart => exact ⟨0, rfl, Nat.zero_le _, Lib.hid (Below.refl _ _)⟩
    case round =>
      obtain ⟨k, rfl, hk, HBR⟩ := hrel
      by_cases hkM : k < M
      · obtain ⟨t, hxk⟩ : ∃ t, xs[k]? = some t := ⟨_, List.getElem?_eq_getElem (by omega)⟩
        have htl := HXT.out t (List.mem_of_getElem? hxk)
        have HTK := Lib.hid hxk
        have hkx : k ≤ xs.length := by omega
        have hk12 : k < 12 := by omega
        have htk : (xs.take k).length = k := by rw [List.length_take]; omega
        have HTW := Lib.hid htk
        have HTX := Lib.hid (show ∀ q ∈ xs.take k, q < g.terms from fun q hq => HXT.out q (List.mem_of_mem_take hq))
        have HIW := Lib.hid (show ∀ w', Below w6.heap.size w6 w' → Ints w' Aw k cw (natI (xs.take k)) from fun w' hb => by
          have h := (HI6.out.keep hb (Nat.le_refl _)).head hkx
          unfold natI at h ⊢
          rwa [List.map_take])
        have HGW := Lib.hid (show ∀ w', Below w6.heap.size w6 w' → Sl RuE (fun b => w2.heap.size ≤ b) w' Ag ng cg g.rules from fun w' hb => HG6.out.via hb)
        have SOF := Lib.hid (show ∀ w', Below w6.heap.size w6 w' → ((∀ i, w'.cell? ⟨bg, i, none⟩ = #[.int .i64 (g.terms : Int), .int .i64 (g.nons : Int), .int .i64 (g.start : Int), .slice Ag ng cg][i]?) ∧ Below w6.heap.size w6 w') from fun w' hb => ⟨(HBG6.out.via hb).cell, hb⟩)
        have hb0 := HBR.out.trans ((Below.refl wr.heap.size wr).drew.mono HBR.out.size)
        have k0 : (0 : Int) ≤ (k : Int) := by omega
        have k1 : (k : Int) ≤ (xs.length : Int) := by omega
        have k2 : (k : Int) ≤ (cw : Int) := by have := HI6.out.le; omega
        clear hxk htk
        go_upto_region 12 with fail
        go_region_held3 (fun w' => (∀ i, w'.cell? ⟨bg, i, none⟩ = #[.int .i64 (g.terms : Int), .int .i64 (g.nons : Int), .int .i64 (g.start : Int), .slice Ag ng cg][i]?) ∧ Below w6.heap.size w6 w') (exact SOF.out _ (by assumption)) (first
          | (go_at_call 9; (with_reducible refine (terminals_c Aw k cw (natI (xs.take k)) _ (HIW.out _ (by assumption)) (by omega)).mono ?_); rintro ee wa ⟨Bt, dt, rfl, hot, hbna⟩; have hbma : Below w6.heap.size w6 wa := Below.trans (by assumption) (hbna.mono (Below.size (by assumption))))
          | (go_at_call 8; (with_reducible refine (Next_q (fun b => w2.heap.size ≤ b) (fun _ => True) g Ag ng cg Bt k dt (xs.take k) _ HM.out.grOk (HGW.out _ (by assumption)) (hot.toSl (fun _ _ h => h.elim) (fun _ _ => trivial)) HTW.out hk12 HTX.out).mono ?_); rintro ee wb ⟨Am, nm, er, rfl, HNB, hbnb⟩; have hbmb : Below w6.heap.size w6 wb := Below.trans (by assumption) (hbnb.mono (Below.size (by assumption)))))
        have HBX := Lib.hid (HBG6.out.via hbmb)
        have HBE := Lib.hid hbmb
        obtain ⟨b6, o6, hA6, hb6, c6⟩ := (HI6.out.keep hbmb (Nat.le_refl _)).at_ (show k < xs.length by omega)
        have e6 : (natI xs).getD k 0 = (t : Int) := by simp [natI, List.getD_eq_getElem?_getD, HTK.out]
        rw [e6] at c6
        obtain ⟨mm, hmm, hcase⟩ := HNB.out
        have hv := hmm t htl
        rw [HTW.out, mayB_take] at hv
        clear hmm hbmb hbnb hbma hbna hot hb0 hb6 e6 HNB SOF HGW HIW HTX
        have k3 : (k : Int) < (xs.length : Int) := by omega
        have t0 : (0 : Int) ≤ (t : Int) := by omega
        have t1 : (t : Int) < (g.terms : Int) + 1 := by omega
        rcases hcase with ⟨rfl, rfl, b, rfl, hbk⟩ | ⟨rfl, rfl, rfl, hno⟩
        · obtain ⟨bv, hbv⟩ : ∃ bv, mayB (genR g) g.start xs k t = bv := ⟨_, rfl⟩
          have hdec : decide (k < nn) = bv := by
            rw [← hbv]
            by_cases hlt : k < nn
            · rw [HP.out.yes k t hlt HTK.out]; exact decide_eq_true hlt
            · obtain rfl : k = nn := by omega
              rw [HP.out.no t HTK.out]; exact decide_eq_false (by omega)
          rw [hbv] at hv
          have cT := hbk.cell t
          simp only [bVals, List.getElem?_toArray, List.getElem?_map, hv, Option.map_some] at cT
          have BX := HBX.out
          subst hA6
          clear hbk hv hbv
          have cBX := BX.cell
          have fBX := BX.frozen
          have lBX := BX.lt
          cases bv with
          | false =>
            go_wp2_with fail
            exact ⟨⟨k + 1, by go_num, by omega, HBE⟩, by simp [intOf]; omega⟩
          | true =>
            go_wp2_with fail
            exact ⟨⟨k + 1, by go_num, by omega, HBE⟩, by simp [intOf]; omega⟩
        · have hdec : decide (k < nn) = false := by
            refine decide_eq_false fun hlt => hno ?_
            rw [HP.out.yes k t hlt HTK.out] at hv
            exact List.mem_of_getElem? hv
          clear hv hno
          go_wp2_with fail
          exact ⟨⟨k + 1, by go_num, by omega, HBE⟩, by simp [intOf]; omega⟩
      · obtain rfl : k = M := by omega
        have HBE := Lib.hid (HB6.out.trans (HBR.out.mono HB6.out.size))
        go_wp2_with fail
        go_ret
        exact ⟨rfl, HBE.out⟩
end Go.Proofs.Ytdmecijpioljaaa

