/- What completions say of each other; the walk of HoleMayFill: it returns true. No condition. -/
import Derived.Test.YtghnkgbingcbcaaHR
namespace Go.Proofs.Ytghnkgbingcbcaa
open Go.RowKit

/-! ### plain laws -/
theorem Ms.swap {rules : List Ru} {l : List Sy} {cs : List Ce} {v : List Int} (h : Ms rules l cs v) : ∀ cs' : List Ce, cs'.length = cs.length → (∀ (j : Nat) (x : Ce), cs'[j]? = some x → cs[j]? = some x ∨ ∃ y, v[j]? = some y ∧ x = (true, y)) → Ms rules l cs' v := by
  induction h with
  | nil => intro cs' hl _; rw [List.eq_nil_of_length_eq_zero hl]; exact .nil
  | @term t c hc l cs v h ih =>
    intro cs' hl hx
    cases cs' with
    | nil => simp at hl
    | cons x cs' =>
      refine .term t x ?_ (ih cs' (by simpa using hl) fun j y hy => ?_)
      · rcases hx 0 x rfl with h0 | ⟨y, h0, rfl⟩
        · simp at h0; rw [← h0]; exact hc
        · simp at h0; rw [← h0]; simp [isC]
      · have := hx (j + 1) y (by simpa using hy)
        simpa using this
  | @non N rhs l c1 c2 u v hr h1 h2 ih1 ih2 =>
    intro cs' hl hx
    have hu := h1.len
    rw [List.length_append] at hl
    rw [← List.take_append_drop c1.length cs']
    refine .non N hr (ih1 _ (by rw [List.length_take]; omega) fun j x hj => ?_) (ih2 _ (by rw [List.length_drop]; omega) fun j x hj => ?_)
    · have hjl : j < c1.length := by have := (List.getElem?_eq_some_iff.1 hj).1; rw [List.length_take] at this; omega
      rw [List.getElem?_take, if_pos hjl] at hj
      have := hx j x hj
      rw [List.getElem?_append_left hjl, List.getElem?_append_left (by omega)] at this
      exact this
    · rw [List.getElem?_drop] at hj
      have := hx _ x hj
      rw [List.getElem?_append_right (by omega), List.getElem?_append_right (by omega), hu] at this
      simpa using this
theorem Ms.up {rules : List Ru} {l : List Sy} {cs : List Ce} {v : List Int} (h : Ms rules l cs v) : ∀ cs' : List Ce, cs'.length = cs.length → (∀ (j : Nat) (x x' : Ce), cs[j]? = some x → cs'[j]? = some x' → ∀ s, isC s x = true → isC s x' = true) → Ms rules l cs' v := by
  induction h with
  | nil => intro cs' hl _; rw [List.eq_nil_of_length_eq_zero hl]; exact .nil
  | @term t c hc l cs v h ih =>
    intro cs' hl hx
    cases cs' with
    | nil => simp at hl
    | cons x cs' => exact .term t x (hx 0 c x rfl rfl _ hc) (ih cs' (by simpa using hl) fun j y y' hy hy' => hx (j + 1) y y' (by simpa using hy) (by simpa using hy'))
  | @non N rhs l c1 c2 u v hr h1 h2 ih1 ih2 =>
    intro cs' hl hx
    rw [List.length_append] at hl
    rw [← List.take_append_drop c1.length cs']
    refine .non N hr (ih1 _ (by rw [List.length_take]; omega) fun j x x' hj hj' => ?_) (ih2 _ (by rw [List.length_drop]; omega) fun j x x' hj hj' => ?_)
    · have hjl : j < c1.length := (List.getElem?_eq_some_iff.1 hj).1
      rw [List.getElem?_take, if_pos hjl] at hj'
      exact hx j x x' (by rw [List.getElem?_append_left hjl]; exact hj) hj'
    · rw [List.getElem?_drop] at hj'
      exact hx _ x x' (by rw [List.getElem?_append_right (by omega)]; simpa using hj) hj'
theorem canDo_any {g : Gr} (hg : GrOk g) {cs : List Ce} {i : Nat} (hi : cs[i]? = some (true, -1)) : CanDo g cs ↔ ∃ t : Nat, t < g.terms ∧ CanDo g (cs.set i (true, (t : Int))) := by
  have hil := (List.getElem?_eq_some_iff.1 hi).1
  constructor
  · rintro ⟨v, h⟩
    have hl := h.len
    have hy : v[i]? = some v[i] := List.getElem?_eq_getElem (by omega)
    have hr := h.lets (B := g.terms) (fun r hr s hs hb => by
      have := (hg.ok.right r hr).2 s hs
      rwa [Gr.okSy, if_pos hb] at this) (fun s hs hb => by rw [List.mem_singleton.1 hs] at hb; cases hb) _ (List.getElem_mem (show i < v.length by omega))
    refine ⟨v[i].toNat, by omega, v, h.swap _ (by simp) fun j x hx => ?_⟩
    by_cases e : i = j
    · subst e
      rw [List.getElem?_set_self hil] at hx
      right
      exact ⟨_, hy, by rw [← Option.some.inj hx]; congr 1; omega⟩
    · rw [List.getElem?_set_ne e] at hx; exact Or.inl hx
  · rintro ⟨t, -, v, h⟩
    refine ⟨v, h.up _ (by simp) fun j x x' hx hx' s hs => ?_⟩
    by_cases e : i = j
    · subst e
      rw [List.getElem?_set_self hil] at hx
      rw [hi] at hx'
      rw [← Option.some.inj hx'] 
      rw [← Option.some.inj hx] at hs
      obtain ⟨sb, sn⟩ := s
      simp only [isC, Bool.or_eq_true, decide_eq_true_eq, Bool.and_eq_true, Prod.mk.injEq] at hs ⊢
      rcases hs with hs | hs
      · exact Or.inr ⟨hs.1.symm, trivial⟩
      · exact Or.inr ⟨hs.1, trivial⟩
    · rw [List.getElem?_set_ne e] at hx
      rw [hx] at hx'
      rw [← Option.some.inj hx']; exact hs
theorem listG_can : CanDo listG [(true, 0)] :=
  ⟨[0], Ms.one (rules := listG.rules) (N := 0) (rhs := [(true, 0)]) (by simp [listG]) (.term 0 (true, 0) rfl .nil)⟩
theorem may_list {w w' : World} {e : Ending} (h : MayP w listG [(true, -1)] 0 e w') : ∃ A c, e = .returned (.tuple #[.slice A 1 c, .int .i64 0]) ∧ Sl BoE (fun x => w.heap.size ≤ x) w' A 1 c [true] ∧ Below w.heap.size w w' := by
  obtain ⟨A, c, bs, rfl, hs, hb, hw⟩ := h
  have hl := hs.len
  have e1 : bs = [true] := by
    match bs, hl, hb with
    | [b], _, hb =>
      have := (hb 0 b rfl).2 listG_can
      rw [this]
  rw [e1] at hs
  exact ⟨A, c, rfl, hs, hw⟩
theorem okCe_word {g : Gr} {xs : List Int} (h : ∀ x ∈ xs, 0 ≤ x ∧ x < (g.terms : Int)) {i : Nat} {y : Ce} (hy : okCe g y) : ∀ x ∈ (xs.map fun x => ((true, x) : Ce)).set i y, okCe g x := by
  intro x hx
  rcases List.mem_or_eq_of_mem_set hx with hx | rfl
  · obtain ⟨z, hz, rfl⟩ := List.mem_map.1 hx
    have := h z hz
    exact ⟨rfl, Or.inl ⟨z.toNat, by simp; omega, by omega⟩⟩
  · exact hy
theorem CeB.one (w : World) : CeB (w.alloc (.cells #[.bool true, .int .i64 (-1)] 48)) w.heap.size 1 1 [(true, -1)] :=
  ⟨rfl, Nat.le_refl _, _, Blk.new w _ _, fun i x hx => by
    match i, hx with
    | 0, hx => simp at hx; subst hx; exact ⟨rfl, rfl⟩
    | i + 1, hx => simp at hx⟩
theorem Sl.oneB (w : World) : Sl BoE (fun _ => True) (w.alloc (.cells #[.bool true] 4)) (some ⟨w.heap.size, 0, none⟩) 1 1 [true] :=
  Sl.ofBlk (ok := fun _ => True) (Blk.new w _ _) [true] rfl rfl rfl trivial fun i r x hr hx => by rw [hr] at hx; exact Option.some.inj hx
set_option maxRecDepth 100000 in
set_option maxHeartbeats 4000000 in
theorem mayfill_walk (A B : Option Addr) (n c m d : Nat) (l1 l2 : List Int) (i : Int) (w : World) (h1 : Ints w A n c l1) (h2 : Ints w B m d l2) :
    Calls Try.prog 4 #[.slice A n c, .slice B m d, .int .i64 i] w fun e w' => e = .returned (.bool true) ∧ Below w.heap.size w w' := by
  go_enter Try.func4, Try.ntmps4
  have H1 := Lib.hid h1
  have H2 := Lib.hid h2
  clear h1 h2
  go_wp2_with fail
  refine (list_c w).mono ?_
  rintro e w1 ⟨Al, rfl, hL, hb⟩
  have HL := Lib.hid (hL.al (.cells #[.bool true, .int .i64 (-1)] 48))
  have HB := Lib.hid (hb.al (.cells #[.bool true, .int .i64 (-1)] 48))
  have HCE := Lib.hid (CeB.one w1)
  clear hL hb
  dsimp only [grVal]
  go_wp2_with fail
  refine (may_c _ _ listG Al 2 2 _ 1 1 0 [(true, -1)] _ listG_ok HL.out HCE.out.toSl (by omega) (fun x hx => by rw [List.mem_singleton.1 hx]; exact ⟨rfl, Or.inr rfl⟩) (by omega) rfl).mono ?_
  rintro e w2 hmay
  obtain ⟨Am, cm, rfl, hs, hb⟩ := may_list hmay
  have HS := Lib.hid (hs.al (.cells #[.bool true] 4))
  have HB2 := Lib.hid ((HB.out.via hb).al (.cells #[.bool true] 4))
  have HO := Lib.hid (Sl.oneB w2)
  clear hmay hb hs HB HL HCE
  go_wp2_with fail
  refine (equalBo_one _ _ Am _ cm 1 _ HS.out HO.out).mono ?_
  rintro e w3 ⟨rfl, hb⟩
  have HB3 := Lib.hid (HB2.out.via hb)
  clear hb HB2 HS HO
  go_wp2_with fail
  refine (grammar_c A n c l1 w3 (H1.out.keep HB3.out (Nat.le_refl _))).mono ?_
  rintro e w4 ⟨g, Ag, ng, cg, rfl, hM, hG, hb⟩
  have HM := Lib.hid hM
  have hgt1 := hM.terms.1
  have hgt2 := hM.terms.2
  dsimp only [grVal]
  have Bg := Blk.new w4 28 #[.int .i64 (g.terms : Int), .int .i64 (g.nons : Int), .int .i64 (g.start : Int), .slice Ag ng cg]
  have HB4 := Lib.hid ((HB3.out.via hb).al (.cells #[.int .i64 (g.terms : Int), .int .i64 (g.nons : Int), .int .i64 (g.start : Int), .slice Ag ng cg] 28))
  have HG4 := Lib.hid (hG.al (.cells #[.int .i64 (g.terms : Int), .int .i64 (g.nons : Int), .int .i64 (g.start : Int), .slice Ag ng cg] 28))
  have hw4 := (HB3.out.via hb).size
  clear hb hM hG HB3
  have cBg := Bg.cell
  have fBg := Bg.frozen
  have lBg := Bg.lt
  go_wp2_with fail
  clear cBg fBg lBg
  generalize w4.alloc (.cells #[.int .i64 (g.terms : Int), .int .i64 (g.nons : Int), .int .i64 (g.start : Int), .slice Ag ng cg] 28) = W4 at *
  generalize w4.heap.size = bg at *
  refine (word_c (g.terms : Int) 6 B m d l2 W4 (H2.out.keep HB4.out (Nat.le_refl _)) (by omega) (by omega) (by omega)).mono ?_
  rintro e w5 ⟨v5, k5, rfl, ho, hb⟩
  obtain ⟨Aw, cw, rfl, -⟩ := ho.form
  have HI := Lib.hid ho.toInts
  have HB5 := Lib.hid (HB4.out.via hb)
  have HG5 := Lib.hid (HG4.out.via hb)
  have HBG5 := Lib.hid (Bg.via hb)
  have hk5 : k5 ≤ 6 := by rw [← ho.toInts.len]; exact wordI_len _ _ _
  have HWM := Lib.hid (wordI_mem (g.terms : Int) 6 l2 (by omega))
  clear ho hb HB4 HG4 Bg
  generalize wordI (g.terms : Int) 6 l2 = xs at *
  go_wp2_with fail
  refine (terminals_c Aw k5 cw xs w5 HI.out (by omega)).mono ?_
  rintro e w6 ⟨B6, d6, rfl, how, hb⟩
  have HB6 := Lib.hid (HB5.out.via hb)
  have HG6 := Lib.hid ((HG5.out.mono (ok' := fun z => z < w5.heap.size) fun z hz _ => hz).via hb)
  have HBG6 := Lib.hid (HBG5.out.via hb)
  have hbg : bg < w5.heap.size := HBG5.out.lt
  have HOW := Lib.hid how
  clear hb HB5 HG5 HBG5 how HI
  by_cases hk0 : k5 = 0
  · subst hk0
    go_wp2_with fail
    go_ret
    exact ⟨rfl, HB6.out⟩
  · obtain ⟨b, rfl, hbl, hce⟩ := HOW.out.toCeB (by omega)
    have HCE := Lib.hid hce
    have e1 : ((k5 : Int) == 0) = false := by simp; omega
    have hxl : xs.length = k5 := by have := hce.len; simpa using this
    clear hce HOW
    go_wp2_with fail
    refine (below_c i (k5 : Int) w6 (by omega) (by omega)).mono ?_
    rintro e w7 ⟨rfl, rfl⟩
    have hq0 := belowI_lo i (k5 : Int) (by omega)
    have hq1 := belowI_hi i (k5 : Int) (by omega)
    obtain ⟨q, hq⟩ : ∃ q : Nat, belowI i (k5 : Int) = (q : Int) := ⟨(belowI i (k5 : Int)).toNat, by omega⟩
    rw [hq] at hq0 hq1 ⊢
    clear hq e1
    have hqn : q < k5 := by omega
    obtain ⟨x, hx⟩ : ∃ x, (xs.map fun x => ((true, x) : Ce))[q]? = some (true, x) := ⟨xs[q]'(by omega), by simp [List.getElem?_eq_getElem (show q < xs.length by omega)]⟩
    have hce := HCE.out
    have c0 := (hce.cell hx).1
    have c1 := (hce.cell hx).2
    have f0 := hce.frozen
    have lb := hce.lt
    have hne : bg ≠ b := by omega
    have hwb : w.heap.size ≤ b := by have := HB6.out.size; omega
    have HCE7 := Lib.hid (hce.setN hx (-1))
    have HB7 := Lib.hid (HB6.out.setCell (p := ⟨b, q * 2 + 1, none⟩) hwb (.int .i64 (-1)))
    have HBG7 := Lib.hid (HBG6.out.far (p := ⟨b, q * 2 + 1, none⟩) hne (.int .i64 (-1)))
    have HG7 := Lib.hid (HG6.out.agr (Agr.setCell (p := ⟨b, q * 2 + 1, none⟩) (.int .i64 (-1)) fun z hz => by show z ≠ b; omega))
    have hlw5 : w5.heap.size ≤ w6.heap.size := by omega
    clear hce HCE hx
    go_upto_region 10 with fail
    clear c0 c1 f0
    have lb2 : b < (w6.setCell ⟨b, q * 2 + 1, none⟩ (.int .i64 (-1))).heap.size := by simpa using lb
    generalize w6.setCell ⟨b, q * 2 + 1, none⟩ (.int .i64 (-1)) = W7 at *
    obtain ⟨cs, hcs⟩ : ∃ cs, cs = (xs.map fun x => ((true, x) : Ce)).set q (true, -1) := ⟨_, rfl⟩
    have hcl : cs.length = k5 := by rw [hcs]; simp [hxl]
    have HOK := Lib.hid (show ∀ y, okCe g y → ∀ z ∈ cs.set q y, okCe g z from fun y hy => by
      rw [hcs, List.set_set]; exact okCe_word HWM.out hy)
    have hcq : cs[q]? = some (true, -1) := by rw [hcs]; exact List.getElem?_set_self (by simp; omega)
    rw [← hcs] at HCE7
    clear hcs HB6 HG6 HBG6 HWM hxl
    have HCQ := Lib.hid hcq
    have HCL := Lib.hid hcl
    have HOK0 := Lib.hid (show ∀ z ∈ cs, okCe g z by
      have := HOK.out (true, -1) ⟨rfl, Or.inr rfl⟩
      rwa [list_set_self hcq] at this)
    clear hcq hcl
    have Bg := HBG7.out
    have cBg := Bg.cell
    have fBg := Bg.frozen
    have lBg := Bg.lt
    go_wp2_with fail
    clear cBg fBg lBg
    refine (may_c _ _ g Ag ng cg (some ⟨b, 0, none⟩) k5 d6 q cs W7 HM.out.grOk HG7.out HCE7.out.toSl (by omega) HOK0.out hqn HCQ.out).mono ?_
    rintro e w8 ⟨A8, c8, bs, rfl, hs, hbs, hb⟩
    have HS := Lib.hid hs
    have HBS := Lib.hid hbs
    have HCE8 := Lib.hid (HCE7.out.via hb)
    have HB8 := Lib.hid (HB7.out.via hb)
    have HG8 := Lib.hid (HG7.out.via hb)
    have Bg := HBG7.out.via hb
    have HBG8 := Lib.hid Bg
    clear hs hbs hb HCE7 HB7 HG7 HBG7
    have cBg := Bg.cell
    have fBg := Bg.frozen
    have lBg := Bg.lt
    go_wp2_with fail
    clear cBg fBg lBg
    refine (Fill_c _ _ g Ag ng cg (some ⟨b, 0, none⟩) k5 d6 cs w8 HM.out.grOk HG8.out HCE8.out.toSl (by omega) HOK0.out).mono ?_
    rintro e w9 ⟨st, hgd, hfx, hb, hor⟩
    have HS9 := Lib.hid (HS.out.via hb)
    have HCE9 := Lib.hid (HCE8.out.via hb)
    have HB9 := Lib.hid (HB8.out.via hb)
    have HG9 := Lib.hid (HG8.out.via hb)
    have HBG9 := Lib.hid (HBG8.out.via hb)
    have key : ∃ (Af : Option Addr) (nf cf : Nat) (f : Int), e = .returned (.tuple #[.slice Af nf cf, .int .i64 f]) ∧ ((f = 10 ∧ decide (true ∈ bs) = false) ∨ (f = 0 ∧ decide (true ∈ bs) = true)) := by
      have hiff : true ∈ bs ↔ CanDo g cs := by
        rw [canDo_any HM.out.grOk HCQ.out]
        constructor
        · intro h
          obtain ⟨j, hj, e⟩ := List.getElem_of_mem h
          have hl := HS.out.len
          exact ⟨j, by omega, (HBS.out j true (by rw [List.getElem?_eq_getElem hj, e])).1 rfl⟩
        · rintro ⟨t, ht, h⟩
          have hl := HS.out.len
          have := (HBS.out t bs[t] (List.getElem?_eq_getElem (by omega))).2 h
          rw [← this]; exact List.getElem_mem _
      have hcan := canDo_iff hgd hfx
      rcases hor with ⟨rfl, h⟩ | ⟨Af, nf, cf, rfl, h, -⟩
      · rw [h] at hcan
        have : ¬ true ∈ bs := fun h2 => by have := hcan.2 (hiff.1 h2); cases this
        exact ⟨none, 0, 0, 10, rfl, Or.inl ⟨rfl, by simp [this]⟩⟩
      · have : true ∈ bs := hiff.2 (hcan.1 h)
        exact ⟨Af, nf, cf, 0, rfl, Or.inr ⟨rfl, by simp [this]⟩⟩
    obtain ⟨Af, nf, cf, f, rfl, hf⟩ := key
    clear hgd hfx hb hor HS HCE8 HB8 HG8 HBG8
    have HF := Lib.hid hf
    clear hf
    have hlb7 : b < W7.heap.size := lb2
    have Bg := HBG9.out
    have cBg := Bg.cell
    have fBg := Bg.frozen
    have lBg := Bg.lt
    go_wp2_with fail
    clear cBg fBg lBg
    refine (containsBo_c A8 g.terms c8 bs true w9 _ HS9.out (by omega)).mono ?_
    rintro e w10 ⟨rfl, rfl⟩
    rcases HF.out with ⟨rfl, hX⟩ | ⟨rfl, hX⟩
    all_goals
      rw [hX]
      clear hX HF
      go_wp2_with fail
      have HCY := Lib.hid (show ∃ y : Int, CeB w10 b k5 d6 (cs.set q (true, y)) from ⟨-1, by rw [list_set_self HCQ.out]; exact HCE9.out⟩)
      clear HCE9 Bg
      go_loopw [83] (fun q' wr => ∃ k : Nat, q' = .int .i64 k ∧ k ≤ g.terms ∧ (∃ y : Int, CeB wr b k5 d6 (cs.set q (true, y))) ∧ Sl BoE (fun x => W7.heap.size ≤ x) wr A8 g.terms c8 bs ∧ Below w.heap.size w wr ∧ Sl RuE (fun z => z < w5.heap.size) wr Ag ng cg g.rules ∧ Blk wr bg 28 #[.int .i64 (g.terms : Int), .int .i64 (g.nons : Int), .int .i64 (g.start : Int), .slice Ag ng cg]) (fun q' _ => g.terms - (intOf q').toNat)
      case atStart => exact ⟨0, rfl, Nat.zero_le _, HCY.out, HS9.out, HB9.out, HG9.out, HBG9.out⟩
      case round =>
        obtain ⟨k, rfl, hk, ⟨y, hce⟩, hs, hb, hg, hbg⟩ := hrel
        clear HCY HS9 HB9 HG9 HBG9
        by_cases hkt : k < g.terms
        · obtain ⟨b8, o8, v, v', rfl, -, hb8, hy8, hxy8, hc8⟩ := hs.at_ hkt
          obtain rfl : v = v' := hxy8
          have hm := hc8 0 _ rfl
          simp only [BoE, Nat.mul_one, Nat.add_zero] at hm
          have HV := Lib.hid (HBS.out k v hy8)
          have i0 : (0 : Int) ≤ (k : Int) := by omega
          have i1 : (k : Int) < (g.terms : Int) := by omega
          have hyq : (cs.set q (true, y))[q]? = some (true, y) := List.getElem?_set_self (by have := HCL.out; omega)
          have c1 := (hce.cell hyq).2
          have f0 := hce.frozen
          have lbr := hce.lt
          have HCE := Lib.hid (show CeB (wr.setCell ⟨b, q * 2 + 1, none⟩ (.int .i64 (k : Int))) b k5 d6 (cs.set q (true, (k : Int))) from by have := hce.setN hyq (k : Int); rwa [List.set_set] at this)
          have HS := Lib.hid (hs.agr (Agr.setCell (p := ⟨b, q * 2 + 1, none⟩) (.int .i64 (k : Int)) fun z hz => by show z ≠ b; omega))
          have HB := Lib.hid (hb.setCell (p := ⟨b, q * 2 + 1, none⟩) hwb (.int .i64 (k : Int)))
          have HG := Lib.hid (hg.agr (Agr.setCell (p := ⟨b, q * 2 + 1, none⟩) (.int .i64 (k : Int)) fun z hz => by show z ≠ b; omega))
          have HBG := Lib.hid (hbg.far (p := ⟨b, q * 2 + 1, none⟩) hne (.int .i64 (k : Int)))
          have HOKK := Lib.hid (HOK.out (true, (k : Int)) ⟨rfl, Or.inl ⟨k, rfl, hkt⟩⟩)
          clear hce hs hb hg hbg hc8 hy8 hyq
          go_upto_region 18 with fail
          clear c1 f0 hm
          generalize wr.setCell ⟨b, q * 2 + 1, none⟩ (.int .i64 (k : Int)) = W9 at *
          have Bg := HBG.out
          have cBg := Bg.cell
          have fBg := Bg.frozen
          have lBg := Bg.lt
          go_wp2_with fail
          clear cBg fBg lBg
          refine (Fill_c _ _ g Ag ng cg (some ⟨b, 0, none⟩) k5 d6 (cs.set q (true, (k : Int))) W9 HM.out.grOk HG.out HCE.out.toSl (by omega) HOKK.out).mono ?_
          rintro e w11 ⟨st', hgd, hfx, hbw, hor⟩
          have HCE2 := Lib.hid (HCE.out.via hbw)
          have HS2 := Lib.hid (HS.out.via hbw)
          have HB2 := Lib.hid (HB.out.via hbw)
          have HG2 := Lib.hid (HG.out.via hbw)
          have HBG2 := Lib.hid (HBG.out.via hbw)
          have hcan := canDo_iff hgd hfx
          clear hgd hfx hbw HCE HS HB HG HBG Bg
          rcases hor with ⟨rfl, h⟩ | ⟨Af', nf', cf', rfl, h, -⟩
          · have hv : v = false := by
              cases v with
              | false => rfl
              | true => have := hcan.2 (HV.out.1 rfl); rw [h] at this; cases this
            subst hv
            clear h hcan
            go_wp2_with fail
            exact ⟨⟨k + 1, by go_num, by omega, ⟨_, HCE2.out⟩, HS2.out, HB2.out, HG2.out, HBG2.out⟩, by simp [intOf]; omega⟩
          · have hv : v = true := HV.out.2 (hcan.1 h)
            subst hv
            clear h hcan
            go_wp2_with fail
            exact ⟨⟨k + 1, by go_num, by omega, ⟨_, HCE2.out⟩, HS2.out, HB2.out, HG2.out, HBG2.out⟩, by simp [intOf]; omega⟩
        · have HB := Lib.hid hb
          clear hce hs hb hg hbg
          go_wp2_with fail
          go_ret
          exact ⟨rfl, HB.out⟩
end Go.Proofs.Ytghnkgbingcbcaa
