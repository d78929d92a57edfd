/- Texts WN, laid together. -/
import Derived.Test.YtghnkgbingcbcaaV3
import Derived.Test.YtghnkgbingcbcaaC2



namespace Go.Proofs.Ytghnkgbingcbcaa
open Go.RowKit

theorem okSy_non {g : Gr} {s : Nat} : g.okSy (false, s) ↔ s < g.nons := by rw [Gr.okSy, if_neg (by simp)]
theorem der_at {g : Gr} (hg : g.Ok) {x : Tr} : ∀ {p : List Nat} {t : Tr} {s : Sy}, Der g s t → g.okSy s → t.at? p = some x → ∃ sx, Der g sx x ∧ g.okSy sx := by
  intro p
  induction p with
  | nil => intro t s h hs ha; simp [Tr.at?] at ha; subst ha; exact ⟨s, h, hs⟩
  | cons i p ih =>
    intro t s h hs ha
    simp only [Tr.at?] at ha
    cases hk : t.kids[i]? with
    | none => rw [hk] at ha; cases ha
    | some k =>
      rw [hk] at ha
      cases h with
      | leaf t => simp [Tr.kids] at hk
      | node r N rhs ks hr hl hd =>
        have hk' : ks[i]? = some k := hk
        have hil : i < rhs.length := by rw [← hl]; exact (List.getElem?_eq_some_iff.1 hk').1
        have hsj := List.getElem?_eq_getElem hil
        exact ih (hd i _ k hsj hk') ((hg.right _ (List.mem_of_getElem? hr)).2 _ (List.mem_of_getElem? hsj)) ha
theorem tms_cells (t : Tr) : ∀ c ∈ tms t, c.1 = true := by
  intro c hc
  obtain ⟨y, -, rfl⟩ := List.mem_map.1 hc
  rfl
theorem tmsL_cells : ∀ ks : List Tr, ∀ c ∈ tmsL ks, c.1 = true
  | [], c, hc => by cases hc
  | t :: ks, c, hc => by
    rw [tmsL] at hc
    rcases List.mem_append.1 hc with hc | hc
    · exact tms_cells t c hc
    · exact tmsL_cells ks c hc
theorem froL_cells {F : Tr → List Ce} {y : Ce} (hF : ∀ t, ∀ c ∈ F t, c.1 = true ∨ c = y) : ∀ (ks : List Tr) (i : Nat), ∀ c ∈ froL F ks i, c.1 = true ∨ c = y
  | [], _, c, hc => by cases hc
  | t :: ks, 0, c, hc => by
    rw [froL] at hc
    rcases List.mem_append.1 hc with hc | hc
    · exact hF t c hc
    · exact Or.inl (tmsL_cells ks c hc)
  | t :: ks, i + 1, c, hc => by
    rw [froL] at hc
    rcases List.mem_append.1 hc with hc | hc
    · exact Or.inl (tms_cells t c hc)
    · exact froL_cells hF ks i c hc
theorem fro_cells (y : Ce) : ∀ (p : List Nat) (t : Tr), ∀ c ∈ fro y p t, c.1 = true ∨ c = y
  | [], _, _, hc => Or.inr (List.mem_singleton.1 hc)
  | i :: p, t, c, hc => froL_cells (fro_cells y p) t.kids i c hc
theorem cellU_fro {g : Gr} (hg : g.Ok) {x t : Tr} {sx s : Sy} {p : List Nat} (hx : Der g sx x) (hsx : g.okSy sx) (ht : Der g s t) (hs : g.okSy s) (ha : t.at? p = some x) : ∀ c ∈ fro (symC sx) p t, CellU g c := by
  intro c hc
  have h8 := hg.terms.2
  obtain ⟨k, hk, hok⟩ := fro_ok hg hx ht hs ha c hc
  obtain ⟨b, z⟩ := c
  simp only at hk hok
  subst hk
  cases b with
  | true =>
    have := okSy_term'.1 hok
    exact Or.inl ⟨rfl, by show (0 : Int) ≤ (k : Int); omega, by show (k : Int) < 8; omega⟩
  | false =>
    rcases fro_cells _ _ _ _ hc with h | h
    · cases h
    · obtain ⟨b', N⟩ := sx
      simp only [symC, Prod.mk.injEq] at h
      obtain ⟨rfl, h⟩ := h
      have e : k = N := by omega
      subst e
      have hdv := hx.dv
      exact Or.inr ⟨rfl, by show (0 : Int) ≤ (k : Int); omega, by show (k : Int).toNat < _; rw [Int.toNat_natCast]; exact okSy_non.1 hok, _, by show Dv g.rules [(false, (k : Int).toNat)] _; rw [Int.toNat_natCast]; exact hdv⟩

theorem Sl.twoC (w : World) : Sl CeE (fun _ => True) (w.alloc (.cells #[.bool false, .int .i64 0, .bool true, .int .i64 0] 48)) (some ⟨w.heap.size, 0, none⟩) 2 2 [(false, 0), (true, 0)] :=
  Sl.ofBlk (ok := fun _ => True) (Blk.new w _ _) [(false, 0), (true, 0)] rfl rfl rfl trivial fun i r y hr hx => by rw [hr] at hx; exact Option.some.inj hx
theorem list_rhs : ∀ r ∈ listG.rules, 1 ≤ r.2.length := by decide
theorem list_dv {l : List Sy} {v : List Int} (h : Dv listG.rules l v) : l.length ≤ v.length := by
  induction h with
  | nil => simp
  | term t h ih => simp only [List.length_cons]; omega
  | @non N rhs l u v hr h1 h2 ih1 ih2 =>
    have := list_rhs _ hr
    simp only [List.length_cons, List.length_append] at *; omega
theorem list_cellU : ∀ c ∈ [((false, 0) : Ce), (true, 0)], CellU listG c := by
  intro c hc
  rcases List.mem_cons.1 hc with rfl | hc
  · exact Or.inr ⟨rfl, Int.le_refl _, by decide, [0], Dv.one (rules := listG.rules) (s := 0) (rhs := [(true, 0)]) (by simp [listG]) (.term 0 .nil)⟩
  · rw [List.mem_singleton.1 hc]; exact Or.inl ⟨rfl, Int.le_refl _, by decide⟩
theorem list_okC : ∀ c ∈ [((false, 0) : Ce), (true, 0)], okSyC listG c := by
  intro c hc
  rcases List.mem_cons.1 hc with rfl | hc
  · exact ⟨0, rfl, okSy_non.2 (by decide)⟩
  · rw [List.mem_singleton.1 hc]; exact ⟨0, rfl, okSy_term'.2 (by decide)⟩
theorem list_drv : DrvU listG.rules [(false, listG.start)] [((false, 0) : Ce), (true, 0)] :=
  DrvU.one (N := 0) (rhs := [(false, 0), (true, 0)]) (by simp [listG]) ((DrvU.sym _ (false, 0)).append (DrvU.sym _ (true, 0)))
theorem fill_list {w w' : World} {e : Ending} (h : FillY w listG [(false, 0), (true, 0)] e w') : ∃ A c, e = .returned (.tuple #[.slice A 2 c, .int .i64 0]) ∧ Below w.heap.size w w' := by
  obtain ⟨lens, hf, hs, -, hb, h⟩ := h
  have d0 : Dv listG.rules [(false, 0)] [0] := Dv.one (rules := listG.rules) (s := 0) (rhs := [(true, 0)]) (by simp [listG]) (.term 0 .nil)
  obtain ⟨h1, h2⟩ := hf.one d0
  obtain ⟨v, hv, hl⟩ := hs 0 h1
  have h3 := list_dv hv
  simp only [List.length_singleton] at h2 h3
  have h4 : szL (szOf lens) [((false, 0) : Ce), (true, 0)] = 2 := by
    have e1 : lens.getD 0 (-1) = 1 := by omega
    show szC (szOf lens) (false, 0) + (szC (szOf lens) (true, 0) + 0) = 2
    simp only [szC, szOf, Bool.false_eq_true, if_false, if_true]
    rw [show (0 : Int).toNat = 0 from rfl, e1]; rfl
  rcases h with ⟨A, n, c, rfl, hn⟩ | ⟨rfl, hn⟩
  · have : n = 2 := by omega
    subst this
    exact ⟨A, c, rfl, hb⟩
  · omega

set_option maxRecDepth 100000 in
set_option maxHeartbeats 8000000 in
theorem holetrees_walk (A B D : Option Addr) (n c m d q f : Nat) (l1 l2 l3 : List Int) (w : World) (h1 : Ints w A n c l1) (h2 : Ints w B m d l2) (h3 : Ints w D q f l3) :
    Calls Try.prog 5 #[.slice A n c, .slice B m d, .slice D q f] w fun e w' => e = .returned (.bool true) ∧ Below w.heap.size w w' := by
  go_enter Try.func5, Try.ntmps5
  have H1 := Lib.hid h1
  have H2 := Lib.hid h2
  have H3 := Lib.hid h3
  clear h1 h2 h3
  go_wp2_with fail
  refine (list_c w).mono ?_
  rintro e w1 ⟨Al, rfl, hL, hb⟩
  have HL := Lib.hid (hL.al (.cells #[.bool false, .int .i64 0, .bool true, .int .i64 0] 48))
  have HB := Lib.hid (hb.al (.cells #[.bool false, .int .i64 0, .bool true, .int .i64 0] 48))
  have HCE := Lib.hid (Sl.twoC w1)
  clear hL hb
  dsimp only [grVal]
  go_wp2_with fail
  refine (FillY_c _ _ listG Al 2 2 _ 2 2 [(false, 0), (true, 0)] _ listG_ok HL.out HCE.out (by omega) list_okC list_cellU list_drv).mono ?_
  rintro e w2 hfl
  obtain ⟨A2, c2, rfl, hb⟩ := fill_list hfl
  have HB2 := Lib.hid (HB.out.via hb)
  clear hfl hb HB HL HCE
  go_wp2_with fail
  refine (grammar_c A n c l1 w2 (H1.out.keep HB2.out (Nat.le_refl _))).mono ?_
  rintro e w3 ⟨g, Ag, ng, cg, rfl, hM, hG, hb⟩
  have HM := Lib.hid hM
  dsimp only [grVal]
  have Bg := Blk.new w3 28 #[.int .i64 (g.terms : Int), .int .i64 (g.nons : Int), .int .i64 (g.start : Int), .slice Ag ng cg]
  have HB3 := Lib.hid ((HB2.out.via hb).al (.cells #[.int .i64 (g.terms : Int), .int .i64 (g.nons : Int), .int .i64 (g.start : Int), .slice Ag ng cg] 28))
  have HG3 := Lib.hid ((hG.mono (ok' := fun _ => True) fun _ _ _ => trivial).al (.cells #[.int .i64 (g.terms : Int), .int .i64 (g.nons : Int), .int .i64 (g.start : Int), .slice Ag ng cg] 28))
  have HBG3 := Lib.hid Bg
  clear hb hM hG HB2
  have cBg := Bg.cell
  have fBg := Bg.frozen
  have lBg := Bg.lt
  go_wp2_with fail
  clear cBg fBg lBg
  generalize w3.alloc (.cells #[.int .i64 (g.terms : Int), .int .i64 (g.nons : Int), .int .i64 (g.start : Int), .slice Ag ng cg] 28) = W3 at *
  generalize w3.heap.size = bg at *
  refine (make_z (fun b => True) g Ag ng cg (by have := HM.out.count; omega) (fun r hr => by have := (HM.out.ok r hr).2.1; omega) B m d l2 W3 HG3.out (H2.out.keep HB3.out (Nat.le_refl _))).mono ?_
  rintro e w5 ⟨⟨ta, tb, tA, tn, tcc⟩, bo, rfl, hb, hT, hT0⟩
  have HB5 := Lib.hid ((HB3.out.via hb).al (.cells #[.int .i64 ta, .int .i64 tb, .slice tA tn tcc] 36))
  have HG5 := Lib.hid ((HG3.out.via hb).al (.cells #[.int .i64 ta, .int .i64 tb, .slice tA tn tcc] 36))
  have HBG5 := Lib.hid ((HBG3.out.via hb).al (.cells #[.int .i64 ta, .int .i64 tb, .slice tA tn tcc] 36))
  have Bt := Blk.new w5 36 #[.int .i64 ta, .int .i64 tb, .slice tA tn tcc]
  have HBT5 := Lib.hid Bt
  have HTT := Lib.hid hT
  clear hb hT hT0 HB3 HG3 HBG3 Bg
  dsimp only [trVal]
  cases bo with
  | false =>
    go_wp2_with fail
    go_ret
    exact ⟨rfl, HB5.out⟩
  | true =>
    obtain ⟨t, hTr, hD, hsz⟩ := HTT.out rfl
    have HT5 := Lib.hid ((hTr.mono (ok' := fun _ => True) fun _ _ _ => trivial).al (.cells #[.int .i64 ta, .int .i64 tb, .slice tA tn tcc] 36))
    have HD := Lib.hid hD
    clear HTT hTr hD
    have cBt := Bt.cell
    have fBt := Bt.frozen
    have lBt := Bt.lt
    go_wp2_with fail
    clear cBt fBt lBt
    clear Bt
    generalize w5.alloc (.cells #[.int .i64 ta, .int .i64 tb, .slice tA tn tcc] 36) = W5 at *
    generalize w5.heap.size = bt at *
    refine (path_c (fun _ => True) (ta, tb, tA, tn, tcc) t W5 HT5.out (by omega) D q f l3 (H3.out.keep HB5.out (Nat.le_refl _))).mono ?_
    rintro e w6 ⟨Ap, np, cp, p, x, rfl, hIp, hat, hb⟩
    have HB6 := Lib.hid (HB5.out.via hb)
    have HG6 := Lib.hid (HG5.out.via hb)
    have HBG6 := Lib.hid (HBG5.out.via hb)
    have Bt := HBT5.out.via hb
    have HBT6 := Lib.hid Bt
    have HT6 := Lib.hid (HT5.out.via hb)
    have HIP := Lib.hid hIp
    have HAT := Lib.hid hat
    have hxs := Tr.at_size hat
    clear hb HB5 HG5 HBG5 HBT5 HT5 hIp hat
    have cBt := Bt.cell
    have fBt := Bt.frozen
    have lBt := Bt.lt
    go_wp2_with fail
    clear cBt fBt lBt
    clear Bt
    refine (at_c (fun _ => True) (ta, tb, tA, tn, tcc) t w6 HT6.out (by omega) Ap np cp p HIP.out x HAT.out).mono ?_
    rintro e w7 ⟨⟨xa, xb, xA, xn, xcc⟩, rfl, hTx, hb⟩
    have hBx := hb.al (.cells #[.int .i64 xa, .int .i64 xb, .slice xA xn xcc] 36)
    have HB7 := Lib.hid (HB6.out.via hBx)
    have HG7 := Lib.hid (HG6.out.via hBx)
    have HBG7 := Lib.hid (HBG6.out.via hBx)
    have HBT7 := Lib.hid (HBT6.out.via hBx)
    have HT7 := Lib.hid (HT6.out.via hBx)
    have HIP7 := Lib.hid (HIP.out.via hBx)
    have HX7 := Lib.hid ((hTx.mono (ok' := fun _ => True) fun _ _ _ => trivial).al (.cells #[.int .i64 xa, .int .i64 xb, .slice xA xn xcc] 36))
    have Bx := Blk.new w7 36 #[.int .i64 xa, .int .i64 xb, .slice xA xn xcc]
    have Bg := HBG6.out.via hBx
    clear hb hBx hTx HB6 HG6 HBG6 HBT6 HT6 HIP
    dsimp only [trVal]
    have cBx := Bx.cell
    have fBx := Bx.frozen
    have lBx := Bx.lt
    have cBg := Bg.cell
    have fBg := Bg.frozen
    have lBg := Bg.lt
    go_wp2_with fail
    clear cBx fBx lBx cBg fBg lBg
    clear Bx Bg
    generalize w7.alloc (.cells #[.int .i64 xa, .int .i64 xb, .slice xA xn xcc] 36) = W7 at *
    have hgo := HM.out.grOk
    have hos : g.okSy (false, g.start) := okSy_non.2 hgo.ok.start
    obtain ⟨sx, hdx, hox⟩ := der_at hgo.ok HD.out hos HAT.out
    have HOK := Lib.hid (fro_ok hgo.ok hdx HD.out hos HAT.out)
    have HCU := Lib.hid (cellU_fro hgo.ok hdx hox HD.out hos HAT.out)
    have HDR := Lib.hid (fro_drv hdx HD.out HAT.out)
    have HSZ := Lib.hid (show ∀ lens, FixL g.rules lens → szL (szOf lens) (fro (symC sx) p t) ≤ (t.word.length : Int) from fun lens hf => szL_fro hf hdx HAT.out)
    have HDX := Lib.hid hdx
    have HOX := Lib.hid hox
    have HGO := Lib.hid hgo
    clear hgo hos hdx hox
    refine (symbol_t (fun _ => True) (fun _ => True) g HGO.out Ag ng cg (xa, xb, xA, xn, xcc) x sx W7 HG7.out HX7.out HDX.out HOX.out (by omega)).mono ?_
    rintro e w8 ⟨rfl, hb⟩
    have hBy := hb.al (.cells #[.bool sx.1, .int .i64 (sx.2 : Int)] 48)
    have HB8 := Lib.hid (HB7.out.via hBy)
    have HG8 := Lib.hid (HG7.out.via hBy)
    have HBG8 := Lib.hid (HBG7.out.via hBy)
    have HBT8 := Lib.hid (HBT7.out.via hBy)
    have HT8 := Lib.hid (HT7.out.via hBy)
    have HIP8 := Lib.hid (HIP7.out.via hBy)
    have By := Blk.new w8 48 #[.bool sx.1, .int .i64 (sx.2 : Int)]
    have Bt := HBT7.out.via hBy
    clear hb hBy HB7 HG7 HBG7 HBT7 HT7 HIP7 HX7
    have cBy := By.cell
    have fBy := By.frozen
    have lBy := By.lt
    have cBt := Bt.cell
    have fBt := Bt.frozen
    have lBt := Bt.lt
    go_wp2_with fail
    clear cBy fBy lBy cBt fBt lBt
    clear By Bt
    generalize w8.alloc (.cells #[.bool sx.1, .int .i64 (sx.2 : Int)] 48) = W8 at *
    refine (frontier_n sx p (fun _ => True) t (ta, tb, tA, tn, tcc) W8 Ap np cp HT8.out (by omega) HIP8.out).mono ?_
    rintro e w9 ⟨Af, nf, cf, rfl, hS, hb⟩
    have HB9 := Lib.hid (HB8.out.via hb)
    have HG9 := Lib.hid (HG8.out.via hb)
    have Bg := HBG8.out.via hb
    have HBT9 := Lib.hid (HBT8.out.via hb)
    have HT9 := Lib.hid (HT8.out.via hb)
    have HS := Lib.hid hS
    clear hb hS HB8 HG8 HBG8 HBT8 HT8 HIP8
    by_cases hbig : 12 < nf
    · have e1 : decide ((12 : Int) < (nf : Int)) = true := by simp; omega
      go_wp2_with fail
      go_ret
      exact ⟨rfl, HB9.out⟩
    · have e1 : decide ((12 : Int) < (nf : Int)) = false := by simp; omega
      have cBg := Bg.cell
      have fBg := Bg.frozen
      have lBg := Bg.lt
      go_wp2_with fail
      clear cBg fBg lBg
      clear Bg e1
      refine (FillY_c (fun _ => True) (fun _ => True) g Ag ng cg Af nf cf (fro (symC sx) p t) w9 HGO.out HG9.out HS.out (by omega) HOK.out HCU.out HDR.out).mono ?_
      rintro e w10 ⟨lens, hfx, -, -, hb, hor⟩
      have HB10 := Lib.hid (HB9.out.via hb)
      have Bt := HBT9.out.via hb
      have HT10 := Lib.hid (HT9.out.via hb)
      have HLE := Lib.hid (HSZ.out lens hfx)
      have HWS := Lib.hid (show (t.pre.flatMap Tr.term).length = t.word.length by rw [t.pre_word, List.length_map])
      clear hb hfx HB9 HG9 HBT9 HT9 HS
      rcases hor with ⟨Aw, nw, cw, rfl, hn⟩ | ⟨rfl, -⟩
      · have HNL := Lib.hid (show nw ≤ t.word.length by have := HLE.out; omega)
        clear hn
        have cBt := Bt.cell
        have fBt := Bt.frozen
        have lBt := Bt.lt
        go_wp2_with fail
        clear cBt fBt lBt
        refine (word_t (fun _ => True) (ta, tb, tA, tn, tcc) t w10 HT10.out (by omega)).mono ?_
        rintro e w11 ⟨A6, n6, c6, rfl, ho, hb⟩
        have hle : nw ≤ n6 := by rw [← ho.toInts.len, HWS.out]; exact HNL.out
        have HBF := Lib.hid (HB10.out.via hb)
        have e2 : decide (nw ≤ n6) = true := by simpa using hle
        clear ho hb
        go_wp2_with fail
        go_ret
        exact ⟨rfl, HBF.out⟩
      · have cBt := Bt.cell
        have fBt := Bt.frozen
        have lBt := Bt.lt
        go_wp2_with fail
        clear cBt fBt lBt
        refine (word_t (fun _ => True) (ta, tb, tA, tn, tcc) t w10 HT10.out (by omega)).mono ?_
        rintro e w11 ⟨A6, n6, c6, rfl, ho, hb⟩
        have HBF := Lib.hid (HB10.out.via hb)
        have e2 : decide (0 ≤ (n6 : Int)) = true := by simp
        clear ho hb
        go_wp2_with fail
        go_ret
        exact ⟨rfl, HBF.out⟩
end Go.Proofs.Ytghnkgbingcbcaa

