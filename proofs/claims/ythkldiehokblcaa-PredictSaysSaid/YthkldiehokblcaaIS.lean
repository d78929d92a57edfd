/- Texts IS, laid together. -/
import Derived.Test.YthkldiehokblcaaIR
import Derived.Test.YthkldiehokblcaaIB
import Derived.Laws.EntriesVeiled




namespace Go.Proofs.Ythkldiehokblcaa
open Go.RowKit

/-- what the closure leads to -/
structure RqS (w : World) (fid bg bat bw bf : Nat) (g : Gr) (W : List Nat) (Ag : Option Addr) (ng cg : Nat) (wA : Option Addr) (wc : Nat) : Prop where
  rules : Sl RuE (fun b => b ≠ bat) w Ag ng cg g.rules
  word : Sl InE (fun b => b ≠ bat) w wA W.length wc (ints W)
  gb : Blk w bg 24 (gCells g Ag ng cg)
  wb : Blk w bw 25 #[.slice wA W.length wc]
  fb : Blk w bf 85 #[.func (.func fid) #[] #[.pointer (some ⟨bg, 0, none⟩), .pointer (some ⟨bat, 0, none⟩), .pointer (some ⟨bw, 0, none⟩), .pointer (some ⟨bf, 0, none⟩)]]
  ne : bg ≠ bat ∧ bw ≠ bat ∧ bf ≠ bat
theorem RqS.agr {w w' : World} {fid bg bat bw bf : Nat} {g : Gr} {W : List Nat} {Ag : Option Addr} {ng cg : Nat} {wA : Option Addr} {wc : Nat} (h : RqS w fid bg bat bw bf g W Ag ng cg wA wc) (k : Agr (fun b => b ≠ bat) w w') : RqS w' fid bg bat bw bf g W Ag ng cg wA wc :=
  ⟨h.rules.agr k, h.word.agr k, (k _ h.ne.1 h.gb.lt).trans h.gb, (k _ h.ne.2.1 h.wb.lt).trans h.wb, (k _ h.ne.2.2 h.fb.lt).trans h.fb, h.ne⟩
theorem RqS.via {w w' : World} {fid bg bat bw bf : Nat} {g : Gr} {W : List Nat} {Ag : Option Addr} {ng cg : Nat} {wA : Option Addr} {wc : Nat} (h : RqS w fid bg bat bw bf g W Ag ng cg wA wc) (k : Below w.heap.size w w') : RqS w' fid bg bat bw bf g W Ag ng cg wA wc := h.agr (Agr.below k)
def RqP (w : World) (bat : Nat) (r : Option Tr) (k' : Nat) (e : Ending) (w' : World) : Prop :=
  Blk w' bat 3 #[.int .i64 (k' : Int)] ∧ Agr (fun b => b ≠ bat) w w' ∧ w.heap.size ≤ w'.heap.size ∧ Below bat w w' ∧ match r with
   | some t => ∃ v, e = .returned (.tuple #[trVal v, .bool true]) ∧ TreeR (fun b => w.heap.size ≤ b) w' v t
   | none => e = .returned (.tuple #[trVal (0, 0, none, 0, 0), .bool false])
theorem rq_fin {w wx : World} {bat : Nat} {T : TypeId} {cs : Array Value} (h1 : Blk wx bat T cs) (h2 : Agr (fun b => b ≠ bat) w wx) (h3 : w.heap.size ≤ wx.heap.size) (h4 : Below bat w wx) (hb : bat < w.heap.size) (u0 u1 u2 : Value) :
    Blk (((wx.setCell ⟨w.heap.size + 1, 0, none⟩ u0).setCell ⟨w.heap.size + 1, 1, none⟩ u1).setCell ⟨w.heap.size + 1, 2, none⟩ u2) bat T cs ∧ Agr (fun b => b ≠ bat) w (((wx.setCell ⟨w.heap.size + 1, 0, none⟩ u0).setCell ⟨w.heap.size + 1, 1, none⟩ u1).setCell ⟨w.heap.size + 1, 2, none⟩ u2) ∧
    w.heap.size ≤ (((wx.setCell ⟨w.heap.size + 1, 0, none⟩ u0).setCell ⟨w.heap.size + 1, 1, none⟩ u1).setCell ⟨w.heap.size + 1, 2, none⟩ u2).heap.size ∧ Below bat w (((wx.setCell ⟨w.heap.size + 1, 0, none⟩ u0).setCell ⟨w.heap.size + 1, 1, none⟩ u1).setCell ⟨w.heap.size + 1, 2, none⟩ u2) :=
  ⟨((h1.far (by simp; omega) _).far (by simp; omega) _).far (by simp; omega) _, ((h2.setNew (by simp) _).setNew (by simp) _).setNew (by simp) _, by simp; omega, ((h4.setCell (by simp; omega) _).setCell (by simp; omega) _).setCell (by simp; omega) _⟩
/-- behind j kids -/
structure KidQ (w : World) (bp : Nat) (i bt j kj : Nat) (v : Value) (ks : List Tr) (wr : World) : Prop where
  pb : Blk wr bp 3 #[.int .i64 (kj : Int)]
  agr : Agr (fun b => b ≠ bp) w wr
  own : Own TrE 37 (fun b => bt + 1 ≤ b) wr (bt + 1) v j ks
  b2 : Blk wr (w.heap.size + 1) 37 #[.int .i64 0, .int .i64 0, .slice none 0 0]
  b3 : Blk wr bt 37 #[.int .i64 (i : Int), .int .i64 0, v]
  size : bt + 1 ≤ wr.heap.size
  hbt : w.heap.size + 2 ≤ bt
  hbp : bp < w.heap.size
  bel : Below bp w wr
section
variable {w wr wa : World} {bp : Nat} {i bt j kj kj' : Nat} {v : Value} {ks : List Tr}
theorem KidQ.call (h : KidQ w bp i bt j kj v ks wr) (hp : Blk wa bp 3 #[.int .i64 (kj' : Int)]) (ha : Agr (fun b => b ≠ bp) wr wa) (hz : wr.heap.size ≤ wa.heap.size) (hb : Below bp wr wa) : KidQ w bp i bt j kj' v ks wa := by
  have h1 := h.hbt
  have h2 := h.hbp
  have h3 := h.size
  refine ⟨hp, h.agr.trans ha, h.own.agr (ha.mono fun b hb => ?_), (ha _ (by omega) (by omega)).trans h.b2, (ha _ (by omega) (by omega)).trans h.b3, Nat.le_trans h.size hz, h1, h2, h.bel.trans hb⟩
  rcases hb with hb | hb
  · omega
  · have := (h.own.lt b hb.symm).1; omega
theorem KidQ.via (h : KidQ w bp i bt j kj v ks wr) (k : Below wr.heap.size wr wa) : KidQ w bp i bt j kj v ks wa := h.call (h.pb.via k) (Agr.below k) k.size (k.mono (by have := h.hbp; have := h.hbt; have := h.size; omega))
theorem KidQ.push {v' : Value} {t : Tr} (h : KidQ w bp i bt j kj v ks wr) (ho : Own TrE 37 (fun b => bt + 1 ≤ b) wa (bt + 1) v' (j + 1) (ks ++ [t])) (hg : wr.grownBy wa v.ownBlock) : KidQ w bp i bt (j + 1) kj v' (ks ++ [t]) (wa.setCell ⟨bt, 2, none⟩ v') := by
  have h1 := h.hbt
  have h2 := h.hbp
  have h3 := h.size
  have hne : ∀ b, b ≤ bt → some b ≠ v.ownBlock := fun b hb e => by have := (h.own.lt b e.symm).1; omega
  refine ⟨(h.pb.grown hg (hne _ (by omega))).far (by simp; omega) _, ?_, ho.setCell _ (fun b hb => by show b ≠ bt; omega) (by show bt < _; omega), (h.b2.grown hg (hne _ (by omega))).far (by simp; omega) _, ?_, by have := hg.size; simp; omega, h1, h2, (h.bel.grown hg (by omega) (fun b e => by have := (h.own.lt b e).1; omega)).setCell (by simp; omega) _⟩
  · intro b hb hlt
    exact (Below.heap_setCell wa ⟨bt, 2, none⟩ v' b (by simp; omega)).trans ((hg.block b (by omega) (hne _ (by omega))).trans (h.agr b hb hlt))
  · have := (h.b3.grown hg (hne _ (by omega))).set_ 2 v'; simpa using this
end
set_option maxRecDepth 100000 in
set_option maxHeartbeats 4000000 in
theorem read_n (fid : Nat) (hfid : Hid (fid = 32)) (he : ∀ (args : Array Value) (w : World), (callFunc fid args).run Try.prog w = .ok (.enter fid args) w)
    (bg bat bw bf : Nat) (g : Gr) (W : List Nat) (Ag : Option Addr) (ng cg : Nat) (wA : Option Addr) (wcp : Nat) (hg : GrOk g) (hW : ∀ x ∈ W, x < g.terms) (hWl : W.length ≤ 2000) (d : Nat) :
    ∀ (w : World) (s : Sy) (k : Nat) (r : Option Tr) (k' : Nat), g.okSy s → k ≤ W.length → prs g W d s k = some (r, k') → RqS w fid bg bat bw bf g W Ag ng cg wA wcp → Blk w bat 3 #[.int .i64 (k : Int)] →
    Calls Try.prog fid #[.agg #[.bool s.1, .int .i64 (s.2 : Int)], .pointer (some ⟨bg, 0, none⟩), .pointer (some ⟨bat, 0, none⟩), .pointer (some ⟨bw, 0, none⟩), .pointer (some ⟨bf, 0, none⟩)] w (RqP w bat r k') := by
  induction d with
  | zero => intro w s k r k' _ _ h; simp [prs] at h
  | succ d ih =>
    intro w s k r k' hs hk hp hS hB
    obtain ⟨b, a⟩ := s
    have HIH := Lib.hid ih
    have hbl := hB.lt
    have hal := ((Below.refl w.heap.size w).al (.cells #[.bool b, .int .i64 (a : Int)] 68)).al (.cells #[.int .i64 0, .int .i64 0, .slice none 0 0] 37)
    have BS := (Blk.new w 68 #[.bool b, .int .i64 (a : Int)]).al (.cells #[.int .i64 0, .int .i64 0, .slice none 0 0] 37)
    have BR := Blk.newAt (w.alloc (.cells #[.bool b, .int .i64 (a : Int)] 68)) 37 #[.int .i64 0, .int .i64 0, .slice none 0 0] (w.heap.size + 1) (by simp)
    have HS := Lib.hid (hS.via hal)
    have HS0 := Lib.hid hS
    have HB := Lib.hid (hB.via hal)
    have HAL := Lib.hid hal
    have HG := Lib.hid hg
    have HWT := Lib.hid hW
    have HSZ := Lib.hid (show ((w.alloc (.cells #[.bool b, .int .i64 (a : Int)] 68)).alloc (.cells #[.int .i64 0, .int .i64 0, .slice none 0 0] 37)).heap.size = w.heap.size + 2 by simp)
    obtain ⟨q, hq⟩ : ∃ q, q = laP g W k := ⟨_, rfl⟩
    have hqle : q ≤ g.terms := by rw [hq]; exact laP_le hW k
    have HP := Lib.hid hp
    have HQ := Lib.hid hq
    have HSY := Lib.hid hs
    have HF := hfid
    have BS0 := BS
    have HBR := Lib.hid BR
    clear ih hal BR hS hB hg hW hp hq hs
    rw [hfid.out]
    go_enter Try.func32, Try.ntmps32
    go_upto_region 1 with fail
    generalize (w.alloc (.cells #[.bool b, .int .i64 (a : Int)] 68)).alloc (.cells #[.int .i64 0, .int .i64 0, .slice none 0 0] 37) = Wa at *
    have B1 := HS.out.gb
    have B2 := HS.out.wb
    have B3 := HB.out
    simp only [gCells] at B1
    have cB1 := B1.cell
    have fB1 := B1.frozen
    have lB1 := B1.lt
    have cB2 := B2.cell
    have fB2 := B2.frozen
    have lB2 := B2.lt
    have cB3 := B3.cell
    have fB3 := B3.frozen
    have lB3 := B3.lt
    have cBS := BS.cell
    have fBS := BS.frozen
    have lBS := BS.lt
    go_upto_if 20 with fail
    go_cut [8] (fun c wr => c = .int .i64 (q : Int) ∧ wr = Wa)
    case first =>
      by_cases hkl : k < W.length
      · have hc := laP_at (g := g) hkl
        rw [← HQ.out] at hc
        obtain ⟨-, -, hI0⟩ := HS.out.word.intsIn
        obtain ⟨bW, oW, rfl, hI⟩ := hI0 (by omega)
        have cw := hI k hkl
        have e1 : (ints W).getD k 0 = (q : Int) := by
          unfold ints; rw [List.getD_eq_getElem?_getD, List.getElem?_map, hc]; rfl
        rw [e1] at cw
        have e3 : (0 : Int) ≤ (k : Int) := by omega
        have e4 : (k : Int) < (W.length : Int) := by omega
        clear hI hI0 e1 hc
        go_wp2_with fail
        go_meet
        exact ⟨rfl, rfl⟩
      · have e4 : ¬ (k : Int) < (W.length : Int) := by omega
        have e5 : q = g.terms := by
          rw [HQ.out]; obtain rfl : k = W.length := by omega
          exact laP_end g W
        have HE5 := Lib.hid e5
        clear e5
        go_wp2_with fail
        go_meet
        exact ⟨by rw [HE5.out], rfl⟩
    case rest =>
      obtain ⟨rfl, rfl⟩ := hcut
      clear cB1 fB1 lB1 cB2 fB2 lB2 cB3 fB3 lB3 cBS fBS lBS
      clear B1 B2 B3
      cases b with
      | true =>
        have ha : a < g.terms := by simpa [Gr.okSy] using HSY.out
        have hp := HP.out
        simp only [prs, if_true] at hp
        rw [← HQ.out] at hp
        by_cases hqa : q = a
        · rw [if_pos hqa] at hp
          simp only [Option.some.injEq, Prod.mk.injEq] at hp
          obtain ⟨rfl, rfl⟩ := hp
          have e1 : ((q : Int) != (a : Int)) = false := by simp [hqa]
          have hkl : k < W.length := by
            have h2 := HQ.out
            refine Nat.lt_of_le_of_ne hk fun e => ?_
            rw [e, laP_end] at h2; omega
          have HQA := Lib.hid hqa
          have BAT := HB.out
          clear hqa
          have cBS0 := BS0.cell
          have fBS0 := BS0.frozen
          have lBS0 := BS0.lt
          have cBAT := BAT.cell
          have fBAT := BAT.frozen
          have lBAT := BAT.lt
          go_upto_region 8 with fail
          clear cBS0 fBS0 lBS0 cBAT fBAT lBAT
          have HB2 := Lib.hid (show Blk (wc.setCell ⟨bat, 0, none⟩ (.int .i64 ((k : Int) + 1))) bat 3 #[.int .i64 ((k + 1 : Nat) : Int)] from by
            have := BAT.set_ 0 (.int .i64 ((k : Int) + 1)); simpa using this)
          have BR2 := HBR.out.far (p := ⟨bat, 0, none⟩) (by simp; omega) (.int .i64 ((k : Int) + 1))
          have HA2 := Lib.hid ((Agr.below (ok := fun b => b ≠ bat) HAL.out).trans (Agr.setCell (p := ⟨bat, 0, none⟩) (.int .i64 ((k : Int) + 1)) fun b hb => hb))
          have HE2 := Lib.hid ((HAL.out.mono (Nat.le_of_lt hbl)).setCell (p := ⟨bat, 0, none⟩) (Nat.le_refl _) (.int .i64 ((k : Int) + 1)))
          have HZ2 := Lib.hid (show w.heap.size ≤ (wc.setCell ⟨bat, 0, none⟩ (.int .i64 ((k : Int) + 1))).heap.size by have := HSZ.out; simp; omega)
          clear BAT BS0 BS
          generalize wc.setCell ⟨bat, 0, none⟩ (.int .i64 ((k : Int) + 1)) = wq at *
          have cBR2 := BR2.cell
          have fBR2 := BR2.frozen
          have lBR2 := BR2.lt
          go_wp2_with fail
          refine bodyPost_ret (v := .tuple #[trVal (-1, (q : Int), none, 0, 0), .bool true]) (by simp [results, Try.results32, go_sem, trVal, cBR2]) rfl ?_
          obtain ⟨f1, f2, f3, f4⟩ := rq_fin HB2.out HA2.out HZ2.out HE2.out hbl (.int .i64 (-1)) (.int .i64 (q : Int)) (.slice none 0 0)
          have hqa := HQA.out
          exact ⟨f1, f2, f3, f4, _, rfl, by rw [hqa]; exact .leaf a none 0⟩
        · rw [if_neg hqa] at hp
          simp only [Option.some.injEq, Prod.mk.injEq] at hp
          obtain ⟨rfl, rfl⟩ := hp
          have e1 : ((q : Int) != (a : Int)) = true := by simp; omega
          have BR := HBR.out
          clear hqa
          have cBS0 := BS0.cell
          have fBS0 := BS0.frozen
          have lBS0 := BS0.lt
          have cBR := BR.cell
          have fBR := BR.frozen
          have lBR := BR.lt
          go_wp2_with fail
          refine bodyPost_ret (v := .tuple #[trVal (0, 0, none, 0, 0), .bool false]) (by simp [results, Try.results32, go_sem, trVal, cBR]) rfl ?_
          obtain ⟨f1, f2, f3, f4⟩ := rq_fin HB.out (Agr.below (ok := fun b => b ≠ bat) HAL.out) HAL.out.size (HAL.out.mono (Nat.le_of_lt hbl)) hbl (.int .i64 0) (.int .i64 0) (.slice none 0 0)
          exact ⟨f1, f2, f3, f4, rfl⟩
      | false =>
        have ha : a < g.nons := by simpa [Gr.okSy] using HSY.out
        have BG := HS.out.gb
        simp only [gCells] at BG
        have cBS0 := BS0.cell
        have fBS0 := BS0.frozen
        have lBS0 := BS0.lt
        have cBG := BG.cell
        have fBG := BG.frozen
        have lBG := BG.lt
        go_wp2_with fail
        clear cBS0 fBS0 lBS0 cBG fBG lBG
        have hpos := possible_c (fun b => b ≠ bat) g Ag ng cg a q wc HG.out HS.out.rules ha hqle
        simp only [grVal] at hpos
        refine hpos.mono ?_
        clear hpos
        rintro e w1 ⟨base1, A1, c1, rfl, hO1, -, -, hb1⟩
        have hI1 := hO1.toInts
        clear hO1
        rw [refK_ok HG.out.ok] at hI1
        simp only [refK_ok HG.out.ok]
        have HS1 := Lib.hid (HS.out.via hb1)
        have HB1 := Lib.hid (HB.out.via hb1)
        have HR1 := Lib.hid (HBR.out.via hb1)
        have HAW := Lib.hid (HAL.out.trans (hb1.mono HAL.out.size))
        have HZ1 := Lib.hid (show w.heap.size + 2 ≤ w1.heap.size by have := hb1.size; have := HSZ.out; omega)
        clear HS HB HBR HAL HSZ hb1 BG BS BS0
        cases hpl : posL g a q with
        | nil =>
          rw [hpl] at hI1
          have hp := HP.out
          simp only [prs, Bool.false_eq_true, if_false] at hp
          rw [← HQ.out, hpl] at hp
          simp only [Option.some.injEq, Prod.mk.injEq] at hp
          obtain ⟨rfl, rfl⟩ := hp
          have BR := HR1.out
          simp only [List.length_nil]
          clear hI1 hpl
          have cBR := BR.cell
          have fBR := BR.frozen
          have lBR := BR.lt
          go_wp2_with fail
          refine bodyPost_ret (v := .tuple #[trVal (0, 0, none, 0, 0), .bool false]) (by simp [results, Try.results32, go_sem, trVal, cBR]) rfl ?_
          obtain ⟨f1, f2, f3, f4⟩ := rq_fin HB1.out (Agr.below (ok := fun b => b ≠ bat) HAW.out) HAW.out.size (HAW.out.mono (Nat.le_of_lt hbl)) hbl (.int .i64 0) (.int .i64 0) (.slice none 0 0)
          exact ⟨f1, f2, f3, f4, rfl⟩
        | cons i is =>
          have hp := HP.out
          simp only [prs, Bool.false_eq_true, if_false] at hp
          rw [← HQ.out, hpl] at hp
          simp only at hp
          obtain ⟨u, hu, hul, hup⟩ := posL_mem.1 (show i ∈ posL g a q by rw [hpl]; simp)
          rw [hu] at hp
          simp only at hp
          obtain ⟨ul, rhs⟩ := u
          simp only at hul hp
          subst hul
          have hrk := HG.out.ok.right _ (List.mem_of_getElem? hu)
          simp only at hrk
          obtain ⟨hr4, hrs⟩ := hrk
          rw [hpl] at hI1
          obtain ⟨-, -, hI0⟩ := hI1
          obtain ⟨bL, oL, rfl, hI⟩ := hI0 (by simp)
          have cl := hI 0 (by simp)
          simp only [ints, List.map_cons, List.getD_cons_zero, Nat.add_zero] at cl
          obtain ⟨nl, hnl⟩ : ∃ nl, nl = (i :: is).length := ⟨_, rfl⟩
          rw [← hnl]
          have hnl0 : 0 < nl := by rw [hnl]; simp
          have en : ((nl : Int) == 0) = false := by simp; omega
          have en1 : (0 : Int) < (nl : Int) := by omega
          have hin : i < g.rules.length := (List.getElem?_eq_some_iff.1 hu).1
          have hng := HS0.out.rules.len
          obtain ⟨b1, o1, ⟨sl, sA, sn, sc⟩, y, rfl, -, hbb, hy, ⟨hx1, hx2⟩, hcc⟩ := HS0.out.rules.at_ (show i < ng by omega)
          rw [hu] at hy
          obtain rfl := Option.some.inj hy
          simp only at hx1 hx2
          have d1 := (HAW.out.cell (p := ⟨b1, o1 + i * 2 + 1, none⟩) hbb).trans (hcc 1 _ rfl)
          have hsn : sn = rhs.length := hx2.len.symm
          subst hsn
          have HX2 := Lib.hid hx2
          have HP := Lib.hid hp
          have HRS := Lib.hid hrs
          have HU := Lib.hid hu
          have i4 : (0 : Int) ≤ (i : Int) := by omega
          have i5 : (i : Int) < (ng : Int) := by omega
          have BG := HS1.out.gb
          simp only [gCells] at BG
          clear hcc hx2 hx1 hy hp hrs hu hup hng hbb hI hI0 hpl hnl
          have cBG := BG.cell
          have fBG := BG.frozen
          have lBG := BG.lt
          go_upto_region 13 with fail
          clear cBG fBG lBG
          have hal1 := (Below.refl w1.heap.size w1).al (.cells #[.int .i64 (i : Int), .int .i64 0, .slice none 0 0] 37)
          have BT := Blk.new w1 37 #[.int .i64 (i : Int), .int .i64 0, .slice none 0 0]
          have d2 := (hal1.cell (World.block_lt_of_cell? _ _ d1)).trans d1
          have c2 := (hal1.cell (World.block_lt_of_cell? _ _ cl)).trans cl
          have BG2 := BG.via hal1
          have hbz := HZ1.out
          have hbt1 : w1.heap.size < (w1.alloc (.cells #[.int .i64 (i : Int), .int .i64 0, .slice none 0 0] 37)).heap.size := by simp
          have HK0 := Lib.hid (show KidQ w bat i w1.heap.size 0 k (.slice none 0 0) [] (w1.alloc (.cells #[.int .i64 (i : Int), .int .i64 0, .slice none 0 0] 37)) from
            ⟨HB1.out.via hal1, (Agr.below HAW.out).trans (Agr.below hal1), Own.nil _ _, HR1.out.via hal1, BT, hbt1, by omega, hbl, (HAW.out.mono (Nat.le_of_lt hbl)).trans (hal1.mono (by omega))⟩)
          have HXS := HX2
          clear BG d1 cl hal1 HB1 HR1 HAW HS1 HX2
          generalize w1.alloc (.cells #[.int .i64 (i : Int), .int .i64 0, .slice none 0 0] 37) = W3 at *
          generalize w1.heap.size = bt at *
          have cBG2 := BG2.cell
          have fBG2 := BG2.frozen
          have lBG2 := BG2.lt
          have cBT := BT.cell
          have fBT := BT.frozen
          have lBT := BT.lt
          go_quiet (fail)
          clear cBG2 fBG2 lBG2 cBT fBT lBT
          clear BG2 BT d2 c2
          have hdn := below_drewN (Below.refl W3.heap.size W3) nq
          have HK1 := Lib.hid (HK0.out.via hdn)
          clear HK0 hdn en en1 hnl0 hbt1 hbz
          generalize W3.drewN nq = W4 at *
          go_wp2_with fail
          go_loopw [58] (fun x wr => ∃ (j kj : Nat) (v : Value) (ks : List Tr), x = .int .i64 j ∧ j ≤ rhs.length ∧ Hid (KidQ w bat i bt j kj v ks wr ∧ prsL (prs g W d) (rhs.take j) k = some (some ks, kj) ∧ kj ≤ W.length)) (fun x _ => rhs.length - (intOf x).toNat)
          case atStart => exact ⟨0, k, _, [], rfl, Nat.zero_le _, Lib.hid ⟨HK1.out, rfl, hk⟩⟩
          case round =>
            obtain ⟨j, kj, v, ks, rfl, hj, HK⟩ := hrel
            clear HK1
            obtain ⟨Av, cv, rfl, -⟩ := HK.out.1.own.form
            by_cases hjn : j < rhs.length
            · obtain ⟨b2, o2, s1, s2, rfl, hob2, hb2, hs1, hs2, hc2⟩ := HXS.out.at_ hjn
              have hs12 : s1 = s2 := hs2
              subst hs12
              have d0 := HK.out.1.agr.cell hob2 (hc2 0 _ rfl)
              have d1 := HK.out.1.agr.cell hob2 (hc2 1 _ rfl)
              obtain ⟨sb, sn⟩ := s1
              simp only [SyE, Nat.add_zero] at d0 d1
              have j0 : (0 : Int) ≤ (j : Int) := by omega
              have j1 : (j : Int) < (rhs.length : Int) := by omega
              have hsy := HRS.out _ (List.mem_of_getElem? hs1)
              have HSY1 := Lib.hid hsy
              have HS1 := Lib.hid hs1
              have hal := (Below.refl wr.heap.size wr).al (.cells #[.bool sb, .int .i64 (sn : Int)] 68)
              have HK4 := Lib.hid (HK.out.1.via hal)
              have HS4 := Lib.hid (HS0.out.agr (HK.out.1.agr.trans (Agr.below hal)))
              have BX := Blk.new wr 68 #[.bool sb, .int .i64 (sn : Int)]
              have HPK := Lib.hid HK.out.2
              have HOW := Lib.hid HK.out.1.own.lt
              have hrs5 := HK.out.1.size
              clear hc2 hs1 hs2 hsy hal hb2 hob2 HK
              go_upto_region 16 with fail
              clear d0 d1
              have hw4 : wr.heap.size < (wr.alloc (.cells #[.bool sb, .int .i64 (sn : Int)] 68)).heap.size := by simp
              generalize wr.alloc (.cells #[.bool sb, .int .i64 (sn : Int)] 68) = W5 at *
              generalize hbx : wr.heap.size = bx at *
              have BF := HS4.out.fb
              have cBF := BF.cell
              have fBF := BF.frozen
              have lBF := BF.lt
              have cBX := BX.cell
              have fBX := BX.frozen
              have lBX := BX.lt
              iterate 9 go_step
              clear cBF fBF lBF cBX fBX lBX
              have hsplit : rhs = rhs.take j ++ (sb, sn) :: rhs.drop (j + 1) := by
                have h1 := List.getElem?_eq_some_iff.1 HS1.out
                have h2 := List.take_append_drop j rhs
                rw [List.drop_eq_getElem_cons h1.1, h1.2] at h2
                exact h2.symm
              cases hcall : prs g W d (sb, sn) kj with
              | none =>
                exfalso
                have hp := HP.out
                rw [hsplit, prsL_deep HPK.out.1 hcall] at hp
                cases hp
              | some pr =>
              obtain ⟨ro2, k2⟩ := pr
              have HCL := Lib.hid hcall
              have HSP := Lib.hid hsplit
              clear hcall hsplit BF
              refine (HIH.out W5 (sb, sn) kj ro2 k2 HSY1.out HPK.out.2 HCL.out HS4.out HK4.out.pb).mono ?_
              cases ro2 with
              | none =>
                rintro e w6 ⟨hb6, ha6, hz6, he6, rfl⟩
                have HK6 := Lib.hid (HK4.out.call hb6 ha6 hz6 he6)
                have BR := HK6.out.b2.al (.cells #[.int .i64 0, .int .i64 0, .slice none 0 0] 37)
                dsimp only [trVal]
                clear hb6 ha6 he6
                have cBR := BR.cell
                have fBR := BR.frozen
                have lBR := BR.lt
                go_wp2_with fail
                refine bodyPost_ret (v := .tuple #[trVal (0, 0, none, 0, 0), .bool false]) (by simp [results, Try.results32, go_sem, trVal, cBR]) rfl ?_
                have hp := HP.out
                rw [HSP.out, prsL_stop HPK.out.1 HCL.out] at hp
                simp only [Option.some.injEq, Prod.mk.injEq] at hp
                obtain ⟨rfl, rfl⟩ := hp
                have hal7 := (Below.refl w6.heap.size w6).al (.cells #[.int .i64 0, .int .i64 0, .slice none 0 0] 37)
                have hz7 := HK6.out.size
                have hz8 := HK6.out.hbt
                obtain ⟨f1, f2, f3, f4⟩ := rq_fin (HK6.out.via hal7).pb (HK6.out.via hal7).agr (by have := hal7.size; omega) (HK6.out.via hal7).bel hbl (.int .i64 0) (.int .i64 0) (.slice none 0 0)
                exact ⟨f1, f2, f3, f4, rfl⟩
              | some t =>
                rintro e w6 ⟨hb6, ha6, hz6, he6, ⟨va, vb, vA2, vn2, vc2⟩, rfl, hT6⟩
                have hal7 := (Below.refl w6.heap.size w6).al (.cells #[.int .i64 va, .int .i64 vb, .slice vA2 vn2 vc2] 37)
                have HK7 := Lib.hid ((HK4.out.call hb6 ha6 hz6 he6).via hal7)
                have HT7 := Lib.hid ((hT6.via hal7).mono (ok' := fun b => (bt + 1 ≤ b) ∧ some b ≠ (Value.slice Av j cv).ownBlock) fun b _ hb => ⟨by have h : W5.heap.size ≤ b := hb; omega, fun e => by have := (HOW.out b e.symm).2; have h : W5.heap.size ≤ b := hb; omega⟩)
                have BN := Blk.new w6 37 #[.int .i64 va, .int .i64 vb, .slice vA2 vn2 vc2]
                have B3 := HK7.out.b3
                have HK2 := Lib.hid (show k2 ≤ W.length from prs_le HG.out.ok d (sb, sn) HSY1.out kj _ k2 HPK.out.2 HCL.out)
                dsimp only [trVal]
                clear hb6 ha6 he6 hal7 hT6
                have cB3 := B3.cell
                have fB3 := B3.frozen
                have lB3 := B3.lt
                have cBN := BN.cell
                have fBN := BN.frozen
                have lBN := BN.lt
                go_upto_region 19 with fail
                clear cB3 fB3 lB3 cBN fBN lBN
                generalize w6.alloc (.cells #[.int .i64 va, .int .i64 vb, .slice vA2 vn2 vc2] 37) = W7 at *
                generalize w6.heap.size = b7 at *
                have cB3 := B3.cell
                have fB3 := B3.frozen
                have lB3 := B3.lt
                have cBN := BN.cell
                have fBN := BN.frozen
                have lBN := BN.lt
                have hal8 := (Below.refl W7.heap.size W7).al (.cells #[.int .i64 va, .int .i64 vb, .slice vA2 vn2 vc2] 37)
                have HK8 := Lib.hid (HK7.out.via hal8)
                have HT8 := Lib.hid (HT7.out.via hal8)
                have hsz7 := HK7.out.size
                clear hal8 HK7 HT7
                go_wp2_with (at_builtin; refine wpList_append_tr _ rfl (.tmp 72) (.tmp 74) rfl (fun b => bt + 1 ≤ b) (bt + 1) (.slice Av j cv) j ks rfl HK8.out.own W7.heap.size (va, vb, vA2, vn2, vc2) t rfl (Blk.new W7 37 #[.int .i64 va, .int .i64 vb, .slice vA2 vn2 vc2]) HT8.out (by omega) HK8.out.size ?_)
                intro Av1 cv1 w8 ho8 hg8 hat8
                have HPU := Lib.hid (HK8.out.push ho8 hg8)
                have B8 := HK8.out.b3.grown hg8 (fun e => by have := (HK8.out.own.lt _ e.symm).1; omega)
                clear cB3 fB3 lB3 cBN fBN lBN
                clear B3 BN HK8 HT8 ho8 hg8 hat8 HK4 HS4
                have cB8 := B8.cell
                have fB8 := B8.frozen
                have lB8 := B8.lt
                go_wp2_with fail
                refine ⟨⟨j + 1, k2, .slice Av1 (j + 1) cv1, ks ++ [t], by go_num, by omega, ?_⟩, by simp [intOf]; omega⟩
                refine Lib.hid ⟨HPU.out, ?_, HK2.out⟩
                have h1 := List.getElem?_eq_some_iff.1 HS1.out
                rw [List.take_succ_eq_append_getElem h1.1, h1.2]
                exact prsL_snoc HPK.out.1 HCL.out
            · obtain rfl : j = rhs.length := by omega
              have B2 := HK.out.1.b2
              have B3 := HK.out.1.b3
              have cB2 := B2.cell
              have fB2 := B2.frozen
              have lB2 := B2.lt
              have cB3 := B3.cell
              have fB3 := B3.frozen
              have lB3 := B3.lt
              go_wp2_with fail
              refine bodyPost_ret (v := .tuple #[trVal ((i : Int), 0, Av, rhs.length, cv), .bool true]) (by simp [results, Try.results32, go_sem, trVal, cB2]) rfl ?_
              have hp := HP.out
              have h1 := HK.out.2.1
              rw [List.take_length] at h1
              rw [h1] at hp
              simp only [Option.some.injEq, Prod.mk.injEq] at hp
              obtain ⟨rfl, rfl⟩ := hp
              have hbt2 := HK.out.1.hbt
              have hsz2 := HK.out.1.size
              obtain ⟨f1, f2, f3, f4⟩ := rq_fin HK.out.1.pb HK.out.1.agr (by omega) HK.out.1.bel hbl (.int .i64 (i : Int)) (.int .i64 0) (.slice Av rhs.length cv)
              refine ⟨f1, f2, f3, f4, _, rfl, ?_⟩
              have hs := HK.out.1.own.toSl (ok' := fun b => w.heap.size + 2 ≤ b) (fun b _ hb => by omega) (fun b hb => by omega)
              exact ((TreeR.mk i hs).set3 (fun b hb => by omega) _ _ _).mono (fun b _ hb => by omega)
end Go.Proofs.Ythkldiehokblcaa

