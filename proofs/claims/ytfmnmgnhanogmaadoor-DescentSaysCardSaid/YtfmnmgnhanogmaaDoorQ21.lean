/- Texts ON, laid together. -/
import Derived.Test.YtfmnmgnhanogmaaDoorQ12
import Derived.Test.YtfmnmgnhanogmaaDoorQ17
import Derived.Test.YtfmnmgnhanogmaaDoorQ20




namespace Go.Proofs.YtfmnmgnhanogmaaDoor
open Go.RowKit

theorem SetM.neB {w : World} {b bm : Nat} {f : Nat → Bool} {T : TypeId} {cs : Array Value} (h : SetM w bm f) (hc : Blk w b T cs) : b ≠ bm := by
  intro e
  subst e
  obtain ⟨es, clock, hb, -⟩ := h.1
  unfold Blk at hc
  rw [hb] at hc
  cases hc
theorem SetM.neQ {w : World} {bm base n : Nat} {f : Nat → Bool} {v : Value} {xs : List Int} (h : SetM w bm f) (hq : QuI w base v n xs) : ∀ b, v.ownBlock = some b → b ≠ bm := by
  obtain ⟨g, off, c, cs, rfl, -, -, -, hb, -⟩ := hq
  intro b e
  have : g = b := by simpa [Value.ownBlock] using e
  subst this
  exact h.neB hb
theorem RngS.neQ {w : World} {r bm base n cnt : Nat} {left : Nat → Bool} {v : Value} {xs : List Int} (h : RngS w r bm left cnt) (hq : QuI w base v n xs) : ∀ b, v.ownBlock = some b → r ≠ b ∧ bm ≠ b := by
  obtain ⟨g, off, c, cs, rfl, -, -, -, hb, -⟩ := hq
  obtain ⟨since, seen, c0, es, clock, h1, h2, -⟩ := h
  intro b e
  have : g = b := by simpa [Value.ownBlock] using e
  subst this
  unfold Blk at hb
  refine ⟨fun e => ?_, fun e => ?_⟩
  · subst e; rw [h1] at hb; cases hb
  · subst e; rw [h2] at hb; cases hb
theorem QuI.neB {w : World} {base n b : Nat} {v : Value} {xs : List Int} (h : QuI w base v n xs) : v.ownBlock = some b → ∀ {es ck}, w.heap[b]? = some (.map es ck) → False := by
  obtain ⟨g, off, c, cs, rfl, -, -, -, hb, -⟩ := h
  intro e es ck hm
  have : g = b := by simpa [Value.ownBlock] using e
  subst this
  unfold Blk at hb
  rw [hb] at hm; cases hm
structure LqR (w : World) (g : Gr) (Ag : Option Addr) (ng cg bn B : Nat) (es : Nat → Bool) (wr : World) : Prop where
  hg : Blk wr w.heap.size 24 (gCells g Ag ng cg)
  nul : BRow wr bn g.nons es
  bel : Below w.heap.size w wr
  lo : w.heap.size < B ∧ bn < B ∧ B ≤ wr.heap.size
section
variable {w wr wa : World} {g : Gr} {Ag : Option Addr} {ng cg bn B : Nat} {es : Nat → Bool}
theorem LqR.via (h : LqR w g Ag ng cg bn B es wr) (hb : Below wr.heap.size wr wa) : LqR w g Ag ng cg bn B es wa :=
  ⟨h.hg.via hb, h.nul.via hb, h.bel.trans (hb.mono h.bel.size), h.lo.1, h.lo.2.1, Nat.le_trans h.lo.2.2 hb.size⟩
theorem LqR.far (h : LqR w g Ag ng cg bn B es wr) {b i : Nat} (hb : B ≤ b) (u : Value) : LqR w g Ag ng cg bn B es (wr.setCell ⟨b, i, none⟩ u) :=
  ⟨h.hg.far (by have := h.lo.1; simp only; omega) u, h.nul.far (by have := h.lo.2.1; simp only; omega) u, h.bel.setCell (by have := h.lo.1; simp only; omega) u, h.lo.1, h.lo.2.1, by simpa using h.lo.2.2⟩
theorem LqR.grown {row : Option Nat} (h : LqR w g Ag ng cg bn B es wr) (k : wr.grownBy wa row) (hr : ∀ x, row = some x → B ≤ x) : LqR w g Ag ng cg bn B es wa := by
  have hlo := h.lo
  exact ⟨h.hg.grown k (fun e => by have := hr _ e.symm; omega), h.nul.grown k (fun e => by have := hr _ e.symm; omega), h.bel.grown k h.bel.size (fun x e => by have := hr x e; omega), hlo.1, hlo.2.1, Nat.le_trans hlo.2.2 k.size⟩
end
/-- between the rounds of the loop over the nonterminals: the rows up to n are done -/
structure OutR (w : World) (g : Gr) (Ag : Option Addr) (ng cg bn B : Nat) (es : Nat → Bool) (bd bo : Nat) (bs : Nat → Nat) (D : Nat → Nat → Bool) (n : Nat) (rw : Nat → SlV) (wr : World) : Prop where
  q : LqR w g Ag ng cg bn B es wr
  m : MMat wr bd g.nons bs D
  hd : HRow wr bo g.nons 25 fun i => slV (rw i)
  row : ∀ i, i < n → Sl InE (fun b => bo < b) wr (rw i).1 (rw i).2.1 (rw i).2.2 (intsN (lefL D g.nons i))
  nil : ∀ i, n ≤ i → rw i = (none, 0, 0)
  lo : bd < bo ∧ ∀ i, i < g.nons → bs i < bo
  lob : B ≤ bo
theorem OutR.via {w wr wa : World} {g : Gr} {Ag : Option Addr} {ng cg bn B : Nat} {es : Nat → Bool} {bd bo : Nat} {bs : Nat → Nat} {D : Nat → Nat → Bool} {n : Nat} {rw : Nat → SlV} (h : OutR w g Ag ng cg bn B es bd bo bs D n rw wr) (hb : Below wr.heap.size wr wa) : OutR w g Ag ng cg bn B es bd bo bs D n rw wa :=
  ⟨h.q.via hb, h.m.via hb, h.hd.via hb, fun i hi => (h.row i hi).via hb, h.nil, h.lo, h.lob⟩
def LefOP (w : World) (g : Gr) (e : Ending) (w' : World) : Prop :=
  ∃ A c, e = .returned (.slice A g.nons c) ∧ Sl RwE (fun b => w.heap.size ≤ b) w' A g.nons c (lefW g) ∧ Below w.heap.size w w'
set_option maxRecDepth 100000 in
set_option maxHeartbeats 16000000 in
theorem leftof_c (ok : Nat → Prop) (g : Gr) (Ag : Option Addr) (ng cg : Nat) (w : World) (hg : GrOk g) (hl : Sl RuE ok w Ag ng cg g.rules) :
    Calls Tryd.prog 11 #[grVal g Ag ng cg] w (LefOP w g) := by
  have hn1 := hg.ok.nons.1
  have hn10 := hg.ok.nons.2
  have hlen := hl.len
  have hng32 : ng ≤ 32 := by have := hg.ok.count; omega
  have B0 := Blk.new w 24 (gCells g Ag ng cg)
  have hB0 := (Below.refl w.heap.size w).al (.cells (gCells g Ag ng cg) 24)
  have HGO := Lib.hid hg
  have HL := Lib.hid hl
  have HL0 := Lib.hid (hl.via hB0)
  have HLN := Lib.hid hlen
  have HNU := Lib.hid (nulN_ok hg.ok)
  simp only [grVal]
  clear hg hl hlen
  go_enter Tryd.func11, Tryd.ntmps11
  go_upto_region 1 with fail
  have e0 : (Obj.cells #[.int .i64 (g.terms : Int), .int .i64 (g.nons : Int), .int .i64 (g.start : Int), .slice Ag ng cg] 24) = .cells (gCells g Ag ng cg) 24 := rfl
  rw [e0]
  have hW0 : (w.alloc (.cells (gCells g Ag ng cg) 24)).heap.size = w.heap.size + 1 := by simp
  clear e0
  generalize w.alloc (.cells (gCells g Ag ng cg) 24) = W0 at *
  have Bg := B0
  simp only [gCells] at Bg
  have cBg := Bg.cell
  have fBg := Bg.frozen
  have lBg := Bg.lt
  go_wp2_with fail
  clear cBg fBg lBg
  clear Bg
  have HF := rnull_c ok g Ag ng cg W0 HGO.out HL0.out
  simp only [grVal] at HF
  refine HF.mono ?_
  clear HF HL0
  rintro e w1 ⟨bn, rfl, hbn, hbn0, hb1⟩
  obtain ⟨es, hes⟩ : ∃ es, es = nulK g.rules g.nons := ⟨_, rfl⟩
  rw [← hes] at hbn HNU
  have HR1 := Lib.hid (show LqR w g Ag ng cg bn w1.heap.size es w1 from ⟨B0.via hb1, hbn, hB0.trans (hb1.mono (by omega)), by have := hb1.size; omega, hbn.lt, Nat.le_refl _⟩)
  clear hes hbn hb1 B0 hB0 hW0 hbn0
  have Bg := HR1.out.hg
  simp only [gCells] at Bg
  have hmr := mk_maps g.nons (by omega)
  have hmm := @run_makeMap Tryd.prog
  have cBg := Bg.cell
  have fBg := Bg.frozen
  have lBg := Bg.lt
  go_upto_region 3 with fail
  clear cBg fBg lBg
  clear Bg hmr
  have hal := (Below.refl w1.heap.size w1).al (.cells (mkCells (.map none) g.nons) 84)
  have HR2 := Lib.hid (HR1.out.via hal)
  have HMK := Lib.hid (show MkS (w1.alloc (.cells (mkCells (.map none) g.nons) 84)) w1.heap.size g.nons 0 w1.heap.size (fun _ => 0) from
    ⟨HRow.ext (v := fun _ => .map none) ⟨_, Blk.new w1 _ _, fun j hj => by unfold mkCells; rw [made_one]; simp [hj]⟩ fun j _ => by simp, fun i h => absurd h (Nat.not_lt_zero _), fun i j h => absurd h (Nat.not_lt_zero _), fun i h => absurd h (Nat.not_lt_zero _)⟩)
  clear HR1 hal
  generalize w1.alloc (.cells (mkCells (.map none) g.nons) 84) = W2 at *
  generalize hbB : w1.heap.size = B at *
  clear hbB
  go_wp2_with fail
  go_loopw [24] (fun a wr => ∃ (k : Nat) (bs : Nat → Nat), a = .int .i64 k ∧ k ≤ g.nons ∧ Hid (LqR w g Ag ng cg bn B es wr) ∧ Hid (MkS wr B g.nons k B bs)) (fun a _ => g.nons - (intOf a).toNat)
  case atStart => exact ⟨0, _, rfl, Nat.zero_le _, HR2, HMK⟩
  case round =>
    obtain ⟨k, bs, rfl, hk, HR, HM⟩ := hrel
    clear HR2 HMK
    by_cases hlt : k < g.nons
    · have i0 : (0 : Int) ≤ (k : Int) := by omega
      have i1 : (k : Int) < (g.nons : Int) := by omega
      have fh2 := (HM.out.hd.via ((Below.refl wr.heap.size wr).al (.map #[] 0))).frozen
      have ch2 := (HM.out.hd.via ((Below.refl wr.heap.size wr).al (.map #[] 0))).cell hlt
      go_wp2_with fail
      have hal := (Below.refl wr.heap.size wr).al (.map #[] 0)
      have hB := HR.out.lo.2.2
      exact ⟨⟨k + 1, _, by go_num, by omega, Lib.hid ((HR.out.via hal).far (Nat.le_refl _) _), Lib.hid (HM.out.step hlt hB)⟩, by simp [intOf]; omega⟩
    · obtain rfl : k = g.nons := by omega
      have HBM := Lib.hid (HM.out.done.ext (G := begT es (g.rules.take 0)) fun i j _ => by simp [begT])
      have HBL := Lib.hid (show ∀ i, i < g.nons → B ≤ bs i from HM.out.lo)
      clear HM
      have Bg := HR.out.hg
      simp only [gCells] at Bg
      have cBg := Bg.cell
      have fBg := Bg.frozen
      have lBg := Bg.lt
      go_wp2_with fail
      clear cBg fBg lBg
      clear Bg
      go_loopw [35] (fun a wr => ∃ k : Nat, a = .int .i64 k ∧ k ≤ ng ∧ Hid (LqR w g Ag ng cg bn B es wr) ∧ Hid (MMat wr B g.nons bs (begT es (g.rules.take k)))) (fun a _ => ng - (intOf a).toNat)
      case atStart => exact ⟨0, rfl, Nat.zero_le _, HR, HBM⟩
      case round =>
        obtain ⟨k, rfl, hk, HR1, HM⟩ := hrel
        clear HR HBM
        by_cases hkn : k < ng
        · as_aux_lemma =>
          obtain ⟨b1, o1, ⟨sl, sA, sn, sc⟩, ⟨sl', rhs⟩, hAg, -, hbb, hy, ⟨hx1, hx2⟩, hc⟩ := HL.out.at_ hkn
          simp only at hx1 hx2
          obtain rfl : sl = sl' := hx1
          subst hAg
          have d0 := (HR1.out.bel.cell (p := ⟨b1, o1 + k * RuE.k + 0, none⟩) hbb).trans (hc 0 _ rfl)
          have d1 := (HR1.out.bel.cell (p := ⟨b1, o1 + k * RuE.k + 1, none⟩) hbb).trans (hc 1 _ rfl)
          simp only [RuE, Nat.add_zero] at d0 d1
          have i0 : (0 : Int) ≤ (k : Int) := by omega
          have i1 : (k : Int) < (ng : Int) := by omega
          have hmem := List.mem_of_getElem? hy
          have hsl : sl < g.nons := HGO.out.ok.left _ hmem
          have j0 : (0 : Int) ≤ (sl : Int) := by omega
          have j1 : (sl : Int) < (g.nons : Int) := by omega
          have HRT := Lib.hid (HGO.out.ok.right _ hmem)
          have hsn : sn ≤ 4 := by rw [← hx2.len]; exact HRT.out.1
          have HY := Lib.hid hy
          have hal := (Below.refl wr.heap.size wr).al (.cells #[.int .i64 (sl : Int), .slice sA sn sc] 77)
          have HSR := Lib.hid hx2
          have BX := Blk.new wr 77 #[.int .i64 (sl : Int), .slice sA sn sc]
          have HR4 := Lib.hid (HR1.out.via hal)
          have HM4 := Lib.hid (HM.out.via hal)
          clear hc hy hx2 hmem hbb hal HM HR1
          go_upto_region 11 with fail
          clear d0 d1
          generalize wr.alloc (.cells #[.int .i64 (sl : Int), .slice sA sn sc] 77) = W4 at *
          have HBX := Lib.hid BX
          generalize wr.heap.size = bx at *
          have cBX := BX.cell
          have fBX := BX.frozen
          have lBX := BX.lt
          go_wp2_with fail
          clear cBX fBX lBX
          clear BX
          go_loopw [42] (fun a wr => ∃ p : Nat, a = .int .i64 p ∧ p ≤ sn ∧ Hid (LqR w g (some ⟨b1, o1, none⟩) ng cg bn B es wr) ∧ Hid (MMat wr B g.nons bs (begP es g.rules k p)) ∧ Hid (Blk wr bx 77 #[.int .i64 (sl : Int), .slice sA sn sc]) ∧ Hid (∀ s ∈ rhs.take p, s.1 = false ∧ es s.2 = true)) (fun a _ => sn - (intOf a).toNat)
          case atStart => exact ⟨0, rfl, Nat.zero_le _, HR4, Lib.hid (HM4.out.ext fun i j _ => by rw [begP_start]), HBX, Lib.hid (fun s hs => by simp at hs)⟩
          case round =>
            obtain ⟨p, rfl, hp, HR5, HM5, HBX5, HPR⟩ := hrel
            clear HR4 HM4 HBX
            by_cases hps : p < sn
            · obtain ⟨b2, o2, ⟨xb, xn⟩, x', hsA, -, hb2, hx, hxr, hc⟩ := (HSR.out.via HR5.out.bel).at_ hps
              obtain rfl : (xb, xn) = x' := hxr
              subst hsA
              have x0 := hc 0 _ rfl
              have x1 := hc 1 _ rfl
              simp only [SyE, Nat.add_zero] at x0 x1
              have hoks := HRT.out.2 _ (List.mem_of_getElem? hx)
              have q0 : (0 : Int) ≤ (p : Int) := by omega
              have q1 : (p : Int) < (sn : Int) := by omega
              have HX := Lib.hid hx
              have HDR := Lib.hid (show rhs.drop p = (xb, xn) :: rhs.drop (p + 1) from by
                obtain ⟨hl, he⟩ := List.getElem?_eq_some_iff.1 hx
                rw [List.drop_eq_getElem_cons hl, he])
              have hal := (Below.refl wr.heap.size wr).al (.cells #[.bool xb, .int .i64 (xn : Int)] 54)
              have BS := Blk.new wr 54 #[.bool xb, .int .i64 (xn : Int)]
              have HR6 := Lib.hid (HR5.out.via hal)
              have HM6 := Lib.hid (HM5.out.via hal)
              have HBX6 := Lib.hid (HBX5.out.via hal)
              clear hc hx hb2 hal HR5 HM5 HBX5
              go_upto_region 14 with fail
              clear x0 x1
              generalize wr.alloc (.cells #[.bool xb, .int .i64 (xn : Int)] 54) = W6 at *
              have HBS := Lib.hid BS
              generalize wr.heap.size = bx2 at *
              cases xb with
              | true =>
                have cBS := BS.cell
                have fBS := BS.frozen
                have lBS := BS.lt
                go_wp2_with fail
                refine ⟨⟨k + 1, by go_num, by omega, HR6, Lib.hid (HM6.out.ext fun i j _ => ?_)⟩, by simp [intOf]; omega⟩
                exact (begP_end HY.out HPR.out (by rw [HDR.out]; exact begL_term rfl) i j).symm
              | false =>
                have hxt : xn < g.nons := by simpa [Gr.okSy] using hoks
                have t0 : (0 : Int) ≤ (xn : Int) := by omega
                have t1 : (xn : Int) < (g.nons : Int) := by omega
                have BX := HBX6.out
                have ch := HM6.out.hd.cell hsl
                have fh := HM6.out.hd.frozen
                have cBX := BX.cell
                have fBX := BX.frozen
                have lBX := BX.lt
                have cBS := BS.cell
                have fBS := BS.frozen
                have lBS := BS.lt
                go_upto_region 15 with fail
                go_still_tail 7, (by kernel_rfl)
                clear cBX fBX lBX cBS fBS lBS
                clear BX BS ch fh
                have HDW := Lib.hid (Below.refl W6.heap.size W6).drew
                change wpList _ _ _ _ _ W6.drew
                generalize W6.drew = W7 at *
                have hset := (HM6.out.set sl hsl).via HDW.out
                go_upto_region 16 with (at_mapUpdate; refine wpList_put_S rfl _ _ _ rfl (bs sl) (begP es g.rules k p sl) xn rfl rfl rfl hset (by omega) ?_; intro w8 hs8 hg8 hz8)
                have HR8 := Lib.hid ((HR6.out.via HDW.out).grown hg8 (fun x e => by have := Option.some.inj e; have := HBL.out sl hsl; omega))
                have HM8 := Lib.hid (((HM6.out.via HDW.out).put hsl hs8 hg8).ext (G := begP es g.rules k (p + 1)) fun i j _ => by
                  rw [begP_step HY.out HX.out i j]
                  by_cases e1 : i = sl
                  · subst e1
                    by_cases e2 : j = xn
                    · simp [e2]
                    · simp [e2]
                  · simp [e1])
                have HBX8 := Lib.hid ((HBX6.out.via HDW.out).grown hg8 (fun e => SetM.neB hset (HBX6.out.via HDW.out) (Option.some.inj e)))
                have HBS8 := Lib.hid ((HBS.out.via HDW.out).grown hg8 (fun e => SetM.neB hset (HBS.out.via HDW.out) (Option.some.inj e)))
                clear hs8 hg8 hz8 hset HDW HR6 HM6 HBX6 HBS
                have HPN := Lib.hid (show es xn = true → ∀ s ∈ rhs.take (p + 1), s.1 = false ∧ es s.2 = true from fun he s hs => by
                  rw [List.take_add_one, HX.out] at hs
                  rcases List.mem_append.1 hs with hs | hs
                  · exact HPR.out s hs
                  · simp only [Option.toList_some, List.mem_singleton] at hs
                    rw [hs]; exact ⟨rfl, he⟩)
                have BS := HBS8.out
                have ce := HR8.out.nul.cell hxt
                have cBS := BS.cell
                have fBS := BS.frozen
                have lBS := BS.lt
                cases hee : es xn with
                | true =>
                  rw [hee] at ce
                  have HEE := Lib.hid hee
                  clear hee
                  go_wp2_with fail
                  exact ⟨⟨p + 1, by go_num, by omega, HR8, HM8, HBX8, Lib.hid (HPN.out HEE.out)⟩, by simp [intOf]; omega⟩
                | false =>
                  rw [hee] at ce
                  have HEE := Lib.hid hee
                  clear hee
                  go_wp2_with fail
                  refine ⟨⟨k + 1, by go_num, by omega, HR8, Lib.hid (HM8.out.ext fun i j _ => ?_)⟩, by simp [intOf]; omega⟩
                  exact (begP_cut HY.out HX.out HPR.out rfl HEE.out i j).symm
            · obtain rfl : p = sn := by omega
              have HRL := Lib.hid HSR.out.len
              go_wp2_with fail
              refine ⟨⟨k + 1, by go_num, by omega, HR5, Lib.hid (HM5.out.ext fun i j _ => ?_)⟩, by simp [intOf]; omega⟩
              exact (begP_end HY.out HPR.out (by rw [List.drop_of_length_le (by rw [HRL.out]; exact Nat.le_refl _)]; rfl) i j).symm
        · obtain rfl : ng = k := by omega
          have HMD := Lib.hid (HM.out.ext (G := begD g.rules) fun i j _ => by
            rw [List.take_of_length_le (by rw [HLN.out]; exact Nat.le_refl _), begD_of HNU.out])
          clear HM
          have hmi := mk_irows g.nons (by omega)
          have Bg := HR1.out.hg
          simp only [gCells] at Bg
          have cBg := Bg.cell
          have fBg := Bg.frozen
          have lBg := Bg.lt
          go_upto_region 20 with fail
          clear cBg fBg lBg
          clear Bg hmi
          have hal := (Below.refl wr.heap.size wr).al (.cells (mkCells (.slice none 0 0) g.nons) 25)
          have HO := Lib.hid (show OutR w g Ag ng cg bn B es B wr.heap.size bs (begD g.rules) 0 (fun _ => (none, 0, 0)) (wr.alloc (.cells (mkCells (.slice none 0 0) g.nons) 25)) from
            ⟨HR1.out.via hal, HMD.out.via hal, HRow.new wr _ g.nons, fun i h => absurd h (Nat.not_lt_zero _), fun _ _ => rfl, ⟨HMD.out.hd.lt, fun i hi => (HMD.out.set i hi).lt⟩, HR1.out.lo.2.2⟩)
          clear hal HMD HR1
          generalize wr.alloc (.cells (mkCells (.slice none 0 0) g.nons) 25) = W3 at *
          generalize wr.heap.size = bo at *
          obtain ⟨D, hD⟩ : ∃ D, D = begD g.rules := ⟨_, rfl⟩
          have HD := Lib.hid hD
          rw [← hD] at HO
          clear hD
          have HDN := Lib.hid (show ∀ i j, D i j = true → i < g.nons ∧ j < g.nons from by rw [HD.out]; exact begD_lt HGO.out.ok)
          go_wp2_with fail
          go_loopw [68] (fun a wr => ∃ (n : Nat) (rw : Nat → SlV), a = .int .i64 n ∧ n ≤ g.nons ∧ Hid (OutR w g Ag ng cg bn B es B bo bs D n rw wr)) (fun a _ => g.nons - (intOf a).toNat)
          case atStart => exact ⟨0, _, rfl, Nat.zero_le _, HO⟩
          case round =>
            obtain ⟨n, rw', rfl, hn, HR⟩ := hrel
            clear HO
            by_cases hnn : n < g.nons
            · as_aux_lemma =>
              have n0 : (0 : Int) ≤ (n : Int) := by omega
              have n1 : (n : Int) < (g.nons : Int) := by omega
              generalize wr = wz at *
              go_upto_region 24 with fail
              have hal := ((Below.refl wz.heap.size wz).al (.map #[] 0)).al (.cells #[.int .i64 (n : Int)] 3)
              have HW := Lib.hid hal
              have HS := Lib.hid (show SetM _ wz.heap.size (fun _ => false) from (SetM.made wz).via ((Below.refl (wz.alloc (.map #[] 0)).heap.size (wz.alloc (.map #[] 0))).al (.cells #[.int .i64 (n : Int)] 3)))
              have HQ := Lib.hid (show QuI ((wz.alloc (.map #[] 0)).alloc (.cells #[.int .i64 (n : Int)] 3)) wz.heap.size (.slice (some ⟨wz.heap.size + 1, 0, none⟩) 1 1) [n].length (intsN [n]) from
                ⟨wz.heap.size + 1, 0, 1, _, rfl, rfl, Nat.le_refl _, by omega, Blk.newAt (wz.alloc (.map #[] 0)) 3 #[.int .i64 (n : Int)] (wz.heap.size + 1) (by simp), by simp, fun i x hx => by
                  cases i with
                  | zero => simp [intsN] at hx; subst hx; rfl
                  | succ i => simp [intsN] at hx⟩)
              have HSZ := Lib.hid (show ((wz.alloc (.map #[] 0)).alloc (.cells #[.int .i64 (n : Int)] 3)).heap.size = wz.heap.size + 2 by simp)
              have hsz5 : wz.heap.size < ((wz.alloc (.map #[] 0)).alloc (.cells #[.int .i64 (n : Int)] 3)).heap.size := by simp; omega
              generalize (wz.alloc (.map #[] 0)).alloc (.cells #[.int .i64 (n : Int)] 3) = W5 at *
              obtain ⟨bm, hbm⟩ : ∃ bm, bm = wz.heap.size := ⟨_, rfl⟩
              rw [← hbm] at HS HQ ⊢
              have HBM := Lib.hid hbm
              clear hbm hal hmm
              have hu0 := @unS_le g.nons (fun _ => false)
              go_loopg [13] (2 * unS g.nons (fun _ => false) + 1) (fun gk s13 wx => ∃ (v : Value) (seen : Nat → Bool) (xs : List Nat) (nl : Nat), v = s13 ∧ gk = 2 * unS g.nons seen + nl ∧ nl + unS g.nons seen ≤ 11 ∧ Hid (QuI wx bm v nl (intsN xs)) ∧ Hid (SetM wx bm seen) ∧ Hid (Bfs D n seen xs) ∧ Hid (Below wz.heap.size wz wx))
              case atStart => exact ⟨_, _, [n], 1, rfl, rfl, by omega, HQ, HS, Lib.hid Bfs.start, HW⟩
              case round =>
                obtain ⟨v, seen, xs, nl, rfl, hgk, hbd, HQ1, HS1, HB1, HW1⟩ := hrel
                clear HQ HS HW
                have HGK := Lib.hid hgk
                clear hgk hu0
                have hnl : xs.length = nl := by have := HQ1.out.len; simpa [intsN] using this
                cases xs with
                | nil =>
                  as_aux_lemma =>
                  have hnl0 : nl = 0 := by simpa using hnl.symm
                  subst hnl0
                  obtain ⟨g0, off, c, cs, rfl, -⟩ := HQ1.out
                  have hsn : ∀ k, seen k = wshF D g.nons n k := fun k => by
                    rw [Bool.eq_iff_iff, HB1.out.all k, wshF_all HDN.out]
                  have HSF := Lib.hid (HS1.out.ext hsn)
                  have hgz := grownOf HW1.out (some bo)
                  have HHD := Lib.hid ((HR.out.via HW1.out).hd.ext (u := fun i => if i = n then slV (none, 0, 0) else slV (rw' i)) fun i hi => by
                    by_cases e : i = n
                    · rw [if_pos e, HR.out.nil i (by omega)]
                    · rw [if_neg e])
                  have HGZ := Lib.hid hgz
                  have Bg := (HR.out.via HW1.out).q.hg
                  have hbw : bo < wr.heap.size ∧ wz.heap.size ≤ wr.heap.size := ⟨HHD.out.lt, HW1.out.size⟩
                  have HBO := Lib.hid (show bo < wz.heap.size from HR.out.hd.lt)
                  clear hsn hgz HS1 HB1 HQ1 HW1 HGK hbd hnl
                  simp only [gCells] at Bg
                  have cBg := Bg.cell
                  have fBg := Bg.frozen
                  have lBg := Bg.lt
                  go_wp2_with fail
                  clear cBg fBg lBg
                  clear Bg
                  obtain ⟨Bw, hBw⟩ : ∃ Bw, Bw = wr.heap.size := ⟨_, rfl⟩
                  rw [← hBw] at hbw
                  have hBs : Bw ≤ wr.heap.size := by omega
                  clear hBw
                  go_loopw [103] (fun a wy => ∃ (k m : Nat) (rn : SlV), a = .int .i64 k ∧ k ≤ g.nons ∧ m ≤ k ∧ Hid (HRow wy bo g.nons 25 (fun i => if i = n then slV rn else slV (rw' i))) ∧ Hid (OwnI wy Bw (slV rn) m (intsN ((List.range k).filter fun i => wshF D g.nons n i))) ∧ Hid (SetM wy bm (wshF D g.nons n)) ∧ Hid (wz.grownBy wy (some bo)) ∧ Hid (Bw ≤ wy.heap.size)) (fun a _ => g.nons - (intOf a).toNat)
                  case atStart => exact ⟨0, 0, (none, 0, 0), rfl, Nat.zero_le _, Nat.le_refl _, HHD, Lib.hid (OwnI.nil _ _), HSF, HGZ, Lib.hid hBs⟩
                  case round =>
                    obtain ⟨k, m, ⟨rA, rn, rc⟩, rfl, hk, hm, HH, HO2, HS2, HG2, HB2⟩ := hrel
                    clear HHD HSF HGZ
                    simp only [slV] at HO2
                    by_cases hkN : k < g.nons
                    · have k0 : (0 : Int) ≤ (k : Int) := by omega
                      have k1 : (k : Int) < (g.nons : Int) := by omega
                      have hlk := HS2.out.look k (by omega)
                      have hfl : (List.range (k + 1)).filter (fun i => wshF D g.nons n i) = (List.range k).filter (fun i => wshF D g.nons n i) ++ (if wshF D g.nons n k then [k] else []) := by
                        rw [List.range_succ, List.filter_append]
                        congr 1
                        by_cases h : wshF D g.nons n k = true <;> simp [h]
                      have HFL := Lib.hid hfl
                      clear hfl
                      cases hv : wshF D g.nons n k with
                      | false =>
                        rw [hv] at hlk HFL
                        have HV := Lib.hid hv
                        clear hv
                        go_wp2_with fail
                        refine ⟨⟨k + 1, m, (rA, rn, rc), by go_num, by omega, by omega, HH, Lib.hid ?_, HS2, HG2, HB2⟩, by simp [intOf]; omega⟩
                        rw [HFL.out]; simpa [slV] using HO2.out
                      | true =>
                        rw [hv] at hlk HFL
                        have HV := Lib.hid hv
                        clear hv
                        obtain ⟨rA2, rc2, hre, -⟩ := HO2.out.form
                        simp only [Value.slice.injEq] at hre
                        obtain ⟨rfl, rfl, rfl⟩ := hre
                        have hal := (Below.refl wr.heap.size wr).al (.cells #[.int .i64 (k : Int)] 3)
                        have ch : wr.cell? ⟨bo, n, none⟩ = some (.slice rA rn rc) := by have := HH.out.cell hnn; simpa [slV] using this
                        have HOA := Lib.hid (HO2.out.alloc (.cells #[.int .i64 (k : Int)] 3))
                        have HHA := Lib.hid (HH.out.via hal)
                        have HSA := Lib.hid (HS2.out.via hal)
                        have HGA := Lib.hid (HG2.out.trans (grownOf hal _))
                        have hsa : Bw ≤ (wr.alloc (.cells #[.int .i64 (k : Int)] 3)).heap.size := by have := HB2.out; simp; omega
                        clear hal
                        go_upto_region 37 with fail
                        go_wp2_with (at_builtin; refine wpList_append_ints _ rfl (.tmp 114) (.tmp 116) rfl Bw (.slice rA rn rc) rn _ rfl HOA.out (some ⟨wr.heap.size, 0, none⟩) 1 1 [(k : Int)] rfl (Ints.one_ wr (k : Int)) (by omega) hsa ?_; intro A' c' w5 ho5 hg5 hat5; have HH5 := HHA.out.grown hg5 (fun e => by have := (HOA.out.lt' _ e.symm).1; omega); have ch5 := HH5.cell hnn; have fh5 := HH5.frozen)
                        have HQ5 := Lib.hid (show HRow (w5.setCell ⟨bo, n, none⟩ (.slice A' (rn + 1) c')) bo g.nons 25 (fun i => if i = n then slV (A', rn + 1, c') else slV (rw' i)) from (HH5.put hnn _).ext fun i hi => by
                          by_cases e : i = n
                          · simp [e, slV]
                          · simp [e])
                        have HO5 := Lib.hid (show OwnI (w5.setCell ⟨bo, n, none⟩ (.slice A' (rn + 1) c')) Bw (slV (A', rn + 1, c')) (rn + 1) (intsN ((List.range k).filter (fun i => wshF D g.nons n i)) ++ [(k : Int)]) from OwnI.setCell ho5 (p := ⟨bo, n, none⟩) (by simp only; omega) _)
                        have HS5 := Lib.hid (show SetM (w5.setCell ⟨bo, n, none⟩ (.slice A' (rn + 1) c')) bm (wshF D g.nons n) from by
                          have h1 := HSA.out.grown hg5 (fun e => by
                            have h2 := HOA.out.2
                            rcases h2 with ⟨h0, _⟩ | ⟨gq, cap, cur, hv, hb, hh, _⟩
                            · rw [h0] at e; cases e
                            · rw [hv] at e
                              have : bm = gq := by simpa [Value.ownBlock] using e
                              subst this
                              exact (HSA.out.neB hh) rfl)
                          exact ⟨h1.1.far (p := ⟨bo, n, none⟩) (fun e => by have := HBM.out; have := HBO.out; simp only at e; omega) _, h1.2⟩)
                        have HG5 := Lib.hid (show wz.grownBy (w5.setCell ⟨bo, n, none⟩ (.slice A' (rn + 1) c')) (some bo) from
                          (show wz.grownBy w5 (some bo) from ⟨hg5.os.trans HGA.out.os, hg5.tape.trans HGA.out.tape, hg5.output.trans HGA.out.output, Nat.le_trans HGA.out.size hg5.size, fun j hj hne => (hg5.block j (Nat.lt_of_lt_of_le hj HGA.out.size) (fun e => by have := (HOA.out.lt' j e.symm).1; omega)).trans (HGA.out.block j hj hne)⟩).trans (grownBySet w5 bo n _))
                        have HB5 := Lib.hid (show Bw ≤ (w5.setCell ⟨bo, n, none⟩ (.slice A' (rn + 1) c')).heap.size from by have := hg5.size; simp; omega)
                        clear ho5 hg5 hat5 HH5 ch5 fh5 HHA HSA HGA HOA HH HO2 HS2 HG2 HB2 hlk ch
                        go_wp2_with fail
                        exact ⟨⟨k + 1, rn + 1, (A', rn + 1, c'), by go_num, by omega, by omega, HQ5, Lib.hid (by rw [HFL.out]; simpa [intsN] using HO5.out), HS5, HG5, HB5⟩, by simp [intOf]; omega⟩
                    · obtain rfl : k = g.nons := by omega
                      have HF := Lib.hid (show OutR w g Ag ng cg bn B es B bo bs D (n + 1) (fun i => if i = n then (rA, rn, rc) else rw' i) wr from by
                        have hag : ∀ ok : Nat → Prop, (∀ b, ok b → b ≠ bo) → Agr ok wz wr := fun ok hk => Agr.grown HG2.out fun b hb e => hk b hb (Option.some.inj e)
                        have hlo := HR.out.lo
                        have hlob := HR.out.lob
                        refine ⟨HR.out.q.grown HG2.out (fun x e => by have := Option.some.inj e; omega), HR.out.m.other HG2.out (fun e => by have := Option.some.inj e; omega) (fun i hi e => by have := Option.some.inj e; have := hlo.2 i hi; omega), HH.out.ext fun i hi => ?_, fun i hi => ?_, fun i hi => ?_, hlo, hlob⟩
                        · by_cases e : i = n <;> simp [e]
                        · by_cases e : i = n
                          · subst e
                            simp only [if_true]
                            have hI : Ints wr rA rn rc (intsN (lefL D g.nons i)) := by
                              obtain ⟨rA2, rc2, hre, hI⟩ := HO2.out.form
                              simp only [Value.slice.injEq] at hre
                              obtain ⟨rfl, rfl, rfl⟩ := hre
                              exact hI
                            refine hI.slE.mono fun b _ hb => ?_
                            obtain ⟨o, ho⟩ := hb
                            have := (HO2.out.lt' b (by rw [ho]; rfl)).1
                            omega
                          · simp only [if_neg e]
                            exact (HR.out.row i (by omega)).agr (hag _ fun b hb => by omega)
                        · rw [if_neg (by omega)]; exact HR.out.nil i (by omega))
                      clear HH HO2 HS2 HG2 HB2
                      go_wp2_with fail
                      exact ⟨⟨n + 1, _, by go_num, by omega, HF⟩, by simp [intOf]; omega⟩
                | cons m xs =>
                  as_aux_lemma =>
                  simp only [List.length_cons] at hnl
                  obtain ⟨g0, off, c, cs, rfl, -⟩ := HQ1.out
                  obtain ⟨hc0, hlt, hle, hq⟩ := HQ1.out.pop (xs := intsN xs) (x := (m : Int))
                  obtain ⟨A', hA⟩ : ∃ A', (if c = 1 then some (⟨g0, off, none⟩ : Addr) else some ⟨g0, off + 1, none⟩) = A' := ⟨_, rfl⟩
                  rw [hA] at hq
                  have HQ2 := Lib.hid hq
                  have hmN : m < g.nons := by
                    rcases HB1.out.wk m (List.mem_cons_self ..) with rfl | h
                    · exact hnn
                    · exact (plus_lt HDN.out (HB1.out.snd m h)).2
                  have HRx := Lib.hid (HR.out.via HW1.out)
                  have ch := HRx.out.m.hd.cell hmN
                  have hset := HRx.out.m.set m hmN
                  have m0 : (0 : Int) ≤ (m : Int) := by omega
                  have m1 : (m : Int) < (g.nons : Int) := by omega
                  have l0 : (0 : Int) < (nl : Int) := by omega
                  have c1 : (1 : Int) ≤ (c : Int) := by omega
                  have l1 : (1 : Int) ≤ (nl : Int) := by omega
                  have l2 : (nl : Int) ≤ (c : Int) := by omega
                  clear hq
                  go_upto_region 27 with fail
                  clear hc0
                  go_wp2_with (at_range; refine wpList_range_S rfl _ rfl (bs m) (D m) rfl hset ?_)
                  intro w5 cnt0 hrg0 hb5 hz5
                  have HRG := Lib.hid hrg0
                  have HW5 := Lib.hid (HW1.out.trans (hb5.mono HW1.out.size))
                  have HS5 := Lib.hid (HS1.out.via hb5)
                  have HQ5 := Lib.hid (HQ2.out.via hb5)
                  have HMS := Lib.hid (show ∀ t, D m t = true → t < g.nons from fun t h => (HDN.out m t h).2)
                  have HP := Lib.hid (HB1.out.pop (left := (List.range g.nons).filter (D m)) fun t ht => List.mem_filter.2 ⟨List.mem_range.2 (HMS.out t ht), ht⟩)
                  have hbmlt : bm < wr.heap.size := HS1.out.lt
                  have hbsm : bs m < bm := by have := HR.out.lo.2 m hmN; have := HR.out.hd.lt; have := HBM.out; omega
                  clear hset ch hrg0 hb5 hA HQ2 HQ1 HS1 HB1 HW1 HRx
                  generalize wr.heap.size = br at *
                  go_wp2_with fail
                  go_loopw [13] (fun s13 wy => ∃ (v : Value) (seen' : Nat → Bool) (xs' : List Nat) (nl' : Nat) (left : Nat → Bool) (cnt : Nat), v = s13 ∧ 2 * unS g.nons seen' + nl' + 1 ≤ 2 * unS g.nons seen + nl ∧ nl' + unS g.nons seen' + 1 ≤ 11 ∧ Hid (RngS wy br (bs m) left cnt) ∧ Hid (∀ t, left t = true → D m t = true) ∧ Hid (SetM wy bm seen') ∧ Hid (QuI wy bm v nl' (intsN xs')) ∧ Hid (BfsR D n m ((List.range g.nons).filter left) seen' xs') ∧ Hid (Below wz.heap.size wz wy)) (fun _ wy => World.rngLeft wy br)
                  case atStart => exact ⟨_, seen, xs, nl - 1, _, _, rfl, by omega, by omega, HRG, Lib.hid (fun _ h => h), HS5, HQ5, HP, HW5⟩
                  case round =>
                    obtain ⟨v, seen', xs', nl', left, cnt, rfl, hk1, hk2, HRG1, HLF, HS2, HQ2, HP2, HW2⟩ := hrel
                    clear HRG HS5 HQ5 HP HW5
                    have HMZ := Lib.hid HRG1.out.left_eq
                    go_wp2_with (at_next; refine wpList_next_S rfl _ rfl br (bs m) left cnt rfl HRG1.out (by omega) ?_ ?_)
                    · intro hd
                      have HBD := Lib.hid (show Bfs D n seen' xs' from by
                        have h0 : (List.range g.nons).filter left = [] := List.filter_eq_nil_iff.2 fun t _ => by rw [hd t]; simp
                        have := HP2.out
                        rw [h0] at this
                        exact this.done)
                      clear hd
                      go_wp2_with fail
                      go_roundg (2 * unS g.nons seen' + nl')
                      case measure => rw [HGK.out]; omega
                      case rel => exact ⟨_, seen', xs', nl', rfl, rfl, by omega, HQ2, HS2, HBD, HW2⟩
                    · intro t w6 cnt1 hlt1 ht1 hrg1 hlt2 hg1 hz1 hen
                      have htN : t < g.nons := HMS.out t (HLF.out t hlt1)
                      have hs6 := HS2.out.grown hg1 (fun e => by have := Option.some.inj e; omega)
                      have hq6 := HQ2.out.grown hg1 (fun b e => fun e2 => (HRG1.out.neQ HQ2.out b e).1 (Option.some.inj e2).symm)
                      have HW6 := Lib.hid (HW2.out.grown hg1 HW2.out.size (fun j e => by have := Option.some.inj e; have := HBM.out; omega))
                      have hlk := hs6.look t (by omega)
                      have HS6 := Lib.hid hs6
                      have HQ6 := Lib.hid hq6
                      have HRG6 := Lib.hid hrg1
                      have HLK := Lib.hid (show ∀ x, x ∈ (List.range g.nons).filter left → x = t ∨ x ∈ (List.range g.nons).filter (fun k => left k && k != t) from fun x hx => by
                        obtain ⟨h1, h2⟩ := List.mem_filter.1 hx
                        by_cases e : x = t
                        · exact Or.inl e
                        · exact Or.inr (List.mem_filter.2 ⟨h1, by simp [h2, e]⟩))
                      have HLF6 := Lib.hid (show ∀ x, (left x && x != t) = true → D m x = true from fun x hx => by
                        rw [Bool.and_eq_true] at hx; exact HLF.out x hx.1)
                      have HDT := Lib.hid (HLF.out t hlt1)
                      clear hs6 hq6 hg1 hrg1 HS2 HQ2 HRG1 HLF HW2 hlt1
                      cases hse : seen' t with
                      | true =>
                        rw [hse] at hlk
                        have HSE := Lib.hid hse
                        clear hse
                        go_wp2_with fail
                        exact ⟨⟨_, seen', xs', nl', _, _, rfl, by omega, by omega, HRG6, HLF6, HS6, HQ6, Lib.hid (HP2.out.old HLK.out HSE.out), HW6⟩, by rw [HMZ.out, HRG6.out.left_eq]; exact hlt2⟩
                      | false =>
                        rw [hse] at hlk
                        have HSE := Lib.hid hse
                        clear hse
                        go_upto_region 32 with (at_mapUpdate; refine wpList_put_S rfl _ _ _ rfl bm seen' t rfl rfl rfl HS6.out (by omega) ?_; intro w7 hs7 hg7 hz7)
                        have HS7 := Lib.hid (hs7.ext (g := fun x => if x = t then true else seen' x) fun x => by
                          by_cases e : x = t
                          · subst e; simp
                          · simp [e])
                        have HRG7 := Lib.hid (HRG6.out.grown hg7 (fun e => by have := Option.some.inj e; omega) (fun e => by have := Option.some.inj e; omega))
                        have HQ7 := Lib.hid (HQ6.out.grown hg7 (fun b e => fun e2 => HS6.out.neQ HQ6.out b e (Option.some.inj e2)))
                        have HW7 := Lib.hid (HW6.out.grown hg7 HW6.out.size (fun j e => by have := Option.some.inj e; have := HBM.out; omega))
                        have HUN := Lib.hid (unS_put htN HSE.out)
                        have hal := (Below.refl w7.heap.size w7).al (.cells #[.int .i64 (t : Int)] 3)
                        have HS8 := Lib.hid (HS7.out.via hal)
                        have HRG8 := Lib.hid (HRG7.out.via hal)
                        have HQ8 := Lib.hid (HQ7.out.via hal)
                        have HW8 := Lib.hid (HW7.out.trans (hal.mono HW7.out.size))
                        have HC8 := Lib.hid ((Blk.new w7 3 #[.int .i64 (t : Int)]).cell 0)
                        have hbs8 : bm ≤ (w7.alloc (.cells #[.int .i64 (t : Int)] 3)).heap.size := by have := HS8.out.lt; omega
                        clear hs7 hg7 hz7 hal HS7 HRG7 HQ7 HW7 HS6 HRG6 HQ6 HW6 hlk
                        go_wp2_with (at_builtin; refine append_qu _ rfl (.tmp 97) (.tmp 99) rfl bm v nl' (intsN xs') rfl HQ8.out w7.heap.size (t : Int) rfl HC8.out (by omega) hbs8 ?_)
                        intro g9 off9 c9 w9 hq9 hg9 hat9
                        have HQ9 := Lib.hid (show QuI w9 bm (.slice (some ⟨g9, off9, none⟩) (nl' + 1) c9) (nl' + 1) (intsN (xs' ++ [t])) from by simpa [intsN] using hq9)
                        have HS9 := Lib.hid (HS8.out.grown hg9 (fun e => HS8.out.neQ HQ8.out _ e.symm rfl))
                        have HRG9 := Lib.hid (HRG8.out.grown hg9 (fun e => (HRG8.out.neQ HQ8.out _ e.symm).1 rfl) (fun e => (HRG8.out.neQ HQ8.out _ e.symm).2 rfl))
                        have HW9 := Lib.hid (HW8.out.grown hg9 HW8.out.size (fun j e => by
                          obtain ⟨g', h1, h2, -⟩ := HQ8.out.lt
                          rw [h1] at e
                          have := Option.some.inj e; have := HBM.out; omega))
                        clear hq9 hg9 hat9 HQ8 HS8 HRG8 HW8
                        go_wp2_with fail
                        exact ⟨⟨_, _, xs' ++ [t], nl' + 1, _, _, rfl, by have := HUN.out; omega, by have := HUN.out; omega, HRG9, HLF6, HS9, HQ9, Lib.hid (HP2.out.new HLK.out HDT.out), HW9⟩, by rw [HMZ.out, HRG9.out.left_eq]; exact hlt2⟩
            · obtain rfl : n = g.nons := by omega
              have hlo := HR.out.q.lo
              go_wp2_with fail
              go_ret
              refine ⟨some ⟨bo, 0, none⟩, g.nons, rfl, ⟨by simp [lefW], Nat.le_refl _, (List.range g.nons).map rw', by simp, fun _ => ⟨bo, 0, rfl, by have := HR.out.lob; omega, fun j u hu => ?_⟩, fun i r x hr hx => ?_⟩, HR.out.q.bel⟩
              · obtain ⟨i, jj, r, h1, h2, h3⟩ := flat_inv hu
                have hk : RwE.k = 1 := rfl
                rw [hk] at h3
                have hj0 : jj = 0 := by have := (List.getElem?_eq_some_iff.1 h2).1; simp [RwE] at this; omega
                subst hj0
                have hjn : j < g.nons := by have := (List.getElem?_eq_some_iff.1 h1).1; simp at this; omega
                rw [show j = i by omega] at hjn ⊢
                rw [Nat.zero_add, HR.out.hd.cell hjn]
                rw [List.getElem?_map, List.getElem?_range hjn] at h1
                have h1' : rw' i = r := by simpa using h1
                subst h1'
                exact h2
              · have hin : i < g.nons := by have := (List.getElem?_eq_some_iff.1 hr).1; simpa using this
                rw [List.getElem?_map, List.getElem?_range hin] at hr
                have h1' : rw' i = r := by simpa using hr
                subst h1'
                unfold lefW at hx
                rw [List.getElem?_map, List.getElem?_range hin] at hx
                have h2' : intsN (lefL (begD g.rules) g.nons i) = x := by simpa using hx
                rw [← h2', ← HD.out]
                exact (HR.out.row i hin).mono fun b _ hb => by have := HR.out.lob; omega
end Go.Proofs.YtfmnmgnhanogmaaDoor

