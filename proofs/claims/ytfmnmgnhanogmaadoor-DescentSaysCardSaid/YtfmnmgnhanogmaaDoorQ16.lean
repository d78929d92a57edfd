/- Texts OA, laid together. -/
import Derived.Test.YtfmnmgnhanogmaaDoorQ14
import Derived.Test.YtfmnmgnhanogmaaDoorQ15



namespace Go.Proofs.YtfmnmgnhanogmaaDoor
open Go.RowKit

theorem BRowS.put {w : World} {b s n i : Nat} {f : Nat → Bool} (h : BRowS w b s n f) (hi : i < n) (v : Bool) : BRowS (w.setCell ⟨b, i, none⟩ (.bool v)) b s n (fun j => if j = i then v else f j) := by
  obtain ⟨cs, h1, hs, h2⟩ := h
  refine ⟨_, h1.set_ i (.bool v), by simpa using hs, fun j hj => ?_⟩
  have hil : i < cs.size := (Array.getElem?_eq_some_iff.1 (h2 i hi)).1
  rw [Array.getElem?_setIfInBounds]
  by_cases e : i = j
  · subst e; simp [hil]
  · have e' : ¬ j = i := fun q => e q.symm
    simp only [if_neg e, if_neg e']; exact h2 j hj
theorem HRow.put {w : World} {b n i : Nat} {t : TypeId} {v : Nat → Value} (h : HRow w b n t v) (hi : i < n) (u : Value) : HRow (w.setCell ⟨b, i, none⟩ u) b n t (fun j => if j = i then u else v j) := by
  obtain ⟨cs, h1, h2⟩ := h
  refine ⟨_, h1.set_ i u, fun j hj => ?_⟩
  have hil : i < cs.size := (Array.getElem?_eq_some_iff.1 (h2 i hi)).1
  rw [Array.getElem?_setIfInBounds]
  by_cases e : i = j
  · subst e; simp [hil]
  · have e' : ¬ j = i := fun q => e q.symm
    simp only [if_neg e, if_neg e']; exact h2 j hj
theorem HRow.ext {w : World} {b n : Nat} {t : TypeId} {v u : Nat → Value} (h : HRow w b n t v) (e : ∀ j, j < n → u j = v j) : HRow w b n t u := by
  obtain ⟨cs, h1, h2⟩ := h
  exact ⟨cs, h1, fun j hj => by rw [h2 j hj, e j hj]⟩
/-- a square table of bools: its headers, its rows -/
structure BMat (w : World) (hb N : Nat) (bs : Nat → Nat) (F : Nat → Nat → Bool) : Prop where
  hd : HRow w hb N 59 fun i => .slice (some ⟨bs i, 0, none⟩) N N
  row : ∀ i, i < N → BRow w (bs i) N (F i)
  ap : ∀ i j, i < N → j < N → i ≠ j → bs i ≠ bs j
  far : ∀ i, i < N → bs i ≠ hb
section
variable {w w' : World} {hb N i j : Nat} {bs : Nat → Nat} {F : Nat → Nat → Bool}
theorem BMat.via (h : BMat w hb N bs F) (k : Below w.heap.size w w') : BMat w' hb N bs F := ⟨h.hd.via k, fun i hi => (h.row i hi).via k, h.ap, h.far⟩
theorem BMat.ext {G : Nat → Nat → Bool} (h : BMat w hb N bs F) (e : ∀ i j, i < N → j < N → G i j = F i j) : BMat w hb N bs G := ⟨h.hd, fun i hi => (h.row i hi).ext fun j hj => e i j hi hj, h.ap, h.far⟩
theorem BMat.put (h : BMat w hb N bs F) (hi : i < N) (hj : j < N) (v : Bool) : BMat (w.setCell ⟨bs i, j, none⟩ (.bool v)) hb N bs (fun a b => if a = i ∧ b = j then v else F a b) :=
  ⟨h.hd.far (fun e => h.far i hi e.symm) _, fun a ha => by
    by_cases e : a = i
    · subst e
      exact ((h.row a ha).put hj v).ext fun b _ => by simp
    · exact ((h.row a ha).far (fun q => h.ap a i ha hi e q) _).ext fun b _ => by simp [e], h.ap, h.far⟩
end
/-- with which each nonterminal begins at once -/
noncomputable def begD (R : List Ru) (i j : Nat) : Bool := @decide (BegM R i j) (Classical.propDecidable _)
theorem begD_iff (R : List Ru) (i j : Nat) : begD R i j = true ↔ BegM R i j := by simp [begD]
theorem begD_of {R : List Ru} {nul : Nat → Bool} (hn : ∀ n, nul n = true ↔ NullN R n) : begT nul R = begD R := by
  funext i j
  rw [Bool.eq_iff_iff, begT_iff hn, begD_iff]
theorem begD_lt {g : Gr} (hg : g.Ok) (i j : Nat) (h : begD g.rules i j = true) : i < g.nons ∧ j < g.nons := by
  have hn : ∀ n, (@decide (NullN g.rules n) (Classical.propDecidable _)) = true ↔ NullN g.rules n := by simp
  rw [← begD_of hn] at h
  exact begT_lt hg i j h
/-- while the table is being made and filled -/
structure LfR (w : World) (g : Gr) (Ag : Option Addr) (ng cg bS be B : Nat) (L : FsL) (es : Nat → Bool) (wr : World) : Prop where
  hg : Blk wr w.heap.size 24 (gCells g Ag ng cg)
  hdr : Blk wr bS 115 (L.cells g)
  em : BRow wr be g.nons es
  bel : Below w.heap.size w wr
  lo : w.heap.size < B ∧ bS < B ∧ be < B ∧ B ≤ wr.heap.size
theorem LfR.via {w wr wa : World} {g : Gr} {Ag : Option Addr} {ng cg bS be B : Nat} {L : FsL} {es : Nat → Bool} (h : LfR w g Ag ng cg bS be B L es wr) (hb : Below wr.heap.size wr wa) : LfR w g Ag ng cg bS be B L es wa :=
  ⟨h.hg.via hb, h.hdr.via hb, h.em.via hb, h.bel.trans (hb.mono h.bel.size), h.lo.1, h.lo.2.1, h.lo.2.2.1, Nat.le_trans h.lo.2.2.2 hb.size⟩
theorem LfR.far {w wr : World} {g : Gr} {Ag : Option Addr} {ng cg bS be B : Nat} {L : FsL} {es : Nat → Bool} (h : LfR w g Ag ng cg bS be B L es wr) {b i : Nat} (hb : B ≤ b) (u : Value) : LfR w g Ag ng cg bS be B L es (wr.setCell ⟨b, i, none⟩ u) :=
  ⟨h.hg.far (by have := h.lo.1; simp only; omega) u, h.hdr.far (by have := h.lo.2.1; simp only; omega) u, h.em.far (by have := h.lo.2.2.1; simp only; omega) u, h.bel.setCell (by have := h.lo.1; simp only; omega) u, h.lo.1, h.lo.2.1, h.lo.2.2.1, by simpa using h.lo.2.2.2⟩
theorem brows_info : (Tryd.prog.info? 59).map (fun i => (i.zero, i.size, i.bytes)) = some (some (.slice none 0 0), 1, 24) := by kernel_rfl
theorem mk_brows (n : Nat) (hn : n ≤ 1000000) : ∀ w : World, (Instr.makeSlice 57 (.int .i64 (n : Int)) (.int .i64 (n : Int))).run Tryd.prog w = .ok (.slice (some ⟨w.heap.size, 0, none⟩) n n) (w.alloc (.cells (mkCells (.slice none 0 0) n) 59)) := by
  intro w
  obtain ⟨i, hi, hz, hs, hb⟩ := info_parts brows_info
  have := run_make (P := Tryd.prog) w 57 59 i _ Tryd.underlying57 hi hz .i64 .i64 (n : Int) (n : Int) (by omega) (by omega) (by rw [hb]; omega) (by omega)
  rw [show ((n : Int)).toNat = n from by omega, hs, Nat.mul_one] at this
  exact this
theorem HRow.new (w : World) (t : TypeId) (n : Nat) : HRow (w.alloc (.cells (mkCells (.slice none 0 0) n) t)) w.heap.size n t (fun _ => .slice none 0 0) :=
  ⟨_, Blk.new w _ _, fun j hj => by unfold mkCells; rw [made_one]; simp [hj]⟩
/-- while the rows are being made -/
structure MkM (wr : World) (hb N k B : Nat) (bs : Nat → Nat) : Prop where
  hd : HRow wr hb N 59 fun i => if i < k then .slice (some ⟨bs i, 0, none⟩) N N else .slice none 0 0
  row : ∀ i, i < k → BRow wr (bs i) N (fun _ => false)
  ap : ∀ i j, i < k → j < k → i ≠ j → bs i ≠ bs j
  far : ∀ i, i < k → bs i ≠ hb ∧ B ≤ bs i
theorem MkM.step {wr : World} {hb N k B : Nat} {bs : Nat → Nat} (h : MkM wr hb N k B bs) (hk : k < N) (hB : B ≤ wr.heap.size) : MkM ((wr.alloc (.cells (mkCells (.bool false) N) 4)).setCell ⟨hb, k, none⟩ (.slice (some ⟨wr.heap.size, 0, none⟩) N N)) hb N (k + 1) B (fun i => if i = k then wr.heap.size else bs i) := by
  have hal := (Below.refl wr.heap.size wr).al (.cells (mkCells (.bool false) N) 4)
  have hbl := h.hd.lt
  have hold : ∀ i, i < k → bs i < wr.heap.size := fun i hi => (h.row i hi).lt
  refine ⟨((h.hd.via hal).put hk _).ext fun j hj => ?_, fun i hi => ?_, fun i j hi hj hij => ?_, fun i hi => ?_⟩
  · by_cases e : j = k
    · subst e; simp
    · simp only [if_neg e]
      by_cases e2 : j < k
      · rw [if_pos e2, if_pos (by omega)]
      · rw [if_neg e2, if_neg (by omega)]
  · by_cases e : i = k
    · simp only [if_pos e]
      exact (BRow.new wr N).far (by simp only; omega) _
    · simp only [if_neg e]
      exact ((h.row i (by omega)).via hal).far (h.far i (by omega)).1 _
  · by_cases e1 : i = k
    · simp only [if_pos e1, if_neg (show ¬ j = k by omega)]
      have := hold j (by omega); omega
    · by_cases e2 : j = k
      · simp only [if_neg e1, if_pos e2]
        have := hold i (by omega); omega
      · simp only [if_neg e1, if_neg e2]; exact h.ap i j (by omega) (by omega) hij
  · by_cases e : i = k
    · simp only [if_pos e]; exact ⟨by omega, hB⟩
    · simp only [if_neg e]; exact h.far i (by omega)
theorem MkM.done {wr : World} {hb N B : Nat} {bs : Nat → Nat} (h : MkM wr hb N N B bs) : BMat wr hb N bs (fun _ _ => false) :=
  ⟨h.hd.ext fun j hj => by rw [if_pos hj], h.row, h.ap, fun i hi => (h.far i hi).1⟩
def LeftP (w : World) (g : Gr) (e : Ending) (w' : World) : Prop :=
  ∃ hb bs, e = .returned (.slice (some ⟨hb, 0, none⟩) g.nons g.nons) ∧ BMat w' hb g.nons bs (wshF (begD g.rules) g.nons) ∧ Below w.heap.size w w'
set_option maxRecDepth 100000 in
set_option maxHeartbeats 8000000 in
theorem left_c (ok : Nat → Prop) (g : Gr) (Ag : Option Addr) (ng cg : Nat) (w : World) (hg : GrOk g) (hl : Sl RuE ok w Ag ng cg g.rules) :
    Calls Tryd.prog 23 #[grVal g Ag ng cg] w (LeftP w g) := by
  have hn1 := hg.ok.nons.1
  have hn10 := hg.ok.nons.2
  have hlen := hl.len
  have hng32 : ng ≤ 32 := by have := hg.ok.count; omega
  have B0 := Blk.new w 24 (gCells g Ag ng cg)
  have hB0 := (Below.refl w.heap.size w).al (.cells (gCells g Ag ng cg) 24)
  have HGO := Lib.hid hg
  have HL := Lib.hid hl
  have HL0 := Lib.hid (hl.via hB0)
  have HLN := Lib.hid hlen
  simp only [grVal]
  clear hg hl hlen
  go_enter Tryd.func23, Tryd.ntmps23
  go_upto_region 1 with fail
  have e0 : (Obj.cells #[.int .i64 (g.terms : Int), .int .i64 (g.nons : Int), .int .i64 (g.start : Int), .slice Ag ng cg] 24) = .cells (gCells g Ag ng cg) 24 := rfl
  rw [e0]
  have hW0 : (w.alloc (.cells (gCells g Ag ng cg) 24)).heap.size = w.heap.size + 1 := by simp
  clear e0
  generalize w.alloc (.cells (gCells g Ag ng cg) 24) = W0 at *
  have Bg := B0
  simp only [gCells] at Bg
  have cBg := Bg.cell
  have fBg := Bg.frozen
  have lBg := Bg.lt
  go_wp2_with fail
  clear cBg fBg lBg
  clear Bg
  have HF := fmake_c ok g Ag ng cg W0 HGO.out HL0.out
  simp only [grVal] at HF
  refine HF.mono ?_
  clear HF HL0
  rintro e w1 ⟨L, es, fs, rfl, hfs, htab, -, -, -, hb1⟩
  have HNU := Lib.hid htab.nul
  have HR1 := Lib.hid (show LfR w g Ag ng cg L.bS L.be w1.heap.size L es w1 from ⟨B0.via hb1, hfs.hdr, hfs.em, hB0.trans (hb1.mono (by omega)), by have := hb1.size; omega, hfs.hdr.lt, hfs.em.lt, Nat.le_refl _⟩)
  clear hfs htab hb1 B0 hB0 hW0
  generalize hbS : L.bS = bS at *
  generalize hbe : L.be = be at *
  have HBE := Lib.hid hbe
  clear hbS hbe
  have Bg := HR1.out.hg
  simp only [gCells] at Bg
  have hmr := mk_brows g.nons (by omega)
  have hmb := mk_bools g.nons (by omega)
  have cBg := Bg.cell
  have fBg := Bg.frozen
  have lBg := Bg.lt
  go_upto_region 3 with fail
  clear cBg fBg lBg
  clear Bg hmr
  have hal := (Below.refl w1.heap.size w1).al (.cells (mkCells (.slice none 0 0) g.nons) 59)
  have HR2 := Lib.hid (HR1.out.via hal)
  have HMK := Lib.hid (show MkM (w1.alloc (.cells (mkCells (.slice none 0 0) g.nons) 59)) w1.heap.size g.nons 0 w1.heap.size (fun _ => 0) from
    ⟨(HRow.new w1 _ g.nons).ext fun j _ => by simp, fun i h => absurd h (Nat.not_lt_zero _), fun i j h => absurd h (Nat.not_lt_zero _), fun i h => absurd h (Nat.not_lt_zero _)⟩)
  clear HR1 hal
  generalize w1.alloc (.cells (mkCells (.slice none 0 0) g.nons) 59) = W2 at *
  generalize hbB : w1.heap.size = B at *
  clear hbB
  go_wp2_with fail
  go_loopw [20] (fun a wr => ∃ (k : Nat) (bs : Nat → Nat), a = .int .i64 k ∧ k ≤ g.nons ∧ Hid (LfR w g Ag ng cg bS be B L es wr) ∧ Hid (MkM wr B g.nons k B bs)) (fun a _ => g.nons - (intOf a).toNat)
  case atStart => exact ⟨0, _, rfl, Nat.zero_le _, HR2, HMK⟩
  case round =>
    obtain ⟨k, bs, rfl, hk, HR, HM⟩ := hrel
    clear HR2 HMK
    by_cases hlt : k < g.nons
    · have i0 : (0 : Int) ≤ (k : Int) := by omega
      have i1 : (k : Int) < (g.nons : Int) := by omega
      have Bg := HR.out.hg
      simp only [gCells] at Bg
      have fh := HM.out.hd.frozen
      have fh2 := (HM.out.hd.via ((Below.refl wr.heap.size wr).al (.cells (mkCells (.bool false) g.nons) 4))).frozen
      have ch2 := (HM.out.hd.via ((Below.refl wr.heap.size wr).al (.cells (mkCells (.bool false) g.nons) 4))).cell hlt
      have cBg := Bg.cell
      have fBg := Bg.frozen
      have lBg := Bg.lt
      go_wp2_with fail
      have hal := (Below.refl wr.heap.size wr).al (.cells (mkCells (.bool false) g.nons) 4)
      have hB := HR.out.lo.2.2.2
      exact ⟨⟨k + 1, _, by go_num, by omega, Lib.hid ((HR.out.via hal).far (Nat.le_refl _) _), Lib.hid (HM.out.step hlt hB)⟩, by simp [intOf]; omega⟩
    · obtain rfl : k = g.nons := by omega
      have HBM := Lib.hid (HM.out.done.ext (G := begT es (g.rules.take 0)) fun i j _ _ => by simp [begT])
      have HBL := Lib.hid (show ∀ i, i < g.nons → B ≤ bs i from fun i hi => (HM.out.far i hi).2)
      clear HM
      have Bg := HR.out.hg
      simp only [gCells] at Bg
      have cBg := Bg.cell
      have fBg := Bg.frozen
      have lBg := Bg.lt
      go_wp2_with fail
      clear cBg fBg lBg
      clear Bg hmb
      go_loopw [33] (fun a wr => ∃ k : Nat, a = .int .i64 k ∧ k ≤ ng ∧ Hid (LfR w g Ag ng cg bS be B L es wr) ∧ Hid (BMat wr B g.nons bs (begT es (g.rules.take k)))) (fun a _ => ng - (intOf a).toNat)
      case atStart => exact ⟨0, rfl, Nat.zero_le _, HR, HBM⟩
      case round =>
        obtain ⟨k, rfl, hk, HR1, HM⟩ := hrel
        clear HR HBM
        by_cases hkn : k < ng
        · as_aux_lemma =>
          obtain ⟨b1, o1, ⟨sl, sA, sn, sc⟩, ⟨sl', rhs⟩, hAg, -, hbb, hy, ⟨hx1, hx2⟩, hc⟩ := HL.out.at_ hkn
          simp only at hx1 hx2
          obtain rfl : sl = sl' := hx1
          subst hAg
          have d0 := (HR1.out.bel.cell (p := ⟨b1, o1 + k * RuE.k + 0, none⟩) hbb).trans (hc 0 _ rfl)
          have d1 := (HR1.out.bel.cell (p := ⟨b1, o1 + k * RuE.k + 1, none⟩) hbb).trans (hc 1 _ rfl)
          simp only [RuE, Nat.add_zero] at d0 d1
          have i0 : (0 : Int) ≤ (k : Int) := by omega
          have i1 : (k : Int) < (ng : Int) := by omega
          have hmem := List.mem_of_getElem? hy
          have hsl : sl < g.nons := HGO.out.ok.left _ hmem
          have j0 : (0 : Int) ≤ (sl : Int) := by omega
          have j1 : (sl : Int) < (g.nons : Int) := by omega
          have HRT := Lib.hid (HGO.out.ok.right _ hmem)
          have hsn : sn ≤ 4 := by rw [← hx2.len]; exact HRT.out.1
          have HY := Lib.hid hy
          have hal := (Below.refl wr.heap.size wr).al (.cells #[.int .i64 (sl : Int), .slice sA sn sc] 77)
          have HSR := Lib.hid hx2
          have BX := Blk.new wr 77 #[.int .i64 (sl : Int), .slice sA sn sc]
          have HR4 := Lib.hid (HR1.out.via hal)
          have HM4 := Lib.hid (HM.out.via hal)
          have hwr : B ≤ wr.heap.size := HR1.out.lo.2.2.2
          have hbsl : ∀ i, i < g.nons → bs i < wr.heap.size := fun i hi => (HM.out.row i hi).lt
          have HBSL := Lib.hid hbsl
          have hBx : B < wr.heap.size := HM.out.hd.lt
          clear hc hy hx2 hmem hbb hal HM HR1 hbsl
          go_upto_region 11 with fail
          clear d0 d1
          have hsz : wr.heap.size < (wr.alloc (.cells #[.int .i64 (sl : Int), .slice sA sn sc] 77)).heap.size := by simp
          generalize wr.alloc (.cells #[.int .i64 (sl : Int), .slice sA sn sc] 77) = W4 at *
          have HBX := Lib.hid BX
          generalize hbx : wr.heap.size = bx at *
          have HXB := Lib.hid (show ∀ i, i < g.nons → bs i ≠ bx from fun i hi e => by have := HBSL.out i hi; omega)
          clear HBSL
          clear hbx
          have HXL := Lib.hid (show ∀ i, i < g.nons → B ≤ bs i from HBL.out)
          have cBX := BX.cell
          have fBX := BX.frozen
          have lBX := BX.lt
          go_wp2_with fail
          clear cBX fBX lBX
          clear BX
          go_loopw [40] (fun a wr => ∃ p : Nat, a = .int .i64 p ∧ p ≤ sn ∧ Hid (LfR w g (some ⟨b1, o1, none⟩) ng cg bS be B L es wr) ∧ Hid (BMat wr B g.nons bs (begP es g.rules k p)) ∧ Hid (Blk wr bx 77 #[.int .i64 (sl : Int), .slice sA sn sc]) ∧ Hid (∀ s ∈ rhs.take p, s.1 = false ∧ es s.2 = true)) (fun a _ => sn - (intOf a).toNat)
          case atStart => exact ⟨0, rfl, Nat.zero_le _, HR4, Lib.hid (HM4.out.ext fun i j _ _ => by rw [begP_start]), HBX, Lib.hid (fun s hs => by simp at hs)⟩
          case round =>
            obtain ⟨p, rfl, hp, HR5, HM5, HBX5, HPR⟩ := hrel
            clear HR4 HM4 HBX
            by_cases hps : p < sn
            · obtain ⟨b2, o2, ⟨xb, xn⟩, x', hsA, -, hb2, hx, hxr, hc⟩ := (HSR.out.via HR5.out.bel).at_ hps
              obtain rfl : (xb, xn) = x' := hxr
              subst hsA
              have x0 := hc 0 _ rfl
              have x1 := hc 1 _ rfl
              simp only [SyE, Nat.add_zero] at x0 x1
              have hoks := HRT.out.2 _ (List.mem_of_getElem? hx)
              have q0 : (0 : Int) ≤ (p : Int) := by omega
              have q1 : (p : Int) < (sn : Int) := by omega
              have HX := Lib.hid hx
              have HDR := Lib.hid (show rhs.drop p = (xb, xn) :: rhs.drop (p + 1) from by
                obtain ⟨hl, he⟩ := List.getElem?_eq_some_iff.1 hx
                rw [List.drop_eq_getElem_cons hl, he])
              have hal := (Below.refl wr.heap.size wr).al (.cells #[.bool xb, .int .i64 (xn : Int)] 54)
              have BS := Blk.new wr 54 #[.bool xb, .int .i64 (xn : Int)]
              have HR6 := Lib.hid (HR5.out.via hal)
              have HM6 := Lib.hid (HM5.out.via hal)
              have HBX6 := Lib.hid (HBX5.out.via hal)
              have HSX := Lib.hid (show (∀ i, i < g.nons → bs i < wr.heap.size) ∧ B < wr.heap.size from ⟨fun i hi => (HM5.out.row i hi).lt, HM5.out.hd.lt⟩)
              clear hc hx hb2 hal HR5 HM5 HBX5
              go_upto_region 14 with fail
              clear x0 x1
              generalize wr.alloc (.cells #[.bool xb, .int .i64 (xn : Int)] 54) = W6 at *
              have HBS := Lib.hid BS
              generalize hbx2 : wr.heap.size = bx2 at *
              clear hbx2
              cases xb with
              | true =>
                have cBS := BS.cell
                have fBS := BS.frozen
                have lBS := BS.lt
                go_wp2_with fail
                refine ⟨⟨k + 1, by go_num, by omega, HR6, Lib.hid (HM6.out.ext fun i j _ _ => ?_)⟩, by simp [intOf]; omega⟩
                exact (begP_end HY.out HPR.out (by rw [HDR.out]; exact begL_term rfl) i j).symm
              | false =>
                have hxt : xn < g.nons := by simpa [Gr.okSy] using hoks
                have t0 : (0 : Int) ≤ (xn : Int) := by omega
                have t1 : (xn : Int) < (g.nons : Int) := by omega
                have BX := HBX6.out
                have ch := HM6.out.hd.cell hsl
                have fh := HM6.out.hd.frozen
                have cBX := BX.cell
                have fBX := BX.frozen
                have lBX := BX.lt
                have cBS := BS.cell
                have fBS := BS.frozen
                have lBS := BS.lt
                go_upto_region 15 with fail
                go_still_tail 8, (by kernel_rfl)
                clear cBX fBX lBX cBS fBS lBS
                clear BX BS ch fh
                have HDW := Lib.hid (Below.refl W6.heap.size W6).drew
                change wpList _ _ _ _ _ W6.drew
                generalize W6.drew = W7 at *
                have HRS := Lib.hid HSX.out
                have HR7 := Lib.hid ((HR6.out.via HDW.out).far (i := xn) (HXL.out sl hsl) (.bool true))
                have HM7 := Lib.hid (((HM6.out.via HDW.out).put hsl hxt true).ext (G := begP es g.rules k (p + 1)) fun i j _ _ => begP_step HY.out HX.out i j)
                have HBX7 := Lib.hid ((HBX6.out.via HDW.out).far (p := ⟨bs sl, xn, none⟩) (fun e => HXB.out sl hsl e.symm) (.bool true))
                have HBS7 := Lib.hid ((HBS.out.via HDW.out).far (p := ⟨bs sl, xn, none⟩) (fun e => by have := HSX.out.1 sl hsl; simp only at e; omega) (.bool true))
                have fb := ((HM6.out.via HDW.out).row sl hsl).frozen
                have cb := ((HM6.out.via HDW.out).row sl hsl).cell hxt
                clear HR6 HM6 HBX6 HBS HDW HRS
                go_upto_region 16 with fail
                clear fb cb
                generalize W7.setCell ⟨bs sl, xn, none⟩ (.bool true) = W8 at *
                have HPN := Lib.hid (show es xn = true → ∀ s ∈ rhs.take (p + 1), s.1 = false ∧ es s.2 = true from fun he s hs => by
                  rw [List.take_add_one, HX.out] at hs
                  rcases List.mem_append.1 hs with hs | hs
                  · exact HPR.out s hs
                  · simp only [Option.toList_some, List.mem_singleton] at hs
                    rw [hs]; exact ⟨rfl, he⟩)
                have BX := HBX7.out
                have BS := HBS7.out
                have BH := HR7.out.hdr
                rw [show L.cells g = #[.int .i64 (g.terms : Int), .int .i64 (g.nons : Int), .int .i64 (g.start : Int), .slice L.Ag L.ng L.cg, .slice (some ⟨be, 0, none⟩) g.nons g.nons, .slice (some ⟨L.hb, 0, none⟩) g.nons L.hc] from by rw [← HBE.out]; rfl] at BH
                have ce := HR7.out.em.cell hxt
                have fe := HR7.out.em.frozen
                have cBX := BX.cell
                have fBX := BX.frozen
                have lBX := BX.lt
                have cBS := BS.cell
                have fBS := BS.frozen
                have lBS := BS.lt
                have cBH := BH.cell
                have fBH := BH.frozen
                have lBH := BH.lt
                cases hes : es xn with
                | true =>
                  rw [hes] at ce
                  go_quiet (fail)
                  clear cBX fBX lBX cBS fBS lBS cBH fBH lBH
                  have HDN := Lib.hid (below_drewN (Below.refl W8.heap.size W8) nq)
                  have HR9 := Lib.hid (HR7.out.via HDN.out)
                  have HM9 := Lib.hid (HM7.out.via HDN.out)
                  have HBX9 := Lib.hid (HBX7.out.via HDN.out)
                  clear BX BS BH ce fe HDN HR7 HM7 HBX7 HBS7
                  generalize W8.drewN nq = W9 at *
                  go_wp2_with fail
                  exact ⟨⟨p + 1, by go_num, by omega, HR9, HM9, HBX9, Lib.hid (HPN.out hes)⟩, by simp [intOf]; omega⟩
                | false =>
                  rw [hes] at ce
                  go_quiet (fail)
                  clear cBX fBX lBX cBS fBS lBS cBH fBH lBH
                  have HDN := Lib.hid (below_drewN (Below.refl W8.heap.size W8) nq)
                  have HR9 := Lib.hid (HR7.out.via HDN.out)
                  have HM9 := Lib.hid ((HM7.out.via HDN.out).ext (G := begT es (g.rules.take (k + 1))) fun i j _ _ => (begP_cut HY.out HX.out HPR.out rfl hes i j).symm)
                  clear BX BS BH ce fe HDN HR7 HM7 HBX7 HBS7
                  generalize W8.drewN nq = W9 at *
                  go_wp2_with fail
                  exact ⟨⟨k + 1, by go_num, by omega, HR9, HM9⟩, by simp [intOf]; omega⟩
            · obtain rfl : p = sn := by omega
              have HRL := Lib.hid HSR.out.len
              go_wp2_with fail
              refine ⟨⟨k + 1, by go_num, by omega, HR5, Lib.hid (HM5.out.ext fun i j _ _ => ?_)⟩, by simp [intOf]; omega⟩
              exact (begP_end HY.out HPR.out (by rw [List.drop_of_length_le (by rw [HRL.out]; exact Nat.le_refl _)]; rfl) i j).symm
        · obtain rfl : ng = k := by omega
          have HMD := Lib.hid (HM.out.ext (G := wshF (begD g.rules) 0) fun i j _ _ => by
            rw [List.take_of_length_le (by rw [HLN.out]; exact Nat.le_refl _), begD_of HNU.out]; rfl)
          clear HM
          have Bg := HR1.out.hg
          simp only [gCells] at Bg
          have cBg := Bg.cell
          have fBg := Bg.frozen
          have lBg := Bg.lt
          go_wp2_with fail
          clear cBg fBg lBg
          clear Bg
          obtain ⟨D, hD⟩ : ∃ D, D = begD g.rules := ⟨_, rfl⟩
          have HD := Lib.hid hD
          rw [← hD] at HMD
          clear hD
          go_loopw [67] (fun a wr => ∃ k : Nat, a = .int .i64 k ∧ k ≤ g.nons ∧ Hid (LfR w g Ag ng cg bS be B L es wr) ∧ Hid (BMat wr B g.nons bs (wshF D k))) (fun a _ => g.nons - (intOf a).toNat)
          case atStart => exact ⟨0, rfl, Nat.zero_le _, HR1, HMD⟩
          case round =>
            obtain ⟨k, rfl, hk, HR, HM⟩ := hrel
            clear HR1 HMD
            by_cases hkn : k < g.nons
            · have k0 : (0 : Int) ≤ (k : Int) := by omega
              have k1 : (k : Int) < (g.nons : Int) := by omega
              have Bg := HR.out.hg
              simp only [gCells] at Bg
              have cBg := Bg.cell
              have fBg := Bg.frozen
              have lBg := Bg.lt
              go_wp2_with fail
              clear cBg fBg lBg
              clear Bg
              go_loopw [72] (fun a wr => ∃ i : Nat, a = .int .i64 i ∧ i ≤ g.nons ∧ Hid (LfR w g Ag ng cg bS be B L es wr) ∧ Hid (BMat wr B g.nons bs (wshA D k i 0))) (fun a _ => g.nons - (intOf a).toNat)
              case atStart => exact ⟨0, rfl, Nat.zero_le _, HR, Lib.hid (HM.out.ext fun i j _ _ => wshA_start k i j)⟩
              case round =>
                obtain ⟨i, rfl, hi, HR2, HM2⟩ := hrel
                clear HR HM
                by_cases hin : i < g.nons
                · have i0 : (0 : Int) ≤ (i : Int) := by omega
                  have i1 : (i : Int) < (g.nons : Int) := by omega
                  have Bg := HR2.out.hg
                  simp only [gCells] at Bg
                  have cBg := Bg.cell
                  have fBg := Bg.frozen
                  have lBg := Bg.lt
                  go_wp2_with fail
                  clear cBg fBg lBg
                  clear Bg
                  go_loopw [77] (fun a wr => ∃ j : Nat, a = .int .i64 j ∧ j ≤ g.nons ∧ Hid (LfR w g Ag ng cg bS be B L es wr) ∧ Hid (BMat wr B g.nons bs (wshA D k i j))) (fun a _ => g.nons - (intOf a).toNat)
                  case atStart => exact ⟨0, rfl, Nat.zero_le _, HR2, HM2⟩
                  case round =>
                    obtain ⟨j, rfl, hj, HR3, HM3⟩ := hrel
                    clear HR2 HM2
                    by_cases hjn : j < g.nons
                    · as_aux_lemma =>
                      have j0 : (0 : Int) ≤ (j : Int) := by omega
                      have j1 : (j : Int) < (g.nons : Int) := by omega
                      have hst : ∀ v, v = (wshA D k i j i j || (wshA D k i j i k && wshA D k i j k j)) → ∀ a b, (if a = i ∧ b = j then v else wshA D k i j a b) = wshA D k i (j + 1) a b := fun v hv a b => by rw [hv]; exact wshA_step
                      have HST := Lib.hid hst
                      clear hst
                      go_upto_region 28 with fail
                      have HDW := Lib.hid (Below.refl wr.heap.size wr).drew
                      replace HR3 := Lib.hid (HR3.out.via HDW.out)
                      replace HM3 := Lib.hid (HM3.out.via HDW.out)
                      clear HDW
                      have hHeld : wr.drew.cell? ⟨B, i, none⟩ = some (.slice (some ⟨bs i, 0, none⟩) g.nons g.nons) ∧ wr.drew.cell? ⟨B, k, none⟩ = some (.slice (some ⟨bs k, 0, none⟩) g.nons g.nons) ∧ wr.drew.cell? ⟨bs i, j, none⟩ = some (.bool (wshA D k i j i j)) ∧ wr.drew.cell? ⟨bs i, k, none⟩ = some (.bool (wshA D k i j i k)) ∧ wr.drew.cell? ⟨bs k, j, none⟩ = some (.bool (wshA D k i j k j)) :=
                        ⟨HM3.out.hd.cell hin, HM3.out.hd.cell hkn, (HM3.out.row i hin).cell hjn, (HM3.out.row i hin).cell hkn, (HM3.out.row k hkn).cell hjn⟩
                      obtain ⟨vij, hv1⟩ : ∃ v, v = wshA D k i j i j := ⟨_, rfl⟩
                      obtain ⟨vik, hv2⟩ : ∃ v, v = wshA D k i j i k := ⟨_, rfl⟩
                      obtain ⟨vkj, hv3⟩ : ∃ v, v = wshA D k i j k j := ⟨_, rfl⟩
                      rw [← hv1, ← hv2, ← hv3] at hHeld HST
                      clear hv1 hv2 hv3
                      refine wp_region_noPanic ?_
                      refine wp_region_L 31 (fun w' => w'.cell? ⟨B, i, none⟩ = some (.slice (some ⟨bs i, 0, none⟩) g.nons g.nons) ∧ w'.cell? ⟨B, k, none⟩ = some (.slice (some ⟨bs k, 0, none⟩) g.nons g.nons) ∧ w'.cell? ⟨bs i, j, none⟩ = some (.bool vij) ∧ w'.cell? ⟨bs i, k, none⟩ = some (.bool vik) ∧ w'.cell? ⟨bs k, j, none⟩ = some (.bool vkj)) (by kernel_rfl) ?_
                      generalize wr.drew = W7 at *
                      refine wpAnyL.take (i := 0) (d := some 80) (v := ?_) rfl (by kernel_rfl) (by kernel_rfl) (by kernel_rfl) (by kernel_rfl) rfl (fun _ _ _ h => h) (Or.inl ⟨by rfl, ?_⟩) (by assumption) ?_
                      rotate_left
                      · intro w hSw; (try dsimp only at hSw); go_simp; try with_reducible rfl
                      simp only [Act.put, List.setIfInBounds_toArray, List.set_cons_zero, List.set_cons_succ]
                      refine wpAnyL.take (i := 1) (d := some 81) (v := ?_) rfl (by kernel_rfl) (by kernel_rfl) (by kernel_rfl) (by kernel_rfl) rfl (fun _ _ _ h => h) (Or.inl ⟨by rfl, ?_⟩) (by assumption) ?_
                      rotate_left
                      · intro w hSw; (try dsimp only at hSw); go_simp; try with_reducible rfl
                      simp only [Act.put, List.setIfInBounds_toArray, List.set_cons_zero, List.set_cons_succ]
                      refine wpAnyL.take (i := 2) (d := some 82) (v := ?_) rfl (by kernel_rfl) (by kernel_rfl) (by kernel_rfl) (by kernel_rfl) rfl (fun _ _ _ h => h) (Or.inl ⟨by rfl, ?_⟩) (by assumption) ?_
                      rotate_left
                      · intro w hSw; (try dsimp only at hSw); go_simp; try with_reducible rfl
                      simp only [Act.put, List.setIfInBounds_toArray, List.set_cons_zero, List.set_cons_succ]
                      refine wpAnyL.take (i := 3) (d := some 83) (v := ?_) rfl (by kernel_rfl) (by kernel_rfl) (by kernel_rfl) (by kernel_rfl) rfl (fun _ _ _ h => h) (Or.inl ⟨by rfl, ?_⟩) (by assumption) ?_
                      rotate_left
                      · intro w hSw; (try dsimp only at hSw); go_simp; try with_reducible rfl
                      simp only [Act.put, List.setIfInBounds_toArray, List.set_cons_zero, List.set_cons_succ]
                      refine wpAnyL.take (i := 4) (d := some 84) (v := ?_) rfl (by kernel_rfl) (by kernel_rfl) (by kernel_rfl) (by kernel_rfl) rfl (fun _ _ _ h => h) (Or.inl ⟨by rfl, ?_⟩) (by assumption) ?_
                      rotate_left
                      · intro w hSw; (try dsimp only at hSw); go_simp; try with_reducible rfl
                      simp only [Act.put, List.setIfInBounds_toArray, List.set_cons_zero, List.set_cons_succ]
                      refine wpAnyL.take (i := 5) (d := some 85) (v := ?_) rfl (by kernel_rfl) (by kernel_rfl) (by kernel_rfl) (by kernel_rfl) rfl (fun _ _ _ h => h) (Or.inl ⟨by rfl, ?_⟩) (by assumption) ?_
                      rotate_left
                      · intro w hSw; (try dsimp only at hSw); go_simp; try with_reducible rfl
                      simp only [Act.put, List.setIfInBounds_toArray, List.set_cons_zero, List.set_cons_succ]
                      refine wpAnyL.take (i := 6) (d := some 86) (v := ?_) rfl (by kernel_rfl) (by kernel_rfl) (by kernel_rfl) (by kernel_rfl) rfl (fun _ _ _ h => h) (Or.inl ⟨by rfl, ?_⟩) (by assumption) ?_
                      rotate_left
                      · intro w hSw; (try dsimp only at hSw); go_simp; try with_reducible rfl
                      simp only [Act.put, List.setIfInBounds_toArray, List.set_cons_zero, List.set_cons_succ]
                      refine wpAnyL.take (i := 7) (d := some 87) (v := ?_) rfl (by kernel_rfl) (by kernel_rfl) (by kernel_rfl) (by kernel_rfl) rfl (fun _ _ _ h => h) (Or.inl ⟨by rfl, ?_⟩) (by assumption) ?_
                      rotate_left
                      · intro w hSw; (try dsimp only at hSw); go_simp; try with_reducible rfl
                      simp only [Act.put, List.setIfInBounds_toArray, List.set_cons_zero, List.set_cons_succ]
                      refine wpAnyL.take (i := 8) (d := some 88) (v := ?_) rfl (by kernel_rfl) (by kernel_rfl) (by kernel_rfl) (by kernel_rfl) rfl (fun _ _ _ h => h) (Or.inl ⟨by rfl, ?_⟩) (by assumption) ?_
                      rotate_left
                      · intro w hSw; (try dsimp only at hSw); go_simp; try with_reducible rfl
                      simp only [Act.put, List.setIfInBounds_toArray, List.set_cons_zero, List.set_cons_succ]
                      refine wpAnyL.take (i := 9) (d := some 89) (v := ?_) rfl (by kernel_rfl) (by kernel_rfl) (by kernel_rfl) (by kernel_rfl) rfl (fun _ _ _ h => h) (Or.inl ⟨by rfl, ?_⟩) (by assumption) ?_
                      rotate_left
                      · intro w hSw; (try dsimp only at hSw); go_simp; try with_reducible rfl
                      simp only [Act.put, List.setIfInBounds_toArray, List.set_cons_zero, List.set_cons_succ]
                      refine wpAnyL.take (i := 10) (d := some 90) (v := ?_) rfl (by kernel_rfl) (by kernel_rfl) (by kernel_rfl) (by kernel_rfl) rfl (fun _ _ _ h => h) (Or.inl ⟨by rfl, ?_⟩) (by assumption) ?_
                      rotate_left
                      · intro w hSw; (try dsimp only at hSw); go_simp; try with_reducible rfl
                      simp only [Act.put, List.setIfInBounds_toArray, List.set_cons_zero, List.set_cons_succ]
                      refine wpAnyL.take (i := 11) (d := some 91) (v := ?_) rfl (by kernel_rfl) (by kernel_rfl) (by kernel_rfl) (by kernel_rfl) rfl (fun _ _ _ h => h) (Or.inl ⟨by rfl, ?_⟩) (by assumption) ?_
                      rotate_left
                      · intro w hSw; (try dsimp only at hSw); go_simp; try with_reducible rfl
                      simp only [Act.put, List.setIfInBounds_toArray, List.set_cons_zero, List.set_cons_succ]
                      refine wpAnyL.take (i := 12) (d := some 92) (v := ?_) rfl (by kernel_rfl) (by kernel_rfl) (by kernel_rfl) (by kernel_rfl) rfl (fun _ _ _ h => h) (Or.inl ⟨by rfl, ?_⟩) (by assumption) ?_
                      rotate_left
                      · intro w hSw; (try dsimp only at hSw); go_simp; try with_reducible rfl
                      simp only [Act.put, List.setIfInBounds_toArray, List.set_cons_zero, List.set_cons_succ]
                      cases vij with
                      | true =>
                        refine wpAnyL.take (i := 13) (d := some 93) (v := undef) rfl (by kernel_rfl) (by kernel_rfl) (by kernel_rfl) (by kernel_rfl) rfl (fun _ _ _ h => h) (Or.inr ⟨by rfl, rfl⟩) (by assumption) ?_
                        simp only [Act.put, List.setIfInBounds_toArray, List.set_cons_zero, List.set_cons_succ]
                        refine wpAnyL.take (i := 14) (d := some 94) (v := undef) rfl (by kernel_rfl) (by kernel_rfl) (by kernel_rfl) (by kernel_rfl) rfl (fun _ _ _ h => h) (Or.inr ⟨by rfl, rfl⟩) (by assumption) ?_
                        simp only [Act.put, List.setIfInBounds_toArray, List.set_cons_zero, List.set_cons_succ]
                        refine wpAnyL.take (i := 15) (d := some 95) (v := undef) rfl (by kernel_rfl) (by kernel_rfl) (by kernel_rfl) (by kernel_rfl) rfl (fun _ _ _ h => h) (Or.inr ⟨by rfl, rfl⟩) (by assumption) ?_
                        simp only [Act.put, List.setIfInBounds_toArray, List.set_cons_zero, List.set_cons_succ]
                        refine wpAnyL.take (i := 16) (d := some 96) (v := undef) rfl (by kernel_rfl) (by kernel_rfl) (by kernel_rfl) (by kernel_rfl) rfl (fun _ _ _ h => h) (Or.inr ⟨by rfl, rfl⟩) (by assumption) ?_
                        simp only [Act.put, List.setIfInBounds_toArray, List.set_cons_zero, List.set_cons_succ]
                        refine wpAnyL.take (i := 17) (d := some 97) (v := undef) rfl (by kernel_rfl) (by kernel_rfl) (by kernel_rfl) (by kernel_rfl) rfl (fun _ _ _ h => h) (Or.inr ⟨by rfl, rfl⟩) (by assumption) ?_
                        simp only [Act.put, List.setIfInBounds_toArray, List.set_cons_zero, List.set_cons_succ]
                        refine wpAnyL.take (i := 18) (d := some 98) (v := undef) rfl (by kernel_rfl) (by kernel_rfl) (by kernel_rfl) (by kernel_rfl) rfl (fun _ _ _ h => h) (Or.inr ⟨by rfl, rfl⟩) (by assumption) ?_
                        simp only [Act.put, List.setIfInBounds_toArray, List.set_cons_zero, List.set_cons_succ]
                        refine wpAnyL.take (i := 19) (d := some 99) (v := undef) rfl (by kernel_rfl) (by kernel_rfl) (by kernel_rfl) (by kernel_rfl) rfl (fun _ _ _ h => h) (Or.inr ⟨by rfl, rfl⟩) (by assumption) ?_
                        simp only [Act.put, List.setIfInBounds_toArray, List.set_cons_zero, List.set_cons_succ]
                        refine wpAnyL.take (i := 20) (d := some 100) (v := undef) rfl (by kernel_rfl) (by kernel_rfl) (by kernel_rfl) (by kernel_rfl) rfl (fun _ _ _ h => h) (Or.inr ⟨by rfl, rfl⟩) (by assumption) ?_
                        simp only [Act.put, List.setIfInBounds_toArray, List.set_cons_zero, List.set_cons_succ]
                        refine wpAnyL.take (i := 21) (d := some 101) (v := undef) rfl (by kernel_rfl) (by kernel_rfl) (by kernel_rfl) (by kernel_rfl) rfl (fun _ _ _ h => h) (Or.inr ⟨by rfl, rfl⟩) (by assumption) ?_
                        simp only [Act.put, List.setIfInBounds_toArray, List.set_cons_zero, List.set_cons_succ]
                        refine wpAnyL.take (i := 22) (d := some 102) (v := undef) rfl (by kernel_rfl) (by kernel_rfl) (by kernel_rfl) (by kernel_rfl) rfl (fun _ _ _ h => h) (Or.inr ⟨by rfl, rfl⟩) (by assumption) ?_
                        simp only [Act.put, List.setIfInBounds_toArray, List.set_cons_zero, List.set_cons_succ]
                        refine wpAnyL.take (i := 23) (d := some 103) (v := undef) rfl (by kernel_rfl) (by kernel_rfl) (by kernel_rfl) (by kernel_rfl) rfl (fun _ _ _ h => h) (Or.inr ⟨by rfl, rfl⟩) (by assumption) ?_
                        simp only [Act.put, List.setIfInBounds_toArray, List.set_cons_zero, List.set_cons_succ]
                        refine wpAnyL.take (i := 24) (d := some 104) (v := undef) rfl (by kernel_rfl) (by kernel_rfl) (by kernel_rfl) (by kernel_rfl) rfl (fun _ _ _ h => h) (Or.inr ⟨by rfl, rfl⟩) (by assumption) ?_
                        simp only [Act.put, List.setIfInBounds_toArray, List.set_cons_zero, List.set_cons_succ]
                        refine wpAnyL.take (i := 25) (d := some 105) (v := undef) rfl (by kernel_rfl) (by kernel_rfl) (by kernel_rfl) (by kernel_rfl) rfl (fun _ _ _ h => h) (Or.inr ⟨by rfl, rfl⟩) (by assumption) ?_
                        simp only [Act.put, List.setIfInBounds_toArray, List.set_cons_zero, List.set_cons_succ]
                        refine wpAnyL.take (i := 26) (d := some 106) (v := undef) rfl (by kernel_rfl) (by kernel_rfl) (by kernel_rfl) (by kernel_rfl) rfl (fun _ _ _ h => h) (Or.inr ⟨by rfl, rfl⟩) (by assumption) ?_
                        simp only [Act.put, List.setIfInBounds_toArray, List.set_cons_zero, List.set_cons_succ]
                        refine wpAnyL.take (i := 27) (d := some 107) (v := undef) rfl (by kernel_rfl) (by kernel_rfl) (by kernel_rfl) (by kernel_rfl) rfl (fun _ _ _ h => h) (Or.inr ⟨by rfl, rfl⟩) (by assumption) ?_
                        simp only [Act.put, List.setIfInBounds_toArray, List.set_cons_zero, List.set_cons_succ]
                        refine wpAnyL.take (i := 28) (d := some 108) (v := undef) rfl (by kernel_rfl) (by kernel_rfl) (by kernel_rfl) (by kernel_rfl) rfl (fun _ _ _ h => h) (Or.inr ⟨by rfl, rfl⟩) (by assumption) ?_
                        simp only [Act.put, List.setIfInBounds_toArray, List.set_cons_zero, List.set_cons_succ]
                        refine wpAnyL.take (i := 29) (d := some 109) (v := ?_) rfl (by kernel_rfl) (by kernel_rfl) (by kernel_rfl) (by kernel_rfl) rfl (fun _ _ _ h => h) (Or.inl ⟨by rfl, ?_⟩) (by assumption) ?_
                        rotate_left
                        · intro w hSw; (try dsimp only at hSw); go_simp; try with_reducible rfl
                        simp only [Act.put, List.setIfInBounds_toArray, List.set_cons_zero, List.set_cons_succ]
                        refine wpAnyL.take (i := 30) (d := some 110) (v := ?_) rfl (by kernel_rfl) (by kernel_rfl) (by kernel_rfl) (by kernel_rfl) rfl (fun _ _ _ h => h) (Or.inl ⟨by rfl, ?_⟩) (by assumption) ?_
                        rotate_left
                        · intro w hSw; (try dsimp only at hSw); go_simp; try with_reducible rfl
                        simp only [Act.put, List.setIfInBounds_toArray, List.set_cons_zero, List.set_cons_succ]
                        refine wpAnyL.ready (rs := [31]) (by kernel_rfl) (by simp) ?_
                        refine AllL.cons rfl (fun K hK => ?_) AllL.nil
                        have HR4 := Lib.hid (HR3.out.far (i := j) (HBL.out i hin) (.bool true))
                        have HM4 := Lib.hid ((HM3.out.put hin hjn true).ext (G := wshA D k i (j + 1)) fun a b _ _ => (HST.out true (by simp) a b).symm)
                        have cw := (HM3.out.row i hin).cell hjn
                        have fw := (HM3.out.row i hin).frozen
                        go_simp
                        refine hK.out _ _ (fun h => absurd rfl h) ?_
                        clear hK K
                        refine wpAnyL.done (by kernel_rfl) ?_ _
                        refine NoPanic.normal ?_
                        clear HR3 HM3 cw fw hHeld
                        go_wp2_with fail
                        exact ⟨⟨j + 1, by go_num, by omega, HR4, HM4⟩, by simp [intOf]; omega⟩
                      | false =>
                        refine wpAnyL.take (i := 13) (d := some 93) (v := ?_) rfl (by kernel_rfl) (by kernel_rfl) (by kernel_rfl) (by kernel_rfl) rfl (fun _ _ _ h => h) (Or.inl ⟨by rfl, ?_⟩) (by assumption) ?_
                        rotate_left
                        · intro w hSw; (try dsimp only at hSw); go_simp; try with_reducible rfl
                        simp only [Act.put, List.setIfInBounds_toArray, List.set_cons_zero, List.set_cons_succ]
                        refine wpAnyL.take (i := 14) (d := some 94) (v := ?_) rfl (by kernel_rfl) (by kernel_rfl) (by kernel_rfl) (by kernel_rfl) rfl (fun _ _ _ h => h) (Or.inl ⟨by rfl, ?_⟩) (by assumption) ?_
                        rotate_left
                        · intro w hSw; (try dsimp only at hSw); go_simp; try with_reducible rfl
                        simp only [Act.put, List.setIfInBounds_toArray, List.set_cons_zero, List.set_cons_succ]
                        refine wpAnyL.take (i := 15) (d := some 95) (v := ?_) rfl (by kernel_rfl) (by kernel_rfl) (by kernel_rfl) (by kernel_rfl) rfl (fun _ _ _ h => h) (Or.inl ⟨by rfl, ?_⟩) (by assumption) ?_
                        rotate_left
                        · intro w hSw; (try dsimp only at hSw); go_simp; try with_reducible rfl
                        simp only [Act.put, List.setIfInBounds_toArray, List.set_cons_zero, List.set_cons_succ]
                        refine wpAnyL.take (i := 16) (d := some 96) (v := ?_) rfl (by kernel_rfl) (by kernel_rfl) (by kernel_rfl) (by kernel_rfl) rfl (fun _ _ _ h => h) (Or.inl ⟨by rfl, ?_⟩) (by assumption) ?_
                        rotate_left
                        · intro w hSw; (try dsimp only at hSw); go_simp; try with_reducible rfl
                        simp only [Act.put, List.setIfInBounds_toArray, List.set_cons_zero, List.set_cons_succ]
                        refine wpAnyL.take (i := 17) (d := some 97) (v := ?_) rfl (by kernel_rfl) (by kernel_rfl) (by kernel_rfl) (by kernel_rfl) rfl (fun _ _ _ h => h) (Or.inl ⟨by rfl, ?_⟩) (by assumption) ?_
                        rotate_left
                        · intro w hSw; (try dsimp only at hSw); go_simp; try with_reducible rfl
                        simp only [Act.put, List.setIfInBounds_toArray, List.set_cons_zero, List.set_cons_succ]
                        refine wpAnyL.take (i := 18) (d := some 98) (v := ?_) rfl (by kernel_rfl) (by kernel_rfl) (by kernel_rfl) (by kernel_rfl) rfl (fun _ _ _ h => h) (Or.inl ⟨by rfl, ?_⟩) (by assumption) ?_
                        rotate_left
                        · intro w hSw; (try dsimp only at hSw); go_simp; try with_reducible rfl
                        simp only [Act.put, List.setIfInBounds_toArray, List.set_cons_zero, List.set_cons_succ]
                        refine wpAnyL.take (i := 19) (d := some 99) (v := ?_) rfl (by kernel_rfl) (by kernel_rfl) (by kernel_rfl) (by kernel_rfl) rfl (fun _ _ _ h => h) (Or.inl ⟨by rfl, ?_⟩) (by assumption) ?_
                        rotate_left
                        · intro w hSw; (try dsimp only at hSw); go_simp; try with_reducible rfl
                        simp only [Act.put, List.setIfInBounds_toArray, List.set_cons_zero, List.set_cons_succ]
                        refine wpAnyL.take (i := 20) (d := some 100) (v := ?_) rfl (by kernel_rfl) (by kernel_rfl) (by kernel_rfl) (by kernel_rfl) rfl (fun _ _ _ h => h) (Or.inl ⟨by rfl, ?_⟩) (by assumption) ?_
                        rotate_left
                        · intro w hSw; (try dsimp only at hSw); go_simp; try with_reducible rfl
                        simp only [Act.put, List.setIfInBounds_toArray, List.set_cons_zero, List.set_cons_succ]
                        cases vik with
                        | false =>
                          refine wpAnyL.take (i := 21) (d := some 101) (v := undef) rfl (by kernel_rfl) (by kernel_rfl) (by kernel_rfl) (by kernel_rfl) rfl (fun _ _ _ h => h) (Or.inr ⟨by rfl, rfl⟩) (by assumption) ?_
                          simp only [Act.put, List.setIfInBounds_toArray, List.set_cons_zero, List.set_cons_succ]
                          refine wpAnyL.take (i := 22) (d := some 102) (v := undef) rfl (by kernel_rfl) (by kernel_rfl) (by kernel_rfl) (by kernel_rfl) rfl (fun _ _ _ h => h) (Or.inr ⟨by rfl, rfl⟩) (by assumption) ?_
                          simp only [Act.put, List.setIfInBounds_toArray, List.set_cons_zero, List.set_cons_succ]
                          refine wpAnyL.take (i := 23) (d := some 103) (v := undef) rfl (by kernel_rfl) (by kernel_rfl) (by kernel_rfl) (by kernel_rfl) rfl (fun _ _ _ h => h) (Or.inr ⟨by rfl, rfl⟩) (by assumption) ?_
                          simp only [Act.put, List.setIfInBounds_toArray, List.set_cons_zero, List.set_cons_succ]
                          refine wpAnyL.take (i := 24) (d := some 104) (v := undef) rfl (by kernel_rfl) (by kernel_rfl) (by kernel_rfl) (by kernel_rfl) rfl (fun _ _ _ h => h) (Or.inr ⟨by rfl, rfl⟩) (by assumption) ?_
                          simp only [Act.put, List.setIfInBounds_toArray, List.set_cons_zero, List.set_cons_succ]
                          refine wpAnyL.take (i := 25) (d := some 105) (v := undef) rfl (by kernel_rfl) (by kernel_rfl) (by kernel_rfl) (by kernel_rfl) rfl (fun _ _ _ h => h) (Or.inr ⟨by rfl, rfl⟩) (by assumption) ?_
                          simp only [Act.put, List.setIfInBounds_toArray, List.set_cons_zero, List.set_cons_succ]
                          refine wpAnyL.take (i := 26) (d := some 106) (v := undef) rfl (by kernel_rfl) (by kernel_rfl) (by kernel_rfl) (by kernel_rfl) rfl (fun _ _ _ h => h) (Or.inr ⟨by rfl, rfl⟩) (by assumption) ?_
                          simp only [Act.put, List.setIfInBounds_toArray, List.set_cons_zero, List.set_cons_succ]
                          refine wpAnyL.take (i := 27) (d := some 107) (v := undef) rfl (by kernel_rfl) (by kernel_rfl) (by kernel_rfl) (by kernel_rfl) rfl (fun _ _ _ h => h) (Or.inr ⟨by rfl, rfl⟩) (by assumption) ?_
                          simp only [Act.put, List.setIfInBounds_toArray, List.set_cons_zero, List.set_cons_succ]
                          refine wpAnyL.take (i := 28) (d := some 108) (v := ?_) rfl (by kernel_rfl) (by kernel_rfl) (by kernel_rfl) (by kernel_rfl) rfl (fun _ _ _ h => h) (Or.inl ⟨by rfl, ?_⟩) (by assumption) ?_
                          rotate_left
                          · intro w hSw; (try dsimp only at hSw); go_simp; try with_reducible rfl
                          simp only [Act.put, List.setIfInBounds_toArray, List.set_cons_zero, List.set_cons_succ]
                          refine wpAnyL.take (i := 29) (d := some 109) (v := ?_) rfl (by kernel_rfl) (by kernel_rfl) (by kernel_rfl) (by kernel_rfl) rfl (fun _ _ _ h => h) (Or.inl ⟨by rfl, ?_⟩) (by assumption) ?_
                          rotate_left
                          · intro w hSw; (try dsimp only at hSw); go_simp; try with_reducible rfl
                          simp only [Act.put, List.setIfInBounds_toArray, List.set_cons_zero, List.set_cons_succ]
                          refine wpAnyL.take (i := 30) (d := some 110) (v := ?_) rfl (by kernel_rfl) (by kernel_rfl) (by kernel_rfl) (by kernel_rfl) rfl (fun _ _ _ h => h) (Or.inl ⟨by rfl, ?_⟩) (by assumption) ?_
                          rotate_left
                          · intro w hSw; (try dsimp only at hSw); go_simp; try with_reducible rfl
                          simp only [Act.put, List.setIfInBounds_toArray, List.set_cons_zero, List.set_cons_succ]
                          refine wpAnyL.ready (rs := [31]) (by kernel_rfl) (by simp) ?_
                          refine AllL.cons rfl (fun K hK => ?_) AllL.nil
                          have HR4 := Lib.hid (HR3.out.far (i := j) (HBL.out i hin) (.bool false))
                          have HM4 := Lib.hid ((HM3.out.put hin hjn false).ext (G := wshA D k i (j + 1)) fun a b _ _ => (HST.out false (by simp) a b).symm)
                          have cw := (HM3.out.row i hin).cell hjn
                          have fw := (HM3.out.row i hin).frozen
                          go_simp
                          refine hK.out _ _ (fun h => absurd rfl h) ?_
                          clear hK K
                          refine wpAnyL.done (by kernel_rfl) ?_ _
                          refine NoPanic.normal ?_
                          clear HR3 HM3 cw fw hHeld
                          go_wp2_with fail
                          exact ⟨⟨j + 1, by go_num, by omega, HR4, HM4⟩, by simp [intOf]; omega⟩
                        | true =>
                          refine wpAnyL.take (i := 21) (d := some 101) (v := ?_) rfl (by kernel_rfl) (by kernel_rfl) (by kernel_rfl) (by kernel_rfl) rfl (fun _ _ _ h => h) (Or.inl ⟨by rfl, ?_⟩) (by assumption) ?_
                          rotate_left
                          · intro w hSw; (try dsimp only at hSw); go_simp; try with_reducible rfl
                          simp only [Act.put, List.setIfInBounds_toArray, List.set_cons_zero, List.set_cons_succ]
                          refine wpAnyL.take (i := 22) (d := some 102) (v := ?_) rfl (by kernel_rfl) (by kernel_rfl) (by kernel_rfl) (by kernel_rfl) rfl (fun _ _ _ h => h) (Or.inl ⟨by rfl, ?_⟩) (by assumption) ?_
                          rotate_left
                          · intro w hSw; (try dsimp only at hSw); go_simp; try with_reducible rfl
                          simp only [Act.put, List.setIfInBounds_toArray, List.set_cons_zero, List.set_cons_succ]
                          refine wpAnyL.take (i := 23) (d := some 103) (v := ?_) rfl (by kernel_rfl) (by kernel_rfl) (by kernel_rfl) (by kernel_rfl) rfl (fun _ _ _ h => h) (Or.inl ⟨by rfl, ?_⟩) (by assumption) ?_
                          rotate_left
                          · intro w hSw; (try dsimp only at hSw); go_simp; try with_reducible rfl
                          simp only [Act.put, List.setIfInBounds_toArray, List.set_cons_zero, List.set_cons_succ]
                          refine wpAnyL.take (i := 24) (d := some 104) (v := ?_) rfl (by kernel_rfl) (by kernel_rfl) (by kernel_rfl) (by kernel_rfl) rfl (fun _ _ _ h => h) (Or.inl ⟨by rfl, ?_⟩) (by assumption) ?_
                          rotate_left
                          · intro w hSw; (try dsimp only at hSw); go_simp; try with_reducible rfl
                          simp only [Act.put, List.setIfInBounds_toArray, List.set_cons_zero, List.set_cons_succ]
                          refine wpAnyL.take (i := 25) (d := some 105) (v := ?_) rfl (by kernel_rfl) (by kernel_rfl) (by kernel_rfl) (by kernel_rfl) rfl (fun _ _ _ h => h) (Or.inl ⟨by rfl, ?_⟩) (by assumption) ?_
                          rotate_left
                          · intro w hSw; (try dsimp only at hSw); go_simp; try with_reducible rfl
                          simp only [Act.put, List.setIfInBounds_toArray, List.set_cons_zero, List.set_cons_succ]
                          refine wpAnyL.take (i := 26) (d := some 106) (v := ?_) rfl (by kernel_rfl) (by kernel_rfl) (by kernel_rfl) (by kernel_rfl) rfl (fun _ _ _ h => h) (Or.inl ⟨by rfl, ?_⟩) (by assumption) ?_
                          rotate_left
                          · intro w hSw; (try dsimp only at hSw); go_simp; try with_reducible rfl
                          simp only [Act.put, List.setIfInBounds_toArray, List.set_cons_zero, List.set_cons_succ]
                          refine wpAnyL.take (i := 27) (d := some 107) (v := ?_) rfl (by kernel_rfl) (by kernel_rfl) (by kernel_rfl) (by kernel_rfl) rfl (fun _ _ _ h => h) (Or.inl ⟨by rfl, ?_⟩) (by assumption) ?_
                          rotate_left
                          · intro w hSw; (try dsimp only at hSw); go_simp; try with_reducible rfl
                          simp only [Act.put, List.setIfInBounds_toArray, List.set_cons_zero, List.set_cons_succ]
                          refine wpAnyL.take (i := 28) (d := some 108) (v := ?_) rfl (by kernel_rfl) (by kernel_rfl) (by kernel_rfl) (by kernel_rfl) rfl (fun _ _ _ h => h) (Or.inl ⟨by rfl, ?_⟩) (by assumption) ?_
                          rotate_left
                          · intro w hSw; (try dsimp only at hSw); go_simp; try with_reducible rfl
                          simp only [Act.put, List.setIfInBounds_toArray, List.set_cons_zero, List.set_cons_succ]
                          refine wpAnyL.take (i := 29) (d := some 109) (v := ?_) rfl (by kernel_rfl) (by kernel_rfl) (by kernel_rfl) (by kernel_rfl) rfl (fun _ _ _ h => h) (Or.inl ⟨by rfl, ?_⟩) (by assumption) ?_
                          rotate_left
                          · intro w hSw; (try dsimp only at hSw); go_simp; try with_reducible rfl
                          simp only [Act.put, List.setIfInBounds_toArray, List.set_cons_zero, List.set_cons_succ]
                          refine wpAnyL.take (i := 30) (d := some 110) (v := ?_) rfl (by kernel_rfl) (by kernel_rfl) (by kernel_rfl) (by kernel_rfl) rfl (fun _ _ _ h => h) (Or.inl ⟨by rfl, ?_⟩) (by assumption) ?_
                          rotate_left
                          · intro w hSw; (try dsimp only at hSw); go_simp; try with_reducible rfl
                          simp only [Act.put, List.setIfInBounds_toArray, List.set_cons_zero, List.set_cons_succ]
                          refine wpAnyL.ready (rs := [31]) (by kernel_rfl) (by simp) ?_
                          refine AllL.cons rfl (fun K hK => ?_) AllL.nil
                          have HR4 := Lib.hid (HR3.out.far (i := j) (HBL.out i hin) (.bool vkj))
                          have HM4 := Lib.hid ((HM3.out.put hin hjn vkj).ext (G := wshA D k i (j + 1)) fun a b _ _ => (HST.out vkj (by simp) a b).symm)
                          have cw := (HM3.out.row i hin).cell hjn
                          have fw := (HM3.out.row i hin).frozen
                          go_simp
                          refine hK.out _ _ (fun h => absurd rfl h) ?_
                          clear hK K
                          refine wpAnyL.done (by kernel_rfl) ?_ _
                          refine NoPanic.normal ?_
                          clear HR3 HM3 cw fw hHeld
                          go_wp2_with fail
                          exact ⟨⟨j + 1, by go_num, by omega, HR4, HM4⟩, by simp [intOf]; omega⟩
                    · obtain rfl : j = g.nons := by omega
                      go_wp2_with fail
                      exact ⟨⟨i + 1, by go_num, by omega, HR3, Lib.hid (HM3.out.ext fun a b _ hb => (wshA_row k i g.nons a b hb).symm)⟩, by simp [intOf]; omega⟩
                · obtain rfl : i = g.nons := by omega
                  go_wp2_with fail
                  exact ⟨⟨k + 1, by go_num, by omega, HR2, Lib.hid (HM2.out.ext fun a b ha _ => (wshA_end k g.nons a b ha).symm)⟩, by simp [intOf]; omega⟩
            · obtain rfl : k = g.nons := by omega
              go_wp2_with fail
              go_ret
              exact ⟨B, bs, rfl, by rw [← HD.out]; exact HM.out, HR.out.bel⟩
end Go.Proofs.YtfmnmgnhanogmaaDoor

