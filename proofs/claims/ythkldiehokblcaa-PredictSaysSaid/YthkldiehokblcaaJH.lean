/- Texts JH, laid together. -/
import Derived.Test.YthkldiehokblcaaJG
import Derived.StillTailTactics



namespace Go.Proofs.Ythkldiehokblcaa
open Go.RowKit

/-- the first n cells of block b -/
def HRow (w : World) (b n : Nat) (t : TypeId) (v : Nat → Value) : Prop := ∃ cs, Blk w b t cs ∧ ∀ j, j < n → cs[j]? = some (v j)
section
variable {w w' : World} {b n : Nat} {t : TypeId} {v : Nat → Value}
theorem HRow.cell (h : HRow w b n t v) {j : Nat} (hj : j < n) : w.cell? ⟨b, j, none⟩ = some (v j) := by
  obtain ⟨cs, h1, h2⟩ := h
  exact (h1.cell j).trans (h2 j hj)
theorem HRow.frozen (h : HRow w b n t v) (j : Nat) : w.frozen? ⟨b, j, none⟩ = false := by
  obtain ⟨cs, h1, h2⟩ := h
  exact h1.frozen j
theorem HRow.lt (h : HRow w b n t v) : b < w.heap.size := by obtain ⟨cs, h1, h2⟩ := h; exact h1.lt
theorem HRow.via (h : HRow w b n t v) (k : Below w.heap.size w w') : HRow w' b n t v := by obtain ⟨cs, h1, h2⟩ := h; exact ⟨cs, h1.via k, h2⟩
theorem HRow.grown {row : Option Nat} (h : HRow w b n t v) (k : w.grownBy w' row) (hr : some b ≠ row) : HRow w' b n t v := by obtain ⟨cs, h1, h2⟩ := h; exact ⟨cs, h1.grown k hr, h2⟩
end
/-- where the parts of a Sets lie -/
structure FsL where
  bS : Nat
  Ag : Option Addr
  ng : Nat
  cg : Nat
  be : Nat
  hb : Nat
  hc : Nat
  bs : Nat → Nat
def FsL.cells (L : FsL) (g : Gr) : Array Value := #[.int .i64 (g.terms : Int), .int .i64 (g.nons : Int), .int .i64 (g.start : Int), .slice L.Ag L.ng L.cg, .slice (some ⟨L.be, 0, none⟩) g.nons g.nons, .slice (some ⟨L.hb, 0, none⟩) g.nons L.hc]
structure FS (w : World) (g : Gr) (L : FsL) (es : Nat → Bool) (fs : Nat → Nat → Bool) : Prop where
  hdr : Blk w L.bS 109 (L.cells g)
  em : BRow w L.be g.nons es
  hd : HRow w L.hb g.nons 59 fun i => .slice (some ⟨L.bs i, 0, none⟩) g.terms g.terms
  row : ∀ i, i < g.nons → BRow w (L.bs i) g.terms (fs i)
  ap : ∀ i j, i < g.nons → j < g.nons → i ≠ j → L.bs i ≠ L.bs j
  f1 : ∀ i, i < g.nons → L.bs i ≠ L.bS ∧ L.bs i ≠ L.be ∧ L.bs i ≠ L.hb
  f2 : L.be ≠ L.bS ∧ L.be ≠ L.hb ∧ L.hb ≠ L.bS
theorem FS.via {w w' : World} {g : Gr} {L : FsL} {es : Nat → Bool} {fs : Nat → Nat → Bool} (h : FS w g L es fs) (k : Below w.heap.size w w') : FS w' g L es fs :=
  ⟨h.hdr.via k, h.em.via k, h.hd.via k, fun i hi => (h.row i hi).via k, h.ap, h.f1, h.f2⟩
def OfP (w : World) (n : Nat) (f : Nat → Bool) (b : Bool) (e : Ending) (w' : World) : Prop :=
  ∃ o, e = .returned (.tuple #[.slice (some ⟨o, 0, none⟩) n n, .bool b]) ∧ BRow w' o n f ∧ w.heap.size ≤ o ∧ Below w.heap.size w w'
theorem bool_info : (Try.prog.info? 4).map (fun i => (i.zero, i.size, i.bytes)) = some (some (.bool false), 1, 1) := by kernel_rfl
theorem mk_bools (n : Nat) (hn : n ≤ 1000000) : ∀ w : World, (Instr.makeSlice 59 (.int .i64 (n : Int)) (.int .i64 (n : Int))).run Try.prog w = .ok (.slice (some ⟨w.heap.size, 0, none⟩) n n) (w.alloc (.cells (mkCells (.bool false) n) 4)) := by
  intro w
  obtain ⟨i, hi, hz, hs, hb⟩ := info_parts bool_info
  have := run_make (P := Try.prog) w 59 4 i _ Try.underlying59 hi hz .i64 .i64 (n : Int) (n : Int) (by omega) (by omega) (by rw [hb]; omega) (by omega)
  rw [show ((n : Int)).toNat = n from by omega, hs, Nat.mul_one] at this
  exact this
theorem made_one (z : Value) (n : Nat) : madeCells #[z] n = Array.replicate n z := by
  apply Array.ext_getElem?
  intro i
  unfold madeCells
  rw [Array.getElem?_map, Array.getElem?_range]
  by_cases h : i < n
  · rw [if_pos h]; simp [h, Nat.mod_one]
  · rw [if_neg h]; simp [h]
theorem bel_grow {B b : Nat} {a w w' : World} (h : Below B a w) (k : w.grownBy w' (some b)) (hB : B ≤ b) (hs : B ≤ w.heap.size) : Below B a w' :=
  ⟨k.os.trans h.os, k.tape.trans h.tape, k.output.trans h.output, Nat.le_trans h.size k.size, fun i hi => (k.block i (by omega) (fun e => by have := Option.some.inj e; omega)).trans (h.block i hi)⟩
theorem BRow.new (w : World) (n : Nat) : BRow (w.alloc (.cells (mkCells (.bool false) n) 4)) w.heap.size n (fun _ => false) :=
  ⟨_, Blk.new w _ _, by unfold mkCells; rw [made_one]; simp, fun j hj => by unfold mkCells; rw [made_one]; simp [hj]⟩
theorem ofB_non {es : Nat → Bool} {fs : Nat → Nat → Bool} {M t : Nat} {l : List Sy} : ofB es fs ((false, M) :: l) t = (fs M t || (es M && ofB es fs l t)) := rfl
theorem drop_at {α : Type} {l : List α} {i : Nat} (hi : i < l.length) : ∃ x, l[i]? = some x ∧ l.drop i = x :: l.drop (i + 1) :=
  ⟨l[i], List.getElem?_eq_getElem hi, List.drop_eq_getElem_cons hi⟩
set_option maxRecDepth 100000 in
set_option maxHeartbeats 4000000 in
theorem of_c (w : World) (g : Gr) (hg : GrOk g) (L : FsL) (es : Nat → Bool) (fs : Nat → Nat → Bool) (ok : Nat → Prop) (A : Option Addr) (n c : Nat) (l : List Sy) (h : FS w g L es fs) (hl : Sl SyE ok w A n c l) (hn : n ≤ 4) (hok : ∀ s ∈ l, g.okSy s) :
    Calls Try.prog 39 #[.pointer (some ⟨L.bS, 0, none⟩), .slice A n c] w (OfP w g.terms (ofB es fs l) (ofE es l)) := by
  have hlen := hl.len
  have ht8 := hg.ok.terms.2
  have ht1 := hg.ok.terms.1
  have hn10 := hg.ok.nons.2
  have HF := Lib.hid h
  have HL := Lib.hid hl
  have HOK := Lib.hid hok
  have cS := h.hdr.cell
  have fS := h.hdr.frozen
  simp only [FsL.cells] at cS
  have c0 := cS 0
  clear h hl hok cS
  have hmb := mk_bools g.terms (by omega)
  have BN := Lib.hid (BRow.new w g.terms)
  have HB0 := Lib.hid ((Below.refl w.heap.size w).al (.cells (mkCells (.bool false) g.terms) 4))
  go_enter Try.func39, Try.ntmps39
  go_wp2_with fail
  clear hmb c0 fS
  have hs1 : w.heap.size < (w.alloc (.cells (mkCells (.bool false) g.terms) 4)).heap.size := by simp
  generalize w.alloc (.cells (mkCells (.bool false) g.terms) 4) = W at *
  go_loopw [17] (fun a wr => ∃ (i : Nat) (f : Nat → Bool), a = .int .i64 i ∧ i ≤ n ∧ Hid (BRow wr w.heap.size g.terms f) ∧ Hid (Below w.heap.size w wr) ∧ Hid ((∀ t, t < g.terms → (f t || ofB es fs (l.drop i) t) = ofB es fs l t) ∧ ofE es (l.drop i) = ofE es l)) (fun a _ => n - (intOf a).toNat)
  case atStart => exact ⟨0, _, rfl, Nat.zero_le _, BN, HB0, Lib.hid ⟨fun t _ => by simp, rfl⟩⟩
  case round =>
    obtain ⟨i, f, rfl, hi, HB, HW, HE⟩ := hrel
    by_cases hin : i < n
    · obtain ⟨b1, o1, ⟨xb, xn⟩, x', rfl, -, hb1, hx, hxr, hc⟩ := (HL.out.via HW.out).at_ hin
      obtain rfl : (xb, xn) = x' := hxr
      have x0 := hc 0 _ rfl
      have x1 := hc 1 _ rfl
      simp only [SyE, Nat.add_zero] at x0 x1
      have hdr : l.drop i = (xb, xn) :: l.drop (i + 1) := by
        obtain ⟨y, hy, hd⟩ := drop_at (l := l) (i := i) (by omega)
        rw [hx] at hy; cases hy; exact hd
      have hoks := HOK.out _ (List.mem_of_getElem? hx)
      have i0 : (0 : Int) ≤ (i : Int) := by omega
      have i1 : (i : Int) < (n : Int) := by omega
      have HX := Lib.hid hx
      have HDR := Lib.hid hdr
      have hal := (Below.refl wr.heap.size wr).al (.cells #[.bool xb, .int .i64 (xn : Int)] 68)
      have BX := Blk.new wr 68 #[.bool xb, .int .i64 (xn : Int)]
      have HB4 := Lib.hid (HB.out.via hal)
      have hwl : w.heap.size ≤ wr.heap.size := HW.out.size
      have hwl2 : w.heap.size < wr.heap.size := HB.out.lt
      have HW4 := Lib.hid (HW.out.trans (hal.mono hwl))
      clear hc hx hdr hb1 hal
      go_upto_region 5 with fail
      clear x0 x1
      have hbx : wr.heap.size < (wr.alloc (.cells #[.bool xb, .int .i64 (xn : Int)] 68)).heap.size := by simp
      generalize wr.alloc (.cells #[.bool xb, .int .i64 (xn : Int)] 68) = W4 at *
      generalize wr.heap.size = bx at *
      cases xb with
      | true =>
        have hxt : xn < g.terms := by simpa [Gr.okSy] using hoks
        have t0 : (0 : Int) ≤ (xn : Int) := by omega
        have t1 : (xn : Int) < (g.terms : Int) := by omega
        have fB := HB4.out.frozen
        have cB := HB4.out.cell hxt
        have cBX := BX.cell
        have fBX := BX.frozen
        have lBX := BX.lt
        go_wp2_with fail
        go_ret2
        refine ⟨w.heap.size, ?_, (HB4.out.set hxt).ext fun t htt => ?_, Nat.le_refl _, HW4.out.setCell (by simp) _⟩
        · obtain ⟨-, e2⟩ := HE.out
          rw [HDR.out] at e2
          rw [← e2]; rfl
        · obtain ⟨e1, -⟩ := HE.out
          rw [← e1 t htt, HDR.out]
          by_cases e : t = xn
          · simp [ofB, e]
          · simp [ofB, e]
      | false =>
        have hxt : xn < g.nons := by simpa [Gr.okSy] using hoks
        have t0 : (0 : Int) ≤ (xn : Int) := by omega
        have t1 : (xn : Int) < (g.nons : Int) := by omega
        have HF4 := Lib.hid ((HF.out.via (HW4.out.mono (Nat.le_refl _))))
        have BH := HF4.out.hdr
        simp only [FsL.cells] at BH
        have ch := HF4.out.hd.cell hxt
        have fh := HF4.out.hd.frozen
        have hbl : L.bs xn < w.heap.size := (HF.out.row xn hxt).lt
        have cBX := BX.cell
        have fBX := BX.frozen
        have lBX := BX.lt
        have cBH := BH.cell
        have fBH := BH.frozen
        have lBH := BH.lt
        go_upto_region 8 with fail
        go_still_tail 9, (by kernel_rfl)
        clear cBX fBX lBX cBH fBH lBH
        clear BH ch fh
        have HDW := Lib.hid (Below.refl W4.heap.size W4).drew
        change wpList _ _ _ _ _ W4.drew
        generalize W4.drew = W5 at *
        have h45 : W4.heap.size ≤ W5.heap.size := HDW.out.size
        have HF5 := Lib.hid (HF4.out.via HDW.out)
        have HB5 := Lib.hid (HB4.out.via HDW.out)
        have HW5 := Lib.hid (HW4.out.trans (HDW.out.mono (by omega)))
        replace BX := BX.via HDW.out
        go_wp2_with fail
        refine (union_c W5 w.heap.size g.terms g.terms f (fs xn) (L.bs xn) g.terms g.terms HB5.out (HF5.out.row xn hxt) (Nat.le_refl _) (by omega) (fun e => by omega)).mono ?_
        rintro e w8 ⟨rfl, hb8, hgr⟩
        have HB8 := Lib.hid hb8
        have HW8 := Lib.hid (bel_grow HW5.out hgr (Nat.le_refl _) (by omega))
        have HF8 := Lib.hid (HF.out.via HW8.out)
        replace BX := BX.grown hgr (fun e => by have := Option.some.inj e; omega)
        have BH := HF8.out.hdr
        simp only [FsL.cells] at BH
        have ce := HF8.out.em.cell hxt
        have fe := HF8.out.em.frozen
        clear hb8 hgr
        have cBX := BX.cell
        have fBX := BX.frozen
        have lBX := BX.lt
        have cBH := BH.cell
        have fBH := BH.frozen
        have lBH := BH.lt
        go_upto_region 9 with fail
        go_quiet (fail)
        clear cBX fBX lBX cBH fBH lBH
        have HDN := Lib.hid (below_drewN (Below.refl w8.heap.size w8) nq)
        have HB9 := Lib.hid (HB8.out.via HDN.out)
        have HW9 := Lib.hid (HW8.out.trans (HDN.out.mono (Nat.le_of_lt HB8.out.lt)))
        clear BX BH ce fe
        generalize w8.drewN nq = W9 at *
        cases hes : es xn with
        | false =>
          go_wp2_with fail
          go_ret2
          obtain ⟨e1, e2⟩ := HE.out
          rw [HDR.out] at e1 e2
          exact ⟨w.heap.size, by rw [← e2]; simp [ofE, hes], HB9.out.ext fun t htt => by rw [← e1 t htt, ofB_non, hes]; simp [uni, htt], Nat.le_refl _, HW9.out⟩
        | true =>
          go_wp2_with fail
          obtain ⟨e1, e2⟩ := HE.out
          rw [HDR.out] at e1 e2
          exact ⟨⟨i + 1, _, by go_num, by omega, HB9, HW9, Lib.hid ⟨fun t htt => by rw [← e1 t htt, ofB_non, hes]; simp [uni, htt, Bool.or_assoc], by rw [← e2]; simp [ofE, hes]⟩⟩, by simp [intOf]; omega⟩
    · obtain rfl : i = n := by omega
      have hd : l.drop i = [] := by rw [List.drop_eq_nil_iff]; omega
      obtain ⟨e1, e2⟩ := HE.out
      rw [hd] at e1 e2
      go_wp2_with fail
      go_ret2
      exact ⟨w.heap.size, by rw [← e2]; rfl, HB.out.ext fun t htt => by rw [← e1 t htt]; simp [ofB], Nat.le_refl _, HW.out⟩
end Go.Proofs.Ythkldiehokblcaa

