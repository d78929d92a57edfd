/- Texts JH, JI, JK, JM, laid together. -/
import Derived.Test.YtfmnmgnhanogmaaDoorQ12
import Derived.Test.YtfmnmgnhanogmaaDoorQ10
import Derived.StillTailTactics



namespace Go.Proofs.YtfmnmgnhanogmaaDoor
open Go.RowKit

/-- the first n cells of block b -/
def HRow (w : World) (b n : Nat) (t : TypeId) (v : Nat → Value) : Prop := ∃ cs, Blk w b t cs ∧ ∀ j, j < n → cs[j]? = some (v j)
section
variable {w w' : World} {b n : Nat} {t : TypeId} {v : Nat → Value}
theorem HRow.cell (h : HRow w b n t v) {j : Nat} (hj : j < n) : w.cell? ⟨b, j, none⟩ = some (v j) := by
  obtain ⟨cs, h1, h2⟩ := h
  exact (h1.cell j).trans (h2 j hj)
theorem HRow.frozen (h : HRow w b n t v) (j : Nat) : w.frozen? ⟨b, j, none⟩ = false := by
  obtain ⟨cs, h1, h2⟩ := h
  exact h1.frozen j
theorem HRow.lt (h : HRow w b n t v) : b < w.heap.size := by obtain ⟨cs, h1, h2⟩ := h; exact h1.lt
theorem HRow.via (h : HRow w b n t v) (k : Below w.heap.size w w') : HRow w' b n t v := by obtain ⟨cs, h1, h2⟩ := h; exact ⟨cs, h1.via k, h2⟩
theorem HRow.grown {row : Option Nat} (h : HRow w b n t v) (k : w.grownBy w' row) (hr : some b ≠ row) : HRow w' b n t v := by obtain ⟨cs, h1, h2⟩ := h; exact ⟨cs, h1.grown k hr, h2⟩
end
/-- where the parts of a Sets lie -/
structure FsL where
  bS : Nat
  Ag : Option Addr
  ng : Nat
  cg : Nat
  be : Nat
  hb : Nat
  hc : Nat
  bs : Nat → Nat
def FsL.cells (L : FsL) (g : Gr) : Array Value := #[.int .i64 (g.terms : Int), .int .i64 (g.nons : Int), .int .i64 (g.start : Int), .slice L.Ag L.ng L.cg, .slice (some ⟨L.be, 0, none⟩) g.nons g.nons, .slice (some ⟨L.hb, 0, none⟩) g.nons L.hc]
structure FS (w : World) (g : Gr) (L : FsL) (es : Nat → Bool) (fs : Nat → Nat → Bool) : Prop where
  hdr : Blk w L.bS 115 (L.cells g)
  em : BRow w L.be g.nons es
  hd : HRow w L.hb g.nons 59 fun i => .slice (some ⟨L.bs i, 0, none⟩) g.terms g.terms
  row : ∀ i, i < g.nons → BRow w (L.bs i) g.terms (fs i)
  ap : ∀ i j, i < g.nons → j < g.nons → i ≠ j → L.bs i ≠ L.bs j
  f1 : ∀ i, i < g.nons → L.bs i ≠ L.bS ∧ L.bs i ≠ L.be ∧ L.bs i ≠ L.hb
  f2 : L.be ≠ L.bS ∧ L.be ≠ L.hb ∧ L.hb ≠ L.bS
theorem FS.via {w w' : World} {g : Gr} {L : FsL} {es : Nat → Bool} {fs : Nat → Nat → Bool} (h : FS w g L es fs) (k : Below w.heap.size w w') : FS w' g L es fs :=
  ⟨h.hdr.via k, h.em.via k, h.hd.via k, fun i hi => (h.row i hi).via k, h.ap, h.f1, h.f2⟩
def OfP (w : World) (n : Nat) (f : Nat → Bool) (b : Bool) (e : Ending) (w' : World) : Prop :=
  ∃ o, e = .returned (.tuple #[.slice (some ⟨o, 0, none⟩) n n, .bool b]) ∧ BRow w' o n f ∧ w.heap.size ≤ o ∧ Below w.heap.size w w'
theorem bool_info : (Tryd.prog.info? 4).map (fun i => (i.zero, i.size, i.bytes)) = some (some (.bool false), 1, 1) := by kernel_rfl
theorem mk_bools (n : Nat) (hn : n ≤ 1000000) : ∀ w : World, (Instr.makeSlice 59 (.int .i64 (n : Int)) (.int .i64 (n : Int))).run Tryd.prog w = .ok (.slice (some ⟨w.heap.size, 0, none⟩) n n) (w.alloc (.cells (mkCells (.bool false) n) 4)) := by
  intro w
  obtain ⟨i, hi, hz, hs, hb⟩ := info_parts bool_info
  have := run_make (P := Tryd.prog) w 59 4 i _ Tryd.underlying59 hi hz .i64 .i64 (n : Int) (n : Int) (by omega) (by omega) (by rw [hb]; omega) (by omega)
  rw [show ((n : Int)).toNat = n from by omega, hs, Nat.mul_one] at this
  exact this
theorem made_one (z : Value) (n : Nat) : madeCells #[z] n = Array.replicate n z := by
  apply Array.ext_getElem?
  intro i
  unfold madeCells
  rw [Array.getElem?_map, Array.getElem?_range]
  by_cases h : i < n
  · rw [if_pos h]; simp [h, Nat.mod_one]
  · rw [if_neg h]; simp [h]
theorem bel_grow {B b : Nat} {a w w' : World} (h : Below B a w) (k : w.grownBy w' (some b)) (hB : B ≤ b) (hs : B ≤ w.heap.size) : Below B a w' :=
  ⟨k.os.trans h.os, k.tape.trans h.tape, k.output.trans h.output, Nat.le_trans h.size k.size, fun i hi => (k.block i (by omega) (fun e => by have := Option.some.inj e; omega)).trans (h.block i hi)⟩
theorem BRow.new (w : World) (n : Nat) : BRow (w.alloc (.cells (mkCells (.bool false) n) 4)) w.heap.size n (fun _ => false) :=
  ⟨_, Blk.new w _ _, by unfold mkCells; rw [made_one]; simp, fun j hj => by unfold mkCells; rw [made_one]; simp [hj]⟩
theorem ofB_non {es : Nat → Bool} {fs : Nat → Nat → Bool} {M t : Nat} {l : List Sy} : ofB es fs ((false, M) :: l) t = (fs M t || (es M && ofB es fs l t)) := rfl
theorem drop_at {α : Type} {l : List α} {i : Nat} (hi : i < l.length) : ∃ x, l[i]? = some x ∧ l.drop i = x :: l.drop (i + 1) :=
  ⟨l[i], List.getElem?_eq_getElem hi, List.drop_eq_getElem_cons hi⟩
set_option maxRecDepth 100000 in
set_option maxHeartbeats 4000000 in
theorem of_c (w : World) (g : Gr) (hg : GrOk g) (L : FsL) (es : Nat → Bool) (fs : Nat → Nat → Bool) (ok : Nat → Prop) (A : Option Addr) (n c : Nat) (l : List Sy) (h : FS w g L es fs) (hl : Sl SyE ok w A n c l) (hn : n ≤ 4) (hok : ∀ s ∈ l, g.okSy s) :
    Calls Tryd.prog 73 #[.pointer (some ⟨L.bS, 0, none⟩), .slice A n c] w (OfP w g.terms (ofB es fs l) (ofE es l)) := by
  have hlen := hl.len
  have ht8 := hg.ok.terms.2
  have ht1 := hg.ok.terms.1
  have hn10 := hg.ok.nons.2
  have HF := Lib.hid h
  have HL := Lib.hid hl
  have HOK := Lib.hid hok
  have cS := h.hdr.cell
  have fS := h.hdr.frozen
  simp only [FsL.cells] at cS
  have c0 := cS 0
  clear h hl hok cS
  have hmb := mk_bools g.terms (by omega)
  have BN := Lib.hid (BRow.new w g.terms)
  have HB0 := Lib.hid ((Below.refl w.heap.size w).al (.cells (mkCells (.bool false) g.terms) 4))
  go_enter Tryd.func73, Tryd.ntmps73
  go_wp2_with fail
  clear hmb c0 fS
  have hs1 : w.heap.size < (w.alloc (.cells (mkCells (.bool false) g.terms) 4)).heap.size := by simp
  generalize w.alloc (.cells (mkCells (.bool false) g.terms) 4) = W at *
  go_loopw [17] (fun a wr => ∃ (i : Nat) (f : Nat → Bool), a = .int .i64 i ∧ i ≤ n ∧ Hid (BRow wr w.heap.size g.terms f) ∧ Hid (Below w.heap.size w wr) ∧ Hid ((∀ t, t < g.terms → (f t || ofB es fs (l.drop i) t) = ofB es fs l t) ∧ ofE es (l.drop i) = ofE es l)) (fun a _ => n - (intOf a).toNat)
  case atStart => exact ⟨0, _, rfl, Nat.zero_le _, BN, HB0, Lib.hid ⟨fun t _ => by simp, rfl⟩⟩
  case round =>
    obtain ⟨i, f, rfl, hi, HB, HW, HE⟩ := hrel
    by_cases hin : i < n
    · obtain ⟨b1, o1, ⟨xb, xn⟩, x', rfl, -, hb1, hx, hxr, hc⟩ := (HL.out.via HW.out).at_ hin
      obtain rfl : (xb, xn) = x' := hxr
      have x0 := hc 0 _ rfl
      have x1 := hc 1 _ rfl
      simp only [SyE, Nat.add_zero] at x0 x1
      have hdr : l.drop i = (xb, xn) :: l.drop (i + 1) := by
        obtain ⟨y, hy, hd⟩ := drop_at (l := l) (i := i) (by omega)
        rw [hx] at hy; cases hy; exact hd
      have hoks := HOK.out _ (List.mem_of_getElem? hx)
      have i0 : (0 : Int) ≤ (i : Int) := by omega
      have i1 : (i : Int) < (n : Int) := by omega
      have HX := Lib.hid hx
      have HDR := Lib.hid hdr
      have hal := (Below.refl wr.heap.size wr).al (.cells #[.bool xb, .int .i64 (xn : Int)] 54)
      have BX := Blk.new wr 54 #[.bool xb, .int .i64 (xn : Int)]
      have HB4 := Lib.hid (HB.out.via hal)
      have hwl : w.heap.size ≤ wr.heap.size := HW.out.size
      have hwl2 : w.heap.size < wr.heap.size := HB.out.lt
      have HW4 := Lib.hid (HW.out.trans (hal.mono hwl))
      clear hc hx hdr hb1 hal
      go_upto_region 5 with fail
      clear x0 x1
      have hbx : wr.heap.size < (wr.alloc (.cells #[.bool xb, .int .i64 (xn : Int)] 54)).heap.size := by simp
      generalize wr.alloc (.cells #[.bool xb, .int .i64 (xn : Int)] 54) = W4 at *
      generalize wr.heap.size = bx at *
      cases xb with
      | true =>
        have hxt : xn < g.terms := by simpa [Gr.okSy] using hoks
        have t0 : (0 : Int) ≤ (xn : Int) := by omega
        have t1 : (xn : Int) < (g.terms : Int) := by omega
        have fB := HB4.out.frozen
        have cB := HB4.out.cell hxt
        have cBX := BX.cell
        have fBX := BX.frozen
        have lBX := BX.lt
        go_wp2_with fail
        go_ret2
        refine ⟨w.heap.size, ?_, (HB4.out.set hxt).ext fun t htt => ?_, Nat.le_refl _, HW4.out.setCell (by simp) _⟩
        · obtain ⟨-, e2⟩ := HE.out
          rw [HDR.out] at e2
          rw [← e2]; rfl
        · obtain ⟨e1, -⟩ := HE.out
          rw [← e1 t htt, HDR.out]
          by_cases e : t = xn
          · simp [ofB, e]
          · simp [ofB, e]
      | false =>
        have hxt : xn < g.nons := by simpa [Gr.okSy] using hoks
        have t0 : (0 : Int) ≤ (xn : Int) := by omega
        have t1 : (xn : Int) < (g.nons : Int) := by omega
        have HF4 := Lib.hid ((HF.out.via (HW4.out.mono (Nat.le_refl _))))
        have BH := HF4.out.hdr
        simp only [FsL.cells] at BH
        have ch := HF4.out.hd.cell hxt
        have fh := HF4.out.hd.frozen
        have hbl : L.bs xn < w.heap.size := (HF.out.row xn hxt).lt
        have cBX := BX.cell
        have fBX := BX.frozen
        have lBX := BX.lt
        have cBH := BH.cell
        have fBH := BH.frozen
        have lBH := BH.lt
        go_upto_region 8 with fail
        go_still_tail 9, (by kernel_rfl)
        clear cBX fBX lBX cBH fBH lBH
        clear BH ch fh
        have HDW := Lib.hid (Below.refl W4.heap.size W4).drew
        change wpList _ _ _ _ _ W4.drew
        generalize W4.drew = W5 at *
        have h45 : W4.heap.size ≤ W5.heap.size := HDW.out.size
        have HF5 := Lib.hid (HF4.out.via HDW.out)
        have HB5 := Lib.hid (HB4.out.via HDW.out)
        have HW5 := Lib.hid (HW4.out.trans (HDW.out.mono (by omega)))
        replace BX := BX.via HDW.out
        go_wp2_with fail
        refine (union_c W5 w.heap.size g.terms g.terms f (fs xn) (L.bs xn) g.terms g.terms HB5.out (HF5.out.row xn hxt) (Nat.le_refl _) (by omega) (fun e => by omega)).mono ?_
        rintro e w8 ⟨rfl, hb8, hgr⟩
        have HB8 := Lib.hid hb8
        have HW8 := Lib.hid (bel_grow HW5.out hgr (Nat.le_refl _) (by omega))
        have HF8 := Lib.hid (HF.out.via HW8.out)
        replace BX := BX.grown hgr (fun e => by have := Option.some.inj e; omega)
        have BH := HF8.out.hdr
        simp only [FsL.cells] at BH
        have ce := HF8.out.em.cell hxt
        have fe := HF8.out.em.frozen
        clear hb8 hgr
        have cBX := BX.cell
        have fBX := BX.frozen
        have lBX := BX.lt
        have cBH := BH.cell
        have fBH := BH.frozen
        have lBH := BH.lt
        go_upto_region 9 with fail
        go_quiet (fail)
        clear cBX fBX lBX cBH fBH lBH
        have HDN := Lib.hid (below_drewN (Below.refl w8.heap.size w8) nq)
        have HB9 := Lib.hid (HB8.out.via HDN.out)
        have HW9 := Lib.hid (HW8.out.trans (HDN.out.mono (Nat.le_of_lt HB8.out.lt)))
        clear BX BH ce fe
        generalize w8.drewN nq = W9 at *
        cases hes : es xn with
        | false =>
          go_wp2_with fail
          go_ret2
          obtain ⟨e1, e2⟩ := HE.out
          rw [HDR.out] at e1 e2
          exact ⟨w.heap.size, by rw [← e2]; simp [ofE, hes], HB9.out.ext fun t htt => by rw [← e1 t htt, ofB_non, hes]; simp [uni, htt], Nat.le_refl _, HW9.out⟩
        | true =>
          go_wp2_with fail
          obtain ⟨e1, e2⟩ := HE.out
          rw [HDR.out] at e1 e2
          exact ⟨⟨i + 1, _, by go_num, by omega, HB9, HW9, Lib.hid ⟨fun t htt => by rw [← e1 t htt, ofB_non, hes]; simp [uni, htt, Bool.or_assoc], by rw [← e2]; simp [ofE, hes]⟩⟩, by simp [intOf]; omega⟩
    · obtain rfl : i = n := by omega
      have hd : l.drop i = [] := by rw [List.drop_eq_nil_iff]; omega
      obtain ⟨e1, e2⟩ := HE.out
      rw [hd] at e1 e2
      go_wp2_with fail
      go_ret2
      exact ⟨w.heap.size, by rw [← e2]; rfl, HB.out.ext fun t htt => by rw [← e1 t htt]; simp [ofB], Nat.le_refl _, HW.out⟩
end Go.Proofs.YtfmnmgnhanogmaaDoor



namespace Go.Proofs.YtfmnmgnhanogmaaDoor
open Go.RowKit

/-- how many of f 0 .. f (n-1) are not yet set -/
def cntF (f : Nat → Bool) : Nat → Nat
  | 0 => 0
  | n + 1 => cntF f n + if f n then 0 else 1
theorem cntF_le {f f' : Nat → Bool} (h : ∀ j, f j = true → f' j = true) (n : Nat) : cntF f' n ≤ cntF f n := by
  induction n with
  | zero => exact Nat.le_refl _
  | succ n ih =>
    simp only [cntF]
    cases e : f n with
    | true => rw [h n e]; simpa using ih
    | false => cases e' : f' n <;> simp <;> omega
theorem cntF_lt {f f' : Nat → Bool} (h : ∀ j, f j = true → f' j = true) {n i : Nat} (hi : i < n) (h0 : f i = false) (h1 : f' i = true) : cntF f' n < cntF f n := by
  induction n with
  | zero => omega
  | succ n ih =>
    simp only [cntF]
    by_cases e : i = n
    · subst e
      have := cntF_le h i
      rw [h0, h1]; simp; omega
    · have := ih (by omega)
      cases e1 : f n with
      | true => rw [h n e1]; simpa using this
      | false => cases e' : f' n <;> simp <;> omega
theorem cntF_bound (f : Nat → Bool) (n : Nat) : cntF f n ≤ n := by
  induction n with
  | zero => exact Nat.le_refl _
  | succ n ih => simp only [cntF]; cases f n <;> simp <;> omega
/-- both tables as one row: nonterminal i has the cells i * (T+1) .. -/
def rowT (T : Nat) (es : Nat → Bool) (fs : Nat → Nat → Bool) : Nat → Bool := fun k => if k % (T + 1) = T then es (k / (T + 1)) else fs (k / (T + 1)) (k % (T + 1))
def muT (N T : Nat) (es : Nat → Bool) (fs : Nat → Nat → Bool) : Nat := cntF (rowT T es fs) (N * (T + 1))
theorem cell_lt {N T i t : Nat} (hi : i < N) (ht : t < T + 1) : i * (T + 1) + t < N * (T + 1) := by
  have : (i + 1) * (T + 1) ≤ N * (T + 1) := Nat.mul_le_mul_right _ (by omega)
  rw [Nat.add_mul] at this; omega
theorem cell_div {T i t : Nat} (ht : t < T + 1) : (i * (T + 1) + t) / (T + 1) = i := by
  rw [Nat.mul_comm, Nat.mul_add_div (by omega), Nat.div_eq_of_lt ht, Nat.add_zero]
theorem cell_mod {T i t : Nat} (ht : t < T + 1) : (i * (T + 1) + t) % (T + 1) = t := by
  rw [Nat.mul_comm, Nat.mul_add_mod, Nat.mod_eq_of_lt ht]
section
variable {N T : Nat} {es es' : Nat → Bool} {fs fs' : Nat → Nat → Bool}
theorem muT_first (he : ∀ i, es i = true → es' i = true) (hf : ∀ i t, fs i t = true → fs' i t = true) {i t : Nat} (hi : i < N) (ht : t < T) (h0 : fs i t = false) (h1 : fs' i t = true) : muT N T es' fs' < muT N T es fs := by
  refine cntF_lt (i := i * (T + 1) + t) (fun j => ?_) (cell_lt hi (by omega)) ?_ ?_
  · unfold rowT; split <;> first | exact he _ | exact hf _ _
  · unfold rowT; rw [cell_mod (by omega), cell_div (by omega), if_neg (by omega)]; exact h0
  · unfold rowT; rw [cell_mod (by omega), cell_div (by omega), if_neg (by omega)]; exact h1
theorem muT_empty (he : ∀ i, es i = true → es' i = true) (hf : ∀ i t, fs i t = true → fs' i t = true) {i : Nat} (hi : i < N) (h0 : es i = false) (h1 : es' i = true) : muT N T es' fs' < muT N T es fs := by
  refine cntF_lt (i := i * (T + 1) + T) (fun j => ?_) (cell_lt hi (by omega)) ?_ ?_
  · unfold rowT; split <;> first | exact he _ | exact hf _ _
  · unfold rowT; rw [cell_mod (by omega), cell_div (by omega), if_pos rfl]; exact h0
  · unfold rowT; rw [cell_mod (by omega), cell_div (by omega), if_pos rfl]; exact h1
end
/-- one row of a table replaced -/
def putR (fs : Nat → Nat → Bool) (n : Nat) (f : Nat → Bool) : Nat → Nat → Bool := fun i => if i = n then f else fs i
theorem putR_same {fs : Nat → Nat → Bool} {n : Nat} : putR fs n (fs n) = fs := by
  funext i; unfold putR; by_cases e : i = n
  · rw [if_pos e, e]
  · rw [if_neg e]
def putE (es : Nat → Bool) (n : Nat) : Nat → Bool := fun i => if i = n then true else es i
/-- the tables are the predicates -/
structure TabOk (R : List Ru) (es : Nat → Bool) (fs : Nat → Nat → Bool) : Prop where
  nul : ∀ N, es N = true ↔ NullN R N
  fst : ∀ N t, fs N t = true ↔ FstN R N t
/-- what the tables say is so -/
structure TabS (R : List Ru) (es : Nat → Bool) (fs : Nat → Nat → Bool) : Prop where
  nul : ∀ N, es N = true → NullN R N
  fst : ∀ N t, fs N t = true → FstN R N t
/-- the rule adds nothing -/
def Shut (T : Nat) (es : Nat → Bool) (fs : Nat → Nat → Bool) (u : Ru) : Prop := (∀ t, t < T → ofB es fs u.2 t = true → fs u.1 t = true) ∧ (ofE es u.2 = true → es u.1 = true)
section
variable {R : List Ru} {es : Nat → Bool} {fs : Nat → Nat → Bool} {T : Nat}
theorem TabS.start : TabS R (fun _ => false) (fun _ _ => false) := ⟨fun _ h => (by cases h), fun _ _ h => (by cases h)⟩
theorem TabS.ofL (h : TabS R es fs) {u : Ru} (hu : u ∈ R) {t : Nat} (ht : ofB es fs u.2 t = true) : FstN R u.1 t := by
  obtain ⟨a, y, b, e, ha, hy⟩ := ofB_fst h.nul h.fst ht
  have hu' : (u.1, a ++ y :: b) ∈ R := by rw [← e]; exact hu
  rcases hy with rfl | ⟨M, rfl, hM⟩
  · exact .term _ _ _ _ hu' ha
  · exact .non _ _ _ _ _ hu' ha hM
theorem TabS.first (h : TabS R es fs) {u : Ru} (hu : u ∈ R) (m : Nat) : TabS R es (putR fs u.1 (fun j => fs u.1 j || (decide (j < m) && ofB es fs u.2 j))) := by
  refine ⟨h.nul, fun N t => ?_⟩
  unfold putR
  by_cases e : N = u.1
  · rw [if_pos e]
    intro ht
    simp only [Bool.or_eq_true, Bool.and_eq_true] at ht
    rcases ht with ht | ⟨_, ht⟩
    · rw [e]; exact h.fst _ _ ht
    · rw [e]; exact h.ofL hu ht
  · rw [if_neg e]; exact h.fst N t
/-- the empty word of a rule's right side, as the tables before said it -/
theorem TabS.empty {es0 : Nat → Bool} (h : TabS R es fs) {u : Ru} (hu : u ∈ R) (h0 : ∀ N, es0 N = true → NullN R N) (he : ofE es0 u.2 = true) : TabS R (putE es u.1) fs := by
  refine ⟨fun N hN => ?_, h.fst⟩
  unfold putE at hN
  by_cases e : N = u.1
  · have := ofE_null h0 he
    rw [e]
    exact .mk _ u.2 hu (fun s hs => (this s hs).1) (fun s hs => (this s hs).2)
  · rw [if_neg e] at hN; exact h.nul N hN
theorem TabS.ok (h : TabS R es fs) (hb : ∀ u ∈ R, ∀ s ∈ u.2, s.1 = true → s.2 < T) (hs : ∀ u ∈ R, Shut T es fs u) : TabOk R es fs := by
  have hn : ∀ N, NullN R N → es N = true := fun N hN => closed_null (fun u hu he => (hs u hu).2 he) hN
  exact ⟨fun N => ⟨h.nul N, hn N⟩, fun N t => ⟨h.fst N t, fun hf => closed_fst hb hn (fun u hu t ht hB => (hs u hu).1 t ht hB) hf⟩⟩
end
/-- how far a pass over the rules has come -/
def PassT (N T : Nat) (R : List Ru) (es0 : Nat → Bool) (fs0 : Nat → Nat → Bool) (k : Nat) (es : Nat → Bool) (fs : Nat → Nat → Bool) (ag : Bool) : Prop :=
  (ag = false ∧ es = es0 ∧ fs = fs0 ∧ ∀ i u, i < k → R[i]? = some u → Shut T es fs u) ∨ (ag = true ∧ muT N T es fs < muT N T es0 fs0)
end Go.Proofs.YtfmnmgnhanogmaaDoor




namespace Go.Proofs.YtfmnmgnhanogmaaDoor
open Go.RowKit

def SlE : Elem SlV SlV where
  k := 1
  cells s := [.slice s.1 s.2.1 s.2.2]
  rel _ _ r x := r = x
  pos := by omega
  len _ := rfl
  one r u hu := by simp at hu; subst hu; rfl
  agr h _ := h
  mono h _ := h
def slV (h : SlV) : Value := .slice h.1 h.2.1 h.2.2
theorem slE_raw {w : World} {ok : Nat → Prop} {raw l : List SlV} (hl : l.length = raw.length) (h : ∀ (i : Nat) (r x : SlV), raw[i]? = some r → l[i]? = some x → SlE.rel ok w r x) : raw = l := by
  refine List.ext_getElem (by omega) fun i h1 h2 => ?_
  exact h i _ _ (List.getElem?_eq_getElem h1) (List.getElem?_eq_getElem h2)
theorem flatSl (l : List SlV) : flat SlE l = l.map slV := by
  induction l with
  | nil => rfl
  | cons x l ih => simp only [flat, List.flatMap_cons, List.map_cons] at ih ⊢; rw [ih]; rfl
theorem step_append_brow {ops : Array Oper} {o : Oper} {a : Act} {K : Act → World → Prop} {Q : Exit → Act → World → Prop} {F : Prop} (w : World) (hgd : o.guard = none) (s y : Operand)
    (ho : o.op = .call { callee := .builtin .append, args := #[s, y], argTypes := #[57, 57] })
    (base : Nat) (v : Value) (n : Nat) (l : List SlV) (hv : a.eval s = v) (hown : Own SlE 59 (fun _ => False) w base v n l)
    (b : Nat) (x : SlV) (hy : a.eval y = .slice (some ⟨b, 0, none⟩) 1 1) (hcell : Blk w b 59 #[slV x])
    (h63 : n + 1 ≤ 1000000) (hbase : base ≤ w.heap.size)
    (h : ∀ A' c' w', Own SlE 59 (fun _ => False) w' base (.slice A' (n + 1) c') (n + 1) (l ++ [x]) → w.grownBy w' v.ownBlock → ((Value.slice A' (n + 1) c').ownBlock = v.ownBlock ∨ (Value.slice A' (n + 1) c').ownBlock = some w.heap.size) → K (a.put o.dst (.slice A' (n + 1) c')) w') :
    if Region.wanted o (yielded ops a.tmps) = true then Oper.wp Tryd.prog o a w K Q else F := by
  have hinf : (Tryd.prog.info? 59).map (fun i => (i.zero, i.size, i.bytes)) = some (some (.slice none 0 0), 1, 24) := by kernel_rfl
  obtain ⟨i, hi, hz⟩ := Option.map_eq_some_iff.1 hinf
  simp only [Prod.mk.injEq] at hz
  refine step_append_E (E := SlE) w hgd s y 57 59 ho i (.slice none 0 0) 24 (by kernel_rfl) hi hz.1 hz.2.1 hz.2.2 rfl (fun _ => False) base v n l hv hown b x x hy (fun j u hu => ?_) rfl (by simp [maxLen]; omega) (by omega) hbase h
  rw [hcell.cell j]
  rw [List.getElem?_toArray]; exact hu
def rowsL (m k : Nat) (bs : Nat → Nat) : List SlV := (List.range k).map fun i => (some ⟨bs i, 0, none⟩, m, m)
structure BT (w : World) (base : Nat) (v : Value) (m k : Nat) (bs : Nat → Nat) : Prop where
  own : Own SlE 59 (fun _ => False) w base v k (rowsL m k bs)
  row : ∀ i, i < k → BRow w (bs i) m (fun _ => false)
  lo : ∀ i, i < k → base ≤ bs i
  ap : ∀ i j, i < k → j < k → i ≠ j → bs i ≠ bs j
  far : ∀ i, i < k → v.ownBlock ≠ some (bs i)
section
variable {w w' w2 : World} {base m k r : Nat} {v v' : Value} {bs : Nat → Nat}
theorem BT.nil (w : World) (base m : Nat) (bs : Nat → Nat) : BT w base (.slice none 0 0) m 0 bs :=
  ⟨Own.nil w base, fun _ h => absurd h (Nat.not_lt_zero _), fun _ h => absurd h (Nat.not_lt_zero _), fun _ _ h => absurd h (Nat.not_lt_zero _), fun _ h => absurd h (Nat.not_lt_zero _)⟩
theorem BT.via (h : BT w base v m k bs) (hb : Below w.heap.size w w') : BT w' base v m k bs := ⟨h.own.via hb, fun i hi => (h.row i hi).via hb, h.lo, h.ap, h.far⟩
theorem BT.far_ (h : BT w base v m k bs) {p : Addr} (hp : p.block < base) (u : Value) : BT (w.setCell p u) base v m k bs :=
  ⟨h.own.setCell u (fun b hb => hb.elim) hp, fun i hi => (h.row i hi).far (by have := h.lo i hi; omega) u, h.lo, h.ap, h.far⟩
theorem rowsL_push : rowsL m (k + 1) (fun i => if i = k then r else bs i) = rowsL m k bs ++ [(some ⟨r, 0, none⟩, m, m)] := by
  unfold rowsL
  rw [List.range_succ, List.map_append, List.map_singleton]
  dsimp only
  rw [if_pos rfl]
  congr 1
  refine List.map_congr_left fun i hi => ?_
  rw [if_neg (by have := List.mem_range.1 hi; omega)]
theorem BT.push (h : BT w base v m k bs) (hb : Below w.heap.size w w2) (hr : BRow w2 r m (fun _ => false)) (hr1 : w.heap.size ≤ r) (hbase : base ≤ w.heap.size)
    (ho : Own SlE 59 (fun _ => False) w' base v' (k + 1) (rowsL m k bs ++ [(some ⟨r, 0, none⟩, m, m)])) (hg : w2.grownBy w' v.ownBlock) (hv : v'.ownBlock = v.ownBlock ∨ v'.ownBlock = some w2.heap.size) :
    BT w' base v' m (k + 1) (fun i => if i = k then r else bs i) := by
  have hrl := hr.lt
  have hbl : ∀ i, i < k → bs i < w.heap.size := fun i hi => (h.row i hi).lt
  have hvr : v.ownBlock ≠ some r := fun e => by have := (h.own.lt _ e).2; omega
  refine ⟨by rw [rowsL_push]; exact ho, fun i hi => ?_, fun i hi => ?_, fun i j hi hj hij => ?_, fun i hi => ?_⟩
  · split
    · exact hr.grown hg (fun e => hvr e.symm)
    · exact ((h.row i (by omega)).via hb).grown hg (fun e => h.far i (by omega) e.symm)
  · split
    · omega
    · exact h.lo i (by omega)
  · by_cases e1 : i = k
    · rw [if_pos e1, if_neg (by omega)]
      have := hbl j (by omega); omega
    · rw [if_neg e1]
      by_cases e2 : j = k
      · rw [if_pos e2]; have := hbl i (by omega); omega
      · rw [if_neg e2]; exact h.ap i j (by omega) (by omega) hij
  · have hs := hb.size
    rcases hv with hv | hv <;> rw [hv]
    · split
      · exact hvr
      · exact h.far i (by omega)
    · split
      · exact fun e => by have := Option.some.inj e; omega
      · exact fun e => by have := Option.some.inj e; have := hbl i (by omega); omega
/-- the headers lie in a block -/
theorem BT.done (h : BT w base v m k bs) (hk : 0 < k) : ∃ hb hc, v = .slice (some ⟨hb, 0, none⟩) k hc ∧ base ≤ hb ∧ HRow w hb k 59 (fun i => .slice (some ⟨bs i, 0, none⟩) m m) ∧ ∀ i, i < k → bs i ≠ hb := by
  obtain ⟨h1, raw, h2, h3, h4⟩ := h.own
  have er := slE_raw (by omega) h4
  subst er
  rcases h3.2 with ⟨_, h0⟩ | ⟨g, cap, cur, hv, hb, hh, hc1, hc2, hc3, htk⟩
  · omega
  · have hl : (rowsL m k bs).length = k := h1
    refine ⟨g, cap, hv, hb, ⟨cur, hh, fun j hj => ?_⟩, fun i hi e => h.far i hi (by rw [hv, e]; rfl)⟩
    have e1 : (cur.toList.take (k * SlE.k))[j]? = some (.slice (some ⟨bs j, 0, none⟩) m m) := by
      rw [htk, flatSl]
      simp [rowsL, hj, slV]
    rw [List.getElem?_take, if_pos (by simp [SlE]; omega)] at e1
    simpa using e1
end
end Go.Proofs.YtfmnmgnhanogmaaDoor




namespace Go.Proofs.YtfmnmgnhanogmaaDoor
open Go.RowKit

theorem uniC_false {f g : Nat → Bool} {m : Nat} (h : uniC f g m = false) : uni f g m = f := by
  funext j
  unfold uni
  by_cases hj : j < m
  · cases e1 : g j with
    | false => simp
    | true =>
      cases e2 : f j with
      | true => simp
      | false =>
        have := (uniC_iff f g m).2 ⟨j, hj, e1, e2⟩
        rw [h] at this; cases this
  · simp [hj]
theorem uni_le {f g : Nat → Bool} {m : Nat} : ∀ j, f j = true → uni f g m j = true := fun j h => by simp [uni, h]
theorem putR_le {fs : Nat → Nat → Bool} {n : Nat} {f : Nat → Bool} (h : ∀ j, fs n j = true → f j = true) : ∀ i t, fs i t = true → putR fs n f i t = true := fun i t ht => by
  unfold putR; split
  · subst_vars; exact h t ht
  · exact ht
theorem putE_le {es : Nat → Bool} {n : Nat} : ∀ i, es i = true → putE es n i = true := fun i h => by
  unfold putE; split
  · rfl
  · exact h
/-- behind the union -/
def PassM (N T : Nat) (R : List Ru) (es0 : Nat → Bool) (fs0 : Nat → Nat → Bool) (k : Nat) (u : Ru) (es : Nat → Bool) (fs : Nat → Nat → Bool) (ag : Bool) : Prop :=
  (ag = false ∧ es = es0 ∧ fs = fs0 ∧ (∀ i u, i < k → R[i]? = some u → Shut T es fs u) ∧ ∀ t, t < T → ofB es fs u.2 t = true → fs u.1 t = true) ∨ (ag = true ∧ muT N T es fs < muT N T es0 fs0)
section
variable {N T k : Nat} {R : List Ru} {es0 es : Nat → Bool} {fs0 fs : Nat → Nat → Bool} {u : Ru} {ag : Bool}
theorem PassT.union (h : PassT N T R es0 fs0 k es fs ag) (hu : u.1 < N) :
    PassM N T R es0 fs0 k u es (putR fs u.1 (uni (fs u.1) (ofB es fs u.2) T)) (uniC (fs u.1) (ofB es fs u.2) T || ag) := by
  cases hc : uniC (fs u.1) (ofB es fs u.2) T with
  | false =>
    rw [uniC_false hc, putR_same, Bool.false_or]
    rcases h with ⟨h1, h2, h3, h4⟩ | h
    · refine Or.inl ⟨h1, h2, h3, h4, fun t ht hB => ?_⟩
      cases e : fs u.1 t with
      | true => rfl
      | false =>
        have := (uniC_iff (fs u.1) (ofB es fs u.2) T).2 ⟨t, ht, hB, e⟩
        rw [hc] at this; cases this
    · exact Or.inr h
  | true =>
    obtain ⟨t, ht, hB, hf⟩ := (uniC_iff _ _ _).1 hc
    have hlt : muT N T es (putR fs u.1 (uni (fs u.1) (ofB es fs u.2) T)) < muT N T es fs :=
      muT_first (i := u.1) (t := t) (fun _ h => h) (putR_le uni_le) hu ht hf (by unfold putR; rw [if_pos rfl]; simp [uni, ht, hB])
    refine Or.inr ⟨rfl, ?_⟩
    rcases h with ⟨-, rfl, rfl, -⟩ | ⟨-, h⟩ <;> omega
theorem PassM.keep (h : PassM N T R es0 fs0 k u es fs ag) (hk : R[k]? = some u) (he : ag = false → ofE es u.2 = true → es u.1 = true) : PassT N T R es0 fs0 (k + 1) es fs ag := by
  rcases h with ⟨h1, h2, h3, h4, h5⟩ | h
  · refine Or.inl ⟨h1, h2, h3, fun i v hi hv => ?_⟩
    rcases Nat.lt_or_ge i k with hik | hik
    · exact h4 i v hik hv
    · have e : i = k := by omega
      subst e
      rw [hk] at hv; cases hv
      exact ⟨h5, he h1⟩
  · exact Or.inr h
theorem PassM.put (h : PassM N T R es0 fs0 k u es fs ag) (hu : u.1 < N) (he : es u.1 = false) : PassT N T R es0 fs0 (k + 1) (putE es u.1) fs true := by
  have hlt : muT N T (putE es u.1) fs < muT N T es fs := muT_empty putE_le (fun _ _ h => h) hu he (by unfold putE; rw [if_pos rfl])
  refine Or.inr ⟨rfl, ?_⟩
  rcases h with ⟨-, rfl, rfl, -⟩ | ⟨-, h⟩ <;> omega
end
end Go.Proofs.YtfmnmgnhanogmaaDoor

