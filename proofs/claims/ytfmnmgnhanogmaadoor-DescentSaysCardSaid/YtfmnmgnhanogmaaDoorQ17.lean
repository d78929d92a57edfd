/- Texts BI, OB, QN, OM, LN, laid together. -/
import Derived.Test.YtfmnmgnhanogmaaDoorQ2
import Derived.Test.YtfmnmgnhanogmaaDoorQ15
import Derived.Test.YtfmnmgnhanogmaaDoorQ16
import Derived.Test.YtfmnmgnhanogmaaDoorQ10
import Derived.Test.YtfmnmgnhanogmaaDoorQ8
import Derived.Test.YtfmnmgnhanogmaaDoorQ13
import Derived.Test.YtfmnmgnhanogmaaDoorQ11
import Derived.ArgAppend


namespace Go.Proofs.YtfmnmgnhanogmaaDoor
open Go.RowKit

def InE : Elem Int Int where
  k := 1
  cells x := [.int .i64 x]
  rel _ _ r x := r = x
  pos := by omega
  len _ := rfl
  one r u hu := by simp at hu; subst hu; rfl
  agr h _ := h
  mono h _ := h
def RwE : Elem (List Int) SlV where
  k := 1
  cells s := [.slice s.1 s.2.1 s.2.2]
  rel ok w r x := Sl InE ok w r.1 r.2.1 r.2.2 x
  pos := by omega
  len _ := rfl
  one r u hu := by simp at hu; subst hu; rfl
  agr h k := h.agr k
  mono h k := h.mono k
theorem flatIn (l : List Int) : flat InE l = l.map (Value.int .i64) := by
  induction l with
  | nil => rfl
  | cons x l ih => simp only [flat, List.flatMap_cons, List.map_cons] at ih ⊢; rw [ih]; rfl
theorem Ints.slE {w : World} {A : Option Addr} {n c : Nat} {xs : List Int} (h : Ints w A n c xs) : Sl InE (fun b => ∃ o, A = some ⟨b, o, none⟩) w A n c xs := by
  refine ⟨h.1, h.2.1, xs, h.1, fun hne => ?_, fun i r x hr hx => by rw [hr] at hx; exact Option.some.inj hx⟩
  have hn : 0 < n := by
    rcases Nat.eq_zero_or_pos n with h0 | h0
    · exfalso; apply hne
      have : xs = [] := List.eq_nil_of_length_eq_zero (by rw [h.1, h0])
      rw [this]; rfl
    · exact h0
  obtain ⟨b, off, e, hc⟩ := h.2.2 hn
  refine ⟨b, off, e, ⟨off, e⟩, fun j u hu => ?_⟩
  rw [flatIn, List.getElem?_map] at hu
  obtain ⟨y, hy, rfl⟩ := Option.map_eq_some_iff.1 hu
  have hj := (List.getElem?_eq_some_iff.1 hy).1
  have e1 := hc j (by have := h.1; omega)
  rw [List.getD_eq_getElem?_getD, hy] at e1
  exact e1
theorem Sl.intsIn {ok : Nat → Prop} {w : World} {A : Option Addr} {n c : Nat} {xs : List Int} (h : Sl InE ok w A n c xs) : Ints w A n c xs := by
  obtain ⟨h1, h2, raw, h3, h4, h5⟩ := h
  have er : raw = xs := List.ext_getElem (by omega) fun i a b => h5 i _ _ (List.getElem?_eq_getElem a) (List.getElem?_eq_getElem b)
  subst er
  refine ⟨h1, h2, fun hn => ?_⟩
  obtain ⟨b, off, e, -, hc⟩ := h4 (by rw [flatIn]; intro e; have : raw.length = 0 := by simpa using congrArg List.length e
                                      omega)
  refine ⟨b, off, e, fun i hi => ?_⟩
  have hi' : i < raw.length := by omega
  exact hc i _ (by rw [flatIn, List.getElem?_map, List.getElem?_eq_getElem hi', List.getD_eq_getElem?_getD, List.getElem?_eq_getElem hi']; rfl)
end Go.Proofs.YtfmnmgnhanogmaaDoor







namespace Go.Proofs.YtfmnmgnhanogmaaDoor
open Go.RowKit

theorem Ints.one_ (w : World) (x : Int) : Ints (w.alloc (.cells #[.int .i64 x] 3)) (some ⟨w.heap.size, 0, none⟩) 1 1 [x] :=
  ⟨rfl, Nat.le_refl _, fun _ => ⟨w.heap.size, 0, rfl, fun i hi => by
    have : i = 0 := by omega
    subst this
    exact ((Blk.new w 3 #[.int .i64 x]).cell 0)⟩⟩
theorem append_row_w {ops : Array Oper} {rest : List Oper} {o : Oper} {a : Act} {Q : Exit → Act → World → Prop} (w : World) (hgd : o.guard = none) (s y : Operand)
    (ho : o.op = .call { callee := .builtin .append, args := #[s, y], argTypes := #[28, 28] })
    (ok : Nat → Prop) (base : Nat) (v : Value) (n : Nat) (l : List (List Int)) (hv : a.eval s = v) (hown : Own RwE 25 ok w base v n l)
    (b : Nat) (x : SlV) (xs : List Int) (hy : a.eval y = .slice (some ⟨b, 0, none⟩) 1 1) (hcell : w.cell? ⟨b, 0, none⟩ = some (.slice x.1 x.2.1 x.2.2)) (hrel : Sl InE (fun b => ok b ∧ some b ≠ v.ownBlock) w x.1 x.2.1 x.2.2 xs)
    (h63 : n + 1 ≤ 1000000) (hbase : base ≤ w.heap.size)
    (h : ∀ A' c' w', Own RwE 25 ok w' base (.slice A' (n + 1) c') (n + 1) (l ++ [xs]) → w.grownBy w' v.ownBlock → ((Value.slice A' (n + 1) c').ownBlock = v.ownBlock ∨ (Value.slice A' (n + 1) c').ownBlock = some w.heap.size) → wpList Tryd.prog ops Q rest (a.put o.dst (.slice A' (n + 1) c')) w') : wpList Tryd.prog ops Q (o :: rest) a w := by
  have hinf : (Tryd.prog.info? 25).map (fun i => (i.zero, i.size, i.bytes)) = some (some (.slice none 0 0), 1, 24) := by kernel_rfl
  obtain ⟨i, hi, hz⟩ := Option.map_eq_some_iff.1 hinf
  simp only [Prod.mk.injEq] at hz
  refine wpList_append_E (E := RwE) w hgd s y 28 25 ho i (.slice none 0 0) 24 (by kernel_rfl) hi hz.1 hz.2.1 hz.2.2 rfl ok base v n l hv hown b x xs hy (fun j u hu => ?_) hrel (by simp [maxLen]; omega) (by omega) hbase h
  cases j with
  | zero => simp [RwE] at hu; subst hu; exact hcell
  | succ j => simp [RwE] at hu
/-- does one begin with itself? -/
noncomputable def loopB (g : Gr) : Bool := lefB (begD g.rules) g.nons
set_option maxRecDepth 100000 in
set_option maxHeartbeats 4000000 in
theorem loops_c (ok : Nat → Prop) (g : Gr) (Ag : Option Addr) (ng cg : Nat) (w : World) (hg : GrOk g) (hl : Sl RuE ok w Ag ng cg g.rules) :
    Calls Tryd.prog 25 #[grVal g Ag ng cg] w (fun e w' => e = .returned (.bool (loopB g)) ∧ Below w.heap.size w w') := by
  have hn1 := hg.ok.nons.1
  have hn10 := hg.ok.nons.2
  have B0 := Blk.new w 24 (gCells g Ag ng cg)
  have hB0 := (Below.refl w.heap.size w).al (.cells (gCells g Ag ng cg) 24)
  have HGO := Lib.hid hg
  have HL0 := Lib.hid (hl.via hB0)
  simp only [grVal]
  clear hg hl
  go_enter Tryd.func25, Tryd.ntmps25
  go_upto_region 1 with fail
  have e0 : (Obj.cells #[.int .i64 (g.terms : Int), .int .i64 (g.nons : Int), .int .i64 (g.start : Int), .slice Ag ng cg] 24) = .cells (gCells g Ag ng cg) 24 := rfl
  rw [e0]
  have hW0 : (w.alloc (.cells (gCells g Ag ng cg) 24)).heap.size = w.heap.size + 1 := by simp
  clear e0
  generalize w.alloc (.cells (gCells g Ag ng cg) 24) = W0 at *
  have Bg := B0
  simp only [gCells] at Bg
  have cBg := Bg.cell
  have fBg := Bg.frozen
  have lBg := Bg.lt
  go_wp2_with fail
  clear cBg fBg lBg
  clear Bg
  have HF := left_c ok g Ag ng cg W0 HGO.out HL0.out
  simp only [grVal] at HF
  refine HF.mono ?_
  clear HF HL0
  rintro e w1 ⟨hb, bs, rfl, hm, hb1⟩
  have HM := Lib.hid hm
  have HB1 := Lib.hid (show Below w.heap.size w w1 from hB0.trans (hb1.mono (by omega)))
  clear hm hb1 B0 hB0 hW0
  go_wp2_with fail
  go_loopw [8] (fun a wr => ∃ k : Nat, a = .int .i64 k ∧ k ≤ g.nons ∧ Hid (wr = w1) ∧ Hid (∀ i, i < k → wshF (begD g.rules) g.nons i i = false)) (fun a _ => g.nons - (intOf a).toNat)
  case atStart => exact ⟨0, rfl, Nat.zero_le _, Lib.hid rfl, Lib.hid (fun i h => absurd h (Nat.not_lt_zero _))⟩
  case round =>
    obtain ⟨k, rfl, hk, HW, HN⟩ := hrel
    obtain rfl := HW.out
    by_cases hkn : k < g.nons
    · have k0 : (0 : Int) ≤ (k : Int) := by omega
      have k1 : (k : Int) < (g.nons : Int) := by omega
      have ch := HM.out.hd.cell hkn
      have ckk := (HM.out.row k hkn).cell hkn
      cases hv : wshF (begD g.rules) g.nons k k with
      | true =>
        rw [hv] at ckk
        have HV := Lib.hid hv
        clear hv
        go_wp2_with fail
        go_ret
        refine ⟨?_, HB1.out⟩
        rw [show loopB g = true from List.any_eq_true.2 ⟨k, List.mem_range.2 hkn, HV.out⟩]; rfl
      | false =>
        rw [hv] at ckk
        have HV := Lib.hid hv
        clear hv
        go_wp2_with fail
        exact ⟨⟨k + 1, by go_num, by omega, Lib.hid trivial, Lib.hid (fun i hi => by
          by_cases e : i = k
          · rw [e]; exact HV.out
          · exact HN.out i (by omega))⟩, by simp [intOf]; omega⟩
    · obtain rfl : k = g.nons := by omega
      go_wp2_with fail
      go_ret
      refine ⟨?_, HB1.out⟩
      rw [show loopB g = false from List.any_eq_false.2 fun i hi => by rw [HN.out i (List.mem_range.1 hi)]; simp]; rfl
/-- those with which each one begins -/
noncomputable def lefW (g : Gr) : List (List Int) := (List.range g.nons).map fun n => intsN (lefL (begD g.rules) g.nons n)
def LefP (w : World) (g : Gr) (e : Ending) (w' : World) : Prop :=
  ∃ A c, e = .returned (.tuple #[.slice A g.nons c, .int .i64 0]) ∧ Sl RwE (fun b => w.heap.size ≤ b) w' A g.nons c (lefW g) ∧ Below w.heap.size w w'
set_option maxRecDepth 100000 in
set_option maxHeartbeats 4000000 in
theorem Left_c (ok : Nat → Prop) (g : Gr) (Ag : Option Addr) (ng cg : Nat) (w : World) (hg : GrOk g) (hl : Sl RuE ok w Ag ng cg g.rules) :
    Calls Tryd.prog 6 #[grVal g Ag ng cg] w (LefP w g) := by
  have hn1 := hg.ok.nons.1
  have hn10 := hg.ok.nons.2
  have B0 := Blk.new w 24 (gCells g Ag ng cg)
  have hB0 := (Below.refl w.heap.size w).al (.cells (gCells g Ag ng cg) 24)
  have HGO := Lib.hid hg
  have HL0 := Lib.hid (hl.via hB0)
  simp only [grVal]
  clear hg hl
  go_enter Tryd.func6, Tryd.ntmps6
  go_upto_region 1 with fail
  have e0 : (Obj.cells #[.int .i64 (g.terms : Int), .int .i64 (g.nons : Int), .int .i64 (g.start : Int), .slice Ag ng cg] 24) = .cells (gCells g Ag ng cg) 24 := rfl
  rw [e0]
  have hW0 : (w.alloc (.cells (gCells g Ag ng cg) 24)).heap.size = w.heap.size + 1 := by simp
  clear e0
  generalize w.alloc (.cells (gCells g Ag ng cg) 24) = W0 at *
  have HBG := Lib.hid B0
  have Bg := B0
  simp only [gCells] at Bg
  have cBg := Bg.cell
  have fBg := Bg.frozen
  have lBg := Bg.lt
  go_wp2_with fail
  clear cBg fBg lBg
  have HF := check_c ok g Ag ng cg W0 HGO.out HL0.out
  simp only [grVal] at HF
  refine HF.mono ?_
  clear HF Bg B0
  rintro e w1 ⟨rfl, hb1⟩
  have HL1 := Lib.hid (HL0.out.via hb1)
  have HBG1 := Lib.hid (HBG.out.via hb1)
  have HB1 := Lib.hid (show Below w.heap.size w w1 from hB0.trans (hb1.mono (by omega)))
  clear hb1 hB0 HBG HL0 hW0
  have Bg := HBG1.out
  simp only [gCells] at Bg
  have cBg := Bg.cell
  have fBg := Bg.frozen
  have lBg := Bg.lt
  go_wp2_with fail
  clear cBg fBg lBg
  have HF := left_c ok g Ag ng cg w1 HGO.out HL1.out
  simp only [grVal] at HF
  refine HF.mono ?_
  clear HF Bg HL1 HBG1
  rintro e w2 ⟨hb, bs, rfl, hm, hb2⟩
  have HM := Lib.hid hm
  have HB2 := Lib.hid (show Below w.heap.size w w2 from HB1.out.trans (hb2.mono HB1.out.size))
  clear hm hb2 HB1
  go_wp2_with fail
  go_loopw [5, 19] (fun v a wr => ∃ (k : Nat), a = .int .i64 k ∧ k ≤ g.nons ∧ Hid (Below w2.heap.size w2 wr) ∧ Hid (Own RwE 25 (fun b => w2.heap.size ≤ b) wr w2.heap.size v k ((lefW g).take k))) (fun _ a _ => g.nons - (intOf a).toNat)
  case atStart => exact ⟨0, rfl, Nat.zero_le _, Lib.hid (Below.refl _ _), Lib.hid (Own.nil _ _)⟩
  case round =>
    rename_i v _
    obtain ⟨k, rfl, hk, HW, HO⟩ := hrel
    have hsz := HW.out.size
    by_cases hkn : k < g.nons
    · have k0 : (0 : Int) ≤ (k : Int) := by omega
      have k1 : (k : Int) < (g.nons : Int) := by omega
      obtain ⟨vA, vc, rfl, hvc⟩ := HO.out.form
      have HM1 := Lib.hid (HM.out.via HW.out)
      have ch := HM1.out.hd.cell hkn
      go_wp2_with fail
      clear ch
      obtain ⟨B, hB⟩ : ∃ B, B = wr.heap.size := ⟨_, rfl⟩
      have HB := Lib.hid (show Below B wr wr from Below.refl _ _)
      have hBw : w2.heap.size ≤ B := by omega
      have HOB := Lib.hid (show ∀ b, (Value.slice vA k vc).ownBlock = some b → b < B from fun b e => by rw [hB]; exact (HO.out.lt b e).2)
      have HBE := Lib.hid hB
      have hBs : B ≤ wr.heap.size := by omega
      clear hB
      go_loopw [8, 25] (fun u a wx => ∃ (j m : Nat), a = .int .i64 j ∧ j ≤ g.nons ∧ m ≤ j ∧ Hid (Below B wr wx ∧ OwnI wx B u m (intsN ((List.range j).filter fun i => wshF (begD g.rules) g.nons k i)))) (fun _ a _ => g.nons - (intOf a).toNat)
      case atStart => exact ⟨0, 0, rfl, Nat.zero_le _, Nat.le_refl _, Lib.hid ⟨HB.out, OwnI.nil _ _⟩⟩
      case round =>
        rename_i u _
        obtain ⟨j, m, rfl, hj, hm, HQ⟩ := hrel
        clear HB
        have hszx : B ≤ wr.heap.size := by
          have h1 := HQ.out.1.size
          rw [← HBE.out] at h1; exact h1
        have HWX := Lib.hid (HW.out.trans (HQ.out.1.mono (by omega)))
        obtain ⟨uA, uc, rfl, huI⟩ := HQ.out.2.form
        by_cases hjn : j < g.nons
        · have j0 : (0 : Int) ≤ (j : Int) := by omega
          have j1 : (j : Int) < (g.nons : Int) := by omega
          have cj := ((HM.out.via HWX.out).row k hkn).cell hjn
          have hfl : (List.range (j + 1)).filter (fun i => wshF (begD g.rules) g.nons k i) = (List.range j).filter (fun i => wshF (begD g.rules) g.nons k i) ++ (if wshF (begD g.rules) g.nons k j then [j] else []) := by
            rw [List.range_succ, List.filter_append]
            congr 1
            by_cases h : wshF (begD g.rules) g.nons k j = true <;> simp [h]
          have HFL := Lib.hid hfl
          clear hfl huI
          cases hv : wshF (begD g.rules) g.nons k j with
          | false =>
            rw [hv] at cj HFL
            have HV := Lib.hid hv
            clear hv
            go_wp2_with fail
            refine ⟨⟨j + 1, m, by go_num, by omega, by omega, Lib.hid ⟨HQ.out.1, ?_⟩⟩, by simp [intOf]; omega⟩
            rw [HFL.out]; simpa using HQ.out.2
          | true =>
            rw [hv] at cj HFL
            have HV := Lib.hid hv
            clear hv
            have HA := Lib.hid ((Below.refl wr.heap.size wr).al (.cells #[.int .i64 (j : Int)] 3))
            have HOA := Lib.hid (HQ.out.2.alloc (.cells #[.int .i64 (j : Int)] 3))
            have HQ1 := Lib.hid (show Below B _ _ from HQ.out.1.trans (HA.out.mono hszx))
            have hsa : B ≤ (wr.alloc (.cells #[.int .i64 (j : Int)] 3)).heap.size := by simp; omega
            go_wp2_with (at_builtin; refine wpList_append_ints _ rfl (.tmp 31) (.tmp 33) rfl B (.slice uA m uc) m _ rfl HOA.out (some ⟨wr.heap.size, 0, none⟩) 1 1 [(j : Int)] rfl (Ints.one_ wr (j : Int)) (by omega) hsa ?_)
            intro A' c' w5 ho5 hg5 hat5
            have HB5 := Lib.hid (HQ1.out.grown hg5 hsa (fun q e => by have := (HQ.out.2.lt q e).1; omega))
            clear hat5 hg5
            go_wp2_with fail
            refine ⟨⟨j + 1, m + 1, by go_num, by omega, by omega, Lib.hid ⟨HB5.out, ?_⟩⟩, by simp [intOf]; omega⟩
            rw [HFL.out]
            simpa [intsN] using ho5
        · obtain rfl : j = g.nons := by omega
          have hlf : intsN ((List.range g.nons).filter fun i => wshF (begD g.rules) g.nons k i) = intsN (lefL (begD g.rules) g.nons k) := rfl
          have HUI := Lib.hid huI
          clear huI
          have HA := Lib.hid ((Below.refl wr.heap.size wr).al (.cells #[.slice uA m uc] 25))
          have HOW := Lib.hid ((HO.out.via (HQ.out.1.mono (by rw [HBE.out]; exact Nat.le_refl _))).via HA.out)
          have hcl := (Blk.new wr 25 #[.slice uA m uc]).cell 0
          have HCL := Lib.hid hcl
          clear hcl
          have hsa : w2.heap.size ≤ (wr.alloc (.cells #[.slice uA m uc] 25)).heap.size := by simp; omega
          have HRL := Lib.hid (show Sl InE (fun b => w2.heap.size ≤ b ∧ some b ≠ (Value.slice vA k vc).ownBlock) (wr.alloc (.cells #[.slice uA m uc] 25)) uA m uc (intsN (lefL (begD g.rules) g.nons k)) from
            (HUI.out.slE.mono fun b _ hb => by
              obtain ⟨o, ho⟩ := hb
              have := (HQ.out.2.lt b (by rw [ho]; rfl)).1
              exact ⟨by omega, fun e => by have := HOB.out b e.symm; omega⟩).via HA.out)
          have hk9 : k + 1 ≤ 1000000 := by omega
          have HKL := Lib.hid (show (lefW g).take (k + 1) = (lefW g).take k ++ [intsN (lefL (begD g.rules) g.nons k)] from by
            rw [List.take_add_one]
            congr 1
            simp [lefW, hkn])
          have HLX := Lib.hid (show Below w2.heap.size w2 _ from HWX.out.trans (HA.out.mono HWX.out.size))
          have HOL := Lib.hid HO.out.lt
          clear HA HQ HUI HO HW
          go_wp2_with (at_builtin; refine append_row_w _ rfl (.tmp 36) (.tmp 38) rfl (fun b => w2.heap.size ≤ b) w2.heap.size (.slice vA k vc) k ((lefW g).take k) rfl HOW.out wr.heap.size (uA, m, uc) (intsN (lefL (begD g.rules) g.nons k)) rfl HCL.out HRL.out hk9 hsa ?_)
          intro A' c' w5 ho5 hg5 hat5
          have HB5 := Lib.hid (HLX.out.grown hg5 hsa (fun q e => (HOL.out q e).1))
          have HO5 := Lib.hid ho5
          clear hat5 hg5 ho5
          go_wp2_with fail
          exact ⟨⟨k + 1, by go_num, by omega, HB5, Lib.hid (by rw [HKL.out]; exact HO5.out)⟩, by simp [intOf]; omega⟩
    · obtain rfl : k = g.nons := by omega
      obtain ⟨vA, vc, rfl, hvc⟩ := HO.out.form
      go_wp2_with fail
      go_ret2
      refine ⟨vA, vc, rfl, ?_, HB2.out.trans (HW.out.mono HB2.out.size)⟩
      have := HO.out.toSl (ok' := fun b => w.heap.size ≤ b) (fun b _ h => Nat.le_trans HB2.out.size h) (fun b h => Nat.le_trans HB2.out.size h)
      rw [List.take_of_length_le (by simp [lefW])] at this
      exact this
set_option maxRecDepth 100000 in
theorem Left_e (ok : Nat → Prop) (T N S : Int) (A : Option Addr) (n c : Nat) (rs : List Ri) (w : World) (hl : Sl RiE ok w A n c rs) (hbad : chkG T N S rs ≠ 0) :
    Calls Tryd.prog 6 #[.agg #[.int .i64 T, .int .i64 N, .int .i64 S, .slice A n c]] w fun e w' => e = .returned (.tuple #[.slice none 0 0, .int .i64 (chkG T N S rs)]) ∧ Below w.heap.size w w' := by
  obtain ⟨q, hq⟩ : ∃ q, chkG T N S rs = q := ⟨_, rfl⟩
  rw [hq]
  have HBAD := Lib.hid (show chkG T N S rs ≠ 0 from hbad)
  rw [hq] at hbad
  have HQ := Lib.hid hq
  clear hq
  have B0 := Blk.new w 24 #[.int .i64 T, .int .i64 N, .int .i64 S, .slice A n c]
  have HB := Lib.hid ((Below.refl w.heap.size w).al (.cells #[.int .i64 T, .int .i64 N, .int .i64 S, .slice A n c] 24))
  have HL := Lib.hid (hl.al (.cells #[.int .i64 T, .int .i64 N, .int .i64 S, .slice A n c] 24))
  clear hl
  go_enter Tryd.func6, Tryd.ntmps6
  have cB0 := B0.cell
  have fB0 := B0.frozen
  have lB0 := B0.lt
  go_wp2_with fail
  clear cB0 fB0 lB0
  generalize w.alloc (.cells #[.int .i64 T, .int .i64 N, .int .i64 S, .slice A n c] 24) = W at *
  have hc := checkI_c ok T N S A n c rs W HL.out
  rw [HQ.out] at hc
  refine hc.mono ?_
  clear hc
  rintro e w1 ⟨rfl, hb⟩
  have HB1 := Lib.hid (HB.out.via hb)
  clear hb B0 HB
  go_wp2_with fail
  go_ret2
  exact ⟨rfl, HB1.out⟩
end Go.Proofs.YtfmnmgnhanogmaaDoor





namespace Go.Proofs.YtfmnmgnhanogmaaDoor
open Go.RowKit

/-! ### rounds -/
def itF {S : Type} (F : S → S) (s0 : S) : Nat → S
  | 0 => s0
  | k + 1 => F (itF F s0 k)
theorem itF_fix {S : Type} (F : S → S) (m : S → Nat) (M : Nat) (s0 : S) (I : S → Prop) (h0 : I s0) (hI : ∀ s, I s → I (F s)) (h : ∀ s, I s → F s = s ∨ m (F s) < m s) (hM : m s0 ≤ M) (k : Nat) (hk : M ≤ k) : F (itF F s0 k) = itF F s0 k := by
  have hi : ∀ k, I (itF F s0 k) := fun k => by
    induction k with
    | zero => exact h0
    | succ k ih => exact hI _ ih
  have key : ∀ k, m (itF F s0 k) + k ≤ M ∨ F (itF F s0 k) = itF F s0 k := fun k => by
    induction k with
    | zero => exact Or.inl hM
    | succ k ih =>
      rcases ih with ih | ih
      · rcases h _ (hi k) with e | e
        · right; show F (F (itF F s0 k)) = F (itF F s0 k); rw [e]; exact e
        · left; show m (F (itF F s0 k)) + (k + 1) ≤ M; omega
      · right; show F (F (itF F s0 k)) = F (itF F s0 k); rw [ih]; exact ih
  rcases key k with h1 | h1
  · rcases h _ (hi k) with e | e
    · exact e
    · omega
  · exact h1
theorem fold_inv {S α : Type} (P : S → Prop) (step : S → α → S) : ∀ (L : List α), (∀ s, ∀ u ∈ L, P s → P (step s u)) → ∀ s, P s → P (L.foldl step s)
  | [], _, _, h => h
  | a :: L, h, s, hs => fold_inv P step L (fun s u hu => h s u (by simp [hu])) _ (h s a (by simp) hs)
theorem fold_fix {S α : Type} (le : S → S → Prop) (refl : ∀ a, le a a) (trans : ∀ a b c, le a b → le b c → le a c) (anti : ∀ a b, le a b → le b a → a = b) (step : S → α → S) (infl : ∀ s u, le s (step s u)) :
    ∀ (L : List α) (s : S), L.foldl step s = s → ∀ u ∈ L, step s u = s := by
  have all : ∀ (L : List α) (s : S), le s (L.foldl step s) := by
    intro L
    induction L with
    | nil => exact fun s => refl s
    | cons a L ih => exact fun s => trans _ _ _ (infl s a) (ih _)
  intro L
  induction L with
  | nil => intro s _ u hu; cases hu
  | cons a L ih =>
    intro s h u hu
    rw [List.foldl_cons] at h
    have e : step s a = s := anti _ _ (by have := all L (step s a); rwa [h] at this) (infl s a)
    rcases List.mem_cons.1 hu with rfl | hu
    · exact e
    · rw [e] at h; exact ih s h u hu
theorem fold_infl {S α : Type} (le : S → S → Prop) (refl : ∀ a, le a a) (trans : ∀ a b c, le a b → le b c → le a c) (step : S → α → S) (infl : ∀ s u, le s (step s u)) : ∀ (L : List α) (s : S), le s (L.foldl step s)
  | [], s => refl s
  | a :: L, s => trans _ _ _ (infl s a) (fold_infl le refl trans step infl L _)
def leB (f g : Nat → Bool) : Prop := ∀ i, f i = true → g i = true
theorem leB_refl (a : Nat → Bool) : leB a a := fun _ h => h
theorem leB_trans (a b c : Nat → Bool) (h : leB a b) (k : leB b c) : leB a c := fun i e => k i (h i e)
theorem leB_anti (a b : Nat → Bool) (h : leB a b) (k : leB b a) : a = b := by
  funext i
  cases ha : a i with
  | true => exact (h i ha).symm
  | false =>
    cases hb : b i with
    | false => rfl
    | true => rw [k i hb] at ha; cases ha
theorem prog_B {f f' : Nat → Bool} {N : Nat} (le : leB f f') (supp : ∀ i, f' i = true → i < N) : f' = f ∨ cntF f' N < cntF f N := by
  by_cases h : ∃ i, f' i = true ∧ f i = false
  · obtain ⟨i, h1, h0⟩ := h
    exact Or.inr (cntF_lt le (supp i h1) h0 h1)
  · left
    refine leB_anti _ _ (fun i hi => ?_) le
    cases hf : f i with
    | true => rfl
    | false => exact absurd ⟨i, hi, hf⟩ h
/-! ### Null -/
section
variable {g : Gr} (hg : g.Ok)
include hg
omit hg in
theorem nul_infl (es : Nat → Bool) (u : Ru) : leB es (nulStep es u) := fun i h => by
  unfold nulStep
  by_cases e : i = u.1
  · subst e; simp [h]
  · simp [e, h]
theorem nulN_ok (N : Nat) : nulK g.rules g.nons N = true ↔ NullN g.rules N := by
  have hit : ∀ k, nulK g.rules k = itF (nulRound g.rules) (fun _ => false) k := fun k => by
    induction k with
    | zero => rfl
    | succ k ih => simp only [nulK, itF, ih]
  constructor
  · have : ∀ k, ∀ N, nulK g.rules k N = true → NullN g.rules N := fun k => by
      induction k with
      | zero => intro N h; cases h
      | succ k ih =>
        refine fold_inv (fun es : Nat → Bool => ∀ N, es N = true → NullN g.rules N) nulStep g.rules (fun es u hu hes N hN => ?_) _ ih
        unfold nulStep at hN
        by_cases e : N = u.1
        · subst e
          rw [if_pos rfl, Bool.or_eq_true] at hN
          rcases hN with h | h
          · exact hes _ h
          · have := ofE_null hes h
            exact .mk u.1 u.2 hu (fun s hs => (this s hs).1) (fun s hs => (this s hs).2)
        · rw [if_neg e] at hN; exact hes _ hN
    exact this g.nons N
  · intro h
    have hfix := itF_fix (nulRound g.rules) (fun f => cntF f g.nons) g.nons (fun _ => false) (fun f => ∀ i, f i = true → i < g.nons) (fun i h => by cases h)
      (fun s hs => fold_inv (fun f : Nat → Bool => ∀ i, f i = true → i < g.nons) nulStep g.rules (fun es u hu hes N hN => by
        unfold nulStep at hN
        by_cases e : N = u.1
        · subst e; exact hg.left u hu
        · rw [if_neg e] at hN; exact hes _ hN) s hs)
      (fun s hs => prog_B (fold_infl leB leB_refl leB_trans nulStep nul_infl g.rules s) (fold_inv (fun f : Nat → Bool => ∀ i, f i = true → i < g.nons) nulStep g.rules (fun es u hu hes N hN => by
        unfold nulStep at hN
        by_cases e : N = u.1
        · subst e; exact hg.left u hu
        · rw [if_neg e] at hN; exact hes _ hN) s hs))
      (cntF_bound _ _) g.nons (Nat.le_refl _)
    rw [← hit] at hfix
    have hcl := fold_fix leB leB_refl leB_trans leB_anti nulStep nul_infl g.rules _ hfix
    refine closed_null (fun u hu he => ?_) h
    have := congrFun (hcl u hu) u.1
    unfold nulStep at this
    rw [if_pos rfl] at this
    show nulK g.rules g.nons u.1 = true
    rw [← this, show ofE (nulK g.rules g.nons) u.2 = true from he]; simp
end
end Go.Proofs.YtfmnmgnhanogmaaDoor






namespace Go.Proofs.YtfmnmgnhanogmaaDoor
open Go.RowKit

/-- a slice of ints that the call owns, wherever it begins in its block -/
def QuI (w : World) (base : Nat) (v : Value) (n : Nat) (xs : List Int) : Prop :=
  ∃ g off c cs, v = .slice (some ⟨g, off, none⟩) n c ∧ xs.length = n ∧ n ≤ c ∧ base ≤ g ∧ Blk w g 3 cs ∧ off + c ≤ cs.size ∧ ∀ (i : Nat) (x : Int), xs[i]? = some x → cs[off + i]? = some (.int .i64 x)
section
variable {w w' : World} {base n : Nat} {v : Value} {xs : List Int}
theorem QuI.via (h : QuI w base v n xs) (hb : Below w.heap.size w w') : QuI w' base v n xs := by
  obtain ⟨g, off, c, cs, h1, h2, h3, h4, h5, h6⟩ := h
  exact ⟨g, off, c, cs, h1, h2, h3, h4, h5.via hb, h6⟩
theorem QuI.grown {row : Option Nat} (h : QuI w base v n xs) (hb : w.grownBy w' row) (hr : ∀ b, v.ownBlock = some b → some b ≠ row) : QuI w' base v n xs := by
  obtain ⟨g, off, c, cs, h1, h2, h3, h4, h5, h6⟩ := h
  exact ⟨g, off, c, cs, h1, h2, h3, h4, h5.grown hb (hr g (by rw [h1]; rfl)), h6⟩
theorem QuI.lt (h : QuI w base v n xs) : ∃ g, v.ownBlock = some g ∧ base ≤ g ∧ g < w.heap.size := by
  obtain ⟨g, off, c, cs, h1, h2, h3, h4, h5, h6⟩ := h
  exact ⟨g, by rw [h1]; rfl, h4, h5.lt⟩
theorem QuI.len (h : QuI w base v n xs) : xs.length = n := by obtain ⟨_, _, _, _, _, h, _⟩ := h; exact h
/-- the first is taken -/
theorem QuI.pop {x : Int} {g off c : Nat} (h : QuI w base (.slice (some ⟨g, off, none⟩) n c) n (x :: xs)) : w.cell? ⟨g, off, none⟩ = some (.int .i64 x) ∧ 0 < n ∧ n ≤ c ∧ QuI w base (.slice (if c = 1 then some ⟨g, off, none⟩ else some ⟨g, off + 1, none⟩) (n - 1) (c - 1)) (n - 1) xs := by
  obtain ⟨g', off', c', cs, h1, h2, h3, h4, h5, h6, h7⟩ := h
  simp only [Value.slice.injEq, Option.some.injEq, Addr.mk.injEq, and_true] at h1
  obtain ⟨⟨rfl, rfl⟩, -, rfl⟩ := h1
  simp only [List.length_cons] at h2
  refine ⟨?_, by omega, h3, ?_⟩
  · rw [h5.cell]; have := h7 0 x rfl; simpa using this
  · by_cases hc : c = 1
    · rw [if_pos hc]
      refine ⟨g, off, c - 1, cs, rfl, by omega, by omega, h4, h5, by omega, fun i y hy => ?_⟩
      have := (List.getElem?_eq_some_iff.1 hy).1
      omega
    · rw [if_neg hc]
      refine ⟨g, off + 1, c - 1, cs, rfl, by omega, by omega, h4, h5, by omega, fun i y hy => ?_⟩
      have := h7 (i + 1) y (by simpa using hy)
      rw [show off + 1 + i = off + (i + 1) by omega]; exact this
theorem run_append_qu (ty : TypeId) (h : QuI w base v n xs) (b : Nat) (x : Int) (hcell : w.cell? ⟨b, 0, none⟩ = some (.int .i64 x)) (hn : n + 1 ≤ 1000000) (hbase : base ≤ w.heap.size) :
    ∃ g off c w', (Builtin.append_ #[25, 25] ty #[v, .slice (some ⟨b, 0, none⟩) 1 1]).run Tryd.prog w = .ok (.slice (some ⟨g, off, none⟩) (n + 1) c) w' ∧ QuI w' base (.slice (some ⟨g, off, none⟩) (n + 1) c) (n + 1) (xs ++ [x]) ∧ w.grownBy w' v.ownBlock ∧ (some g = v.ownBlock ∨ w.heap.size ≤ g) := by
  obtain ⟨i, hi, hz, hs, hby⟩ := info_parts int_info
  obtain ⟨g, off, c, cs, rfl, h2, h3, h4, h5, h6, h7⟩ := h
  have hnews : ∀ (j : Nat) (u : Value), [Value.int .i64 x][j]? = some u → w.cell? ((⟨b, 0, none⟩ : Addr).add j) = some u := fun j u hu => by
    cases j with
    | zero => simp at hu; subst hu; simpa [Addr.add_lit] using hcell
    | succ j => simp at hu
  by_cases hroom : n + 1 ≤ c
  · have hr := run_append_room_cells (P := Tryd.prog) w 25 ty 3 i Tryd.underlying25 hi g off n c ⟨b, 0, none⟩ 1 1 [.int .i64 x] (by simp [hs]) hnews (fun u hu => by simp at hu; subst hu; rfl) hroom
      (fun j hj => by
        have hj0 : j = 0 := by simpa using hj
        subst hj0
        rw [hs, h5.cell]
        have : off + n * 1 + 0 < cs.size := by omega
        rw [Array.getElem?_eq_getElem this]; rfl) (fun j hj => h5.frozen _)
    rw [hs] at hr
    refine ⟨g, off, c, _, hr, ?_, ?_, Or.inl rfl⟩
    · refine ⟨g, off, c, cs.setIfInBounds (off + n * 1) (.int .i64 x), rfl, by simp [h2], hroom, h4, ?_, by simpa using h6, fun j y hy => ?_⟩
      · simp only [World.setCells]
        exact h5.set_ _ _
      · rw [Array.getElem?_setIfInBounds]
        by_cases hj : j = n
        · subst hj
          rw [List.getElem?_append_right (by omega), h2, Nat.sub_self] at hy
          simp at hy
          subst hy
          rw [if_pos (by omega), if_pos (by omega)]
        · have hjl := (List.getElem?_eq_some_iff.1 hy).1
          rw [if_neg (by omega)]
          rw [List.getElem?_append_left (by simp at hjl; omega)] at hy
          exact h7 j y hy
    · simp only [World.setCells]
      exact grownBySet _ g _ _
  · obtain ⟨v', w', hr, ho, hg⟩ := run_append_arg_grows (P := Tryd.prog) w 25 ty 3 i _ 1 8 Tryd.underlying25 hi hz hs hby rfl (by omega) ⟨g, off, none⟩ n c (xs.map (Value.int .i64)) (by simp [h2]) (fun j u hu => by
        rw [List.getElem?_map] at hu
        obtain ⟨y, hy, rfl⟩ := Option.map_eq_some_iff.1 hu
        rw [Addr.add_lit, h5.cell]; exact h7 j y hy) ⟨b, 0, none⟩ 1 1 [.int .i64 x] (by simp) hnews (by omega) (by simp only [maxLen]; omega) (by omega)
    rcases ho.2 with ⟨h0, hn0⟩ | ⟨g', cap, cur, rfl, hb, hh, hc1, hc2, hc3, htk⟩
    · omega
    · refine ⟨g', 0, cap, w', hr, ⟨g', 0, cap, cur, rfl, by simp [h2], hc1, by omega, hh, by omega, fun j y hy => ?_⟩, ⟨hg.os, hg.tape, hg.output, hg.size, fun j hj _ => hg.block j hj (by simp)⟩, ?_⟩
      · have e1 : (cur.toList.take ((n + 1) * 1))[j]? = some (.int .i64 y) := by
          rw [htk]
          have : (xs ++ [x]).map (Value.int .i64) = xs.map (Value.int .i64) ++ [Value.int .i64 x] := by simp
          rw [← this, List.getElem?_map, hy]; rfl
        have hjl := (List.getElem?_eq_some_iff.1 hy).1
        rw [List.getElem?_take, if_pos (by simp at hjl; omega)] at e1
        simpa using e1
      · exact Or.inr hb
end
theorem append_qu {ops : Array Oper} {rest : List Oper} {o : Oper} {a : Act} {Q : Exit → Act → World → Prop} (w : World) (hgd : o.guard = none) (s y : Operand)
    (ho : o.op = .call { callee := .builtin .append, args := #[s, y], argTypes := #[25, 25] })
    (base : Nat) (v : Value) (n : Nat) (xs : List Int) (hs : a.eval s = v) (hown : QuI w base v n xs)
    (b : Nat) (x : Int) (hy : a.eval y = .slice (some ⟨b, 0, none⟩) 1 1) (hcell : w.cell? ⟨b, 0, none⟩ = some (.int .i64 x)) (hn : n + 1 ≤ 1000000) (hbase : base ≤ w.heap.size)
    (h : ∀ g off c w', QuI w' base (.slice (some ⟨g, off, none⟩) (n + 1) c) (n + 1) (xs ++ [x]) → w.grownBy w' v.ownBlock → (some g = v.ownBlock ∨ w.heap.size ≤ g) → wpList Tryd.prog ops Q rest (a.put o.dst (.slice (some ⟨g, off, none⟩) (n + 1) c)) w') : wpList Tryd.prog ops Q (o :: rest) a w := by
  obtain ⟨g, off, c, w', hrun, h2, h3, h4⟩ := run_append_qu o.type hown b x hcell hn hbase
  refine wpList_plain hgd fun _ hK => ?_
  unfold Oper.wp execOp
  simp only [ho, resolve, invoke, builtin, Sem.run_bind, Sem.run_pure, Result.andThen_ok, List.map_toArray, List.map_cons, List.map_nil, hs, hy, hrun]
  exact hK _ _ (h g off c w' h2 h3 h4)
/-- rows of sets: their headers, the sets -/
structure MMat (w : World) (hb N : Nat) (bs : Nat → Nat) (F : Nat → Nat → Bool) : Prop where
  hd : HRow w hb N 84 fun i => .map (some (bs i))
  set : ∀ i, i < N → SetM w (bs i) (F i)
  inj : ∀ i j, i < N → j < N → bs i = bs j → i = j
section
variable {w w' : World} {hb N i j : Nat} {bs : Nat → Nat} {F : Nat → Nat → Bool}
theorem MMat.via (h : MMat w hb N bs F) (k : Below w.heap.size w w') : MMat w' hb N bs F := ⟨h.hd.via k, fun i hi => (h.set i hi).via k, h.inj⟩
theorem MMat.ext {G : Nat → Nat → Bool} (h : MMat w hb N bs F) (e : ∀ i j, i < N → G i j = F i j) : MMat w hb N bs G := ⟨h.hd, fun i hi => (h.set i hi).ext fun j => (e i j hi).symm, h.inj⟩
theorem SetM.ne_row {b bm n : Nat} {f : Nat → Bool} {t : TypeId} {v : Nat → Value} (h : SetM w bm f) (hr : HRow w b n t v) : b ≠ bm := by
  obtain ⟨cs, h1, -⟩ := hr
  intro e
  subst e
  obtain ⟨es, clock, hb, -⟩ := h.1
  unfold Blk at h1
  rw [hb] at h1
  cases h1
theorem MMat.put {g : Nat → Bool} (h : MMat w hb N bs F) (hi : i < N) (hs : SetM w' (bs i) g) (hg : w.grownBy w' (some (bs i))) : MMat w' hb N bs (fun a b => if a = i then g b else F a b) :=
  ⟨h.hd.grown hg (fun e => (h.set i hi).ne_row h.hd (Option.some.inj e)), fun a ha => by
    by_cases e : a = i
    · subst e; simpa using hs
    · simp only [if_neg e]
      exact (h.set a ha).grown hg (fun q => e (h.inj a i ha hi (Option.some.inj q))), h.inj⟩
theorem MMat.other {row : Option Nat} (h : MMat w hb N bs F) (hg : w.grownBy w' row) (h1 : some hb ≠ row) (h2 : ∀ i, i < N → some (bs i) ≠ row) : MMat w' hb N bs F :=
  ⟨h.hd.grown hg h1, fun i hi => (h.set i hi).grown hg (h2 i hi), h.inj⟩
end
/-- while the sets are being made -/
structure MkS (wr : World) (hb N k B : Nat) (bs : Nat → Nat) : Prop where
  hd : HRow wr hb N 84 fun i => if i < k then .map (some (bs i)) else .map none
  set : ∀ i, i < k → SetM wr (bs i) (fun _ => false)
  inj : ∀ i j, i < k → j < k → bs i = bs j → i = j
  lo : ∀ i, i < k → B ≤ bs i
theorem MkS.step {wr : World} {hb N k B : Nat} {bs : Nat → Nat} (h : MkS wr hb N k B bs) (hk : k < N) (hB : B ≤ wr.heap.size) : MkS ((wr.alloc (.map #[] 0)).setCell ⟨hb, k, none⟩ (.map (some wr.heap.size))) hb N (k + 1) B (fun i => if i = k then wr.heap.size else bs i) := by
  have hal := (Below.refl wr.heap.size wr).al (.map #[] 0)
  have hbl := h.hd.lt
  have hold : ∀ i, i < k → bs i < wr.heap.size := fun i hi => (h.set i hi).lt
  have hfar : ∀ {b : Nat} {f : Nat → Bool}, SetM (wr.alloc (.map #[] 0)) b f → b ≠ hb → SetM ((wr.alloc (.map #[] 0)).setCell ⟨hb, k, none⟩ (.map (some wr.heap.size))) b f := fun hs hne => ⟨hs.1.far (p := ⟨hb, k, none⟩) hne _, hs.2⟩
  refine ⟨((h.hd.via hal).put hk _).ext fun j hj => ?_, fun i hi => ?_, fun i j hi hj hij => ?_, fun i hi => ?_⟩
  · by_cases e : j = k
    · subst e; simp
    · simp only [if_neg e]
      by_cases e2 : j < k
      · rw [if_pos e2, if_pos (by omega)]
      · rw [if_neg e2, if_neg (by omega)]
  · by_cases e : i = k
    · simp only [if_pos e]
      exact hfar (SetM.made wr) (by omega)
    · simp only [if_neg e]
      exact hfar ((h.set i (by omega)).via hal) (fun e2 => ((h.set i (by omega)).ne_row h.hd) e2.symm)
  · by_cases e1 : i = k
    · by_cases e2 : j = k
      · omega
      · simp only [if_pos e1, if_neg e2] at hij
        have := hold j (by omega); omega
    · by_cases e2 : j = k
      · simp only [if_neg e1, if_pos e2] at hij
        have := hold i (by omega); omega
      · simp only [if_neg e1, if_neg e2] at hij
        exact h.inj i j (by omega) (by omega) hij
  · by_cases e : i = k
    · simp only [if_pos e]; exact hB
    · simp only [if_neg e]; exact h.lo i (by omega)
theorem MkS.done {wr : World} {hb N B : Nat} {bs : Nat → Nat} (h : MkS wr hb N N B bs) : MMat wr hb N bs (fun _ _ => false) :=
  ⟨h.hd.ext fun j hj => by rw [if_pos hj], h.set, h.inj⟩
theorem maps_info : (Tryd.prog.info? 84).map (fun i => (i.zero, i.size, i.bytes)) = some (some (.map none), 1, 8) := by kernel_rfl
theorem mk_maps (n : Nat) (hn : n ≤ 1000000) : ∀ w : World, (Instr.makeSlice 83 (.int .i64 (n : Int)) (.int .i64 (n : Int))).run Tryd.prog w = .ok (.slice (some ⟨w.heap.size, 0, none⟩) n n) (w.alloc (.cells (mkCells (.map none) n) 84)) := by
  intro w
  obtain ⟨i, hi, hz, hs, hb⟩ := info_parts maps_info
  have := run_make (P := Tryd.prog) w 83 84 i _ Tryd.underlying83 hi hz .i64 .i64 (n : Int) (n : Int) (by omega) (by omega) (by rw [hb]; omega) (by omega)
  rw [show ((n : Int)).toNat = n from by omega, hs, Nat.mul_one] at this
  exact this
theorem irow_info : (Tryd.prog.info? 25).map (fun i => (i.zero, i.size, i.bytes)) = some (some (.slice none 0 0), 1, 24) := by kernel_rfl
theorem mk_irows (n : Nat) (hn : n ≤ 1000000) : ∀ w : World, (Instr.makeSlice 28 (.int .i64 (n : Int)) (.int .i64 (n : Int))).run Tryd.prog w = .ok (.slice (some ⟨w.heap.size, 0, none⟩) n n) (w.alloc (.cells (mkCells (.slice none 0 0) n) 25)) := by
  intro w
  obtain ⟨i, hi, hz, hs, hb⟩ := info_parts irow_info
  have := run_make (P := Tryd.prog) w 28 25 i _ Tryd.underlying28 hi hz .i64 .i64 (n : Int) (n : Int) (by omega) (by omega) (by rw [hb]; omega) (by omega)
  rw [show ((n : Int)).toNat = n from by omega, hs, Nat.mul_one] at this
  exact this
end Go.Proofs.YtfmnmgnhanogmaaDoor



namespace Go.Proofs.YtfmnmgnhanogmaaDoor
open Go.RowKit

section
variable {R : List Ru} {W : List Nat}
theorem DrL.len {l : List Sy} {i j : Nat} {ts : List Tr} (h : DrL R W l i j ts) : ts.length = l.length := by
  induction h with
  | nil k => rfl
  | leaf a k j l ts hw h2 ih => simp [ih]
  | node n r k m j rhs l ks ts hr h1 h2 ih1 ih2 => simp [ih2]
/-- the q-th kids of two rows whose kids ahead are the same: trees of one symbol from one place; the order of the q-th kids is that of the rows -/
theorem DrL.at2 : ∀ {l : List Sy} {i j j' : Nat} {ts us : List Tr} {q : Nat}, DrL R W l i j ts → DrL R W l i j' us → (∀ x, x < q → ts[x]? = us[x]?) → q < l.length →
    ∃ s p m m' t u, ts[q]? = some t ∧ us[q]? = some u ∧ l[q]? = some s ∧ DrL R W [s] p m [t] ∧ DrL R W [s] p m' [u] ∧ (LtF [t] [u] → LtF ts us) ∧ (LtF [u] [t] → LtF us ts) := by
  intro l
  induction l with
  | nil => intro i j j' ts us q _ _ _ hq; exact absurd hq (Nat.not_lt_zero _)
  | cons s l ih =>
    intro i j j' ts us q h h' he hq
    obtain ⟨t, ts, m, rfl, h1, h2⟩ := DrL.cons.1 h
    obtain ⟨u, us, m', rfl, h1', h2'⟩ := DrL.cons.1 h'
    cases q with
    | zero => exact ⟨s, i, m, m', t, u, rfl, rfl, rfl, h1, h1', fun x => x.wide _ _, fun x => x.wide _ _⟩
    | succ q =>
      have e0 := he 0 (by omega)
      simp only [List.getElem?_cons_zero, Option.some.injEq] at e0
      subst e0
      have em : m = m' := by
        rcases h1.tri h1' with a | a | a
        · exact (a.irr rfl).elim
        · exact (a.irr rfl).elim
        · exact a.2
      subst em
      obtain ⟨s2, p, x, x', t2, u2, g1, g2, g3, g4, g5, g6, g7⟩ := ih (q := q) h2 h2' (fun x hx => by simpa using he (x + 1) (by omega)) (by simpa using hq)
      exact ⟨s2, p, x, x', t2, u2, by simpa using g1, by simpa using g2, by simpa using g3, g4, g5, fun y => .tail _ _ _ (g6 y), fun y => .tail _ _ _ (g7 y)⟩
/-- all kids the same -/
theorem DrL.same {l : List Sy} {i j j' : Nat} {ts us : List Tr} (h : DrL R W l i j ts) (h' : DrL R W l i j' us) (he : ∀ x, x < l.length → ts[x]? = us[x]?) : ts = us := by
  refine List.ext_getElem? fun x => ?_
  by_cases hx : x < l.length
  · exact he x hx
  · rw [List.getElem?_eq_none (by rw [h.len]; omega), List.getElem?_eq_none (by rw [h'.len]; omega)]
/-- trees of one nonterminal: their rules -/
theorem DrL.rules {n i j j' r r' : Nat} {ks ls : List Tr} (h : DrL R W [(false, n)] i j [.node r ks]) (h' : DrL R W [(false, n)] i j' [.node r' ls]) : (r < r' → LtF [.node r ks] [.node r' ls]) ∧ (r = r' → ∃ rhs, R[r]? = some (n, rhs) ∧ DrL R W rhs i j ks ∧ DrL R W rhs i j' ls) := by
  refine ⟨fun hlt => .head _ _ _ _ _ _ hlt, fun e => ?_⟩
  subst e
  cases h with
  | node _ _ _ m _ rhs _ _ _ hr h1 h2 =>
    cases h2
    cases h' with
    | node _ _ _ m' _ rhs' _ _ _ hr' h1' h2' =>
      cases h2'
      rw [hr] at hr'
      simp only [Option.some.injEq, Prod.mk.injEq, true_and] at hr'
      subst hr'
      exact ⟨rhs, hr, h1, h1'⟩
/-- what a comparison answers -/
def CmpT (a b : Tr) (c : Int) : Prop := (c < 0 → LtF [a] [b]) ∧ (c = 0 → a = b) ∧ (0 < c → LtF [b] [a])
theorem CmpT.lt {a b : Tr} {c : Int} (h : CmpT a b c) : c < 0 ↔ LtF [a] [b] := by
  refine ⟨h.1, fun hl => ?_⟩
  rcases Int.lt_trichotomy c 0 with h1 | h1 | h1
  · exact h1
  · exact (hl.irr (by rw [h.2.1 h1])).elim
  · exact (hl.asym (h.2.2 h1)).elim
end
end Go.Proofs.YtfmnmgnhanogmaaDoor

