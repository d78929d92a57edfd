/- Texts BU, BW, BX, laid together. -/
import Derived.Test.YtbfcnfgkccgbiaaGreatDoorBT
import Derived.Test.YtbfcnfgkccgbiaaGreatDoorE1
import Derived.Test.YtbfcnfgkccgbiaaGreatDoorJ2
import Derived.Test.YtbfcnfgkccgbiaaGreatDoorJ3






namespace Go.Proofs.YtbfcnfgkccgbiaaGreatDoor
open Go.RowKit

/-- the parts that are derived -/
noncomputable def dvD (rules : List Ru) (xs : List Int) (k : Ky) : Bool := @decide (DvS rules xs k) (Classical.propDecidable _)
theorem dvD_iff {rules : List Ru} {xs : List Int} {k : Ky} : dvD rules xs k = true ↔ DvS rules xs k := by unfold dvD; exact @decide_eq_true_iff _ (Classical.propDecidable _)
theorem dOf_dv {rules : List Ru} {xs : List Int} {E : EnS} (hs : SndE rules xs E) (hf : FixE rules xs E) (hl : xs.length < 32) : dOf xs E = dvD rules xs := by
  funext k
  exact Bool.eq_iff_iff.2 ((dOf_iff hs hf hl k).trans dvD_iff.symm)
/-- a forest, or ErrLarge -/
def FoP (w : World) (D : Ky → Bool) (R : List Ru) (root : Ky) (e : Ending) (w' : World) : Prop :=
  ∃ f v b, e = .returned (.tuple #[v, .int .i64 (if b then 0 else 2)]) ∧ IsFo D R root 20000 f b ∧ FoR (fun b => w.heap.size ≤ b) w' v f ∧ Below w.heap.size w w'
/-- the error of a grammar, then that of a word -/
def chkB (T N S : Int) (rs : List Ri) (xs : List Int) : Int := if chkG T N S rs = 0 then chkW T 12 xs else chkG T N S rs
set_option maxRecDepth 100000 in
theorem mcheckB_c (ok : Nat → Prop) (T N S : Int) (A : Option Addr) (n c : Nat) (rs : List Ri) (wA : Option Addr) (wn wc : Nat) (xs : List Int) (w : World) (hl : Sl RiE ok w A n c rs) (hx : Ints w wA wn wc xs) :
    Calls Tryz.prog 54 #[.agg #[.int .i64 T, .int .i64 N, .int .i64 S, .slice A n c], .slice wA wn wc] w (IntO w (chkB T N S rs xs)) := by
  obtain ⟨q, hq⟩ : ∃ q, chkG T N S rs = q := ⟨_, rfl⟩
  have B0 := Blk.new w 24 #[.int .i64 T, .int .i64 N, .int .i64 S, .slice A n c]
  have HB := Lib.hid ((Below.refl w.heap.size w).al (.cells #[.int .i64 T, .int .i64 N, .int .i64 S, .slice A n c] 24))
  have HL := Lib.hid (hl.al (.cells #[.int .i64 T, .int .i64 N, .int .i64 S, .slice A n c] 24))
  have HX := Lib.hid (hx.alloc (.cells #[.int .i64 T, .int .i64 N, .int .i64 S, .slice A n c] 24))
  have HB0 := Lib.hid B0
  have HQ := Lib.hid hq
  clear hl hx hq
  go_enter Tryz.func54, Tryz.ntmps54
  have cB0 := B0.cell
  have fB0 := B0.frozen
  have lB0 := B0.lt
  go_wp2_with fail
  clear cB0 fB0 lB0
  generalize w.alloc (.cells #[.int .i64 T, .int .i64 N, .int .i64 S, .slice A n c] 24) = W at *
  have hc := checkI_c ok T N S A n c rs W HL.out
  rw [HQ.out] at hc
  refine hc.mono ?_
  clear hc
  rintro e w1 ⟨rfl, hb⟩
  have HB1 := Lib.hid (HB.out.via hb)
  have HX1 := Lib.hid (HX.out.keep hb (Nat.le_refl _))
  have B1 := HB0.out.via hb
  clear hb B0 HB HX HB0
  by_cases h0 : q = 0
  · subst h0
    have HT := Lib.hid (show 1 ≤ T ∧ T ≤ 8 from by
      obtain ⟨g, hg, rfl, -⟩ := chkG_ok HQ.out
      have := hg.ok.terms; omega)
    have HV := Lib.hid (show chkB T N S rs xs = chkW T 12 xs by unfold chkB; rw [if_pos HQ.out])
    have cB1 := B1.cell
    have fB1 := B1.frozen
    have lB1 := B1.lt
    go_wp2_with fail
    clear cB1 fB1 lB1
    refine (wordI_c T N S HT.out A n c wA wn wc 12 xs w1 HX1.out (by omega)).mono ?_
    rintro e w2 ⟨rfl, hb⟩
    have HF := Lib.hid (HB1.out.via hb)
    clear hb
    go_wp2_with fail
    go_ret
    exact ⟨by rw [HV.out]; rfl, HF.out⟩
  · have HV := Lib.hid (show chkB T N S rs xs = q by unfold chkB; rw [if_neg (by rw [HQ.out]; exact h0)]; exact HQ.out)
    go_wp2_with fail
    go_ret
    exact ⟨by rw [HV.out]; rfl, HB1.out⟩
set_option maxRecDepth 100000 in
theorem refboth_c (ok : Nat → Prop) (T N S : Int) (A : Option Addr) (n c : Nat) (rs : List Ri) (wA : Option Addr) (wn wc : Nat) (xs : List Int) (w : World) (hl : Sl RiE ok w A n c rs) (hx : Ints w wA wn wc xs) :
    Calls Tryz.prog 8 #[.agg #[.int .i64 T, .int .i64 N, .int .i64 S, .slice A n c], .slice wA wn wc] w (IntO w (chkB T N S rs xs)) := by
  obtain ⟨q, hq⟩ : ∃ q, chkG T N S rs = q := ⟨_, rfl⟩
  have B0 := Blk.new w 24 #[.int .i64 T, .int .i64 N, .int .i64 S, .slice A n c]
  have HB := Lib.hid ((Below.refl w.heap.size w).al (.cells #[.int .i64 T, .int .i64 N, .int .i64 S, .slice A n c] 24))
  have HL := Lib.hid (hl.al (.cells #[.int .i64 T, .int .i64 N, .int .i64 S, .slice A n c] 24))
  have HX := Lib.hid (hx.alloc (.cells #[.int .i64 T, .int .i64 N, .int .i64 S, .slice A n c] 24))
  have HB0 := Lib.hid B0
  have HQ := Lib.hid hq
  clear hl hx hq
  go_enter Tryz.func8, Tryz.ntmps8
  have cB0 := B0.cell
  have fB0 := B0.frozen
  have lB0 := B0.lt
  go_wp2_with fail
  clear cB0 fB0 lB0
  generalize w.alloc (.cells #[.int .i64 T, .int .i64 N, .int .i64 S, .slice A n c] 24) = W at *
  have hc := refcheck_c ok T N S A n c rs W HL.out
  rw [HQ.out] at hc
  refine hc.mono ?_
  clear hc
  rintro e w1 ⟨rfl, hb⟩
  have HB1 := Lib.hid (HB.out.via hb)
  have HX1 := Lib.hid (HX.out.keep hb (Nat.le_refl _))
  have B1 := HB0.out.via hb
  clear hb B0 HB HX HB0
  by_cases h0 : q = 0
  · subst h0
    have HT := Lib.hid (show 1 ≤ T ∧ T ≤ 8 from by
      obtain ⟨g, hg, rfl, -⟩ := chkG_ok HQ.out
      have := hg.ok.terms; omega)
    have HV := Lib.hid (show chkB T N S rs xs = chkW T 12 xs by unfold chkB; rw [if_pos HQ.out])
    have cB1 := B1.cell
    have fB1 := B1.frozen
    have lB1 := B1.lt
    go_wp2_with fail
    clear cB1 fB1 lB1
    refine (refword_c T N S HT.out A n c wA wn wc 12 xs w1 HX1.out (by omega)).mono ?_
    rintro e w2 ⟨rfl, hb⟩
    have HF := Lib.hid (HB1.out.via hb)
    clear hb
    go_wp2_with fail
    go_ret
    exact ⟨by rw [HV.out]; rfl, HF.out⟩
  · have HV := Lib.hid (show chkB T N S rs xs = q by unfold chkB; rw [if_neg (by rw [HQ.out]; exact h0)]; exact HQ.out)
    go_wp2_with fail
    go_ret
    exact ⟨by rw [HV.out]; rfl, HB1.out⟩
set_option maxRecDepth 100000 in
theorem accepts_e (ok : Nat → Prop) (T N S : Int) (A : Option Addr) (n c : Nat) (rs : List Ri) (wA : Option Addr) (wn wc : Nat) (xs : List Int) (w : World) (hl : Sl RiE ok w A n c rs) (hx : Ints w wA wn wc xs) (q : Int) (hq : chkB T N S rs xs = q) (hbad : q ≠ 0) :
    Calls Tryz.prog 24 #[.agg #[.int .i64 T, .int .i64 N, .int .i64 S, .slice A n c], .slice wA wn wc] w fun e w' => e = .returned (.tuple #[.bool false, .int .i64 q]) ∧ Below w.heap.size w w' := by
  have B0 := Blk.new w 24 #[.int .i64 T, .int .i64 N, .int .i64 S, .slice A n c]
  have HB := Lib.hid ((Below.refl w.heap.size w).al (.cells #[.int .i64 T, .int .i64 N, .int .i64 S, .slice A n c] 24))
  have HL := Lib.hid (hl.al (.cells #[.int .i64 T, .int .i64 N, .int .i64 S, .slice A n c] 24))
  have HX := Lib.hid (hx.alloc (.cells #[.int .i64 T, .int .i64 N, .int .i64 S, .slice A n c] 24))
  have HQ := Lib.hid hq
  clear hl hx hq
  go_enter Tryz.func24, Tryz.ntmps24
  have cB0 := B0.cell
  have fB0 := B0.frozen
  have lB0 := B0.lt
  go_wp2_with fail
  clear cB0 fB0 lB0
  generalize w.alloc (.cells #[.int .i64 T, .int .i64 N, .int .i64 S, .slice A n c] 24) = W at *
  have hc := mcheckB_c ok T N S A n c rs wA wn wc xs W HL.out HX.out
  rw [HQ.out] at hc
  refine hc.mono ?_
  clear hc
  rintro e w1 ⟨rfl, hb⟩
  have HB1 := Lib.hid (HB.out.via hb)
  clear hb B0 HB
  go_wp2_with fail
  go_ret2
  exact ⟨rfl, HB1.out⟩
set_option maxRecDepth 100000 in
set_option maxHeartbeats 2000000 in
theorem fmake2_c (ok : Nat → Prop) (g : Gr) (Ag : Option Addr) (ng cg : Nat) (A : Option Addr) (n c ob oo oc : Nat) (rb ro rc : Nat → Nat) (xs : List Int) (E : EnS) (w : World) (hg : g.Ok) (hl : Sl RuE ok w Ag ng cg g.rules) (hx : Ints w A n c xs) (hE : EnV w ob oo g.nons n rb ro rc E) (hT : TabW w) (hsup : SupE n E) (hn : n ≤ 12) :
    Calls Tryz.prog 50 #[grVal g Ag ng cg, .slice A n c, .slice (some ⟨ob, oo, none⟩) g.nons oc] w (FoP w (dOf xs E) g.rules ((false, g.start), 0, n)) := by
  have hal := ((Below.refl w.heap.size w).al (.cells #[.int .i64 (g.terms : Int), .int .i64 (g.nons : Int), .int .i64 (g.start : Int), .slice Ag ng cg] 24)).al (.cells #[.slice none 0 0, .int .i64 0] 34)
  have B0 := (Blk.new w 24 #[.int .i64 (g.terms : Int), .int .i64 (g.nons : Int), .int .i64 (g.start : Int), .slice Ag ng cg]).al (.cells #[.slice none 0 0, .int .i64 0] 34)
  have B1 := Blk.newAt (w.alloc (.cells #[.int .i64 (g.terms : Int), .int .i64 (g.nons : Int), .int .i64 (g.start : Int), .slice Ag ng cg] 24)) 34 #[.slice none 0 0, .int .i64 0] (w.heap.size + 1) (by simp)
  have HC := Lib.hid (build_c ok g Ag ng cg A n c ob oo oc rb ro rc xs E 20000 _ hg (hl.via hal) (hx.keep hal (Nat.le_refl _)) (hE.via hal) (hT.via hal) hsup hn (by omega))
  have HAL := Lib.hid hal
  have HB1 := Lib.hid B1
  clear hl hx hE hT hsup hg hal
  simp only [grVal] at HC ⊢
  go_enter Tryz.func50, Tryz.ntmps50
  have cB0 := B0.cell
  have fB0 := B0.frozen
  have lB0 := B0.lt
  go_wp2_with fail
  clear cB0 fB0 lB0
  clear B0 B1
  generalize (w.alloc (.cells #[.int .i64 (g.terms : Int), .int .i64 (g.nons : Int), .int .i64 (g.start : Int), .slice Ag ng cg] 24)).alloc (.cells #[.slice none 0 0, .int .i64 0] 34) = W at *
  refine HC.out.mono ?_
  clear HC
  rintro e w1 ⟨f, v, b, rfl, hf, ⟨fA, fn, fc, rfl, hS⟩, hb⟩
  have HF := Lib.hid hf
  have HS := Lib.hid hS
  have HB := Lib.hid hb
  obtain ⟨fr, fns⟩ := f
  have hB1 := HB1.out.via hb
  have hlt := HB1.out.lt
  have HSZ := Lib.hid HAL.out.size
  clear hf hS hb
  have hal := (Below.refl w1.heap.size w1).al (.cells #[.slice fA fn fc, .int .i64 fr] 34)
  have BV := Blk.new w1 34 #[.slice fA fn fc, .int .i64 fr]
  have B2 := hB1.via hal
  cases b with
  | true =>
    have cBV := BV.cell
    have fBV := BV.frozen
    have lBV := BV.lt
    have cB2 := B2.cell
    have fB2 := B2.frozen
    have lB2 := B2.lt
    go_wp2_with fail
    have B3 := ((hB1.via hal).set_ 0 (.slice fA fn fc)).set_ 1 (.int .i64 fr)
    simp only [List.setIfInBounds_toArray, List.set_cons_zero, List.set_cons_succ] at B3
    have cc2 := B3.cell
    refine bodyPost_ret (v := .tuple #[.agg #[.slice fA fn fc, .int .i64 fr], .int .i64 0]) (by simp [results, Tryz.results50, go_sem, cc2]) rfl ⟨(fr, fns), _, true, rfl, HF.out, ⟨fA, fn, fc, rfl, ?_⟩, ?_⟩
    · have h1 := HS.out.via hal
      have h2 := (h1.agr (Agr.setCell (p := ⟨w.heap.size + 1, 0, none⟩) (.slice fA fn fc) fun b hb => by show b ≠ w.heap.size + 1; omega)).agr (Agr.setCell (p := ⟨w.heap.size + 1, 1, none⟩) (.int .i64 fr) fun b hb => by show b ≠ w.heap.size + 1; omega)
      exact h2.mono fun b _ hb => Nat.le_trans HSZ.out hb
    · exact (((HAL.out.via HB.out).via hal).setCell (p := ⟨w.heap.size + 1, 0, none⟩) (by show w.heap.size ≤ w.heap.size + 1; omega) _).setCell (p := ⟨w.heap.size + 1, 1, none⟩) (by show w.heap.size ≤ w.heap.size + 1; omega) _
  | false =>
    have HF0 := Lib.hid (show (fr, fns) = ((0 : Int), ([] : List NdI)) by
      generalize hb : false = b at HF
      have := HF.out
      cases this with
      | none => cases hb
      | large => rfl
      | fits => cases hb)
    have cB2 := B2.cell
    have fB2 := B2.frozen
    have lB2 := B2.lt
    go_wp2_with fail
    have B3 := ((hB1.via hal).set_ 0 (.slice none 0 0)).set_ 1 (.int .i64 0)
    simp only [List.setIfInBounds_toArray, List.set_cons_zero, List.set_cons_succ] at B3
    have cc2 := B3.cell
    refine bodyPost_ret (v := .tuple #[.agg #[.slice none 0 0, .int .i64 0], .int .i64 2]) (by simp [results, Tryz.results50, go_sem, cc2]) rfl ⟨(0, []), _, false, rfl, by have := HF.out; rw [HF0.out] at this; exact this, FoR.nil _ _ _, ?_⟩
    exact (((HAL.out.via HB.out).via hal).setCell (p := ⟨w.heap.size + 1, 0, none⟩) (by show w.heap.size ≤ w.heap.size + 1; omega) _).setCell (p := ⟨w.heap.size + 1, 1, none⟩) (by show w.heap.size ≤ w.heap.size + 1; omega) _
end Go.Proofs.YtbfcnfgkccgbiaaGreatDoor



namespace Go.Proofs.YtbfcnfgkccgbiaaGreatDoor
open Go.RowKit

set_option maxRecDepth 100000 in
theorem of_e (ok : Nat → Prop) (T N S : Int) (A : Option Addr) (n c : Nat) (rs : List Ri) (wA : Option Addr) (wn wc : Nat) (xs : List Int) (w : World) (hl : Sl RiE ok w A n c rs) (hx : Ints w wA wn wc xs) (q : Int) (hq : chkB T N S rs xs = q) (hbad : q ≠ 0) :
    Calls Tryz.prog 32 #[.agg #[.int .i64 T, .int .i64 N, .int .i64 S, .slice A n c], .slice wA wn wc] w fun e w' => e = .returned (.tuple #[.agg #[.slice none 0 0, .int .i64 0], .int .i64 q]) ∧ Below w.heap.size w w' := by
  have hal := ((Below.refl w.heap.size w).al (.cells #[.int .i64 T, .int .i64 N, .int .i64 S, .slice A n c] 24)).al (.cells #[.slice none 0 0, .int .i64 0] 34)
  have B0 := (Blk.new w 24 #[.int .i64 T, .int .i64 N, .int .i64 S, .slice A n c]).al (.cells #[.slice none 0 0, .int .i64 0] 34)
  have B1 := Blk.newAt (w.alloc (.cells #[.int .i64 T, .int .i64 N, .int .i64 S, .slice A n c] 24)) 34 #[.slice none 0 0, .int .i64 0] (w.heap.size + 1) (by simp)
  have HC := Lib.hid (accepts_e ok T N S A n c rs wA wn wc xs _ (hl.via hal) (hx.keep hal (Nat.le_refl _)) q hq hbad)
  have HAL := Lib.hid hal
  have HB1 := Lib.hid B1
  clear hl hx hq hal
  go_enter Tryz.func32, Tryz.ntmps32
  have cB0 := B0.cell
  have fB0 := B0.frozen
  have lB0 := B0.lt
  go_wp2_with fail
  clear cB0 fB0 lB0
  clear B0 B1
  generalize (w.alloc (.cells #[.int .i64 T, .int .i64 N, .int .i64 S, .slice A n c] 24)).alloc (.cells #[.slice none 0 0, .int .i64 0] 34) = W at *
  refine HC.out.mono ?_
  clear HC
  rintro e w1 ⟨rfl, hb⟩
  have HB := Lib.hid (HAL.out.via hb)
  have B2 := HB1.out.via hb
  have HB2 := Lib.hid B2
  clear hb HB1 HAL
  have cB2 := B2.cell
  have fB2 := B2.frozen
  have lB2 := B2.lt
  go_wp2_with fail
  have B3 := (HB2.out.set_ 0 (.slice none 0 0)).set_ 1 (.int .i64 0)
  simp only [List.setIfInBounds_toArray, List.set_cons_zero, List.set_cons_succ] at B3
  have cc2 := B3.cell
  refine bodyPost_ret (v := .tuple #[.agg #[.slice none 0 0, .int .i64 0], .int .i64 q]) (by simp [results, Tryz.results32, go_sem, cc2]) rfl ⟨rfl, ?_⟩
  exact (HB.out.setCell (p := ⟨w.heap.size + 1, 0, none⟩) (by show w.heap.size ≤ w.heap.size + 1; omega) _).setCell (p := ⟨w.heap.size + 1, 1, none⟩) (by show w.heap.size ≤ w.heap.size + 1; omega) _
set_option maxRecDepth 100000 in
set_option maxHeartbeats 4000000 in
theorem of_c (ok : Nat → Prop) (g : Gr) (Ag : Option Addr) (ng cg : Nat) (A : Option Addr) (n c : Nat) (xs : List Int) (w : World) (hg : GrOk g) (hl : Sl RuE ok w Ag ng cg g.rules) (hx : Ints w A n c xs) (hn : n ≤ 12) (hxt : ∀ x ∈ xs, 0 ≤ x ∧ x < (g.terms : Int)) (hT : TabW w) :
    Calls Tryz.prog 32 #[grVal g Ag ng cg, .slice A n c] w (FoP w (dvD g.rules xs) g.rules ((false, g.start), 0, n)) := by
  have hxl := hx.len
  have hal := ((Below.refl w.heap.size w).al (.cells #[.int .i64 (g.terms : Int), .int .i64 (g.nons : Int), .int .i64 (g.start : Int), .slice Ag ng cg] 24)).al (.cells #[.slice none 0 0, .int .i64 0] 34)
  have B0 := (Blk.new w 24 #[.int .i64 (g.terms : Int), .int .i64 (g.nons : Int), .int .i64 (g.start : Int), .slice Ag ng cg]).al (.cells #[.slice none 0 0, .int .i64 0] 34)
  have B1 := Blk.newAt (w.alloc (.cells #[.int .i64 (g.terms : Int), .int .i64 (g.nons : Int), .int .i64 (g.start : Int), .slice Ag ng cg] 24)) 34 #[.slice none 0 0, .int .i64 0] (w.heap.size + 1) (by simp)
  have HC := Lib.hid (accepts_c ok g Ag ng cg A n c xs _ hg (hl.via hal) (hx.keep hal (Nat.le_refl _)) hn hxt (hT.via hal))
  have HL := Lib.hid (hl.via hal)
  have HX := Lib.hid (hx.keep hal (Nat.le_refl _))
  have HT := Lib.hid (hT.via hal)
  have HG := Lib.hid hg
  have HAL := Lib.hid hal
  have HB1 := Lib.hid B1
  have HB0 := Lib.hid B0
  have HXL := Lib.hid hxl
  have HXT := Lib.hid hxt
  clear hl hx hT hg hal hxl hxt
  simp only [grVal] at HC ⊢
  go_enter Tryz.func32, Tryz.ntmps32
  have cB0 := B0.cell
  have fB0 := B0.frozen
  have lB0 := B0.lt
  go_wp2_with fail
  clear cB0 fB0 lB0
  clear B0 B1
  have HSW := Lib.hid (show ((w.alloc (.cells #[.int .i64 (g.terms : Int), .int .i64 (g.nons : Int), .int .i64 (g.start : Int), .slice Ag ng cg] 24)).alloc (.cells #[.slice none 0 0, .int .i64 0] 34)).heap.size = w.heap.size + 2 by simp)
  generalize (w.alloc (.cells #[.int .i64 (g.terms : Int), .int .i64 (g.nons : Int), .int .i64 (g.start : Int), .slice Ag ng cg] 24)).alloc (.cells #[.slice none 0 0, .int .i64 0] 34) = W at *
  refine HC.out.mono ?_
  clear HC
  rintro e w1 ⟨b, rfl, -, hb⟩
  have HB := Lib.hid hb
  have B0 := HB0.out.via hb
  have SOF := Lib.hid (show ∀ w', Below W.heap.size W w' → ∀ i, w'.cell? ⟨w.heap.size, i, none⟩ = #[.int .i64 (g.terms : Int), .int .i64 (g.nons : Int), .int .i64 (g.start : Int), .slice Ag ng cg][i]? from fun w' h => (HB0.out.via h).cell)
  have SO3 := Lib.hid (show ∀ w' u v, Below W.heap.size W w' → ∀ i, ((w'.setCell ⟨w.heap.size + 1, 0, none⟩ u).setCell ⟨w.heap.size + 1, 1, none⟩ v).cell? ⟨w.heap.size, i, none⟩ = #[.int .i64 (g.terms : Int), .int .i64 (g.nons : Int), .int .i64 (g.start : Int), .slice Ag ng cg][i]? from fun w' u v h =>
    (((HB0.out.via h).far (p := ⟨w.heap.size + 1, 0, none⟩) (by show w.heap.size ≠ w.heap.size + 1; omega) u).far (p := ⟨w.heap.size + 1, 1, none⟩) (by show w.heap.size ≠ w.heap.size + 1; omega) v).cell)
  have JE := Lib.hid (show ∀ w', Below W.heap.size W w' → Calls Tryz.prog 55 #[.agg #[.int .i64 (g.terms : Int), .int .i64 (g.nons : Int), .int .i64 (g.start : Int), .slice Ag ng cg], .slice A n c] w' (EndsP w' g xs) from fun w' h => ends_c ok g Ag ng cg A n c xs w' HG.out (HL.out.via h) (HX.out.keep h (Nat.le_refl _)) hn (HT.out.via h))
  have JM := Lib.hid (show ∀ w' ob rb E, Below W.heap.size W w' → EnR w' ob g.nons xs.length rb E → SndE g.rules xs E → FixE g.rules xs E → Calls Tryz.prog 50 #[.agg #[.int .i64 (g.terms : Int), .int .i64 (g.nons : Int), .int .i64 (g.start : Int), .slice Ag ng cg], .slice A n c, .slice (some ⟨ob, 0, none⟩) g.nons g.nons] w' (FoP w' (dvD g.rules xs) g.rules ((false, g.start), 0, n)) from fun w' ob rb E h hE hs hf => by
    have h1 := fmake2_c ok g Ag ng cg A n c ob 0 g.nons rb (fun _ => 0) (fun _ => n + 1) xs E w' HG.out.ok (HL.out.via h) (HX.out.keep h (Nat.le_refl _)) (by rw [← HXL.out]; exact hE.view) (HT.out.via h) (by rw [← HXL.out]; exact hs.sup) hn
    rw [dOf_dv hs hf (by have := HXL.out; omega)] at h1
    exact h1)
  have hbd := hb.drew
  clear hb
  go_upto_region 4 with fail
  clear B0
  go_region_held3 (fun w' => ∀ i, w'.cell? ⟨w.heap.size, i, none⟩ = #[.int .i64 (g.terms : Int), .int .i64 (g.nons : Int), .int .i64 (g.start : Int), .slice Ag ng cg][i]?) (first | exact SOF.out _ (by assumption) | exact SO3.out _ _ _ (by assumption)) (first
    | (go_at_call 55; (with_reducible refine (JE.out _ (by assumption)).mono ?_); rintro ee wk ⟨ob, rb, E, rfl, hE, hsE, hfE, hbk⟩; have hbm : Below W.heap.size W wk := Below.via (by assumption) hbk)
    | (go_at_call 50; (with_reducible refine (JM.out _ _ _ _ (by assumption) (by assumption) (by assumption) (by assumption)).mono ?_); rintro ee wl ⟨f, v, bb, rfl, hf, ⟨fA, fn, fc, rfl, hS⟩, hbl⟩; obtain ⟨q, hq⟩ : ∃ q : Int, q = if bb then 0 else 2 := ⟨_, rfl⟩; rw [← hq]; have HQ := Lib.hid hq; clear hq; have hbn : Below W.heap.size W wl := Below.via hbm hbl; have B8 := HB1.out.via hbn; have cB8 := B8.cell; have fB8 := B8.frozen; have lB8 := B8.lt))
  have B3 := (B8.set_ 0 (.slice fA fn fc)).set_ 1 (.int .i64 f.1)
  simp only [List.setIfInBounds_toArray, List.set_cons_zero, List.set_cons_succ] at B3
  have cc2 := B3.cell
  have hsw := HSW.out
  have hsz := hbm.size
  go_wp2_with fail
  refine bodyPost_ret (v := .tuple #[.agg #[.slice fA fn fc, .int .i64 f.1], .int .i64 q]) (by simp [results, Tryz.results32, go_sem, cc2]) rfl ⟨f, _, bb, by rw [HQ.out], hf, ⟨fA, fn, fc, rfl, ?_⟩, ?_⟩
  · have h2 := (hS.agr (Agr.setCell (p := ⟨w.heap.size + 1, 0, none⟩) (.slice fA fn fc) fun b hb => by show b ≠ w.heap.size + 1; omega)).agr (Agr.setCell (p := ⟨w.heap.size + 1, 1, none⟩) (.int .i64 f.1) fun b hb => by show b ≠ w.heap.size + 1; omega)
    exact h2.mono fun b _ hb => by omega
  · exact ((HAL.out.via hbn).setCell (p := ⟨w.heap.size + 1, 0, none⟩) (by show w.heap.size ≤ w.heap.size + 1; omega) _).setCell (p := ⟨w.heap.size + 1, 1, none⟩) (by show w.heap.size ≤ w.heap.size + 1; omega) _
end Go.Proofs.YtbfcnfgkccgbiaaGreatDoor



namespace Go.Proofs.YtbfcnfgkccgbiaaGreatDoor
open Go.RowKit

/-- the nonterminals that derive a part -/
def partsL (D : Ky → Bool) (N i j : Nat) : List Nat := (List.range N).filter fun a => D ((false, a), i, j)
theorem partsL_next (D : Ky → Bool) (N i j : Nat) : partsL D (N + 1) i j = if D ((false, N), i, j) then partsL D N i j ++ [N] else partsL D N i j := by
  unfold partsL
  rw [List.range_succ, List.filter_append]
  by_cases h : D ((false, N), i, j) = true <;> simp [h]
def PartsP (w : World) (l : List Nat) (q : Int) (e : Ending) (w' : World) : Prop :=
  ∃ A n c, e = .returned (.tuple #[.slice A n c, .int .i64 q]) ∧ Ints w' A n c (intsN l) ∧ Below w.heap.size w w'
theorem Ints.nilI (w : World) : Ints w none 0 0 [] := ⟨rfl, Nat.le_refl _, fun h => by omega⟩
end Go.Proofs.YtbfcnfgkccgbiaaGreatDoor

