/- Texts BU, BW, BX, laid together. -/
import Derived.Test.YtpjafhaajcklmaaGreatDoorBT
import Derived.Test.YtpjafhaajcklmaaGreatDoorE1
import Derived.Test.YtpjafhaajcklmaaGreatDoorJ2
import Derived.Test.YtpjafhaajcklmaaGreatDoorJ3






namespace Go.Proofs.YtpjafhaajcklmaaGreatDoor
open Go.RowKit

/-- the parts that are derived -/
noncomputable def dvD (rules : List Ru) (xs : List Int) (k : Ky) : Bool := @decide (DvS rules xs k) (Classical.propDecidable _)
theorem dvD_iff {rules : List Ru} {xs : List Int} {k : Ky} : dvD rules xs k = true ↔ DvS rules xs k := by unfold dvD; exact @decide_eq_true_iff _ (Classical.propDecidable _)
theorem dOf_dv {rules : List Ru} {xs : List Int} {E : EnS} (hs : SndE rules xs E) (hf : FixE rules xs E) (hl : xs.length < 32) : dOf xs E = dvD rules xs := by
  funext k
  exact Bool.eq_iff_iff.2 ((dOf_iff hs hf hl k).trans dvD_iff.symm)
/-- a forest, or ErrLarge -/
def FoP (w : World) (D : Ky → Bool) (R : List Ru) (root : Ky) (e : Ending) (w' : World) : Prop :=
  ∃ f v b, e = .returned (.tuple #[v, .int .i64 (if b then 0 else 2)]) ∧ IsFo D R root 20000 f b ∧ FoR (fun b => w.heap.size ≤ b) w' v f ∧ Below w.heap.size w w'
/-- the error of a grammar, then that of a word -/
def chkB (T N S : Int) (rs : List Ri) (xs : List Int) : Int := if chkG T N S rs = 0 then chkW T 12 xs else chkG T N S rs
set_option maxRecDepth 100000 in
theorem mcheckB_c (ok : Nat → Prop) (T N S : Int) (A : Option Addr) (n c : Nat) (rs : List Ri) (wA : Option Addr) (wn wc : Nat) (xs : List Int) (w : World) (hl : Sl RiE ok w A n c rs) (hx : Ints w wA wn wc xs) :
    Calls Tryz.prog 70 #[.agg #[.int .i64 T, .int .i64 N, .int .i64 S, .slice A n c], .slice wA wn wc] w (IntO w (chkB T N S rs xs)) := by
  obtain ⟨q, hq⟩ : ∃ q, chkG T N S rs = q := ⟨_, rfl⟩
  have B0 := Blk.new w 24 #[.int .i64 T, .int .i64 N, .int .i64 S, .slice A n c]
  have HB := Lib.hid ((Below.refl w.heap.size w).al (.cells #[.int .i64 T, .int .i64 N, .int .i64 S, .slice A n c] 24))
  have HL := Lib.hid (hl.al (.cells #[.int .i64 T, .int .i64 N, .int .i64 S, .slice A n c] 24))
  have HX := Lib.hid (hx.alloc (.cells #[.int .i64 T, .int .i64 N, .int .i64 S, .slice A n c] 24))
  have HB0 := Lib.hid B0
  have HQ := Lib.hid hq
  clear hl hx hq
  go_enter Tryz.func70, Tryz.ntmps70
  have cB0 := B0.cell
  have fB0 := B0.frozen
  have lB0 := B0.lt
  go_wp2_with fail
  clear cB0 fB0 lB0
  generalize w.alloc (.cells #[.int .i64 T, .int .i64 N, .int .i64 S, .slice A n c] 24) = W at *
  have hc := checkI_c ok T N S A n c rs W HL.out
  rw [HQ.out] at hc
  refine hc.mono ?_
  clear hc
  rintro e w1 ⟨rfl, hb⟩
  have HB1 := Lib.hid (HB.out.via hb)
  have HX1 := Lib.hid (HX.out.keep hb (Nat.le_refl _))
  have B1 := HB0.out.via hb
  clear hb B0 HB HX HB0
  by_cases h0 : q = 0
  · subst h0
    have HT := Lib.hid (show 1 ≤ T ∧ T ≤ 8 from by
      obtain ⟨g, hg, rfl, -⟩ := chkG_ok HQ.out
      have := hg.ok.terms; omega)
    have HV := Lib.hid (show chkB T N S rs xs = chkW T 12 xs by unfold chkB; rw [if_pos HQ.out])
    have cB1 := B1.cell
    have fB1 := B1.frozen
    have lB1 := B1.lt
    go_wp2_with fail
    clear cB1 fB1 lB1
    refine (wordI_c T N S HT.out A n c wA wn wc 12 xs w1 HX1.out (by omega)).mono ?_
    rintro e w2 ⟨rfl, hb⟩
    have HF := Lib.hid (HB1.out.via hb)
    clear hb
    go_wp2_with fail
    go_ret
    exact ⟨by rw [HV.out]; rfl, HF.out⟩
  · have HV := Lib.hid (show chkB T N S rs xs = q by unfold chkB; rw [if_neg (by rw [HQ.out]; exact h0)]; exact HQ.out)
    go_wp2_with fail
    go_ret
    exact ⟨by rw [HV.out]; rfl, HB1.out⟩
set_option maxRecDepth 100000 in
theorem refboth_c (ok : Nat → Prop) (T N S : Int) (A : Option Addr) (n c : Nat) (rs : List Ri) (wA : Option Addr) (wn wc : Nat) (xs : List Int) (w : World) (hl : Sl RiE ok w A n c rs) (hx : Ints w wA wn wc xs) :
    Calls Tryz.prog 11 #[.agg #[.int .i64 T, .int .i64 N, .int .i64 S, .slice A n c], .slice wA wn wc] w (IntO w (chkB T N S rs xs)) := by
  obtain ⟨q, hq⟩ : ∃ q, chkG T N S rs = q := ⟨_, rfl⟩
  have B0 := Blk.new w 24 #[.int .i64 T, .int .i64 N, .int .i64 S, .slice A n c]
  have HB := Lib.hid ((Below.refl w.heap.size w).al (.cells #[.int .i64 T, .int .i64 N, .int .i64 S, .slice A n c] 24))
  have HL := Lib.hid (hl.al (.cells #[.int .i64 T, .int .i64 N, .int .i64 S, .slice A n c] 24))
  have HX := Lib.hid (hx.alloc (.cells #[.int .i64 T, .int .i64 N, .int .i64 S, .slice A n c] 24))
  have HB0 := Lib.hid B0
  have HQ := Lib.hid hq
  clear hl hx hq
  go_enter Tryz.func11, Tryz.ntmps11
  have cB0 := B0.cell
  have fB0 := B0.frozen
  have lB0 := B0.lt
  go_wp2_with fail
  clear cB0 fB0 lB0
  generalize w.alloc (.cells #[.int .i64 T, .int .i64 N, .int .i64 S, .slice A n c] 24) = W at *
  have hc := refcheck_c ok T N S A n c rs W HL.out
  rw [HQ.out] at hc
  refine hc.mono ?_
  clear hc
  rintro e w1 ⟨rfl, hb⟩
  have HB1 := Lib.hid (HB.out.via hb)
  have HX1 := Lib.hid (HX.out.keep hb (Nat.le_refl _))
  have B1 := HB0.out.via hb
  clear hb B0 HB HX HB0
  by_cases h0 : q = 0
  · subst h0
    have HT := Lib.hid (show 1 ≤ T ∧ T ≤ 8 from by
      obtain ⟨g, hg, rfl, -⟩ := chkG_ok HQ.out
      have := hg.ok.terms; omega)
    have HV := Lib.hid (show chkB T N S rs xs = chkW T 12 xs by unfold chkB; rw [if_pos HQ.out])
    have cB1 := B1.cell
    have fB1 := B1.frozen
    have lB1 := B1.lt
    go_wp2_with fail
    clear cB1 fB1 lB1
    refine (refword_c T N S HT.out A n c wA wn wc 12 xs w1 HX1.out (by omega)).mono ?_
    rintro e w2 ⟨rfl, hb⟩
    have HF := Lib.hid (HB1.out.via hb)
    clear hb
    go_wp2_with fail
    go_ret
    exact ⟨by rw [HV.out]; rfl, HF.out⟩
  · have HV := Lib.hid (show chkB T N S rs xs = q by unfold chkB; rw [if_neg (by rw [HQ.out]; exact h0)]; exact HQ.out)
    go_wp2_with fail
    go_ret
    exact ⟨by rw [HV.out]; rfl, HB1.out⟩
set_option maxRecDepth 100000 in
theorem accepts_e (ok : Nat → Prop) (T N S : Int) (A : Option Addr) (n c : Nat) (rs : List Ri) (wA : Option Addr) (wn wc : Nat) (xs : List Int) (w : World) (hl : Sl RiE ok w A n c rs) (hx : Ints w wA wn wc xs) (q : Int) (hq : chkB T N S rs xs = q) (hbad : q ≠ 0) :
    Calls Tryz.prog 35 #[.agg #[.int .i64 T, .int .i64 N, .int .i64 S, .slice A n c], .slice wA wn wc] w fun e w' => e = .returned (.tuple #[.bool false, .int .i64 q]) ∧ Below w.heap.size w w' := by
  have B0 := Blk.new w 24 #[.int .i64 T, .int .i64 N, .int .i64 S, .slice A n c]
  have HB := Lib.hid ((Below.refl w.heap.size w).al (.cells #[.int .i64 T, .int .i64 N, .int .i64 S, .slice A n c] 24))
  have HL := Lib.hid (hl.al (.cells #[.int .i64 T, .int .i64 N, .int .i64 S, .slice A n c] 24))
  have HX := Lib.hid (hx.alloc (.cells #[.int .i64 T, .int .i64 N, .int .i64 S, .slice A n c] 24))
  have HQ := Lib.hid hq
  clear hl hx hq
  go_enter Tryz.func35, Tryz.ntmps35
  have cB0 := B0.cell
  have fB0 := B0.frozen
  have lB0 := B0.lt
  go_wp2_with fail
  clear cB0 fB0 lB0
  generalize w.alloc (.cells #[.int .i64 T, .int .i64 N, .int .i64 S, .slice A n c] 24) = W at *
  have hc := mcheckB_c ok T N S A n c rs wA wn wc xs W HL.out HX.out
  rw [HQ.out] at hc
  refine hc.mono ?_
  clear hc
  rintro e w1 ⟨rfl, hb⟩
  have HB1 := Lib.hid (HB.out.via hb)
  clear hb B0 HB
  go_wp2_with fail
  go_ret2
  exact ⟨rfl, HB1.out⟩
set_option maxRecDepth 100000 in
set_option maxHeartbeats 2000000 in
theorem fmake2_c (ok : Nat → Prop) (g : Gr) (Ag : Option Addr) (ng cg : Nat) (A : Option Addr) (n c ob oo oc : Nat) (rb ro rc : Nat → Nat) (xs : List Int) (E : EnS) (w : World) (hg : g.Ok) (hl : Sl RuE ok w Ag ng cg g.rules) (hx : Ints w A n c xs) (hE : EnV w ob oo g.nons n rb ro rc E) (hT : TabW w) (hsup : SupE n E) (hn : n ≤ 12) :
    Calls Tryz.prog 60 #[grVal g Ag ng cg, .slice A n c, .slice (some ⟨ob, oo, none⟩) g.nons oc] w (FoP w (dOf xs E) g.rules ((false, g.start), 0, n)) := by
  have hal := ((Below.refl w.heap.size w).al (.cells #[.int .i64 (g.terms : Int), .int .i64 (g.nons : Int), .int .i64 (g.start : Int), .slice Ag ng cg] 24)).al (.cells #[.slice none 0 0, .int .i64 0] 30)
  have B0 := (Blk.new w 24 #[.int .i64 (g.terms : Int), .int .i64 (g.nons : Int), .int .i64 (g.start : Int), .slice Ag ng cg]).al (.cells #[.slice none 0 0, .int .i64 0] 30)
  have B1 := Blk.newAt (w.alloc (.cells #[.int .i64 (g.terms : Int), .int .i64 (g.nons : Int), .int .i64 (g.start : Int), .slice Ag ng cg] 24)) 30 #[.slice none 0 0, .int .i64 0] (w.heap.size + 1) (by simp)
  have HC := Lib.hid (build_c ok g Ag ng cg A n c ob oo oc rb ro rc xs E 20000 _ hg (hl.via hal) (hx.keep hal (Nat.le_refl _)) (hE.via hal) (hT.via hal) hsup hn (by omega))
  have HAL := Lib.hid hal
  have HB1 := Lib.hid B1
  clear hl hx hE hT hsup hg hal
  simp only [grVal] at HC ⊢
  go_enter Tryz.func60, Tryz.ntmps60
  have cB0 := B0.cell
  have fB0 := B0.frozen
  have lB0 := B0.lt
  go_wp2_with fail
  clear cB0 fB0 lB0
  clear B0 B1
  generalize (w.alloc (.cells #[.int .i64 (g.terms : Int), .int .i64 (g.nons : Int), .int .i64 (g.start : Int), .slice Ag ng cg] 24)).alloc (.cells #[.slice none 0 0, .int .i64 0] 30) = W at *
  refine HC.out.mono ?_
  clear HC
  rintro e w1 ⟨f, v, b, rfl, hf, ⟨fA, fn, fc, rfl, hS⟩, hb⟩
  have HF := Lib.hid hf
  have HS := Lib.hid hS
  have HB := Lib.hid hb
  obtain ⟨fr, fns⟩ := f
  have hB1 := HB1.out.via hb
  have hlt := HB1.out.lt
  have HSZ := Lib.hid HAL.out.size
  clear hf hS hb
  have hal := (Below.refl w1.heap.size w1).al (.cells #[.slice fA fn fc, .int .i64 fr] 30)
  have BV := Blk.new w1 30 #[.slice fA fn fc, .int .i64 fr]
  have B2 := hB1.via hal
  cases b with
  | true =>
    have cBV := BV.cell
    have fBV := BV.frozen
    have lBV := BV.lt
    have cB2 := B2.cell
    have fB2 := B2.frozen
    have lB2 := B2.lt
    go_wp2_with fail
    have B3 := ((hB1.via hal).set_ 0 (.slice fA fn fc)).set_ 1 (.int .i64 fr)
    simp only [List.setIfInBounds_toArray, List.set_cons_zero, List.set_cons_succ] at B3
    have cc2 := B3.cell
    refine bodyPost_ret (v := .tuple #[.agg #[.slice fA fn fc, .int .i64 fr], .int .i64 0]) (by simp [results, Tryz.results60, go_sem, cc2]) rfl ⟨(fr, fns), _, true, rfl, HF.out, ⟨fA, fn, fc, rfl, ?_⟩, ?_⟩
    · have h1 := HS.out.via hal
      have h2 := (h1.agr (Agr.setCell (p := ⟨w.heap.size + 1, 0, none⟩) (.slice fA fn fc) fun b hb => by show b ≠ w.heap.size + 1; omega)).agr (Agr.setCell (p := ⟨w.heap.size + 1, 1, none⟩) (.int .i64 fr) fun b hb => by show b ≠ w.heap.size + 1; omega)
      exact h2.mono fun b _ hb => Nat.le_trans HSZ.out hb
    · exact (((HAL.out.via HB.out).via hal).setCell (p := ⟨w.heap.size + 1, 0, none⟩) (by show w.heap.size ≤ w.heap.size + 1; omega) _).setCell (p := ⟨w.heap.size + 1, 1, none⟩) (by show w.heap.size ≤ w.heap.size + 1; omega) _
  | false =>
    have HF0 := Lib.hid (show (fr, fns) = ((0 : Int), ([] : List NdI)) by
      generalize hb : false = b at HF
      have := HF.out
      cases this with
      | none => cases hb
      | large => rfl
      | fits => cases hb)
    have cB2 := B2.cell
    have fB2 := B2.frozen
    have lB2 := B2.lt
    go_wp2_with fail
    have B3 := ((hB1.via hal).set_ 0 (.slice none 0 0)).set_ 1 (.int .i64 0)
    simp only [List.setIfInBounds_toArray, List.set_cons_zero, List.set_cons_succ] at B3
    have cc2 := B3.cell
    refine bodyPost_ret (v := .tuple #[.agg #[.slice none 0 0, .int .i64 0], .int .i64 2]) (by simp [results, Tryz.results60, go_sem, cc2]) rfl ⟨(0, []), _, false, rfl, by have := HF.out; rw [HF0.out] at this; exact this, FoR.nil _ _ _, ?_⟩
    exact (((HAL.out.via HB.out).via hal).setCell (p := ⟨w.heap.size + 1, 0, none⟩) (by show w.heap.size ≤ w.heap.size + 1; omega) _).setCell (p := ⟨w.heap.size + 1, 1, none⟩) (by show w.heap.size ≤ w.heap.size + 1; omega) _
end Go.Proofs.YtpjafhaajcklmaaGreatDoor



namespace Go.Proofs.YtpjafhaajcklmaaGreatDoor
open Go.RowKit

set_option maxRecDepth 100000 in
theorem of_e (ok : Nat → Prop) (T N S : Int) (A : Option Addr) (n c : Nat) (rs : List Ri) (wA : Option Addr) (wn wc : Nat) (xs : List Int) (w : World) (hl : Sl RiE ok w A n c rs) (hx : Ints w wA wn wc xs) (q : Int) (hq : chkB T N S rs xs = q) (hbad : q ≠ 0) :
    Calls Tryz.prog 25 #[.agg #[.int .i64 T, .int .i64 N, .int .i64 S, .slice A n c], .slice wA wn wc] w fun e w' => e = .returned (.tuple #[.agg #[.slice none 0 0, .int .i64 0], .int .i64 q]) ∧ Below w.heap.size w w' := by
  have hal := ((Below.refl w.heap.size w).al (.cells #[.int .i64 T, .int .i64 N, .int .i64 S, .slice A n c] 24)).al (.cells #[.slice none 0 0, .int .i64 0] 30)
  have B0 := (Blk.new w 24 #[.int .i64 T, .int .i64 N, .int .i64 S, .slice A n c]).al (.cells #[.slice none 0 0, .int .i64 0] 30)
  have B1 := Blk.newAt (w.alloc (.cells #[.int .i64 T, .int .i64 N, .int .i64 S, .slice A n c] 24)) 30 #[.slice none 0 0, .int .i64 0] (w.heap.size + 1) (by simp)
  have HC := Lib.hid (accepts_e ok T N S A n c rs wA wn wc xs _ (hl.via hal) (hx.keep hal (Nat.le_refl _)) q hq hbad)
  have HAL := Lib.hid hal
  have HB1 := Lib.hid B1
  clear hl hx hq hal
  go_enter Tryz.func25, Tryz.ntmps25
  have cB0 := B0.cell
  have fB0 := B0.frozen
  have lB0 := B0.lt
  go_wp2_with fail
  clear cB0 fB0 lB0
  clear B0 B1
  generalize (w.alloc (.cells #[.int .i64 T, .int .i64 N, .int .i64 S, .slice A n c] 24)).alloc (.cells #[.slice none 0 0, .int .i64 0] 30) = W at *
  refine HC.out.mono ?_
  clear HC
  rintro e w1 ⟨rfl, hb⟩
  have HB := Lib.hid (HAL.out.via hb)
  have B2 := HB1.out.via hb
  have HB2 := Lib.hid B2
  clear hb HB1 HAL
  have cB2 := B2.cell
  have fB2 := B2.frozen
  have lB2 := B2.lt
  go_wp2_with fail
  have B3 := (HB2.out.set_ 0 (.slice none 0 0)).set_ 1 (.int .i64 0)
  simp only [List.setIfInBounds_toArray, List.set_cons_zero, List.set_cons_succ] at B3
  have cc2 := B3.cell
  refine bodyPost_ret (v := .tuple #[.agg #[.slice none 0 0, .int .i64 0], .int .i64 q]) (by simp [results, Tryz.results25, go_sem, cc2]) rfl ⟨rfl, ?_⟩
  exact (HB.out.setCell (p := ⟨w.heap.size + 1, 0, none⟩) (by show w.heap.size ≤ w.heap.size + 1; omega) _).setCell (p := ⟨w.heap.size + 1, 1, none⟩) (by show w.heap.size ≤ w.heap.size + 1; omega) _
set_option maxRecDepth 100000 in
set_option maxHeartbeats 4000000 in
theorem of_c (ok : Nat → Prop) (g : Gr) (Ag : Option Addr) (ng cg : Nat) (A : Option Addr) (n c : Nat) (xs : List Int) (w : World) (hg : GrOk g) (hl : Sl RuE ok w Ag ng cg g.rules) (hx : Ints w A n c xs) (hn : n ≤ 12) (hxt : ∀ x ∈ xs, 0 ≤ x ∧ x < (g.terms : Int)) (hT : TabW w) :
    Calls Tryz.prog 25 #[grVal g Ag ng cg, .slice A n c] w (FoP w (dvD g.rules xs) g.rules ((false, g.start), 0, n)) := by
  have hxl := hx.len
  have hal := ((Below.refl w.heap.size w).al (.cells #[.int .i64 (g.terms : Int), .int .i64 (g.nons : Int), .int .i64 (g.start : Int), .slice Ag ng cg] 24)).al (.cells #[.slice none 0 0, .int .i64 0] 30)
  have B0 := (Blk.new w 24 #[.int .i64 (g.terms : Int), .int .i64 (g.nons : Int), .int .i64 (g.start : Int), .slice Ag ng cg]).al (.cells #[.slice none 0 0, .int .i64 0] 30)
  have B1 := Blk.newAt (w.alloc (.cells #[.int .i64 (g.terms : Int), .int .i64 (g.nons : Int), .int .i64 (g.start : Int), .slice Ag ng cg] 24)) 30 #[.slice none 0 0, .int .i64 0] (w.heap.size + 1) (by simp)
  have HC := Lib.hid (accepts_c ok g Ag ng cg A n c xs _ hg (hl.via hal) (hx.keep hal (Nat.le_refl _)) hn hxt (hT.via hal))
  have HL := Lib.hid (hl.via hal)
  have HX := Lib.hid (hx.keep hal (Nat.le_refl _))
  have HT := Lib.hid (hT.via hal)
  have HG := Lib.hid hg
  have HAL := Lib.hid hal
  have HB1 := Lib.hid B1
  have HB0 := Lib.hid B0
  have HXL := Lib.hid hxl
  have HXT := Lib.hid hxt
  clear hl hx hT hg hal hxl hxt
  simp only [grVal] at HC ⊢
  go_enter Tryz.func25, Tryz.ntmps25
  have cB0 := B0.cell
  have fB0 := B0.frozen
  have lB0 := B0.lt
  go_wp2_with fail
  clear cB0 fB0 lB0
  clear B0 B1
  have HSW := Lib.hid (show ((w.alloc (.cells #[.int .i64 (g.terms : Int), .int .i64 (g.nons : Int), .int .i64 (g.start : Int), .slice Ag ng cg] 24)).alloc (.cells #[.slice none 0 0, .int .i64 0] 30)).heap.size = w.heap.size + 2 by simp)
  generalize (w.alloc (.cells #[.int .i64 (g.terms : Int), .int .i64 (g.nons : Int), .int .i64 (g.start : Int), .slice Ag ng cg] 24)).alloc (.cells #[.slice none 0 0, .int .i64 0] 30) = W at *
  refine HC.out.mono ?_
  clear HC
  rintro e w1 ⟨b, rfl, -, hb⟩
  have HB := Lib.hid hb
  have B0 := HB0.out.via hb
  have SOF := Lib.hid (show ∀ w', Below W.heap.size W w' → ∀ i, w'.cell? ⟨w.heap.size, i, none⟩ = #[.int .i64 (g.terms : Int), .int .i64 (g.nons : Int), .int .i64 (g.start : Int), .slice Ag ng cg][i]? from fun w' h => (HB0.out.via h).cell)
  have SO3 := Lib.hid (show ∀ w' u v, Below W.heap.size W w' → ∀ i, ((w'.setCell ⟨w.heap.size + 1, 0, none⟩ u).setCell ⟨w.heap.size + 1, 1, none⟩ v).cell? ⟨w.heap.size, i, none⟩ = #[.int .i64 (g.terms : Int), .int .i64 (g.nons : Int), .int .i64 (g.start : Int), .slice Ag ng cg][i]? from fun w' u v h =>
    (((HB0.out.via h).far (p := ⟨w.heap.size + 1, 0, none⟩) (by show w.heap.size ≠ w.heap.size + 1; omega) u).far (p := ⟨w.heap.size + 1, 1, none⟩) (by show w.heap.size ≠ w.heap.size + 1; omega) v).cell)
  have JE := Lib.hid (show ∀ w', Below W.heap.size W w' → Calls Tryz.prog 36 #[.agg #[.int .i64 (g.terms : Int), .int .i64 (g.nons : Int), .int .i64 (g.start : Int), .slice Ag ng cg], .slice A n c] w' (EndsP w' g xs) from fun w' h => ends_c ok g Ag ng cg A n c xs w' HG.out (HL.out.via h) (HX.out.keep h (Nat.le_refl _)) hn (HT.out.via h))
  have JM := Lib.hid (show ∀ w' ob rb E, Below W.heap.size W w' → EnR w' ob g.nons xs.length rb E → SndE g.rules xs E → FixE g.rules xs E → Calls Tryz.prog 60 #[.agg #[.int .i64 (g.terms : Int), .int .i64 (g.nons : Int), .int .i64 (g.start : Int), .slice Ag ng cg], .slice A n c, .slice (some ⟨ob, 0, none⟩) g.nons g.nons] w' (FoP w' (dvD g.rules xs) g.rules ((false, g.start), 0, n)) from fun w' ob rb E h hE hs hf => by
    have h1 := fmake2_c ok g Ag ng cg A n c ob 0 g.nons rb (fun _ => 0) (fun _ => n + 1) xs E w' HG.out.ok (HL.out.via h) (HX.out.keep h (Nat.le_refl _)) (by rw [← HXL.out]; exact hE.view) (HT.out.via h) (by rw [← HXL.out]; exact hs.sup) hn
    rw [dOf_dv hs hf (by have := HXL.out; omega)] at h1
    exact h1)
  have hbd := hb.drew
  clear hb
  go_upto_region 4 with fail
  clear B0
  go_region_held3 (fun w' => ∀ i, w'.cell? ⟨w.heap.size, i, none⟩ = #[.int .i64 (g.terms : Int), .int .i64 (g.nons : Int), .int .i64 (g.start : Int), .slice Ag ng cg][i]?) (first | exact SOF.out _ (by assumption) | exact SO3.out _ _ _ (by assumption)) (first
    | (go_at_call 36; (with_reducible refine (JE.out _ (by assumption)).mono ?_); rintro ee wk ⟨ob, rb, E, rfl, hE, hsE, hfE, hbk⟩; have hbm : Below W.heap.size W wk := Below.via (by assumption) hbk)
    | (go_at_call 60; (with_reducible refine (JM.out _ _ _ _ (by assumption) (by assumption) (by assumption) (by assumption)).mono ?_); rintro ee wl ⟨f, v, bb, rfl, hf, ⟨fA, fn, fc, rfl, hS⟩, hbl⟩; obtain ⟨q, hq⟩ : ∃ q : Int, q = if bb then 0 else 2 := ⟨_, rfl⟩; rw [← hq]; have HQ := Lib.hid hq; clear hq; have hbn : Below W.heap.size W wl := Below.via hbm hbl; have B8 := HB1.out.via hbn; have cB8 := B8.cell; have fB8 := B8.frozen; have lB8 := B8.lt))
  have B3 := (B8.set_ 0 (.slice fA fn fc)).set_ 1 (.int .i64 f.1)
  simp only [List.setIfInBounds_toArray, List.set_cons_zero, List.set_cons_succ] at B3
  have cc2 := B3.cell
  have hsw := HSW.out
  have hsz := hbm.size
  go_wp2_with fail
  refine bodyPost_ret (v := .tuple #[.agg #[.slice fA fn fc, .int .i64 f.1], .int .i64 q]) (by simp [results, Tryz.results25, go_sem, cc2]) rfl ⟨f, _, bb, by rw [HQ.out], hf, ⟨fA, fn, fc, rfl, ?_⟩, ?_⟩
  · have h2 := (hS.agr (Agr.setCell (p := ⟨w.heap.size + 1, 0, none⟩) (.slice fA fn fc) fun b hb => by show b ≠ w.heap.size + 1; omega)).agr (Agr.setCell (p := ⟨w.heap.size + 1, 1, none⟩) (.int .i64 f.1) fun b hb => by show b ≠ w.heap.size + 1; omega)
    exact h2.mono fun b _ hb => by omega
  · exact ((HAL.out.via hbn).setCell (p := ⟨w.heap.size + 1, 0, none⟩) (by show w.heap.size ≤ w.heap.size + 1; omega) _).setCell (p := ⟨w.heap.size + 1, 1, none⟩) (by show w.heap.size ≤ w.heap.size + 1; omega) _
end Go.Proofs.YtpjafhaajcklmaaGreatDoor



namespace Go.Proofs.YtpjafhaajcklmaaGreatDoor
open Go.RowKit

set_option maxRecDepth 100000 in
theorem cyk_e (ok : Nat → Prop) (T N S : Int) (A : Option Addr) (n c : Nat) (rs : List Ri) (wA : Option Addr) (wn wc : Nat) (xs : List Int) (w : World) (hl : Sl RiE ok w A n c rs) (hx : Ints w wA wn wc xs) (q : Int) (hq : chkB T N S rs xs = q) (hbad : q ≠ 0) :
    Calls Tryz.prog 9 #[.agg #[.int .i64 T, .int .i64 N, .int .i64 S, .slice A n c], .slice wA wn wc] w fun e w' => e = .returned (.tuple #[.agg #[.slice none 0 0, .int .i64 0], .int .i64 q]) ∧ Below w.heap.size w w' := by
  have hal := ((Below.refl w.heap.size w).al (.cells #[.int .i64 T, .int .i64 N, .int .i64 S, .slice A n c] 24)).al (.cells #[.slice none 0 0, .int .i64 0] 30)
  have B0 := (Blk.new w 24 #[.int .i64 T, .int .i64 N, .int .i64 S, .slice A n c]).al (.cells #[.slice none 0 0, .int .i64 0] 30)
  have B1 := Blk.newAt (w.alloc (.cells #[.int .i64 T, .int .i64 N, .int .i64 S, .slice A n c] 24)) 30 #[.slice none 0 0, .int .i64 0] (w.heap.size + 1) (by simp)
  have HC := Lib.hid (of_e ok T N S A n c rs wA wn wc xs _ (hl.via hal) (hx.keep hal (Nat.le_refl _)) q hq hbad)
  have HAL := Lib.hid hal
  have HB1 := Lib.hid B1
  clear hl hx hq hal
  go_enter Tryz.func9, Tryz.ntmps9
  have cB0 := B0.cell
  have fB0 := B0.frozen
  have lB0 := B0.lt
  go_wp2_with fail
  clear cB0 fB0 lB0
  clear B0 B1
  generalize (w.alloc (.cells #[.int .i64 T, .int .i64 N, .int .i64 S, .slice A n c] 24)).alloc (.cells #[.slice none 0 0, .int .i64 0] 30) = W at *
  refine HC.out.mono ?_
  clear HC
  rintro e w1 ⟨rfl, hb⟩
  have HB := Lib.hid (HAL.out.via hb)
  have B2 := HB1.out.via hb
  have HB2 := Lib.hid B2
  clear hb HB1 HAL
  have cB2 := B2.cell
  have fB2 := B2.frozen
  have lB2 := B2.lt
  go_wp2_with fail
  have B3 := (HB2.out.set_ 0 (.slice none 0 0)).set_ 1 (.int .i64 0)
  simp only [List.setIfInBounds_toArray, List.set_cons_zero, List.set_cons_succ] at B3
  have cc2 := B3.cell
  refine bodyPost_ret (v := .tuple #[.agg #[.slice none 0 0, .int .i64 0], .int .i64 q]) (by simp [results, Tryz.results9, go_sem, cc2]) rfl ⟨rfl, ?_⟩
  exact (HB.out.setCell (p := ⟨w.heap.size + 1, 0, none⟩) (by show w.heap.size ≤ w.heap.size + 1; omega) _).setCell (p := ⟨w.heap.size + 1, 1, none⟩) (by show w.heap.size ≤ w.heap.size + 1; omega) _
set_option maxRecDepth 100000 in
theorem cyk_c (ok : Nat → Prop) (g : Gr) (Ag : Option Addr) (ng cg : Nat) (A : Option Addr) (n c : Nat) (xs : List Int) (w : World) (hg : GrOk g) (hl : Sl RuE ok w Ag ng cg g.rules) (hx : Ints w A n c xs) (hn : n ≤ 12) (hxt : ∀ x ∈ xs, 0 ≤ x ∧ x < (g.terms : Int)) (hT : TabW w) :
    Calls Tryz.prog 9 #[grVal g Ag ng cg, .slice A n c] w (FoP w (dvD g.rules xs) g.rules ((false, g.start), 0, n)) := by
  have hal := ((Below.refl w.heap.size w).al (.cells #[.int .i64 (g.terms : Int), .int .i64 (g.nons : Int), .int .i64 (g.start : Int), .slice Ag ng cg] 24)).al (.cells #[.slice none 0 0, .int .i64 0] 30)
  have B0 := (Blk.new w 24 #[.int .i64 (g.terms : Int), .int .i64 (g.nons : Int), .int .i64 (g.start : Int), .slice Ag ng cg]).al (.cells #[.slice none 0 0, .int .i64 0] 30)
  have B1 := Blk.newAt (w.alloc (.cells #[.int .i64 (g.terms : Int), .int .i64 (g.nons : Int), .int .i64 (g.start : Int), .slice Ag ng cg] 24)) 30 #[.slice none 0 0, .int .i64 0] (w.heap.size + 1) (by simp)
  have HC := Lib.hid (of_c ok g Ag ng cg A n c xs _ hg (hl.via hal) (hx.keep hal (Nat.le_refl _)) hn hxt (hT.via hal))
  have HAL := Lib.hid hal
  have HB1 := Lib.hid B1
  have HSW := Lib.hid (show ((w.alloc (.cells #[.int .i64 (g.terms : Int), .int .i64 (g.nons : Int), .int .i64 (g.start : Int), .slice Ag ng cg] 24)).alloc (.cells #[.slice none 0 0, .int .i64 0] 30)).heap.size = w.heap.size + 2 by simp)
  clear hl hx hT hg hal hxt
  simp only [grVal] at HC ⊢
  go_enter Tryz.func9, Tryz.ntmps9
  have cB0 := B0.cell
  have fB0 := B0.frozen
  have lB0 := B0.lt
  go_wp2_with fail
  clear cB0 fB0 lB0
  clear B0 B1
  generalize (w.alloc (.cells #[.int .i64 (g.terms : Int), .int .i64 (g.nons : Int), .int .i64 (g.start : Int), .slice Ag ng cg] 24)).alloc (.cells #[.slice none 0 0, .int .i64 0] 30) = W at *
  refine HC.out.mono ?_
  clear HC
  rintro e w1 ⟨f, v, bb, rfl, hf, ⟨fA, fn, fc, rfl, hS⟩, hb⟩
  obtain ⟨q, hq⟩ : ∃ q : Int, q = if bb then 0 else 2 := ⟨_, rfl⟩
  rw [← hq]
  have HQ := Lib.hid hq
  have HF := Lib.hid hf
  have HS := Lib.hid hS
  have B8 := HB1.out.via hb
  have HB8 := Lib.hid B8
  have HBB := Lib.hid (HAL.out.via hb)
  clear hq hf hS hb
  have cB8 := B8.cell
  have fB8 := B8.frozen
  have lB8 := B8.lt
  go_wp2_with fail
  have B3 := (HB8.out.set_ 0 (.slice fA fn fc)).set_ 1 (.int .i64 f.1)
  simp only [List.setIfInBounds_toArray, List.set_cons_zero, List.set_cons_succ] at B3
  have cc2 := B3.cell
  have hsw := HSW.out
  refine bodyPost_ret (v := .tuple #[.agg #[.slice fA fn fc, .int .i64 f.1], .int .i64 q]) (by simp [results, Tryz.results9, go_sem, cc2]) rfl ⟨f, _, bb, by rw [HQ.out], HF.out, ⟨fA, fn, fc, rfl, ?_⟩, ?_⟩
  · have h2 := (HS.out.agr (Agr.setCell (p := ⟨w.heap.size + 1, 0, none⟩) (.slice fA fn fc) fun b hb => by show b ≠ w.heap.size + 1; omega)).agr (Agr.setCell (p := ⟨w.heap.size + 1, 1, none⟩) (.int .i64 f.1) fun b hb => by show b ≠ w.heap.size + 1; omega)
    exact h2.mono fun b _ hb => by omega
  · exact (HBB.out.setCell (p := ⟨w.heap.size + 1, 0, none⟩) (by show w.heap.size ≤ w.heap.size + 1; omega) _).setCell (p := ⟨w.heap.size + 1, 1, none⟩) (by show w.heap.size ≤ w.heap.size + 1; omega) _
/-- the nonterminals that derive a part -/
def partsL (D : Ky → Bool) (N i j : Nat) : List Nat := (List.range N).filter fun a => D ((false, a), i, j)
theorem partsL_next (D : Ky → Bool) (N i j : Nat) : partsL D (N + 1) i j = if D ((false, N), i, j) then partsL D N i j ++ [N] else partsL D N i j := by
  unfold partsL
  rw [List.range_succ, List.filter_append]
  by_cases h : D ((false, N), i, j) = true <;> simp [h]
def PartsP (w : World) (l : List Nat) (q : Int) (e : Ending) (w' : World) : Prop :=
  ∃ A n c, e = .returned (.tuple #[.slice A n c, .int .i64 q]) ∧ Ints w' A n c (intsN l) ∧ Below w.heap.size w w'
set_option maxRecDepth 100000 in
theorem parts_e (ok : Nat → Prop) (T N S : Int) (A : Option Addr) (n c : Nat) (rs : List Ri) (wA : Option Addr) (wn wc : Nat) (xs : List Int) (i j : Int) (w : World) (hl : Sl RiE ok w A n c rs) (hx : Ints w wA wn wc xs) (q : Int) (hq : chkB T N S rs xs = q) (hbad : q ≠ 0) :
    Calls Tryz.prog 10 #[.agg #[.int .i64 T, .int .i64 N, .int .i64 S, .slice A n c], .slice wA wn wc, .int .i64 i, .int .i64 j] w fun e w' => e = .returned (.tuple #[.slice none 0 0, .int .i64 q]) ∧ Below w.heap.size w w' := by
  have hal := ((Below.refl w.heap.size w).al (.cells #[.int .i64 T, .int .i64 N, .int .i64 S, .slice A n c] 24))
  have B0 := (Blk.new w 24 #[.int .i64 T, .int .i64 N, .int .i64 S, .slice A n c])
  have HC := Lib.hid (accepts_e ok T N S A n c rs wA wn wc xs _ (hl.via hal) (hx.keep hal (Nat.le_refl _)) q hq hbad)
  have HAL := Lib.hid hal
  clear hl hx hq hal
  go_enter Tryz.func10, Tryz.ntmps10
  have cB0 := B0.cell
  have fB0 := B0.frozen
  have lB0 := B0.lt
  go_wp2_with fail
  clear cB0 fB0 lB0
  clear B0
  generalize (w.alloc (.cells #[.int .i64 T, .int .i64 N, .int .i64 S, .slice A n c] 24)) = W at *
  refine HC.out.mono ?_
  clear HC
  rintro e w1 ⟨rfl, hb⟩
  have HB := Lib.hid (HAL.out.via hb)
  clear hb HAL
  go_wp2_with fail
  go_ret2
  exact ⟨rfl, HB.out⟩
theorem Ints.nilI (w : World) : Ints w none 0 0 [] := ⟨rfl, Nat.le_refl _, fun h => by omega⟩
set_option maxRecDepth 100000 in
set_option maxHeartbeats 4000000 in
theorem parts_a (ok : Nat → Prop) (g : Gr) (Ag : Option Addr) (ng cg : Nat) (A : Option Addr) (n c : Nat) (xs : List Int) (i j : Int) (w : World) (hg : GrOk g) (hl : Sl RuE ok w Ag ng cg g.rules) (hx : Ints w A n c xs) (hn : n ≤ 12) (hxt : ∀ x ∈ xs, 0 ≤ x ∧ x < (g.terms : Int)) (hT : TabW w) (hbad : i < 0 ∨ j < i ∨ (n : Int) < j) :
    Calls Tryz.prog 10 #[grVal g Ag ng cg, .slice A n c, .int .i64 i, .int .i64 j] w (PartsP w [] 1) := by
  have HBAD := Lib.hid hbad
  clear hbad
  have hxl := hx.len
  have hal := ((Below.refl w.heap.size w).al (.cells #[.int .i64 (g.terms : Int), .int .i64 (g.nons : Int), .int .i64 (g.start : Int), .slice Ag ng cg] 24))
  have B0 := (Blk.new w 24 #[.int .i64 (g.terms : Int), .int .i64 (g.nons : Int), .int .i64 (g.start : Int), .slice Ag ng cg])
  have HC := Lib.hid (accepts_c ok g Ag ng cg A n c xs _ hg (hl.via hal) (hx.keep hal (Nat.le_refl _)) hn hxt (hT.via hal))
  have HL := Lib.hid (hl.via hal)
  have HX := Lib.hid (hx.keep hal (Nat.le_refl _))
  have HT := Lib.hid (hT.via hal)
  have HG := Lib.hid hg
  have HAL := Lib.hid hal
  have HB0 := Lib.hid B0
  have HXL := Lib.hid hxl
  clear hl hx hT hg hal hxl hxt
  simp only [grVal] at HC ⊢
  go_enter Tryz.func10, Tryz.ntmps10
  have cB0 := B0.cell
  have fB0 := B0.frozen
  have lB0 := B0.lt
  go_wp2_with fail
  clear cB0 fB0 lB0
  clear B0
  generalize (w.alloc (.cells #[.int .i64 (g.terms : Int), .int .i64 (g.nons : Int), .int .i64 (g.start : Int), .slice Ag ng cg] 24)) = W at *
  refine HC.out.mono ?_
  clear HC
  rintro e w1 ⟨b, rfl, -, hb⟩
  have HB := Lib.hid (HAL.out.via hb)
  by_cases hi : i < 0
  · have HHH := Lib.hid hi
    go_wp2_with fail
    go_ret2
    exact ⟨none, 0, 0, rfl, Ints.nilI _, HB.out⟩
  · by_cases hj : j < i
    · have HHH := Lib.hid hj
      go_wp2_with fail
      go_ret2
      exact ⟨none, 0, 0, rfl, Ints.nilI _, HB.out⟩
    · have hk : (n : Int) < j := by rcases HBAD.out with h | h | h <;> omega
      go_wp2_with fail
      go_ret2
      exact ⟨none, 0, 0, rfl, Ints.nilI _, HB.out⟩
set_option maxRecDepth 100000 in
set_option maxHeartbeats 4000000 in
theorem parts_c (ok : Nat → Prop) (g : Gr) (Ag : Option Addr) (ng cg : Nat) (A : Option Addr) (n c : Nat) (xs : List Int) (i j : Nat) (w : World) (hg : GrOk g) (hl : Sl RuE ok w Ag ng cg g.rules) (hx : Ints w A n c xs) (hn : n ≤ 12) (hxt : ∀ x ∈ xs, 0 ≤ x ∧ x < (g.terms : Int)) (hT : TabW w) (hij : i ≤ j) (hjn : j ≤ n) :
    Calls Tryz.prog 10 #[grVal g Ag ng cg, .slice A n c, .int .i64 (i : Int), .int .i64 (j : Int)] w (PartsP w (partsL (dvD g.rules xs) g.nons i j) 0) := by
  have hxl := hx.len
  have hal := ((Below.refl w.heap.size w).al (.cells #[.int .i64 (g.terms : Int), .int .i64 (g.nons : Int), .int .i64 (g.start : Int), .slice Ag ng cg] 24))
  have B0 := (Blk.new w 24 #[.int .i64 (g.terms : Int), .int .i64 (g.nons : Int), .int .i64 (g.start : Int), .slice Ag ng cg])
  have HC := Lib.hid (accepts_c ok g Ag ng cg A n c xs _ hg (hl.via hal) (hx.keep hal (Nat.le_refl _)) hn hxt (hT.via hal))
  have HL := Lib.hid (hl.via hal)
  have HX := Lib.hid (hx.keep hal (Nat.le_refl _))
  have HT := Lib.hid (hT.via hal)
  have HG := Lib.hid hg
  have HAL := Lib.hid hal
  have HB0 := Lib.hid B0
  have HXL := Lib.hid hxl
  clear hl hx hT hg hal hxl hxt
  simp only [grVal] at HC ⊢
  go_enter Tryz.func10, Tryz.ntmps10
  have cB0 := B0.cell
  have fB0 := B0.frozen
  have lB0 := B0.lt
  go_wp2_with fail
  clear cB0 fB0 lB0
  clear B0
  generalize (w.alloc (.cells #[.int .i64 (g.terms : Int), .int .i64 (g.nons : Int), .int .i64 (g.start : Int), .slice Ag ng cg] 24)) = W at *
  refine HC.out.mono ?_
  clear HC
  rintro e w1 ⟨b, rfl, -, hb⟩
  have HB := Lib.hid (HAL.out.via hb)
  have ei1 : ¬ (i : Int) < 0 := by omega
  have ei2 : ¬ (j : Int) < (i : Int) := by omega
  have ei3 : ¬ (n : Int) < (j : Int) := by omega
  have HE := Lib.hid (ends_c ok g Ag ng cg A n c xs w1 HG.out (HL.out.via hb) (HX.out.keep hb (Nat.le_refl _)) hn (HT.out.via hb))
  have B0 := HB0.out.via hb
  simp only [grVal] at HE
  clear hb
  have cB0 := B0.cell
  have fB0 := B0.frozen
  have lB0 := B0.lt
  go_wp2_with fail
  clear cB0 fB0 lB0
  clear B0
  refine HE.out.mono ?_
  rintro e w2 ⟨ob, rb, E, rfl, hE, hsE, hfE, hb2⟩
  have hER := hE
  rw [HXL.out] at hER
  have HER := Lib.hid hER
  have HDV := Lib.hid (dOf_dv hsE hfE (by have := HXL.out; omega))
  have HLT := Lib.hid (show ∀ a p, E a p < 8192 from fun a p => by
    have h1 := hsE.lt a p
    rw [HXL.out] at h1
    have := pow13 hn; omega)
  have HB2 := Lib.hid (HB.out.via hb2)
  have hn10 := HG.out.ok.nons.2
  clear hE hsE hfE hb2 HE hER
  go_wp2_with fail
  go_loopw [12, 41] (fun v q wr => ∃ m : Nat, q = .int .i64 (m : Int) ∧ m ≤ g.nons ∧ Hid (Own InE 3 (fun _ => False) wr w2.heap.size v (partsL (dvD g.rules xs) m i j).length (intsN (partsL (dvD g.rules xs) m i j)) ∧ Below w2.heap.size w2 wr)) (fun _ q _ => g.nons - (intOf q).toNat)
  case atStart => exact ⟨0, rfl, Nat.zero_le _, Lib.hid ⟨Own.nil _ _, Below.refl _ _⟩⟩
  case round =>
    obtain ⟨m, rfl, hm, HR⟩ := hrel
    by_cases hmN : m < g.nons
    · have hE := HER.out.via HR.out.2
      have t1 := hE.cell1 hmN
      have t2 := hE.cell2 hmN (show i ≤ n by omega)
      obtain ⟨Q, R, q1, q2, q3⟩ := bit_of (E m i) j (HLT.out m i)
      have hd : (E m i).testBit j = dvD g.rules xs ((false, m), i, j) := by rw [← HDV.out, dOf_non]
      rw [hd] at q3
      have i0 : (0 : Int) ≤ (m : Int) := by omega
      have i1 : (m : Int) < (g.nons : Int) := by omega
      have i2 : (i : Int) < (n : Int) + 1 := by omega
      have HNX := Lib.hid (partsL_next (dvD g.rules xs) m i j)
      clear hE hd
      cases hdd : dvD g.rules xs ((false, m), i, j) with
      | true =>
        rw [hdd] at q3
        have HDD := Lib.hid hdd
        have HPL := Lib.hid (show (partsL (dvD g.rules xs) m i j).length ≤ 10 from by
          have h1 := List.length_filter_le (fun a => dvD g.rules xs ((false, a), i, j)) (List.range m)
          rw [List.length_range] at h1
          unfold partsL; omega)
        clear hdd
        go_upto_region 11 with fail
        have HO := Lib.hid (HR.out.1.al (.cells #[.int .i64 (m : Int)] 3))
        have HY := Lib.hid (Blk.new wr 3 #[.int .i64 (m : Int)])
        have HSZ := Lib.hid (show w2.heap.size ≤ (wr.alloc (.cells #[.int .i64 (m : Int)] 3)).heap.size from by have := HR.out.2.size; simp; omega)
        have hpl := HPL.out
        obtain ⟨pl, hpl2⟩ : ∃ pl, pl = (partsL (dvD g.rules xs) m i j).length := ⟨_, rfl⟩
        rw [← hpl2] at HO hpl
        have HPL2 := Lib.hid hpl2
        clear hpl2
        go_wp2_with (at_builtin; refine wpList_append_in _ rfl (.tmp 54) (.tmp 56) rfl (fun _ => False) w2.heap.size u12 pl (intsN (partsL (dvD g.rules xs) m i j)) rfl HO.out wr.heap.size (m : Int) (m : Int) rfl HY.out rfl (by omega) HSZ.out ?_; intro A5 c5 w5 ho5 hg5 hat5)
        refine ⟨⟨m + 1, by go_num, by omega, Lib.hid ⟨?_, (HR.out.2.al (.cells #[.int .i64 (m : Int)] 3)).grown hg5 HSZ.out (fun b e => (HO.out.lt b e).1)⟩⟩, by simp [intOf]; omega⟩
        have e : partsL (dvD g.rules xs) (m + 1) i j = partsL (dvD g.rules xs) m i j ++ [m] := by rw [HNX.out, HDD.out]; rfl
        have e2 : intsN (partsL (dvD g.rules xs) m i j ++ [m]) = intsN (partsL (dvD g.rules xs) m i j) ++ [(m : Int)] := by simp [intsN]
        rw [e, e2, List.length_append, ← HPL2.out]
        exact ho5
      | false =>
        rw [hdd] at q3
        have HDD := Lib.hid hdd
        clear hdd
        go_wp2_with fail
        refine ⟨⟨m + 1, by go_num, by omega, Lib.hid ⟨?_, HR.out.2⟩⟩, by simp [intOf]; omega⟩
        rw [HNX.out, HDD.out]
        exact HR.out.1
    · obtain rfl : g.nons = m := by omega
      obtain ⟨A9, c9, rfl, hc9⟩ := HR.out.1.form
      have HF := Lib.hid (HR.out.1.toSl (ok' := fun _ => True) (fun _ _ h => h.elim) (fun _ _ => trivial))
      have HBF := Lib.hid (HB2.out.trans (HR.out.2.mono HB2.out.size))
      clear hc9 HR
      go_wp2_with fail
      go_ret2
      exact ⟨A9, _, c9, rfl, Sl.intsIn HF.out, HBF.out⟩
end Go.Proofs.YtpjafhaajcklmaaGreatDoor

