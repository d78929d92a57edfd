/- edit.before, edit.Over. -/
import Derived.Test.YtdccgeiniockpaaK
namespace Go.Proofs.Ytdccgeiniockpaa
open Go.RowKit

def beforeB (fx gx fy gy : Nat) : Bool := decide (gx ≤ fy) && !(decide (fx = gx) && decide (fy = gy) && decide (fx = fy))

set_option maxHeartbeats 2000000 in
theorem before_c (fx gx fy gy p q : Nat) (A B : Option Addr) (c d : Nat) (w : World) :
    Calls Try.prog 52 #[.agg #[.int .i64 (fx : Int), .int .i64 (gx : Int), .slice A p c], .agg #[.int .i64 (fy : Int), .int .i64 (gy : Int), .slice B q d]] w fun e w' => e = .returned (.bool (beforeB fx gx fy gy)) ∧ Below w.heap.size w w' := by
  have hv : Hid (beforeB fx gx fy gy = _) := (show beforeB fx gx fy gy = (decide (gx ≤ fy) && !(decide (fx = gx) && decide (fy = gy) && decide (fx = fy))) from rfl)
  by_cases k1 : fx = gx
  · by_cases k2 : fy = gy
    · by_cases k3 : fx = fy
      · subst k1; subst k2; subst k3
        go_enter Try.func52, Try.ntmps52
        go_wp2
        all_goals (go_ret; exact ⟨by rw [hv.out]; simp, ((Below.refl w.heap.size w).al _).al _⟩)
      · have e3 : ((fx : Int) == (fy : Int)) = false := by rw [beq_eq_false_iff_ne]; omega
        have K3 := Lib.hid k3
        subst k1; subst k2
        clear k3
        go_enter Try.func52, Try.ntmps52
        go_wp2
        all_goals (go_ret; exact ⟨by rw [hv.out]; simp [K3.out]; try omega, ((Below.refl w.heap.size w).al _).al _⟩)
    · have e2 : ((fy : Int) == (gy : Int)) = false := by rw [beq_eq_false_iff_ne]; omega
      have K2 := Lib.hid k2
      subst k1
      clear k2
      go_enter Try.func52, Try.ntmps52
      go_wp2
      all_goals (go_ret; exact ⟨by rw [hv.out]; simp [K2.out]; try omega, ((Below.refl w.heap.size w).al _).al _⟩)
  · have e1 : ((fx : Int) == (gx : Int)) = false := by rw [beq_eq_false_iff_ne]; omega
    have K1 := Lib.hid k1
    clear k1
    go_enter Try.func52, Try.ntmps52
    go_wp2
    all_goals (go_ret; exact ⟨by rw [hv.out]; simp [K1.out]; try omega, ((Below.refl w.heap.size w).al _).al _⟩)

theorem before_v (fx gx fy gy p q : Nat) (A B : Option Addr) (c d : Nat) (w : World) (b : Bool) (h : beforeB fx gx fy gy = b) :
    Calls Try.prog 52 #[.agg #[.int .i64 (fx : Int), .int .i64 (gx : Int), .slice A p c], .agg #[.int .i64 (fy : Int), .int .i64 (gy : Int), .slice B q d]] w fun e w' => e = .returned (.bool b) ∧ Below w.heap.size w w' :=
  (before_c fx gx fy gy p q A B c d w).mono fun e w' hh => by rw [h] at hh; exact hh

/-- an edit and an error number -/
def OverP (w : World) (f g k : Nat) (ns : List Int) (err : Int) (e : Ending) (w' : World) : Prop := ∃ A c, e = .returned (.tuple #[.agg #[.int .i64 (f : Int), .int .i64 (g : Int), .slice A k c], .int .i64 err]) ∧ Ints w' A k c ns ∧ Below w.heap.size w w'

/-- what is known behind 'out := Edit{..}' in Over -/
structure OverCut (w : World) (n : Nat) (az bz : List Int) (A1 A2 : Option Addr) (c1 c2 fa ga p fb gb q : Nat) (b : Nat) (A3 : Option Addr) (c3 : Nat) (wx : World) : Prop where
  hb : w.heap.size + 3 ≤ b
  bo : Blk wx b 24 #[.int .i64 (fb : Int), .int .i64 (gb : Int), .slice A3 q c3]
  ba : Blk wx w.heap.size 24 #[.int .i64 (fa : Int), .int .i64 (ga : Int), .slice A1 p c1]
  bb : Blk wx (w.heap.size + 1) 24 #[.int .i64 (fb : Int), .int .i64 (gb : Int), .slice A2 q c2]
  br : Blk wx (w.heap.size + 1 + 1) 24 #[.int .i64 0, .int .i64 0, .slice none 0 0]
  ints : Ints wx A3 q c3 bz
  far : ∀ ad, A3 = some ad → ad.block ≠ b ∧ w.heap.size + 3 ≤ ad.block
  bel : Below w.heap.size w wx

/-- .. and ahead of it -/
structure OverPre (w : World) (A1 A2 : Option Addr) (c1 c2 fa ga p fb gb q : Nat) (W : World) : Prop where
  ba : Blk W w.heap.size 24 #[.int .i64 (fa : Int), .int .i64 (ga : Int), .slice A1 p c1]
  bb : Blk W (w.heap.size + 1) 24 #[.int .i64 (fb : Int), .int .i64 (gb : Int), .slice A2 q c2]
  br : Blk W (w.heap.size + 1 + 1) 24 #[.int .i64 0, .int .i64 0, .slice none 0 0]
  bel : Below w.heap.size w W

theorem OverCut.way1 {w W2 W3 : World} {n : Nat} {az bz : List Int} {A1 A2 A3 : Option Addr} {c1 c2 c3 fa ga p fb gb q : Nat} (h : OverPre w A1 A2 c1 c2 fa ga p fb gb q W2) (hb : Below W2.heap.size W2.drew W3) (hO : OwnI W3 W2.heap.size (.slice A3 q c3) q bz) :
    OverCut w n az bz A1 A2 c1 c2 fa ga p fb gb q W3.heap.size A3 c3 (W3.alloc (.cells #[.int .i64 (fb : Int), .int .i64 (gb : Int), .slice A3 q c3] 24)) where
  hb := by have := h.br.lt; have := hb.size; simp at this; omega
  bo := Blk.new _ _ _
  ba := (h.ba.dr.via hb).al _
  bb := (h.bb.dr.via hb).al _
  br := (h.br.dr.via hb).al _
  ints := hO.toInts.al _
  far := fun ad e => by have := hO.block ad e; have := h.br.lt; omega
  bel := (h.bel.dr.via hb).al _

theorem OverCut.way2 {w W2 W3 : World} {n : Nat} {az bz : List Int} {A1 A2 A3 : Option Addr} {c1 c2 c3 fa ga p fb gb q : Nat} (h : OverPre w A1 A2 c1 c2 fa ga p fb gb q W2)
    (hb : Below (W2.alloc (.cells #[.int .i64 0, .int .i64 0, .slice none 0 0] 24)).drew.heap.size (W2.alloc (.cells #[.int .i64 0, .int .i64 0, .slice none 0 0] 24)).drew W3)
    (hO : OwnI W3 (W2.alloc (.cells #[.int .i64 0, .int .i64 0, .slice none 0 0] 24)).drew.heap.size (.slice A3 q c3) q bz) :
    OverCut w n az bz A1 A2 c1 c2 fa ga p fb gb q W2.heap.size A3 c3 (((W3.setCell ⟨W2.heap.size, 0, none⟩ (.int .i64 (fb : Int))).setCell ⟨W2.heap.size, 1, none⟩ (.int .i64 (gb : Int))).setCell ⟨W2.heap.size, 2, none⟩ (.slice A3 q c3)) where
  hb := by have := h.br.lt; omega
  bo := by
    have := (((((Blk.new W2 24 #[.int .i64 0, .int .i64 0, .slice none 0 0]).dr.via hb).set_ 0 (.int .i64 (fb : Int))).set_ 1 (.int .i64 (gb : Int))).set_ 2 (.slice A3 q c3))
    simpa using this
  ba := by have := h.br.lt; exact (((((h.ba.al _).dr.via hb).far (by simp; omega) _).far (by simp; omega) _).far (by simp; omega) _)
  bb := by have := h.br.lt; exact (((((h.bb.al _).dr.via hb).far (by simp; omega) _).far (by simp; omega) _).far (by simp; omega) _)
  br := by have := h.br.lt; exact (((((h.br.al _).dr.via hb).far (by simp; omega) _).far (by simp; omega) _).far (by simp; omega) _)
  ints := by
    have hf : ∀ ad, A3 = some ad → ad.block ≠ W2.heap.size := fun ad e => by have := (hO.block ad e).1; simp at this; omega
    exact ((hO.toInts.far (p := ⟨W2.heap.size, 0, none⟩) hf _).far (p := ⟨W2.heap.size, 1, none⟩) hf _).far (p := ⟨W2.heap.size, 2, none⟩) hf _
  far := fun ad e => by have := (hO.block ad e).1; have := h.br.lt; simp at *; omega
  bel := by have := h.br.lt; exact ((((h.bel.al _).dr.via hb).setCell (by simp; omega) _).setCell (by simp; omega) _).setCell (by simp; omega) _

set_option maxRecDepth 100000 in
set_option maxHeartbeats 4000000 in
theorem over_c (A1 A2 : Option Addr) (n fa ga p c1 fb gb q c2 : Nat) (az bz : List Int) (w : World) (ha : Ints w A1 p c1 az) (hb : Ints w A2 q c2 bz)
    (h1 : fa ≤ ga) (h2 : ga ≤ n) (h3 : fb ≤ gb) (h4 : gb ≤ n) (h5 : n + p + q ≤ 2000) (F T k : Nat) (ns : List Int) (err : Int)
    (hc : (beforeB fa ga fb gb = true ∧ F = fb - (ga - fa) + p ∧ T = gb - (ga - fa) + p ∧ k = q ∧ ns = bz ∧ err = 0 ∧ ga ≤ fb) ∨
      (beforeB fa ga fb gb = false ∧ beforeB fb gb fa ga = true ∧ F = fb ∧ T = gb ∧ k = q ∧ ns = bz ∧ err = 0) ∨
      (beforeB fa ga fb gb = false ∧ beforeB fb gb fa ga = false ∧ F = 0 ∧ T = 0 ∧ k = 0 ∧ ns = [] ∧ err = 8)) :
    Calls Try.prog 25 #[.int .i64 (n : Int), .agg #[.int .i64 (fa : Int), .int .i64 (ga : Int), .slice A1 p c1], .agg #[.int .i64 (fb : Int), .int .i64 (gb : Int), .slice A2 q c2]] w (OverP w F T k ns err) := by
  have HC := Lib.hid hc
  clear hc
  go_enter Try.func25, Try.ntmps25
  go_wp2_with fail
  have Ba := ((Blk.new w 24 #[.int .i64 (fa : Int), .int .i64 (ga : Int), .slice A1 p c1]).al (.cells #[.int .i64 (fb : Int), .int .i64 (gb : Int), .slice A2 q c2] 24)).al (.cells #[.int .i64 0, .int .i64 0, .slice none 0 0] 24)
  have Bb := (Blk.new (w.alloc (.cells #[.int .i64 (fa : Int), .int .i64 (ga : Int), .slice A1 p c1] 24)) 24 #[.int .i64 (fb : Int), .int .i64 (gb : Int), .slice A2 q c2]).al (.cells #[.int .i64 0, .int .i64 0, .slice none 0 0] 24)
  have Br := Blk.new ((w.alloc (.cells #[.int .i64 (fa : Int), .int .i64 (ga : Int), .slice A1 p c1] 24)).alloc (.cells #[.int .i64 (fb : Int), .int .i64 (gb : Int), .slice A2 q c2] 24)) 24 #[.int .i64 0, .int .i64 0, .slice none 0 0]
  have hB := (((Below.refl w.heap.size w).al (.cells #[.int .i64 (fa : Int), .int .i64 (ga : Int), .slice A1 p c1] 24)).al (.cells #[.int .i64 (fb : Int), .int .i64 (gb : Int), .slice A2 q c2] 24)).al (.cells #[.int .i64 0, .int .i64 0, .slice none 0 0] 24)
  simp only [World.size_alloc] at Ba Bb Br
  replace ha := ha.keep hB (Nat.le_refl _)
  replace hb := hb.keep hB (Nat.le_refl _)
  generalize ((w.alloc (.cells #[.int .i64 (fa : Int), .int .i64 (ga : Int), .slice A1 p c1] 24)).alloc (.cells #[.int .i64 (fb : Int), .int .i64 (gb : Int), .slice A2 q c2] 24)).alloc (.cells #[.int .i64 0, .int .i64 0, .slice none 0 0] 24) = W at *
  refine (check_ok n fa ga A1 p c1 W h1 h2 (by omega) (by omega)).mono ?_
  rintro ee W1 ⟨rfl, hb1⟩
  replace ha := ha.via hb1
  replace hb := hb.via hb1
  replace Ba := Ba.via hb1
  replace Bb := Bb.via hb1
  replace Br := Br.via hb1
  replace hB := hB.via hb1
  clear hb1
  have cBa := Ba.cell
  have fBa := Ba.frozen
  have lBa := Ba.lt
  have cBb := Bb.cell
  have fBb := Bb.frozen
  have lBb := Bb.lt
  have cBr := Br.cell
  have fBr := Br.frozen
  have lBr := Br.lt
  go_wp2_with fail
  clear cBa fBa lBa cBb fBb lBb cBr fBr lBr
  refine (check_ok n fb gb A2 q c2 W1 h3 h4 (by omega) (by omega)).mono ?_
  rintro ee W2 ⟨rfl, hb1⟩
  replace ha := ha.via hb1
  replace hb := hb.via hb1
  replace Ba := Ba.via hb1
  replace Bb := Bb.via hb1
  replace Br := Br.via hb1
  replace hB := hB.via hb1
  clear hb1
  have cBa := Ba.cell
  have fBa := Ba.frozen
  have lBa := Ba.lt
  have cBb := Bb.cell
  have fBb := Bb.frozen
  have lBb := Bb.lt
  have cBr := Br.cell
  have fBr := Br.frozen
  have lBr := Br.lt
  have hq : q ≤ 17592186044416 := by omega
  go_upto_region 7 with fail
  go_cut [10] (fun s10 wx => ∃ b A3 c3, s10 = .pointer (some ⟨b, 0, none⟩) ∧ OverCut w n az bz A1 A2 c1 c2 fa ga p fb gb q b A3 c3 wx)
  case first =>
    go_region_held3 (fun w' => w'.cell? ⟨w.heap.size + 1, 0, none⟩ = some (.int .i64 (fb : Int)) ∧ w'.cell? ⟨w.heap.size + 1, 1, none⟩ = some (.int .i64 (gb : Int)) ∧ w'.cell? ⟨w.heap.size + 1, 2, none⟩ = some (.slice A2 q c2)) (simp [go_sem, *]) (first
      | (go_at_call 40; (with_reducible refine (clone_s A2 q c2 bz W2.drew hb.dr hq).mono ?_); rintro ee W3 ⟨A3, c3, rfl, hO, hb1⟩; have l3 : W2.heap.size ≤ W3.heap.size := hb1.size; have l4 : w.heap.size + 1 < W3.heap.size := Nat.lt_of_lt_of_le lBb l3; have cB3 := (Bb.dr.via hb1).cell)
      | (go_at_call 40; (with_reducible refine (clone_s A2 q c2 bz (W2.alloc (.cells #[.int .i64 0, .int .i64 0, .slice none 0 0] 24)).drew (hb.al _).dr hq).mono ?_); rintro ee W3 ⟨A3, c3, rfl, hO, hb1⟩; have l3 : W2.heap.size + 1 ≤ W3.heap.size := Nat.le_trans (Nat.le_of_eq (World.size_alloc W2 _).symm) hb1.size; have l4 : w.heap.size + 1 < W3.heap.size := Nat.lt_of_lt_of_le lBb (Nat.le_of_succ_le l3); have cB3 := ((Bb.al _).dr.via hb1).cell; have cN := ((Blk.new W2 24 #[.int .i64 0, .int .i64 0, .slice none 0 0]).dr.via hb1).cell; have fN := ((Blk.new W2 24 #[.int .i64 0, .int .i64 0, .slice none 0 0]).dr.via hb1).frozen))
    · go_wp2_with fail
      go_meet
      exact ⟨W3.heap.size, A3, c3, rfl, OverCut.way1 ⟨Ba, Bb, Br, hB⟩ hb1 hO⟩
    · go_wp2_with fail
      go_meet
      exact ⟨W2.heap.size, A3, c3, rfl, OverCut.way2 ⟨Ba, Bb, Br, hB⟩ hb1 hO⟩
  case rest =>
    obtain ⟨b, A3, c3, rfl, hcut⟩ := hcut
    clear cBa fBa lBa cBb fBb lBb cBr fBr lBr
    clear ha hb Ba Bb Br hB
    obtain ⟨hsz, Bo, Ba, Bb, Br, hI, hfar, hB⟩ := hcut
    have HF := Lib.hid hfar
    clear hfar
    rcases HC.out with ⟨k1, rfl, rfl, rfl, rfl, rfl, k2⟩ | ⟨k1, k2, rfl, rfl, rfl, rfl, rfl⟩ | ⟨k1, k2, rfl, rfl, rfl, rfl, rfl⟩
    · clear HC
      have K1 := Lib.hid k1
      clear k1
      have r1 : (fb : Int) + ((p : Int) - ((ga : Int) - (fa : Int))) = ((fb - (ga - fa) + p : Nat) : Int) := by omega
      have r2 : (gb : Int) + ((p : Int) - ((ga : Int) - (fa : Int))) = ((gb - (ga - fa) + p : Nat) : Int) := by omega
      have cBa := Ba.cell
      have fBa := Ba.frozen
      have lBa := Ba.lt
      have cBb := Bb.cell
      have fBb := Bb.frozen
      have lBb := Bb.lt
      have cBo := Bo.cell
      have fBo := Bo.frozen
      have lBo := Bo.lt
      go_wp2_with fail
      clear cBa fBa lBa cBb fBb lBb cBo fBo lBo
      refine (before_v fa ga fb gb p k A1 A2 c1 c2 wc true K1.out).mono ?_
      rintro ee W3 ⟨rfl, hb1⟩
      replace hI := hI.via hb1
      replace Bo := Bo.via hb1
      replace Ba := Ba.via hb1
      replace Br := Br.via hb1
      replace hB := hB.via hb1
      clear hb1 Bb
      generalize fb - (ga - fa) + p = F at *
      generalize gb - (ga - fa) + p = T at *
      have hbr : ¬ b = w.heap.size := by omega
      have hbr2 : ¬ b = w.heap.size + 1 + 1 := by omega
      have cBa := Ba.cell
      have fBa := Ba.frozen
      have lBa := Ba.lt
      have cBo := Bo.cell
      have fBo := Bo.frozen
      have lBo := Bo.lt
      have cBr := Br.cell
      have fBr := Br.frozen
      have lBr := Br.lt
      go_wp2_with fail
      refine bodyPost_ret (v := .tuple #[.agg #[.int .i64 (F : Int), .int .i64 (T : Int), .slice A3 k c3], .int .i64 0]) (by simp [results, Try.results25, go_sem, cBr]) rfl ⟨A3, c3, rfl, ?_, ?_⟩
      · exact ((((hI.far (fun ad e => (HF.out ad e).1) _).far (fun ad e => (HF.out ad e).1) _).far (fun ad e => by have := (HF.out ad e).2; simp; omega) _).far (fun ad e => by have := (HF.out ad e).2; simp; omega) _).far (fun ad e => by have := (HF.out ad e).2; simp; omega) _
      · exact ((((hB.setCell (by simp; omega) _).setCell (by simp; omega) _).setCell (by simp; omega) _).setCell (by simp; omega) _).setCell (by simp; omega) _
    · clear HC
      have K1 := Lib.hid k1
      have K2 := Lib.hid k2
      clear k1 k2
      have cBa := Ba.cell
      have fBa := Ba.frozen
      have lBa := Ba.lt
      have cBb := Bb.cell
      have fBb := Bb.frozen
      have lBb := Bb.lt
      have cBo := Bo.cell
      have fBo := Bo.frozen
      have lBo := Bo.lt
      go_wp2_with fail
      clear cBa fBa lBa cBb fBb lBb cBo fBo lBo
      refine (before_v fa ga F T p k A1 A2 c1 c2 wc false K1.out).mono ?_
      rintro ee W3 ⟨rfl, hb1⟩
      replace hI := hI.via hb1
      replace Bo := Bo.via hb1
      replace Ba := Ba.via hb1
      replace Bb := Bb.via hb1
      replace Br := Br.via hb1
      replace hB := hB.via hb1
      clear hb1
      have cBa := Ba.cell
      have fBa := Ba.frozen
      have lBa := Ba.lt
      have cBb := Bb.cell
      have fBb := Bb.frozen
      have lBb := Bb.lt
      go_wp2_with fail
      clear cBa fBa lBa cBb fBb lBb
      refine (before_v F T fa ga k p A2 A1 c2 c1 W3 true K2.out).mono ?_
      rintro ee W4 ⟨rfl, hb1⟩
      replace hI := hI.via hb1
      replace Bo := Bo.via hb1
      replace Br := Br.via hb1
      replace hB := hB.via hb1
      clear hb1 Ba Bb
      have hbr2 : ¬ b = w.heap.size + 1 + 1 := by omega
      have cBo := Bo.cell
      have fBo := Bo.frozen
      have lBo := Bo.lt
      have cBr := Br.cell
      have fBr := Br.frozen
      have lBr := Br.lt
      go_wp2_with fail
      refine bodyPost_ret (v := .tuple #[.agg #[.int .i64 (F : Int), .int .i64 (T : Int), .slice A3 k c3], .int .i64 0]) (by simp [results, Try.results25, go_sem, cBr]) rfl ⟨A3, c3, rfl, ?_, ?_⟩
      · exact ((hI.far (fun ad e => by have := (HF.out ad e).2; simp; omega) _).far (fun ad e => by have := (HF.out ad e).2; simp; omega) _).far (fun ad e => by have := (HF.out ad e).2; simp; omega) _
      · exact ((hB.setCell (by simp; omega) _).setCell (by simp; omega) _).setCell (by simp; omega) _
    · clear HC
      have K1 := Lib.hid k1
      have K2 := Lib.hid k2
      clear k1 k2
      have cBa := Ba.cell
      have fBa := Ba.frozen
      have lBa := Ba.lt
      have cBb := Bb.cell
      have fBb := Bb.frozen
      have lBb := Bb.lt
      have cBo := Bo.cell
      have fBo := Bo.frozen
      have lBo := Bo.lt
      go_wp2_with fail
      clear cBa fBa lBa cBb fBb lBb cBo fBo lBo
      refine (before_v fa ga fb gb p q A1 A2 c1 c2 wc false K1.out).mono ?_
      rintro ee W3 ⟨rfl, hb1⟩
      replace Ba := Ba.via hb1
      replace Bb := Bb.via hb1
      replace Br := Br.via hb1
      replace hB := hB.via hb1
      clear hb1 hI Bo
      have cBa := Ba.cell
      have fBa := Ba.frozen
      have lBa := Ba.lt
      have cBb := Bb.cell
      have fBb := Bb.frozen
      have lBb := Bb.lt
      go_wp2_with fail
      clear cBa fBa lBa cBb fBb lBb
      refine (before_v fb gb fa ga q p A2 A1 c2 c1 W3 false K2.out).mono ?_
      rintro ee W4 ⟨rfl, hb1⟩
      replace Br := Br.via hb1
      replace hB := hB.via hb1
      clear hb1 Ba Bb
      have cBr := Br.cell
      have fBr := Br.frozen
      have lBr := Br.lt
      go_wp2_with fail
      refine bodyPost_ret (v := .tuple #[.agg #[.int .i64 0, .int .i64 0, .slice none 0 0], .int .i64 8]) (by simp [results, Try.results25, go_sem, cBr]) rfl ⟨none, 0, rfl, Ints.nil _, ?_⟩
      exact ((hB.setCell (by simp; omega) _).setCell (by simp; omega) _).setCell (by simp; omega) _
end Go.Proofs.Ytdccgeiniockpaa
