/- Texts BW, VH, SM, VI, RX, laid together. -/
import Derived.Test.YtbfcnfgkccgbiaaGreatDoorQ21
import Derived.Test.YtbfcnfgkccgbiaaGreatDoorQ28
import Derived.Test.YtbfcnfgkccgbiaaGreatDoorQ22
import Derived.Test.YtbfcnfgkccgbiaaGreatDoorQ15
import Derived.Test.YtbfcnfgkccgbiaaGreatDoorQ7
import Derived.Shelf.Bits.Mul64
import Derived.Shelf.Lay
import Derived.Ground.NamesProg
import Derived.Laws.CopyOwn


namespace Go.Proofs.YtbfcnfgkccgbiaaGreatDoor
open Go.RowKit

set_option maxRecDepth 100000 in
theorem of_e (ok : Nat → Prop) (T N S : Int) (A : Option Addr) (n c : Nat) (rs : List Ri) (wA : Option Addr) (wn wc : Nat) (xs : List Int) (w : World) (hl : Sl RiE ok w A n c rs) (hx : Ints w wA wn wc xs) (q : Int) (hq : chkB T N S rs xs = q) (hbad : q ≠ 0) :
    Calls Tryz.prog 32 #[.agg #[.int .i64 T, .int .i64 N, .int .i64 S, .slice A n c], .slice wA wn wc] w fun e w' => e = .returned (.tuple #[.agg #[.slice none 0 0, .int .i64 0], .int .i64 q]) ∧ Below w.heap.size w w' := by
  have hal := ((Below.refl w.heap.size w).al (.cells #[.int .i64 T, .int .i64 N, .int .i64 S, .slice A n c] 24)).al (.cells #[.slice none 0 0, .int .i64 0] 34)
  have B0 := (Blk.new w 24 #[.int .i64 T, .int .i64 N, .int .i64 S, .slice A n c]).al (.cells #[.slice none 0 0, .int .i64 0] 34)
  have B1 := Blk.newAt (w.alloc (.cells #[.int .i64 T, .int .i64 N, .int .i64 S, .slice A n c] 24)) 34 #[.slice none 0 0, .int .i64 0] (w.heap.size + 1) (by simp)
  have HC := Lib.hid (accepts_e ok T N S A n c rs wA wn wc xs _ (hl.via hal) (hx.keep hal (Nat.le_refl _)) q hq hbad)
  have HAL := Lib.hid hal
  have HB1 := Lib.hid B1
  clear hl hx hq hal
  go_enter Tryz.func32, Tryz.ntmps32
  have cB0 := B0.cell
  have fB0 := B0.frozen
  have lB0 := B0.lt
  go_wp2_with fail
  clear cB0 fB0 lB0
  clear B0 B1
  generalize (w.alloc (.cells #[.int .i64 T, .int .i64 N, .int .i64 S, .slice A n c] 24)).alloc (.cells #[.slice none 0 0, .int .i64 0] 34) = W at *
  refine HC.out.mono ?_
  clear HC
  rintro e w1 ⟨rfl, hb⟩
  have HB := Lib.hid (HAL.out.via hb)
  have B2 := HB1.out.via hb
  have HB2 := Lib.hid B2
  clear hb HB1 HAL
  have cB2 := B2.cell
  have fB2 := B2.frozen
  have lB2 := B2.lt
  go_wp2_with fail
  have B3 := (HB2.out.set_ 0 (.slice none 0 0)).set_ 1 (.int .i64 0)
  simp only [List.setIfInBounds_toArray, List.set_cons_zero, List.set_cons_succ] at B3
  have cc2 := B3.cell
  refine bodyPost_ret (v := .tuple #[.agg #[.slice none 0 0, .int .i64 0], .int .i64 q]) (by simp [results, Tryz.results32, go_sem, cc2]) rfl ⟨rfl, ?_⟩
  exact (HB.out.setCell (p := ⟨w.heap.size + 1, 0, none⟩) (by show w.heap.size ≤ w.heap.size + 1; omega) _).setCell (p := ⟨w.heap.size + 1, 1, none⟩) (by show w.heap.size ≤ w.heap.size + 1; omega) _
set_option maxRecDepth 100000 in
set_option maxHeartbeats 4000000 in
theorem of_c (ok : Nat → Prop) (g : Gr) (Ag : Option Addr) (ng cg : Nat) (A : Option Addr) (n c : Nat) (xs : List Int) (w : World) (hg : GrOk g) (hl : Sl RuE ok w Ag ng cg g.rules) (hx : Ints w A n c xs) (hn : n ≤ 12) (hxt : ∀ x ∈ xs, 0 ≤ x ∧ x < (g.terms : Int)) (hT : TabW w) :
    Calls Tryz.prog 32 #[grVal g Ag ng cg, .slice A n c] w (FoP w (dvD g.rules xs) g.rules ((false, g.start), 0, n)) := by
  have hxl := hx.len
  have hal := ((Below.refl w.heap.size w).al (.cells #[.int .i64 (g.terms : Int), .int .i64 (g.nons : Int), .int .i64 (g.start : Int), .slice Ag ng cg] 24)).al (.cells #[.slice none 0 0, .int .i64 0] 34)
  have B0 := (Blk.new w 24 #[.int .i64 (g.terms : Int), .int .i64 (g.nons : Int), .int .i64 (g.start : Int), .slice Ag ng cg]).al (.cells #[.slice none 0 0, .int .i64 0] 34)
  have B1 := Blk.newAt (w.alloc (.cells #[.int .i64 (g.terms : Int), .int .i64 (g.nons : Int), .int .i64 (g.start : Int), .slice Ag ng cg] 24)) 34 #[.slice none 0 0, .int .i64 0] (w.heap.size + 1) (by simp)
  have HC := Lib.hid (accepts_c ok g Ag ng cg A n c xs _ hg (hl.via hal) (hx.keep hal (Nat.le_refl _)) hn hxt (hT.via hal))
  have HL := Lib.hid (hl.via hal)
  have HX := Lib.hid (hx.keep hal (Nat.le_refl _))
  have HT := Lib.hid (hT.via hal)
  have HG := Lib.hid hg
  have HAL := Lib.hid hal
  have HB1 := Lib.hid B1
  have HB0 := Lib.hid B0
  have HXL := Lib.hid hxl
  have HXT := Lib.hid hxt
  clear hl hx hT hg hal hxl hxt
  simp only [grVal] at HC ⊢
  go_enter Tryz.func32, Tryz.ntmps32
  have cB0 := B0.cell
  have fB0 := B0.frozen
  have lB0 := B0.lt
  go_wp2_with fail
  clear cB0 fB0 lB0
  clear B0 B1
  have HSW := Lib.hid (show ((w.alloc (.cells #[.int .i64 (g.terms : Int), .int .i64 (g.nons : Int), .int .i64 (g.start : Int), .slice Ag ng cg] 24)).alloc (.cells #[.slice none 0 0, .int .i64 0] 34)).heap.size = w.heap.size + 2 by simp)
  generalize (w.alloc (.cells #[.int .i64 (g.terms : Int), .int .i64 (g.nons : Int), .int .i64 (g.start : Int), .slice Ag ng cg] 24)).alloc (.cells #[.slice none 0 0, .int .i64 0] 34) = W at *
  refine HC.out.mono ?_
  clear HC
  rintro e w1 ⟨b, rfl, -, hb⟩
  have HB := Lib.hid hb
  have B0 := HB0.out.via hb
  have SOF := Lib.hid (show ∀ w', Below W.heap.size W w' → ∀ i, w'.cell? ⟨w.heap.size, i, none⟩ = #[.int .i64 (g.terms : Int), .int .i64 (g.nons : Int), .int .i64 (g.start : Int), .slice Ag ng cg][i]? from fun w' h => (HB0.out.via h).cell)
  have SO3 := Lib.hid (show ∀ w' u v, Below W.heap.size W w' → ∀ i, ((w'.setCell ⟨w.heap.size + 1, 0, none⟩ u).setCell ⟨w.heap.size + 1, 1, none⟩ v).cell? ⟨w.heap.size, i, none⟩ = #[.int .i64 (g.terms : Int), .int .i64 (g.nons : Int), .int .i64 (g.start : Int), .slice Ag ng cg][i]? from fun w' u v h =>
    (((HB0.out.via h).far (p := ⟨w.heap.size + 1, 0, none⟩) (by show w.heap.size ≠ w.heap.size + 1; omega) u).far (p := ⟨w.heap.size + 1, 1, none⟩) (by show w.heap.size ≠ w.heap.size + 1; omega) v).cell)
  have JE := Lib.hid (show ∀ w', Below W.heap.size W w' → Calls Tryz.prog 55 #[.agg #[.int .i64 (g.terms : Int), .int .i64 (g.nons : Int), .int .i64 (g.start : Int), .slice Ag ng cg], .slice A n c] w' (EndsP w' g xs) from fun w' h => ends_c ok g Ag ng cg A n c xs w' HG.out (HL.out.via h) (HX.out.keep h (Nat.le_refl _)) hn (HT.out.via h))
  have JM := Lib.hid (show ∀ w' ob rb E, Below W.heap.size W w' → EnR w' ob g.nons xs.length rb E → SndE g.rules xs E → FixE g.rules xs E → Calls Tryz.prog 50 #[.agg #[.int .i64 (g.terms : Int), .int .i64 (g.nons : Int), .int .i64 (g.start : Int), .slice Ag ng cg], .slice A n c, .slice (some ⟨ob, 0, none⟩) g.nons g.nons] w' (FoP w' (dvD g.rules xs) g.rules ((false, g.start), 0, n)) from fun w' ob rb E h hE hs hf => by
    have h1 := fmake2_c ok g Ag ng cg A n c ob 0 g.nons rb (fun _ => 0) (fun _ => n + 1) xs E w' HG.out.ok (HL.out.via h) (HX.out.keep h (Nat.le_refl _)) (by rw [← HXL.out]; exact hE.view) (HT.out.via h) (by rw [← HXL.out]; exact hs.sup) hn
    rw [dOf_dv hs hf (by have := HXL.out; omega)] at h1
    exact h1)
  have hbd := hb.drew
  clear hb
  go_upto_region 4 with fail
  clear B0
  go_region_held3 (fun w' => ∀ i, w'.cell? ⟨w.heap.size, i, none⟩ = #[.int .i64 (g.terms : Int), .int .i64 (g.nons : Int), .int .i64 (g.start : Int), .slice Ag ng cg][i]?) (first | exact SOF.out _ (by assumption) | exact SO3.out _ _ _ (by assumption)) (first
    | (go_at_call 55; (with_reducible refine (JE.out _ (by assumption)).mono ?_); rintro ee wk ⟨ob, rb, E, rfl, hE, hsE, hfE, hbk⟩; have hbm : Below W.heap.size W wk := Below.via (by assumption) hbk)
    | (go_at_call 50; (with_reducible refine (JM.out _ _ _ _ (by assumption) (by assumption) (by assumption) (by assumption)).mono ?_); rintro ee wl ⟨f, v, bb, rfl, hf, ⟨fA, fn, fc, rfl, hS⟩, hbl⟩; obtain ⟨q, hq⟩ : ∃ q : Int, q = if bb then 0 else 2 := ⟨_, rfl⟩; rw [← hq]; have HQ := Lib.hid hq; clear hq; have hbn : Below W.heap.size W wl := Below.via hbm hbl; have B8 := HB1.out.via hbn; have cB8 := B8.cell; have fB8 := B8.frozen; have lB8 := B8.lt))
  have B3 := (B8.set_ 0 (.slice fA fn fc)).set_ 1 (.int .i64 f.1)
  simp only [List.setIfInBounds_toArray, List.set_cons_zero, List.set_cons_succ] at B3
  have cc2 := B3.cell
  have hsw := HSW.out
  have hsz := hbm.size
  go_wp2_with fail
  refine bodyPost_ret (v := .tuple #[.agg #[.slice fA fn fc, .int .i64 f.1], .int .i64 q]) (by simp [results, Tryz.results32, go_sem, cc2]) rfl ⟨f, _, bb, by rw [HQ.out], hf, ⟨fA, fn, fc, rfl, ?_⟩, ?_⟩
  · have h2 := (hS.agr (Agr.setCell (p := ⟨w.heap.size + 1, 0, none⟩) (.slice fA fn fc) fun b hb => by show b ≠ w.heap.size + 1; omega)).agr (Agr.setCell (p := ⟨w.heap.size + 1, 1, none⟩) (.int .i64 f.1) fun b hb => by show b ≠ w.heap.size + 1; omega)
    exact h2.mono fun b _ hb => by omega
  · exact ((HAL.out.via hbn).setCell (p := ⟨w.heap.size + 1, 0, none⟩) (by show w.heap.size ≤ w.heap.size + 1; omega) _).setCell (p := ⟨w.heap.size + 1, 1, none⟩) (by show w.heap.size ≤ w.heap.size + 1; omega) _
end Go.Proofs.YtbfcnfgkccgbiaaGreatDoor





namespace Go.Proofs.YtbfcnfgkccgbiaaGreatDoor
open Go.RowKit

def YesP (w : World) (e : Ending) (w' : World) : Prop := e = .returned (.bool true) ∧ Below w.heap.size w w'
set_option maxRecDepth 100000 in
set_option maxHeartbeats 2000000 in
theorem eqI_c (x : It3) (w : World) : Calls Tryz.prog 15 #[itVal x, itVal x] w (YesP w) := by
  obtain ⟨xr, xd, xf⟩ := x
  have B0 := (Blk.new w 47 #[.int .i64 (xr : Int), .int .i64 (xd : Int), .int .i64 (xf : Int)]).al (.cells #[.int .i64 (xr : Int), .int .i64 (xd : Int), .int .i64 (xf : Int)] 48)
  have B1 := Blk.newAt (w.alloc (.cells #[.int .i64 (xr : Int), .int .i64 (xd : Int), .int .i64 (xf : Int)] 47)) 48 #[.int .i64 (xr : Int), .int .i64 (xd : Int), .int .i64 (xf : Int)] (w.heap.size + 1) (by simp)
  have HB := Lib.hid (((Below.refl w.heap.size w).al (.cells #[.int .i64 (xr : Int), .int .i64 (xd : Int), .int .i64 (xf : Int)] 47)).al (.cells #[.int .i64 (xr : Int), .int .i64 (xd : Int), .int .i64 (xf : Int)] 48))
  simp only [itVal]
  go_enter Tryz.func15, Tryz.ntmps15
  go_upto_region 1 with fail
  generalize (w.alloc (.cells #[.int .i64 (xr : Int), .int .i64 (xd : Int), .int .i64 (xf : Int)] 47)).alloc (.cells #[.int .i64 (xr : Int), .int .i64 (xd : Int), .int .i64 (xf : Int)] 48) = W at *
  have cB0 := B0.cell
  have fB0 := B0.frozen
  have lB0 := B0.lt
  have cB1 := B1.cell
  have fB1 := B1.frozen
  have lB1 := B1.lt
  go_wp2_with fail
  go_ret
  exact ⟨rfl, HB.out⟩
set_option maxRecDepth 100000 in
set_option maxHeartbeats 2000000 in
theorem eqR_c (fid : Nat) (he : ∀ (args : Array Value) (w : World), (callFunc fid args).run Tryz.prog w = .ok (.enter fid args) w) (ok ok2 : Nat → Prop) (A B : Option Addr) (n c d : Nat) (ks : List It3) (w : World) (h1 : Sl It3E ok w A n c ks) (h2 : Sl It3E ok2 w B n d ks) (hn : n ≤ 1000000)
    (hf : ∀ x w', Calls Tryz.prog fid #[itVal x, itVal x] w' (YesP w')) :
    Calls Tryz.prog 14 #[.slice A n c, .slice B n d, .func (.func fid) #[] #[]] w (YesP w) := by
  have H1 := Lib.hid h1
  have H2 := Lib.hid h2
  have HF := Lib.hid hf
  clear h1 h2 hf
  have k0 : ((n : Int) != (n : Int)) = false := by simp
  go_enter Tryz.func14, Tryz.ntmps14
  go_wp2_with fail
  clear k0
  go_loopw [17] (fun i wr => ∃ k : Nat, i = .int .i64 k ∧ k ≤ n ∧ Hid (Below w.heap.size w wr)) (fun i _ => n - (intOf i).toNat)
  case atStart => exact ⟨0, rfl, Nat.zero_le _, Lib.hid (Below.refl _ _)⟩
  case round =>
    obtain ⟨k, rfl, hk, HB⟩ := hrel
    by_cases hlt : k < n
    · obtain ⟨b1, o1, X1, x, rfl, -, hb1, hx, hx1, hc1⟩ := (H1.out.via HB.out).at_ hlt
      obtain ⟨b2, o2, Y1, y, rfl, -, hb2, hy, hy1, hc2⟩ := (H2.out.via HB.out).at_ hlt
      obtain rfl : X1 = x := hx1
      obtain rfl : Y1 = y := hy1
      obtain rfl : X1 = Y1 := by rw [hx] at hy; exact Option.some.inj hy
      have i0 : (0 : Int) ≤ (k : Int) := by omega
      have i1 : (k : Int) < (n : Int) := by omega
      obtain ⟨xr, xd, xf⟩ := X1
      have c0 := hc1 0 _ rfl
      have c1 := hc1 1 _ rfl
      have c2 := hc1 2 _ rfl
      have d0 := hc2 0 _ rfl
      have d1 := hc2 1 _ rfl
      have d2 := hc2 2 _ rfl
      simp only [It3E, Nat.add_zero] at c0 c1 c2 d0 d1 d2
      have hA := (Below.refl wr.heap.size wr).al (.cells #[.int .i64 (xr : Int), .int .i64 (xd : Int), .int .i64 (xf : Int)] 47)
      have hA2 := hA.al (.cells #[.int .i64 (xr : Int), .int .i64 (xd : Int), .int .i64 (xf : Int)] 48)
      have HB2 := Lib.hid (HB.out.trans (hA2.mono HB.out.size))
      have B1 := (Blk.new wr 47 #[.int .i64 (xr : Int), .int .i64 (xd : Int), .int .i64 (xf : Int)]).al (.cells #[.int .i64 (xr : Int), .int .i64 (xd : Int), .int .i64 (xf : Int)] 48)
      have B2 := Blk.newAt (wr.alloc (.cells #[.int .i64 (xr : Int), .int .i64 (xd : Int), .int .i64 (xf : Int)] 47)) 48 #[.int .i64 (xr : Int), .int .i64 (xd : Int), .int .i64 (xf : Int)] (wr.heap.size + 1) (by simp)
      have hC := HF.out ⟨xr, xd, xf⟩ ((wr.alloc (.cells #[.int .i64 (xr : Int), .int .i64 (xd : Int), .int .i64 (xf : Int)] 47)).alloc (.cells #[.int .i64 (xr : Int), .int .i64 (xd : Int), .int .i64 (xf : Int)] 48))
      simp only [itVal] at hC
      clear hx hy hc1 hc2 hA hA2 HB
      have hsz : (wr.alloc (.cells #[.int .i64 (xr : Int), .int .i64 (xd : Int), .int .i64 (xf : Int)] 47)).heap.size = wr.heap.size + 1 := by simp
      go_upto_region 7 with fail
      clear c0 c1 c2 d0 d1 d2 hb1 hb2
      generalize (wr.alloc (.cells #[.int .i64 (xr : Int), .int .i64 (xd : Int), .int .i64 (xf : Int)] 47)).alloc (.cells #[.int .i64 (xr : Int), .int .i64 (xd : Int), .int .i64 (xf : Int)] 48) = wx at *
      clear hsz
      have cB1 := B1.cell
      have fB1 := B1.frozen
      have lB1 := B1.lt
      have cB2 := B2.cell
      have fB2 := B2.frozen
      have lB2 := B2.lt
      go_wp2_with fail
      clear cB1 fB1 lB1 cB2 fB2 lB2
      refine hC.mono ?_
      rintro e w3 ⟨rfl, hb3⟩
      have HB3 := Lib.hid (HB2.out.trans (hb3.mono HB2.out.size))
      clear hb3 HB2 hC
      go_wp2_with fail
      exact ⟨⟨k + 1, by go_num, by omega, HB3⟩, by simp [intOf]; omega⟩
    · go_wp2_with fail
      go_ret
      exact ⟨rfl, HB.out⟩
set_option maxRecDepth 100000 in
set_option maxHeartbeats 2000000 in
theorem eq1_c (ok ok2 : Nat → Prop) (A B : Option Addr) (n c d : Nat) (ks : List It3) (w : World) (h1 : Sl It3E ok w A n c ks) (h2 : Sl It3E ok2 w B n d ks) (hn : n ≤ 1000000) :
    Calls Tryz.prog 13 #[.slice A n c, .slice B n d] w (YesP w) := by
  have HC := Lib.hid (eqR_c 15 (enters_c (c := _) (fn := Tryz.f15) rfl (by kernel_rfl) rfl) ok ok2 A B n c d ks w h1 h2 hn (fun x w' => eqI_c x w'))
  clear h1 h2
  go_enter Tryz.func13, Tryz.ntmps13
  go_wp2_with fail
  refine HC.out.mono ?_
  rintro e w' ⟨rfl, hb⟩
  go_wp2_with fail
  go_ret
  exact ⟨rfl, hb⟩
set_option maxRecDepth 100000 in
set_option maxHeartbeats 2000000 in
theorem eqS_c (fid : Nat) (he : ∀ (args : Array Value) (w : World), (callFunc fid args).run Tryz.prog w = .ok (.enter fid args) w) (ok ok2 : Nat → Prop) (A B : Option Addr) (n c d : Nat) (ks : List (List It3)) (w : World) (h1 : Sl RwI ok w A n c ks) (h2 : Sl RwI ok2 w B n d ks) (hn : n ≤ 1000000)
    (hf : ∀ (A B : Option Addr) (n c d : Nat) (x : List It3) (w' : World), x ∈ ks → Sl It3E ok w' A n c x → Sl It3E ok2 w' B n d x → Calls Tryz.prog fid #[.slice A n c, .slice B n d] w' (YesP w')) :
    Calls Tryz.prog 12 #[.slice A n c, .slice B n d, .func (.func fid) #[] #[]] w (YesP w) := by
  have H1 := Lib.hid h1
  have H2 := Lib.hid h2
  have HF := Lib.hid hf
  clear h1 h2 hf
  have k0 : ((n : Int) != (n : Int)) = false := by simp
  go_enter Tryz.func12, Tryz.ntmps12
  go_wp2_with fail
  clear k0
  go_loopw [17] (fun i wr => ∃ k : Nat, i = .int .i64 k ∧ k ≤ n ∧ Hid (Below w.heap.size w wr)) (fun i _ => n - (intOf i).toNat)
  case atStart => exact ⟨0, rfl, Nat.zero_le _, Lib.hid (Below.refl _ _)⟩
  case round =>
    obtain ⟨k, rfl, hk, HB⟩ := hrel
    by_cases hlt : k < n
    · obtain ⟨b1, o1, ⟨xA, xn, xc⟩, x, rfl, -, hb1, hx, hx1, hc1⟩ := (H1.out.via HB.out).at_ hlt
      obtain ⟨b2, o2, ⟨yA, yn, yc⟩, y, rfl, -, hb2, hy, hy1, hc2⟩ := (H2.out.via HB.out).at_ hlt
      obtain rfl : x = y := by rw [hx] at hy; exact Option.some.inj hy
      have hx2 : Sl It3E ok wr xA xn xc x := hx1
      have hy2 : Sl It3E ok2 wr yA yn yc x := hy1
      obtain rfl : xn = yn := hx2.len.symm.trans hy2.len
      have i0 : (0 : Int) ≤ (k : Int) := by omega
      have i1 : (k : Int) < (n : Int) := by omega
      have c0 := hc1 0 _ rfl
      have d0 := hc2 0 _ rfl
      simp only [RwI, Nat.add_zero, Nat.mul_one] at c0 d0
      have hC := HF.out xA yA xn xc yc x wr (List.mem_of_getElem? hx) hx2 hy2
      clear hx hy hc1 hc2 hx1 hy1 hx2 hy2
      go_wp2_with fail
      refine hC.mono ?_
      rintro e w3 ⟨rfl, hb3⟩
      have HB3 := Lib.hid (HB.out.via hb3)
      clear hb3 hC c0 d0 HB
      go_wp2_with fail
      exact ⟨⟨k + 1, by go_num, by omega, HB3⟩, by simp [intOf]; omega⟩
    · go_wp2_with fail
      go_ret
      exact ⟨rfl, HB.out⟩
set_option maxRecDepth 100000 in
theorem eqSets_c (ok ok2 : Nat → Prop) (A B : Option Addr) (n c d : Nat) (ks : List (List It3)) (w : World) (h1 : Sl RwI ok w A n c ks) (h2 : Sl RwI ok2 w B n d ks) (hn : n ≤ 1000000) (hm : ∀ x ∈ ks, x.length ≤ 1000000) :
    Calls Tryz.prog 12 #[.slice A n c, .slice B n d, .func (.func 13) #[] #[]] w (YesP w) :=
  eqS_c 13 (enters_c (c := _) (fn := Tryz.f13) rfl (by kernel_rfl) rfl) ok ok2 A B n c d ks w h1 h2 hn fun A B n c d x w' hx h1 h2 => eq1_c ok ok2 A B n c d x w' h1 h2 (by rw [← h1.len]; exact hm x hx)
/-! ### earley.Forest is forest.Of -/
set_option maxRecDepth 100000 in
set_option maxHeartbeats 2000000 in
theorem eforest_c (ok : Nat → Prop) (g : Gr) (Ag : Option Addr) (ng cg : Nat) (A : Option Addr) (n c : Nat) (xs : List Int) (w : World) (hg : GrOk g) (hl : Sl RuE ok w Ag ng cg g.rules) (hx : Ints w A n c xs) (hn : n ≤ 12) (hxt : ∀ x ∈ xs, 0 ≤ x ∧ x < (g.terms : Int)) (hT : TabW w) :
    Calls Tryz.prog 7 #[grVal g Ag ng cg, .slice A n c] w (FoP w (dvD g.rules xs) g.rules ((false, g.start), 0, n)) := by
  have hal := ((Below.refl w.heap.size w).al (.cells #[.int .i64 (g.terms : Int), .int .i64 (g.nons : Int), .int .i64 (g.start : Int), .slice Ag ng cg] 24)).al (.cells #[.slice none 0 0, .int .i64 0] 34)
  have B0 := (Blk.new w 24 #[.int .i64 (g.terms : Int), .int .i64 (g.nons : Int), .int .i64 (g.start : Int), .slice Ag ng cg]).al (.cells #[.slice none 0 0, .int .i64 0] 34)
  have HBR := Lib.hid (Blk.newAt (w.alloc (.cells #[.int .i64 (g.terms : Int), .int .i64 (g.nons : Int), .int .i64 (g.start : Int), .slice Ag ng cg] 24)) 34 #[.slice none 0 0, .int .i64 0] (w.heap.size + 1) (by simp))
  have HC := Lib.hid (of_c ok g Ag ng cg A n c xs _ hg (hl.via hal) (hx.keep hal (Nat.le_refl _)) hn hxt (hT.via hal))
  have HAL := Lib.hid hal
  have HSZ := Lib.hid (show w.heap.size ≤ ((w.alloc (.cells #[.int .i64 (g.terms : Int), .int .i64 (g.nons : Int), .int .i64 (g.start : Int), .slice Ag ng cg] 24)).alloc (.cells #[.slice none 0 0, .int .i64 0] 34)).heap.size from hal.size)
  have HSW := Lib.hid (show ((w.alloc (.cells #[.int .i64 (g.terms : Int), .int .i64 (g.nons : Int), .int .i64 (g.start : Int), .slice Ag ng cg] 24)).alloc (.cells #[.slice none 0 0, .int .i64 0] 34)).heap.size = w.heap.size + 2 by simp)
  simp only [grVal] at HC ⊢
  clear hl hx hxt hT hal
  go_enter Tryz.func7, Tryz.ntmps7
  have cB0 := B0.cell
  have fB0 := B0.frozen
  have lB0 := B0.lt
  go_wp2_with fail
  clear cB0 fB0 lB0
  clear B0
  generalize (w.alloc (.cells #[.int .i64 (g.terms : Int), .int .i64 (g.nons : Int), .int .i64 (g.start : Int), .slice Ag ng cg] 24)).alloc (.cells #[.slice none 0 0, .int .i64 0] 34) = W at *
  refine HC.out.mono ?_
  clear HC
  rintro e w1 ⟨f, v, b, rfl, hf, ⟨fA, fn, fc, rfl, hS⟩, hb⟩
  have HB := Lib.hid (HAL.out.via hb)
  have HF := Lib.hid hf
  have HS := Lib.hid (hS.mono (ok' := fun b => w.heap.size ≤ b ∧ b ≠ w.heap.size + 1) fun b _ hb => ⟨Nat.le_trans HSZ.out hb, by have := HSW.out; omega⟩)
  have BE := HBR.out.via hb
  clear hb HAL hf hS HBR
  obtain ⟨eq, heq⟩ : ∃ eq : Int, eq = if b then 0 else 2 := ⟨_, rfl⟩
  rw [← heq]
  have HEQ := Lib.hid heq
  clear heq
  have cBE := BE.cell
  have fBE := BE.frozen
  have lBE := BE.lt
  go_wp2_with fail
  clear cBE fBE lBE
  have B3 := (BE.set_ 0 (.slice fA fn fc)).set_ 1 (.int .i64 f.1)
  simp only [List.setIfInBounds_toArray, List.set_cons_zero, List.set_cons_succ] at B3
  have cc2 := B3.cell
  refine bodyPost_ret (v := .tuple #[.agg #[.slice fA fn fc, .int .i64 f.1], .int .i64 eq]) (by simp [results, Tryz.results7, go_sem, cc2]) rfl ⟨f, _, b, by rw [HEQ.out], HF.out, ⟨fA, fn, fc, rfl, ?_⟩, ?_⟩
  · exact ((HS.out.agr (Agr.setCell (p := ⟨w.heap.size + 1, 0, none⟩) _ fun b hb => hb.2)).agr (Agr.setCell (p := ⟨w.heap.size + 1, 1, none⟩) _ fun b hb => hb.2)).mono fun b _ hb => hb.1
  · exact (HB.out.setCell (p := ⟨w.heap.size + 1, 0, none⟩) (by show w.heap.size ≤ w.heap.size + 1; omega) _).setCell (p := ⟨w.heap.size + 1, 1, none⟩) (by show w.heap.size ≤ w.heap.size + 1; omega) _
set_option maxRecDepth 100000 in
set_option maxHeartbeats 2000000 in
theorem eforest_e (ok : Nat → Prop) (T N S : Int) (A : Option Addr) (n c : Nat) (rs : List Ri) (wA : Option Addr) (wn wc : Nat) (xs : List Int) (w : World) (hl : Sl RiE ok w A n c rs) (hx : Ints w wA wn wc xs) (q : Int) (hq : chkB T N S rs xs = q) (hbad : q ≠ 0) :
    Calls Tryz.prog 7 #[.agg #[.int .i64 T, .int .i64 N, .int .i64 S, .slice A n c], .slice wA wn wc] w fun e w' => e = .returned (.tuple #[.agg #[.slice none 0 0, .int .i64 0], .int .i64 q]) ∧ Below w.heap.size w w' := by
  have hal := ((Below.refl w.heap.size w).al (.cells #[.int .i64 T, .int .i64 N, .int .i64 S, .slice A n c] 24)).al (.cells #[.slice none 0 0, .int .i64 0] 34)
  have B0 := (Blk.new w 24 #[.int .i64 T, .int .i64 N, .int .i64 S, .slice A n c]).al (.cells #[.slice none 0 0, .int .i64 0] 34)
  have HBR := Lib.hid (Blk.newAt (w.alloc (.cells #[.int .i64 T, .int .i64 N, .int .i64 S, .slice A n c] 24)) 34 #[.slice none 0 0, .int .i64 0] (w.heap.size + 1) (by simp))
  have HC := Lib.hid (of_e ok T N S A n c rs wA wn wc xs _ (hl.via hal) (hx.keep hal (Nat.le_refl _)) q hq hbad)
  have HAL := Lib.hid hal
  have HSZ := Lib.hid (show w.heap.size ≤ ((w.alloc (.cells #[.int .i64 T, .int .i64 N, .int .i64 S, .slice A n c] 24)).alloc (.cells #[.slice none 0 0, .int .i64 0] 34)).heap.size from hal.size)
  have HSW := Lib.hid (show ((w.alloc (.cells #[.int .i64 T, .int .i64 N, .int .i64 S, .slice A n c] 24)).alloc (.cells #[.slice none 0 0, .int .i64 0] 34)).heap.size = w.heap.size + 2 by simp)
  clear hl hx hq hal
  go_enter Tryz.func7, Tryz.ntmps7
  have cB0 := B0.cell
  have fB0 := B0.frozen
  have lB0 := B0.lt
  go_wp2_with fail
  clear cB0 fB0 lB0
  clear B0
  generalize (w.alloc (.cells #[.int .i64 T, .int .i64 N, .int .i64 S, .slice A n c] 24)).alloc (.cells #[.slice none 0 0, .int .i64 0] 34) = W at *
  refine HC.out.mono ?_
  clear HC
  rintro e w1 ⟨rfl, hb⟩
  have HB := Lib.hid (HAL.out.via hb)
  have BE := HBR.out.via hb
  clear hb HAL HBR
  have cBE := BE.cell
  have fBE := BE.frozen
  have lBE := BE.lt
  go_wp2_with fail
  clear cBE fBE lBE
  have B3 := (BE.set_ 0 (.slice none 0 0)).set_ 1 (.int .i64 0)
  simp only [List.setIfInBounds_toArray, List.set_cons_zero, List.set_cons_succ] at B3
  have cc2 := B3.cell
  refine bodyPost_ret (v := .tuple #[.agg #[.slice none 0 0, .int .i64 0], .int .i64 q]) (by simp [results, Tryz.results7, go_sem, cc2]) rfl ⟨rfl, ?_⟩
  exact (HB.out.setCell (p := ⟨w.heap.size + 1, 0, none⟩) (by show w.heap.size ≤ w.heap.size + 1; omega) _).setCell (p := ⟨w.heap.size + 1, 1, none⟩) (by show w.heap.size ≤ w.heap.size + 1; omega) _
end Go.Proofs.YtbfcnfgkccgbiaaGreatDoor




namespace Go.Proofs.YtbfcnfgkccgbiaaGreatDoor
open Go.RowKit

def dblG : Gr := ⟨1, 1, 0, [(0, [(false, 0), (false, 0)]), (0, [(true, 0)])]⟩
theorem Sl.ofBlkK {α ρ : Type} {E : Elem α ρ} {ok : Nat → Prop} {w : World} {b n : Nat} {t : TypeId} {cs : Array Value} {l : List α} (h : Blk w b t cs) (raw : List ρ) (hcs : cs.toList = flat E raw) (hl : l.length = n) (hr : raw.length = n) (hok : ok b)
    (hrel : ∀ (i : Nat) (r : ρ) (x : α), raw[i]? = some r → l[i]? = some x → E.rel ok w r x) : Sl E ok w (some ⟨b, 0, none⟩) n n l :=
  ⟨hl, Nat.le_refl _, raw, hr, fun _ => ⟨b, 0, rfl, hok, fun j u hu => by rw [Nat.zero_add, h.cell]; rw [← hcs] at hu; simpa using hu⟩, hrel⟩
theorem Ints.litB {w : World} {b n : Nat} {t : TypeId} {cs : Array Value} {xs : List Int} (h : Blk w b t cs) (hcs : cs.toList = xs.map (Value.int .i64)) (hn : xs.length = n) : Ints w (some ⟨b, 0, none⟩) n n xs := by
  refine ⟨hn, Nat.le_refl _, fun _ => ⟨b, 0, rfl, fun i hi => ?_⟩⟩
  rw [Nat.zero_add, h.cell, ← Array.getElem?_toList, hcs, List.getElem?_map, List.getD_eq_getElem?_getD, List.getElem?_eq_getElem (by omega)]
  rfl
theorem dblG_ok : GrOk dblG := by
  refine ⟨⟨by simp [dblG], by simp [dblG], by simp [dblG], by simp [dblG], ?_, ?_⟩, by simp [dblG]⟩
  · intro r hr; simp [dblG] at hr; rcases hr with rfl | rfl <;> simp [dblG]
  · intro r hr; simp [dblG] at hr
    rcases hr with rfl | rfl
    · refine ⟨by simp, fun s hs => ?_⟩; simp at hs; subst hs; simp [Gr.okSy, dblG]
    · refine ⟨by simp, fun s hs => ?_⟩; simp at hs; subst hs; simp [Gr.okSy, dblG]
def DblP (w : World) (e : Ending) (w' : World) : Prop := ∃ A, e = .returned (grVal dblG A 2 2) ∧ Sl RuE (fun _ => True) w' A 2 2 dblG.rules ∧ Below w.heap.size w w'
set_option maxRecDepth 100000 in
set_option maxHeartbeats 1000000 in
theorem doubling_c (w : World) : Calls Tryz.prog 35 #[] w (DblP w) := by
  go_enter Tryz.func35, Tryz.ntmps35
  go_wp2_with fail
  obtain ⟨w1, hw1⟩ : ∃ w1, w1 = w.alloc (.cells #[.int .i64 1, .int .i64 1, .int .i64 0, .slice (some ⟨w.heap.size + 1 + 1 + 1, 0, none⟩) 2 2] 24) := ⟨_, rfl⟩
  have hz : w1.heap.size = w.heap.size + 1 := by rw [hw1]; simp
  have hb1 : Below w.heap.size w w1 := by rw [hw1]; exact (Below.refl _ _).al _
  rw [← hw1]
  have b2 := ((Blk.new w1 66 #[.bool false, .int .i64 0, .bool false, .int .i64 0]).al (.cells #[.bool true, .int .i64 0] 66)).al (.cells #[.int .i64 0, .slice (some ⟨w.heap.size + 1, 0, none⟩) 2 2, .int .i64 0, .slice (some ⟨w.heap.size + 1 + 1, 0, none⟩) 1 1] 97)
  have b3 := (Blk.new (w1.alloc (.cells #[.bool false, .int .i64 0, .bool false, .int .i64 0] 66)) 66 #[.bool true, .int .i64 0]).al (.cells #[.int .i64 0, .slice (some ⟨w.heap.size + 1, 0, none⟩) 2 2, .int .i64 0, .slice (some ⟨w.heap.size + 1 + 1, 0, none⟩) 1 1] 97)
  have b4 := Blk.new ((w1.alloc (.cells #[.bool false, .int .i64 0, .bool false, .int .i64 0] 66)).alloc (.cells #[.bool true, .int .i64 0] 66)) 97 #[.int .i64 0, .slice (some ⟨w.heap.size + 1, 0, none⟩) 2 2, .int .i64 0, .slice (some ⟨w.heap.size + 1 + 1, 0, none⟩) 1 1]
  simp only [World.size_alloc, hz] at b2 b3 b4
  refine bodyPost_ret (v := .agg #[.int .i64 1, .int .i64 1, .int .i64 0, .slice (some ⟨w.heap.size + 1 + 1 + 1, 0, none⟩) 2 2]) ?_ rfl ⟨some ⟨w.heap.size + 1 + 1 + 1, 0, none⟩, rfl, ?_, ((hb1.al _).al _).al _⟩
  · rw [hw1]; simp [results, Tryz.results35, go_sem]
  · generalize ((w1.alloc (.cells #[.bool false, .int .i64 0, .bool false, .int .i64 0] 66)).alloc (.cells #[.bool true, .int .i64 0] 66)).alloc (.cells #[.int .i64 0, .slice (some ⟨w.heap.size + 1, 0, none⟩) 2 2, .int .i64 0, .slice (some ⟨w.heap.size + 1 + 1, 0, none⟩) 1 1] 97) = w4 at *
    refine Sl.ofBlkK b4 [(0, some ⟨w.heap.size + 1, 0, none⟩, 2, 2), (0, some ⟨w.heap.size + 1 + 1, 0, none⟩, 1, 1)] rfl rfl rfl trivial fun i r x hr hx => ?_
    match i, hr, hx with
    | 0, hr, hx =>
      simp [dblG] at hr hx; subst hr; subst hx
      exact ⟨rfl, Sl.ofBlkK b2 [(false, 0), (false, 0)] rfl rfl rfl trivial fun i r x hr hx => Option.some.inj (hr.symm.trans hx)⟩
    | 1, hr, hx =>
      simp [dblG] at hr hx; subst hr; subst hx
      exact ⟨rfl, Sl.ofBlkK b3 [(true, 0)] rfl rfl rfl trivial fun i r x hr hx => Option.some.inj (hr.symm.trans hx)⟩
    | i + 2, hr, hx => simp at hr
/-! ### the word 0 0 -/
def dblS (k : Ky) : Bool := if k.1.1 then decide (k.1.2 = 0 ∧ k.2.2 = k.2.1 + 1 ∧ k.2.1 < 2) else decide (k.1.2 = 0 ∧ k.2.1 < k.2.2 ∧ k.2.2 ≤ 2)
theorem dv_s0 : Dv dblG.rules [(false, 0)] [0] := by
  have := Dv.non (rules := dblG.rules) 0 (rhs := [(true, 0)]) (l := []) (by simp [dblG]) (Dv.term 0 .nil) .nil
  simpa using this
theorem dv_s1 : Dv dblG.rules [(false, 0)] [0, 0] := by
  have h2 : Dv dblG.rules [(false, 0), (false, 0)] [0, 0] := dv_s0.append dv_s0
  have := Dv.non (rules := dblG.rules) 0 (rhs := [(false, 0), (false, 0)]) (l := []) (by simp [dblG]) h2 .nil
  simpa using this
theorem dbl_spo : SpOk dblG.rules [0, 0] dblS := by
  refine ⟨fun k h => ?_, fun i t h => ?_⟩
  · obtain ⟨⟨b, a⟩, i, j⟩ := k
    cases b with
    | true =>
      simp only [dblS, if_true, decide_eq_true_eq] at h
      obtain ⟨rfl, rfl, hi⟩ := h
      have h2 : i = 0 ∨ i = 1 := by omega
      rcases h2 with rfl | rfl
      · exact ⟨by simp, by simp, (Dv.term 0 .nil : Dv dblG.rules [(true, 0)] [((0 : Nat) : Int)])⟩
      · exact ⟨by simp, by simp, (Dv.term 0 .nil : Dv dblG.rules [(true, 0)] [((0 : Nat) : Int)])⟩
    | false =>
      simp only [dblS, Bool.false_eq_true, if_false, decide_eq_true_eq] at h
      obtain ⟨rfl, hi, hj⟩ := h
      have h2 : (i = 0 ∧ j = 1) ∨ (i = 1 ∧ j = 2) ∨ (i = 0 ∧ j = 2) := by omega
      rcases h2 with ⟨rfl, rfl⟩ | ⟨rfl, rfl⟩ | ⟨rfl, rfl⟩
      · exact ⟨by simp, by simp, dv_s0⟩
      · exact ⟨by simp, by simp, dv_s0⟩
      · exact ⟨by simp, by simp, dv_s1⟩
  · have hi : i < 2 := by
      have := (List.getElem?_eq_some_iff.1 h).1
      simpa using this
    have h2 : i = 0 ∨ i = 1 := by omega
    rcases h2 with rfl | rfl
    · have : t = 0 := by simp at h; omega
      subst this; rfl
    · have : t = 0 := by simp at h; omega
      subst this; rfl
theorem dbl_fix : FixS dblG.rules 2 dblS := by
  have h : ∀ u ∈ dblG.rules, ∀ i ∈ List.range 3, ∀ j ∈ List.range 3, i ≤ j → someF dblS u.2 i j = true → dblS ((false, u.1), i, j) = true := by decide
  exact fun u hu i j hij hj hs => h u hu i (List.mem_range.2 (by omega)) j (List.mem_range.2 (by omega)) hij hs
theorem dvD_dbl : dvD dblG.rules [0, 0] = dblS := by
  funext k
  exact Bool.eq_iff_iff.2 (dvD_iff.trans (dbl_spo.iff dbl_fix k).symm)
def dblL : List Ky := [((true, 0), 0, 1), ((false, 0), 0, 1), ((false, 0), 0, 2), ((true, 0), 1, 2), ((false, 0), 1, 2)]
theorem dbl_nds : IsNds dblS dblG.rules ((false, 0), 0, 2) dblL := by
  have hall : (dblL.all fun k => (packsF dblS dblG.rules k).all fun p => p.2.all fun q => decide (q ∈ dblL)) = true := by decide
  have hcl : ∀ k ∈ dblL, ∀ p ∈ packsF dblS dblG.rules k, ∀ q ∈ p.2, q ∈ dblL := fun k hk p hp q hq => by
    have h1 := List.all_eq_true.1 hall k hk
    have h2 := List.all_eq_true.1 h1 p hp
    exact of_decide_eq_true (List.all_eq_true.1 h2 q hq)
  have r0 : RchK dblS dblG.rules ((false, 0), 0, 2) ((false, 0), 0, 2) := .root
  have r1 : RchK dblS dblG.rules ((false, 0), 0, 2) ((false, 0), 0, 1) := .kid (p := (0, [((false, 0), 0, 1), ((false, 0), 1, 2)])) r0 (by decide) (by decide)
  have r2 : RchK dblS dblG.rules ((false, 0), 0, 2) ((false, 0), 1, 2) := .kid (p := (0, [((false, 0), 0, 1), ((false, 0), 1, 2)])) r0 (by decide) (by decide)
  have r3 : RchK dblS dblG.rules ((false, 0), 0, 2) ((true, 0), 0, 1) := .kid (p := (1, [((true, 0), 0, 1)])) r1 (by decide) (by decide)
  have r4 : RchK dblS dblG.rules ((false, 0), 0, 2) ((true, 0), 1, 2) := .kid (p := (1, [((true, 0), 1, 2)])) r2 (by decide) (by decide)
  refine ⟨by decide, fun k => ⟨fun h => ?_, fun h => ?_⟩⟩
  · simp only [dblL, List.mem_cons, List.not_mem_nil, or_false] at h
    rcases h with rfl | rfl | rfl | rfl | rfl
    · exact r3
    · exact r1
    · exact r0
    · exact r4
    · exact r2
  · induction h with
    | root => decide
    | kid _ hp hq ih => exact hcl _ ih _ hp _ hq
/-- what the forest of 0 0 is -/
theorem dbl_fo {f : FoI} {b : Bool} (h : IsFo (dvD dblG.rules [0, 0]) dblG.rules ((false, 0), 0, 2) 20000 f b) : f = foI dblS dblG.rules dblL ((false, 0), 0, 2) ∧ b = true := by
  rw [dvD_dbl] at h
  exact h.uniq (.fits (by decide) dbl_nds (by decide))
theorem dbl_len : (foI dblS dblG.rules dblL ((false, 0), 0, 2)).2.length = 5 := rfl
theorem dbl_root : (foI dblS dblG.rules dblL ((false, 0), 0, 2)).1 = 2 := by decide
end Go.Proofs.YtbfcnfgkccgbiaaGreatDoor




namespace Go.Proofs.YtbfcnfgkccgbiaaGreatDoor
open Go.RowKit

/-! ### the sets of doubling's word 0 -/
theorem dbl_items {k : Nat} {x : It3} (h : EIt dblG.rules dblG.start [0] k x) : (k = 0 ∧ (x = ⟨0, 0, 0⟩ ∨ x = ⟨1, 0, 0⟩)) ∨ (k = 1 ∧ (x = ⟨1, 1, 0⟩ ∨ x = ⟨0, 1, 0⟩ ∨ x = ⟨0, 0, 1⟩ ∨ x = ⟨1, 0, 1⟩)) := by
  have hr : ∀ (r : Nat) (u : Ru), dblG.rules[r]? = some u → r = 0 ∨ r = 1 := fun r u h => by
    have := (List.getElem?_eq_some_iff.1 h).1
    simp [dblG] at this; omega
  induction h with
  | start r u h hs =>
    rcases hr r u h with rfl | rfl
    · exact Or.inl ⟨rfl, Or.inl rfl⟩
    · exact Or.inl ⟨rfl, Or.inr rfl⟩
  | pred k x r u hx h hn ih =>
    rcases ih with ⟨rfl, -⟩ | ⟨rfl, -⟩
    · rcases hr r u h with rfl | rfl
      · exact Or.inl ⟨rfl, Or.inl rfl⟩
      · exact Or.inl ⟨rfl, Or.inr rfl⟩
    · rcases hr r u h with rfl | rfl
      · exact Or.inr ⟨rfl, Or.inr (Or.inr (Or.inl rfl))⟩
      · exact Or.inr ⟨rfl, Or.inr (Or.inr (Or.inr rfl))⟩
  | comp k x y hx hy hd hn ih1 ih2 =>
    rcases ih1 with ⟨rfl, rfl | rfl⟩ | ⟨rfl, rfl | rfl | rfl | rfl⟩
    · simp [nxtI, dblG] at hd
    · simp [nxtI, dblG] at hd
    · rcases ih2 with ⟨-, rfl | rfl⟩ | ⟨h, -⟩
      · exact Or.inr ⟨rfl, Or.inr (Or.inl rfl)⟩
      · simp [nxtI, dblG, lftI] at hn
      · simp at h
    · simp [nxtI, dblG] at hd
    · simp [nxtI, dblG] at hd
    · simp [nxtI, dblG] at hd
  | scan k x t hx hn hw ih =>
    rcases ih with ⟨rfl, rfl | rfl⟩ | ⟨rfl, -⟩
    · simp [nxtI, dblG] at hn
    · exact Or.inr ⟨rfl, Or.inl rfl⟩
    · simp at hw
theorem dbl_all : ∀ x ∈ [(⟨1, 1, 0⟩ : It3), ⟨0, 1, 0⟩, ⟨0, 0, 1⟩, ⟨1, 0, 1⟩], EIt dblG.rules dblG.start [0] 1 x := by
  have a0 : EIt dblG.rules dblG.start [0] 0 ⟨0, 0, 0⟩ := .start 0 (0, [(false, 0), (false, 0)]) rfl rfl
  have a1 : EIt dblG.rules dblG.start [0] 0 ⟨1, 0, 0⟩ := .start 1 (0, [(true, 0)]) rfl rfl
  have b0 : EIt dblG.rules dblG.start [0] 1 ⟨1, 1, 0⟩ := .scan 0 ⟨1, 0, 0⟩ 0 a1 rfl rfl
  have b1 : EIt dblG.rules dblG.start [0] 1 ⟨0, 1, 0⟩ := .comp 1 ⟨1, 1, 0⟩ ⟨0, 0, 0⟩ b0 a0 rfl rfl
  have b2 : EIt dblG.rules dblG.start [0] 1 ⟨0, 0, 1⟩ := .pred 1 ⟨0, 1, 0⟩ 0 (0, [(false, 0), (false, 0)]) b1 rfl rfl
  have b3 : EIt dblG.rules dblG.start [0] 1 ⟨1, 0, 1⟩ := .pred 1 ⟨0, 1, 0⟩ 1 (0, [(true, 0)]) b1 rfl rfl
  intro x hx
  simp only [List.mem_cons, List.not_mem_nil, or_false] at hx
  rcases hx with rfl | rfl | rfl | rfl
  · exact b0
  · exact b1
  · exact b2
  · exact b3
theorem dbl_four {LL : List (List It3)} {l : List It3} (h : SrtI dblG.rules dblG.start [0] 1 LL) (hl : LL[1]? = some l) : l.length = 4 := by
  have hp : l.Perm [(⟨1, 1, 0⟩ : It3), ⟨0, 1, 0⟩, ⟨0, 0, 1⟩, ⟨1, 0, 1⟩] := (List.perm_ext_iff_of_nodup (h.nd 1 l hl) (by decide)).2 fun x => by
    rw [h.iff 1 l hl x]
    constructor
    · intro hx
      rcases dbl_items hx with ⟨h0, -⟩ | ⟨-, rfl | rfl | rfl | rfl⟩
      · omega
      · simp
      · simp
      · simp
      · simp
    · exact dbl_all x
  exact hp.length_eq
theorem doubling_e (w : World) : Calls Tryz.prog 35 #[] w fun e w' => ∃ A, e = .returned (.agg #[.int .i64 1, .int .i64 1, .int .i64 0, .slice A 2 2]) ∧ Sl RuE (fun _ => True) w' A 2 2 dblG.rules ∧ Below w.heap.size w w' := doubling_c w
set_option maxRecDepth 100000 in
set_option maxHeartbeats 4000000 in
theorem setsfact_c (w : World) (hT : TabW w) : Calls Tryz.prog 9 #[] w fun e w' => e = .returned (.bool true) ∧ Below w.heap.size w w' := by
  have HT := Lib.hid hT
  clear hT
  go_enter Tryz.func9, Tryz.ntmps9
  go_wp2_with fail
  refine (doubling_e w).mono ?_
  rintro e w1 ⟨A1, rfl, hr1, hb1⟩
  have hal := (Below.refl w1.heap.size w1).al (.cells #[.int .i64 0] 3)
  have hw1 : Ints (w1.alloc (.cells #[.int .i64 0] 3)) (some ⟨w1.heap.size, 0, none⟩) 1 1 [0] := Ints.one w1 0 3
  have HC : Calls Tryz.prog 6 #[.agg #[.int .i64 1, .int .i64 1, .int .i64 0, .slice A1 2 2], .slice (some ⟨w1.heap.size, 0, none⟩) 1 1] (w1.alloc (.cells #[.int .i64 0] 3)) _ := sets_c (fun _ => True) dblG A1 2 2 (some ⟨w1.heap.size, 0, none⟩) 1 1 [0] [0] (w1.alloc (.cells #[.int .i64 0] 3)) dblG_ok (hr1.via hal) hw1 (by omega) (by simp [dblG]) ((HT.out.via hb1).via hal) (fun i t => by
    cases i with
    | zero => simp; omega
    | succ i => simp)
  have HB1 := Lib.hid (hb1.via hal)
  clear hr1 hb1 hal hw1
  go_wp2_with fail
  generalize w1.alloc (.cells #[.int .i64 0] 3) = W1 at *
  generalize w1.heap.size = b1 at *
  refine HC.mono ?_
  clear HC
  rintro e w2 ⟨lA, lc, LL, rfl, hLL, hS, hb2⟩
  have HLL := Lib.hid hLL
  have HS := Lib.hid hS
  have HB2 := Lib.hid (HB1.out.via hb2)
  clear hLL hS hb2 HB1
  dsimp only
  go_wp2_with fail
  refine (doubling_e w2).mono ?_
  rintro e w3 ⟨A3, rfl, hr3, hb3⟩
  have hal := (Below.refl w3.heap.size w3).al (.cells #[.int .i64 0, .int .i64 0] 3)
  have hw3 : Ints (w3.alloc (.cells #[.int .i64 0, .int .i64 0] 3)) (some ⟨w3.heap.size, 0, none⟩) 2 2 [0, 0] := Ints.litB (Blk.new w3 3 #[.int .i64 0, .int .i64 0]) rfl rfl
  have HC : Calls Tryz.prog 7 #[.agg #[.int .i64 1, .int .i64 1, .int .i64 0, .slice A3 2 2], .slice (some ⟨w3.heap.size, 0, none⟩) 2 2] (w3.alloc (.cells #[.int .i64 0, .int .i64 0] 3)) _ := eforest_c (fun _ => True) dblG A3 2 2 (some ⟨w3.heap.size, 0, none⟩) 2 2 [0, 0] (w3.alloc (.cells #[.int .i64 0, .int .i64 0] 3)) dblG_ok (hr3.via hal) hw3 (by omega) (by simp [dblG]) (((HT.out.via HB2.out).via hb3).via hal)
  have HB3 := Lib.hid ((HB2.out.via hb3).via hal)
  have HLL3 := Lib.hid ((HLL.out.via hb3).via hal)
  clear hr3 hb3 hal hw3 HLL HB2
  go_wp2_with fail
  generalize w3.alloc (.cells #[.int .i64 0, .int .i64 0] 3) = W3 at *
  generalize w3.heap.size = b3 at *
  refine HC.mono ?_
  clear HC
  rintro e w4 ⟨f, v, b, rfl, hf, ⟨fA, fn, fc, rfl, hS4⟩, hb4⟩
  obtain ⟨rfl, rfl⟩ := dbl_fo hf
  have hl := hS4.len
  rw [dbl_len] at hl
  subst hl
  have hr := dbl_root
  rw [hr]
  have hal := (Below.refl w4.heap.size w4).al (.cells #[.slice fA 5 fc, .int .i64 2] 34)
  have HB4 := Lib.hid ((HB3.out.via hb4).via hal)
  have BF := Blk.new w4 34 #[.slice fA 5 fc, .int .i64 2]
  have HLL4 := Lib.hid ((HLL3.out.via hb4).via hal)
  obtain ⟨b5, o5, ⟨xA, xn, xc⟩, x, hA, -, hb5, hx, hx1, hc5⟩ := HLL4.out.at_ (show 1 < 2 by omega)
  subst hA
  have hx2 : Sl It3E _ _ xA xn xc x := hx1
  obtain rfl : xn = 4 := by rw [← hx2.len]; exact dbl_four HS.out hx
  have c0 := hc5 0 _ rfl
  simp only [RwI, Nat.add_zero, Nat.mul_one] at c0
  clear hf hS4 hr hb4 hal HB3 HLL3 HLL4 hx hx1 hx2 hc5 hb5
  simp only [if_true]
  go_upto_region 3 with fail
  generalize w4.alloc (.cells #[.slice fA 5 fc, .int .i64 2] 34) = W4 at *
  generalize w4.heap.size = bf at *
  have cBF := BF.cell
  have fBF := BF.frozen
  have lBF := BF.lt
  go_wp2_with fail
  go_ret
  exact ⟨rfl, HB4.out⟩
end Go.Proofs.YtbfcnfgkccgbiaaGreatDoor







namespace Go.Proofs.YtbfcnfgkccgbiaaGreatDoor
open Go.RowKit Go.Shelf
def laysMul_ren : Go.Shelf.Ren := ⟨fun | 212 => 155 | 263 => 172 | 264 => 173 | n => n, fun | 46 => 132 | 51 => 58 | 146 => 230 | 53 => 160 | 148 => 232 | n => n, fun | n => n⟩
theorem laysMul : Go.Proofs.Lays.n212 Tryz.prog laysMul_ren := {
  mixed := by kernel_rfl
  f212 := Tryz.func155.trans (congrArg some (by kernel_rfl))
  f263 := Tryz.func172.trans (congrArg some (by kernel_rfl))
  f264 := Tryz.func173.trans (congrArg some (by kernel_rfl))
  t46 := Tryz.underlying132
  a46 := Tryz.isAgg132
  z46 := Tryz.sizeOf132
  v46 := Tryz.zeroValue132
  t51 := Tryz.underlying58
  a51 := Tryz.isAgg58
  z51 := Tryz.sizeOf58
  v51 := Tryz.zeroValue58
  t53 := Tryz.underlying160
  a53 := Tryz.isAgg160
  z53 := Tryz.sizeOf160
  v53 := Tryz.zeroValue160
  t146 := Tryz.underlying230
  a146 := Tryz.isAgg230
  z146 := Tryz.sizeOf230
  v146 := Tryz.zeroValue230
  t148 := Tryz.underlying232
  a148 := Tryz.isAgg232
  z148 := Tryz.sizeOf232
  v148 := Tryz.zeroValue232 }
theorem made_one (z : Value) (n : Nat) : madeCells #[z] n = Array.replicate n z := by
  apply Array.ext_getElem?
  intro i
  unfold madeCells
  rw [Array.getElem?_map, Array.getElem?_range]
  by_cases h : i < n
  · rw [if_pos h]; simp [h, Nat.mod_one]
  · rw [if_neg h]; simp [h]
end Go.Proofs.YtbfcnfgkccgbiaaGreatDoor

