/- Texts NL, laid together. -/
import Derived.Test.YtbhenicldddlfaaEK
import Derived.Test.YtbhenicldddlfaaE6



namespace Go.Proofs.Ytbhenicldddlfaa
open Go.RowKit

def YesP (w : World) (e : Ending) (w' : World) : Prop := e = .returned (.bool true) ∧ Below w.heap.size w w'
def lzVal (v : LzV) : Value := .agg #[.int .i64 (v.1 : Int), .int .i64 (v.2.1 : Int), .slice v.2.2.1.1 v.2.2.1.2.1 v.2.2.1.2.2, .string v.2.2.2]

set_option maxRecDepth 100000 in
set_option maxHeartbeats 2000000 in
theorem eqD_c (fid : Nat) (he : ∀ (args : Array Value) (w : World), (callFunc fid args).run Try.prog w = .ok (.enter fid args) w) (ok : Nat → Prop) (A B : Option Addr) (n c d : Nat) (ks : List Dc) (w : World) (h1 : Sl DcE ok w A n c ks) (h2 : Sl DcE ok w B n d ks) (hn : n ≤ 1000000)
    (hf : ∀ v1 v2 x w', x ∈ ks → DcE.rel ok w' v1 x → DcE.rel ok w' v2 x → Calls Try.prog fid #[dcVal v1, dcVal v2] w' (YesP w')) :
    Calls Try.prog 32 #[.slice A n c, .slice B n d, .func (.func fid) #[] #[]] w (YesP w) := by
  have H1 := Lib.hid h1
  have H2 := Lib.hid h2
  have HF := Lib.hid hf
  clear h1 h2 hf
  have k0 : ((n : Int) != (n : Int)) = false := by simp
  go_enter Try.func32, Try.ntmps32
  go_wp2_with fail
  clear k0
  go_loopw [17] (fun i wr => ∃ k : Nat, i = .int .i64 k ∧ k ≤ n ∧ Hid (Below w.heap.size w wr)) (fun i _ => n - (intOf i).toNat)
  case atStart => exact ⟨0, rfl, Nat.zero_le _, Lib.hid (Below.refl _ _)⟩
  case round =>
    obtain ⟨k, rfl, hk, HB⟩ := hrel
    by_cases hlt : k < n
    · obtain ⟨b1, o1, X1, x, rfl, -, hb1, hx, hx1, hc1⟩ := (H1.out.via HB.out).at_ hlt
      obtain ⟨b2, o2, Y1, y, rfl, -, hb2, hy, hy1, hc2⟩ := (H2.out.via HB.out).at_ hlt
      obtain rfl : x = y := by rw [hx] at hy; exact Option.some.inj hy
      have i0 : (0 : Int) ≤ (k : Int) := by omega
      have i1 : (k : Int) < (n : Int) := by omega
      have hxm := List.mem_of_getElem? hx
      obtain ⟨xk, xs, xi, xA, xn, xc⟩ := X1
      obtain ⟨yk, ys, yi, yA, yn, yc⟩ := Y1
      have c0 := hc1 0 _ rfl
      have c1 := hc1 1 _ rfl
      have c2 := hc1 2 _ rfl
      have c3 := hc1 3 _ rfl
      have d0 := hc2 0 _ rfl
      have d1 := hc2 1 _ rfl
      have d2 := hc2 2 _ rfl
      have d3 := hc2 3 _ rfl
      simp only [DcE, Nat.add_zero] at c0 c1 c2 c3 d0 d1 d2 d3
      have hA := (Below.refl wr.heap.size wr).al (.cells #[.int .i64 (xk : Int), .string xs, .int .i64 (xi : Int), .slice xA xn xc] 30)
      have hA2 := (hA.al (.cells #[.int .i64 (yk : Int), .string ys, .int .i64 (yi : Int), .slice yA yn yc] 30)).mono (Nat.le_refl _)
      have HX := Lib.hid (DcE.agr hx1 (Agr.below hA2))
      have HY := Lib.hid (DcE.agr hy1 (Agr.below hA2))
      have HB2 := Lib.hid (HB.out.trans (hA2.mono HB.out.size))
      have HM := Lib.hid hxm
      have B1 := (Blk.new wr 30 #[.int .i64 (xk : Int), .string xs, .int .i64 (xi : Int), .slice xA xn xc]).al (.cells #[.int .i64 (yk : Int), .string ys, .int .i64 (yi : Int), .slice yA yn yc] 30)
      have B2 := Blk.new1 wr (.cells #[.int .i64 (xk : Int), .string xs, .int .i64 (xi : Int), .slice xA xn xc] 30) 30 #[.int .i64 (yk : Int), .string ys, .int .i64 (yi : Int), .slice yA yn yc]
      clear hx hy hx1 hy1 hc1 hc2 hb1 hA hA2 HB hxm
      have hsz : (wr.alloc (.cells #[.int .i64 (xk : Int), .string xs, .int .i64 (xi : Int), .slice xA xn xc] 30)).heap.size = wr.heap.size + 1 := by simp
      go_upto_region 7 with fail
      clear c0 c1 c2 c3 d0 d1 d2 d3 hb2
      generalize (wr.alloc (.cells #[.int .i64 (xk : Int), .string xs, .int .i64 (xi : Int), .slice xA xn xc] 30)).alloc (.cells #[.int .i64 (yk : Int), .string ys, .int .i64 (yi : Int), .slice yA yn yc] 30) = wx at *
      clear hsz
      have cB1 := B1.cell
      have fB1 := B1.frozen
      have lB1 := B1.lt
      have cB2 := B2.cell
      have fB2 := B2.frozen
      have lB2 := B2.lt
      go_wp2_with fail
      clear cB1 fB1 lB1 cB2 fB2 lB2
      refine (HF.out _ _ x wx HM.out HX.out HY.out).mono ?_
      rintro e w3 ⟨rfl, hb3⟩
      have HB3 := Lib.hid (HB2.out.trans (hb3.mono HB2.out.size))
      clear hb3 HB2
      go_wp2_with fail
      exact ⟨⟨k + 1, by go_num, by omega, HB3⟩, by simp [intOf]; omega⟩
    · go_wp2_with fail
      go_ret
      exact ⟨rfl, HB.out⟩

set_option maxRecDepth 100000 in
set_option maxHeartbeats 2000000 in
theorem eqZ_c (fid : Nat) (he : ∀ (args : Array Value) (w : World), (callFunc fid args).run Try.prog w = .ok (.enter fid args) w) (ok : Nat → Prop) (A B : Option Addr) (n c d : Nat) (ks : List Lz) (w : World) (h1 : Sl LzE ok w A n c ks) (h2 : Sl LzE ok w B n d ks) (hn : n ≤ 1000000)
    (hf : ∀ v1 v2 x w', x ∈ ks → LzE.rel ok w' v1 x → LzE.rel ok w' v2 x → Calls Try.prog fid #[lzVal v1, lzVal v2] w' (YesP w')) :
    Calls Try.prog 12 #[.slice A n c, .slice B n d, .func (.func fid) #[] #[]] w (YesP w) := by
  have H1 := Lib.hid h1
  have H2 := Lib.hid h2
  have HF := Lib.hid hf
  clear h1 h2 hf
  have k0 : ((n : Int) != (n : Int)) = false := by simp
  go_enter Try.func12, Try.ntmps12
  go_wp2_with fail
  clear k0
  go_loopw [17] (fun i wr => ∃ k : Nat, i = .int .i64 k ∧ k ≤ n ∧ Hid (Below w.heap.size w wr)) (fun i _ => n - (intOf i).toNat)
  case atStart => exact ⟨0, rfl, Nat.zero_le _, Lib.hid (Below.refl _ _)⟩
  case round =>
    obtain ⟨k, rfl, hk, HB⟩ := hrel
    by_cases hlt : k < n
    · obtain ⟨b1, o1, X1, x, rfl, -, hb1, hx, hx1, hc1⟩ := (H1.out.via HB.out).at_ hlt
      obtain ⟨b2, o2, Y1, y, rfl, -, hb2, hy, hy1, hc2⟩ := (H2.out.via HB.out).at_ hlt
      obtain rfl : x = y := by rw [hx] at hy; exact Option.some.inj hy
      have i0 : (0 : Int) ≤ (k : Int) := by omega
      have i1 : (k : Int) < (n : Int) := by omega
      have hxm := List.mem_of_getElem? hx
      obtain ⟨xe, xl, ⟨xA, xn, xc⟩, xt⟩ := X1
      obtain ⟨ye, yl, ⟨yA, yn, yc⟩, yt⟩ := Y1
      have c0 := hc1 0 _ rfl
      have c1 := hc1 1 _ rfl
      have c2 := hc1 2 _ rfl
      have c3 := hc1 3 _ rfl
      have d0 := hc2 0 _ rfl
      have d1 := hc2 1 _ rfl
      have d2 := hc2 2 _ rfl
      have d3 := hc2 3 _ rfl
      simp only [LzE, Nat.add_zero] at c0 c1 c2 c3 d0 d1 d2 d3
      have hA := (Below.refl wr.heap.size wr).al (.cells #[.int .i64 (xe : Int), .int .i64 (xl : Int), .slice xA xn xc, .string xt] 24)
      have hA2 := (hA.al (.cells #[.int .i64 (ye : Int), .int .i64 (yl : Int), .slice yA yn yc, .string yt] 24)).mono (Nat.le_refl _)
      have HX := Lib.hid (LzE.agr hx1 (Agr.below hA2))
      have HY := Lib.hid (LzE.agr hy1 (Agr.below hA2))
      have HB2 := Lib.hid (HB.out.trans (hA2.mono HB.out.size))
      have HM := Lib.hid hxm
      have B1 := (Blk.new wr 24 #[.int .i64 (xe : Int), .int .i64 (xl : Int), .slice xA xn xc, .string xt]).al (.cells #[.int .i64 (ye : Int), .int .i64 (yl : Int), .slice yA yn yc, .string yt] 24)
      have B2 := Blk.new1 wr (.cells #[.int .i64 (xe : Int), .int .i64 (xl : Int), .slice xA xn xc, .string xt] 24) 24 #[.int .i64 (ye : Int), .int .i64 (yl : Int), .slice yA yn yc, .string yt]
      clear hx hy hx1 hy1 hc1 hc2 hb1 hA hA2 HB hxm
      have hsz : (wr.alloc (.cells #[.int .i64 (xe : Int), .int .i64 (xl : Int), .slice xA xn xc, .string xt] 24)).heap.size = wr.heap.size + 1 := by simp
      go_upto_region 7 with fail
      clear c0 c1 c2 c3 d0 d1 d2 d3 hb2
      generalize (wr.alloc (.cells #[.int .i64 (xe : Int), .int .i64 (xl : Int), .slice xA xn xc, .string xt] 24)).alloc (.cells #[.int .i64 (ye : Int), .int .i64 (yl : Int), .slice yA yn yc, .string yt] 24) = wx at *
      clear hsz
      have cB1 := B1.cell
      have fB1 := B1.frozen
      have lB1 := B1.lt
      have cB2 := B2.cell
      have fB2 := B2.frozen
      have lB2 := B2.lt
      go_wp2_with fail
      clear cB1 fB1 lB1 cB2 fB2 lB2
      refine (HF.out _ _ x wx HM.out HX.out HY.out).mono ?_
      rintro e w3 ⟨rfl, hb3⟩
      have HB3 := Lib.hid (HB2.out.trans (hb3.mono HB2.out.size))
      clear hb3 HB2
      go_wp2_with fail
      exact ⟨⟨k + 1, by go_num, by omega, HB3⟩, by simp [intOf]; omega⟩
    · go_wp2_with fail
      go_ret
      exact ⟨rfl, HB.out⟩

set_option maxRecDepth 100000 in
set_option maxHeartbeats 2000000 in
theorem lay_eq (ok : Nat → Prop) (v1 v2 : LzV) (x : Lz) (w : World) (h1 : LzE.rel ok w v1 x) (h2 : LzE.rel ok w v2 x) (hn : x.ch.length ≤ 1000000) :
    Calls Try.prog 13 #[lzVal v1, lzVal v2] w (YesP w) := by
  obtain ⟨xe, xl, ⟨xA, xn, xc⟩, xt⟩ := v1
  obtain ⟨ye, yl, ⟨yA, yn, yc⟩, yt⟩ := v2
  obtain ⟨a1, a2, a3, a4⟩ := h1
  obtain ⟨b1, b2, b3, b4⟩ := h2
  simp only at a1 a2 a3 a4 b1 b2 b3 b4
  have he : xt = yt := a3.trans b3.symm
  subst he
  have hl : xn ≤ 1000000 := by have := a4.len; omega
  have hB := ((Below.refl w.heap.size w).al (.cells #[.int .i64 (xe : Int), .int .i64 (xl : Int), .slice xA xn xc, .string xt] 24)).al (.cells #[.int .i64 (ye : Int), .int .i64 (yl : Int), .slice yA yn yc, .string xt] 24)
  have B1 := (Blk.new w 24 #[.int .i64 (xe : Int), .int .i64 (xl : Int), .slice xA xn xc, .string xt]).al (.cells #[.int .i64 (ye : Int), .int .i64 (yl : Int), .slice yA yn yc, .string xt] 24)
  have B2 := Blk.new1 w (.cells #[.int .i64 (xe : Int), .int .i64 (xl : Int), .slice xA xn xc, .string xt] 24) 24 #[.int .i64 (ye : Int), .int .i64 (yl : Int), .slice yA yn yc, .string xt]
  have H1 := Lib.hid ((Sl.ints a4).via hB)
  have H2 := Lib.hid ((Sl.ints b4).via hB)
  have HB := Lib.hid hB
  clear a1 a2 a3 a4 b1 b2 b3 b4 hB
  dsimp only [lzVal]
  go_enter Try.func13, Try.ntmps13
  go_upto_region 1 with fail
  generalize (w.alloc (.cells #[.int .i64 (xe : Int), .int .i64 (xl : Int), .slice xA xn xc, .string xt] 24)).alloc (.cells #[.int .i64 (ye : Int), .int .i64 (yl : Int), .slice yA yn yc, .string xt] 24) = W at *
  have hd : decide (xt = xt) = true := decide_eq_true rfl
  have cB1 := B1.cell
  have fB1 := B1.frozen
  have lB1 := B1.lt
  have cB2 := B2.cell
  have fB2 := B2.frozen
  have lB2 := B2.lt
  go_wp2_with fail
  refine (equal_yes xA yA xn xc yn yc x.ch x.ch W H1.out H2.out (by omega) rfl).mono ?_
  rintro e w1 ⟨rfl, hb1⟩
  have HB1 := Lib.hid (HB.out.trans (hb1.mono HB.out.size))
  clear hb1
  clear cB1 fB1 lB1 cB2 fB2 lB2
  go_wp2_with fail
  go_ret
  exact ⟨rfl, HB1.out⟩
theorem eqLay_c (ok : Nat → Prop) (A B : Option Addr) (n c d : Nat) (ks : List Lz) (w : World) (h1 : Sl LzE ok w A n c ks) (h2 : Sl LzE ok w B n d ks) (hn : n ≤ 1000000) (hl : ∀ x ∈ ks, x.ch.length ≤ 1000000) :
    Calls Try.prog 12 #[.slice A n c, .slice B n d, .func (.func 13) #[] #[]] w (YesP w) :=
  eqZ_c 13 (enters_c (c := _) (fn := Try.f13) rfl (by kernel_rfl) rfl) ok A B n c d ks w h1 h2 hn fun v1 v2 x w' hx g1 g2 => lay_eq ok v1 v2 x w' g1 g2 (hl x hx)

set_option maxRecDepth 100000 in
set_option maxHeartbeats 2000000 in
theorem same_n (ok : Nat → Prop) (N : Nat) : ∀ (v1 v2 : DcV) (t : Dc) (w : World), DcR ok w v1 t → DcR ok w v2 t → t.size ≤ N → N ≤ 1000000 → Calls Try.prog 15 #[dcVal v1, dcVal v2] w (YesP w) := by
  induction N with
  | zero => intro v1 v2 t w _ _ h; have := t.size_pos; omega
  | succ N ih =>
    intro v1 v2 t w h1 h2 hN hM
    obtain ⟨k, s, i, A, n, c⟩ := v1
    obtain ⟨k2, s2, i2, B, m, d⟩ := v2
    obtain ⟨a1, a2, a3, a4⟩ := h1.parts
    obtain ⟨b1, b2, b3, b4⟩ := h2.parts
    simp only at a1 a2 a3 a4 b1 b2 b3 b4
    obtain rfl : k2 = k := b1.trans a1.symm
    obtain rfl : s2 = s := b2.trans a2.symm
    obtain rfl : i2 = i := b3.trans a3.symm
    obtain rfl : m = n := b4.len.symm.trans a4.len
    have hsz : m ≤ 1000000 := by have := a4.len; have := t.args_len; omega
    have hB := ((Below.refl w.heap.size w).al (.cells #[.int .i64 (k2 : Int), .string s2, .int .i64 (i2 : Int), .slice A m c] 30)).al (.cells #[.int .i64 (k2 : Int), .string s2, .int .i64 (i2 : Int), .slice B m d] 30)
    have B1 := (Blk.new w 30 #[.int .i64 (k2 : Int), .string s2, .int .i64 (i2 : Int), .slice A m c]).al (.cells #[.int .i64 (k2 : Int), .string s2, .int .i64 (i2 : Int), .slice B m d] 30)
    have B2 := Blk.new1 w (.cells #[.int .i64 (k2 : Int), .string s2, .int .i64 (i2 : Int), .slice A m c] 30) 30 #[.int .i64 (k2 : Int), .string s2, .int .i64 (i2 : Int), .slice B m d]
    have H1 := Lib.hid (a4.via hB)
    have H2 := Lib.hid (b4.via hB)
    have HB := Lib.hid hB
    have HK := Lib.hid (show ∀ x ∈ t.args, x.size ≤ N from fun x hx => by have := Dc.size_arg hx; omega)
    clear a1 a2 a3 a4 b1 b2 b3 b4 hB h1 h2
    dsimp only [dcVal]
    go_enter Try.func15, Try.ntmps15
    go_upto_region 1 with fail
    generalize (w.alloc (.cells #[.int .i64 (k2 : Int), .string s2, .int .i64 (i2 : Int), .slice A m c] 30)).alloc (.cells #[.int .i64 (k2 : Int), .string s2, .int .i64 (i2 : Int), .slice B m d] 30) = W at *
    have HI := Lib.hid ih
    clear ih
    have cB1 := B1.cell
    have fB1 := B1.frozen
    have lB1 := B1.lt
    have cB2 := B2.cell
    have fB2 := B2.frozen
    have lB2 := B2.lt
    go_wp2_with fail
    refine (eqD_c 15 (enters_c (c := _) (fn := Try.f15) rfl (by kernel_rfl) rfl) ok A B m c d t.args W H1.out H2.out hsz fun v1 v2 x w' hx g1 g2 => HI.out v1 v2 x w' g1 g2 (HK.out x hx) (by omega)).mono ?_
    rintro e w1 ⟨rfl, hb1⟩
    have HB1 := Lib.hid (HB.out.trans (hb1.mono HB.out.size))
    clear hb1
    clear cB1 fB1 lB1 cB2 fB2 lB2
    go_wp2_with fail
    go_ret
    exact ⟨rfl, HB1.out⟩
end Go.Proofs.Ytbhenicldddlfaa

