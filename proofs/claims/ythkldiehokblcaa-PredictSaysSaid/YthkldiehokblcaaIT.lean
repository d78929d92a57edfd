/- Texts IT, laid together. -/
import Derived.Test.YthkldiehokblcaaC2


namespace Go.Proofs.Ythkldiehokblcaa
open Go.RowKit

theorem enters_q {P : Program} {f : FuncId} {fn : Func} {c : Code} (hf : P.funcs[f]? = some fn) (hname : (fn.name == "runtime.NumGoroutine") = false) (hb : fn.body = some c) : ∀ (args : Array Value) (w : World), (callFunc f args).run P w = .ok (.enter f args) w := by
  intro args w
  have h1 : fn.name ≠ "runtime.NumGoroutine" := by simpa using hname
  simp [callFunc, hf, h1, hb, mark]

def YesT (w : World) (e : Ending) (w' : World) : Prop := e = .returned (.bool true) ∧ Below w.heap.size w w'
set_option maxRecDepth 100000 in
set_option maxHeartbeats 2000000 in
theorem eqT_c (fid : Nat) (he : ∀ (args : Array Value) (w : World), (callFunc fid args).run Try.prog w = .ok (.enter fid args) w) (ok ok' : Nat → Prop) (A B : Option Addr) (n c d : Nat) (ks : List Tr) (w : World) (h1 : Sl TrE ok w A n c ks) (h2 : Sl TrE ok' w B n d ks) (hn : n ≤ 1000000)
    (hf : ∀ v1 v2 x w', x ∈ ks → TreeR ok w' v1 x → TreeR ok' w' v2 x → Calls Try.prog fid #[trVal v1, trVal v2] w' (YesT w')) :
    Calls Try.prog 31 #[.slice A n c, .slice B n d, .func (.func fid) #[] #[]] w (YesT w) := by
  have H1 := Lib.hid h1
  have H2 := Lib.hid h2
  have HF := Lib.hid hf
  clear h1 h2 hf
  have k0 : ((n : Int) != (n : Int)) = false := by simp
  go_enter Try.func31, Try.ntmps31
  go_wp2_with fail
  clear k0
  go_loopw [17] (fun i wr => ∃ k : Nat, i = .int .i64 k ∧ k ≤ n ∧ Hid (Below w.heap.size w wr)) (fun i _ => n - (intOf i).toNat)
  case atStart => exact ⟨0, rfl, Nat.zero_le _, Lib.hid (Below.refl _ _)⟩
  case round =>
    obtain ⟨k, rfl, hk, HB⟩ := hrel
    by_cases hlt : k < n
    · obtain ⟨b1, o1, X1, x, rfl, -, hb1, hx, hx1, hc1⟩ := (H1.out.via HB.out).at_ hlt
      obtain ⟨b2, o2, Y1, y, rfl, -, hb2, hy, hy1, hc2⟩ := (H2.out.via HB.out).at_ hlt
      obtain rfl : x = y := by rw [hx] at hy; exact Option.some.inj hy
      have i0 : (0 : Int) ≤ (k : Int) := by omega
      have i1 : (k : Int) < (n : Int) := by omega
      have hxm := List.mem_of_getElem? hx
      obtain ⟨xk, xi, xA, xn, xc⟩ := X1
      obtain ⟨yk, yi, yA, yn, yc⟩ := Y1
      have c0 := hc1 0 _ rfl
      have c1 := hc1 1 _ rfl
      have c2 := hc1 2 _ rfl
      have d0 := hc2 0 _ rfl
      have d1 := hc2 1 _ rfl
      have d2 := hc2 2 _ rfl
      simp only [TrE, Nat.add_zero] at c0 c1 c2 d0 d1 d2
      have hA := (Below.refl wr.heap.size wr).al (.cells #[.int .i64 xk, .int .i64 xi, .slice xA xn xc] 37)
      have hA2 := (hA.al (.cells #[.int .i64 yk, .int .i64 yi, .slice yA yn yc] 37)).mono (Nat.le_refl _)
      have HX := Lib.hid (TrE.agr hx1 (Agr.below hA2))
      have HY := Lib.hid (TrE.agr hy1 (Agr.below hA2))
      have HB2 := Lib.hid (HB.out.trans (hA2.mono HB.out.size))
      have HM := Lib.hid hxm
      have B1 := (Blk.new wr 37 #[.int .i64 xk, .int .i64 xi, .slice xA xn xc]).al (.cells #[.int .i64 yk, .int .i64 yi, .slice yA yn yc] 37)
      have B2 := Blk.newAt (wr.alloc (.cells #[.int .i64 xk, .int .i64 xi, .slice xA xn xc] 37)) 37 #[.int .i64 yk, .int .i64 yi, .slice yA yn yc] (wr.heap.size + 1) (by simp)
      clear hx hy hx1 hy1 hc1 hc2 hb1 hA hA2 HB hxm
      have hsz : (wr.alloc (.cells #[.int .i64 xk, .int .i64 xi, .slice xA xn xc] 37)).heap.size = wr.heap.size + 1 := by simp
      go_upto_region 7 with fail
      clear c0 c1 c2 d0 d1 d2 hb2
      generalize (wr.alloc (.cells #[.int .i64 xk, .int .i64 xi, .slice xA xn xc] 37)).alloc (.cells #[.int .i64 yk, .int .i64 yi, .slice yA yn yc] 37) = wx at *
      clear hsz
      have cB1 := B1.cell
      have fB1 := B1.frozen
      have lB1 := B1.lt
      have cB2 := B2.cell
      have fB2 := B2.frozen
      have lB2 := B2.lt
      go_wp2_with fail
      clear cB1 fB1 lB1 cB2 fB2 lB2
      refine (HF.out _ _ x wx HM.out HX.out HY.out).mono ?_
      rintro e w3 ⟨rfl, hb3⟩
      have HB3 := Lib.hid (HB2.out.trans (hb3.mono HB2.out.size))
      clear hb3 HB2
      go_wp2_with fail
      exact ⟨⟨k + 1, by go_num, by omega, HB3⟩, by simp [intOf]; omega⟩
    · go_wp2_with fail
      go_ret
      exact ⟨rfl, HB.out⟩
theorem enters_same : ∀ (args : Array Value) (w : World), (callFunc 12 args).run Try.prog w = .ok (.enter 12 args) w :=
  enters_q (c := _) (fn := Try.f12) rfl (by kernel_rfl) rfl
/-- no node has too many kids -/
inductive Tr.Nrw : Tr → Prop
  | leaf (t : Nat) : Tr.Nrw (.leaf t)
  | node (r : Nat) (ks : List Tr) (hl : ks.length ≤ 1000000) (hk : ∀ x ∈ ks, Tr.Nrw x) : Tr.Nrw (.node r ks)
theorem Tr.Nrw.kids {t : Tr} (h : t.Nrw) : t.kids.length ≤ 1000000 ∧ ∀ x ∈ t.kids, Tr.Nrw x := by
  cases h with
  | leaf t => exact ⟨by simp [Tr.kids], fun x hx => by simp [Tr.kids] at hx⟩
  | node r ks hl hk => exact ⟨hl, hk⟩
set_option maxRecDepth 100000 in
set_option maxHeartbeats 2000000 in
/-- equal trees -/
theorem same3_n (N : Nat) : ∀ (ok ok' : Nat → Prop) (v1 v2 : TrV) (t : Tr) (w : World), TreeR ok w v1 t → TreeR ok' w v2 t → t.Nrw → t.size ≤ N →
    Calls Try.prog 12 #[trVal v1, trVal v2] w (YesT w) := by
  induction N with
  | zero => intro ok ok' v1 v2 t w _ _ _ h; have := t.size_pos; omega
  | succ N ih =>
    intro ok ok' v1 v2 t w h1 h2 hnr ht
    obtain ⟨a, b, A, n, c⟩ := v1
    obtain ⟨a2, b2, B, m, d⟩ := v2
    obtain ⟨e1, e2, e3⟩ := h1.parts
    obtain ⟨f1, f2, f3⟩ := h2.parts
    simp only at e1 e2 e3 f1 f2 f3
    subst e1 e2 f1 f2
    obtain rfl : n = m := by rw [← e3.len, f3.len]
    have hlen := hnr.kids.1
    rw [e3.len] at hlen
    have hbe := ((Below.refl w.heap.size w).al (.cells #[.int .i64 t.rl, .int .i64 t.tm, .slice A n c] 37)).al (.cells #[.int .i64 t.rl, .int .i64 t.tm, .slice B n d] 37)
    have H1 := Lib.hid (e3.agr (Agr.below hbe))
    have H2 := Lib.hid (f3.agr (Agr.below hbe))
    have HB := Lib.hid hbe
    have HK := Lib.hid hnr.kids.2
    have HN := Lib.hid ht
    have k1 : (t.rl == t.rl) = true := by simp
    have k2 : (t.tm == t.tm) = true := by simp
    clear h1 h2 e3 f3 hbe hnr ht
    simp only [trVal]
    go_enter Try.func12, Try.ntmps12
    go_wp2_with fail
    refine (eqT_c 12 enters_same ok ok' A B n c d t.kids _ H1.out H2.out hlen (fun v1 v2 x w' hx h1 h2 => ih ok ok' v1 v2 x w' h1 h2 (HK.out x hx) (by have := Tr.size_kid hx; have := HN.out; omega))).mono ?_
    rintro e w2 ⟨rfl, hb3⟩
    have HB3 := Lib.hid (HB.out.via hb3)
    clear hb3
    go_wp2_with fail
    go_ret
    exact ⟨rfl, HB3.out⟩
theorem same3_c {ok ok' : Nat → Prop} {v1 v2 : TrV} {t : Tr} {w : World} (h1 : TreeR ok w v1 t) (h2 : TreeR ok' w v2 t) (hn : t.Nrw) : Calls Try.prog 12 #[trVal v1, trVal v2] w (YesT w) := same3_n _ ok ok' v1 v2 t w h1 h2 hn (Nat.le_refl _)
/-- two empty ones -/
theorem same3_0 (w : World) : Calls Try.prog 12 #[trVal (0, 0, none, 0, 0), trVal (0, 0, none, 0, 0)] w (YesT w) := by
  have h : TreeR (fun _ => True) w (0, 0, none, 0, 0) (.node 0 []) := .node 0 none 0 0 [] [] rfl (Nat.le_refl _) rfl Cel.nil (fun i x t h => by simp at h)
  exact same3_c h h (.node 0 [] (by simp) (fun x hx => by simp at hx))
end Go.Proofs.Ythkldiehokblcaa

