/- Texts IT, OP, OJ, laid together. -/
import Derived.Test.YtfmnmgnhanogmaaDoorQ4
import Derived.Test.YtfmnmgnhanogmaaDoorQ21
import Derived.Test.YtfmnmgnhanogmaaDoorQ20
import Derived.Test.YtfmnmgnhanogmaaDoorQ11
import Derived.Test.YtfmnmgnhanogmaaDoorQ1


namespace Go.Proofs.YtfmnmgnhanogmaaDoor
open Go.RowKit

theorem enters_q {P : Program} {f : FuncId} {fn : Func} {c : Code} (hf : P.funcs[f]? = some fn) (hname : (fn.name == "runtime.NumGoroutine") = false) (hb : fn.body = some c) : ∀ (args : Array Value) (w : World), (callFunc f args).run P w = .ok (.enter f args) w := by
  intro args w
  have h1 : fn.name ≠ "runtime.NumGoroutine" := by simpa using hname
  simp [callFunc, hf, h1, hb, mark]

def YesT (w : World) (e : Ending) (w' : World) : Prop := e = .returned (.bool true) ∧ Below w.heap.size w w'
set_option maxRecDepth 100000 in
set_option maxHeartbeats 2000000 in
theorem eqT_c (fid : Nat) (he : ∀ (args : Array Value) (w : World), (callFunc fid args).run Tryd.prog w = .ok (.enter fid args) w) (ok ok' : Nat → Prop) (A B : Option Addr) (n c d : Nat) (ks : List Tr) (w : World) (h1 : Sl TrE ok w A n c ks) (h2 : Sl TrE ok' w B n d ks) (hn : n ≤ 1000000)
    (hf : ∀ v1 v2 x w', x ∈ ks → TreeR ok w' v1 x → TreeR ok' w' v2 x → Calls Tryd.prog fid #[trVal v1, trVal v2] w' (YesT w')) :
    Calls Tryd.prog 39 #[.slice A n c, .slice B n d, .func (.func fid) #[] #[]] w (YesT w) := by
  have H1 := Lib.hid h1
  have H2 := Lib.hid h2
  have HF := Lib.hid hf
  clear h1 h2 hf
  have k0 : ((n : Int) != (n : Int)) = false := by simp
  go_enter Tryd.func39, Tryd.ntmps39
  go_wp2_with fail
  clear k0
  go_loopw [17] (fun i wr => ∃ k : Nat, i = .int .i64 k ∧ k ≤ n ∧ Hid (Below w.heap.size w wr)) (fun i _ => n - (intOf i).toNat)
  case atStart => exact ⟨0, rfl, Nat.zero_le _, Lib.hid (Below.refl _ _)⟩
  case round =>
    obtain ⟨k, rfl, hk, HB⟩ := hrel
    by_cases hlt : k < n
    · obtain ⟨b1, o1, X1, x, rfl, -, hb1, hx, hx1, hc1⟩ := (H1.out.via HB.out).at_ hlt
      obtain ⟨b2, o2, Y1, y, rfl, -, hb2, hy, hy1, hc2⟩ := (H2.out.via HB.out).at_ hlt
      obtain rfl : x = y := by rw [hx] at hy; exact Option.some.inj hy
      have i0 : (0 : Int) ≤ (k : Int) := by omega
      have i1 : (k : Int) < (n : Int) := by omega
      have hxm := List.mem_of_getElem? hx
      obtain ⟨xk, xi, xA, xn, xc⟩ := X1
      obtain ⟨yk, yi, yA, yn, yc⟩ := Y1
      have c0 := hc1 0 _ rfl
      have c1 := hc1 1 _ rfl
      have c2 := hc1 2 _ rfl
      have d0 := hc2 0 _ rfl
      have d1 := hc2 1 _ rfl
      have d2 := hc2 2 _ rfl
      simp only [TrE, Nat.add_zero] at c0 c1 c2 d0 d1 d2
      have hA := (Below.refl wr.heap.size wr).al (.cells #[.int .i64 xk, .int .i64 xi, .slice xA xn xc] 34)
      have hA2 := (hA.al (.cells #[.int .i64 yk, .int .i64 yi, .slice yA yn yc] 34)).mono (Nat.le_refl _)
      have HX := Lib.hid (TrE.agr hx1 (Agr.below hA2))
      have HY := Lib.hid (TrE.agr hy1 (Agr.below hA2))
      have HB2 := Lib.hid (HB.out.trans (hA2.mono HB.out.size))
      have HM := Lib.hid hxm
      have B1 := (Blk.new wr 34 #[.int .i64 xk, .int .i64 xi, .slice xA xn xc]).al (.cells #[.int .i64 yk, .int .i64 yi, .slice yA yn yc] 34)
      have B2 := Blk.newAt (wr.alloc (.cells #[.int .i64 xk, .int .i64 xi, .slice xA xn xc] 34)) 34 #[.int .i64 yk, .int .i64 yi, .slice yA yn yc] (wr.heap.size + 1) (by simp)
      clear hx hy hx1 hy1 hc1 hc2 hb1 hA hA2 HB hxm
      have hsz : (wr.alloc (.cells #[.int .i64 xk, .int .i64 xi, .slice xA xn xc] 34)).heap.size = wr.heap.size + 1 := by simp
      go_upto_region 7 with fail
      clear c0 c1 c2 d0 d1 d2 hb2
      generalize (wr.alloc (.cells #[.int .i64 xk, .int .i64 xi, .slice xA xn xc] 34)).alloc (.cells #[.int .i64 yk, .int .i64 yi, .slice yA yn yc] 34) = wx at *
      clear hsz
      have cB1 := B1.cell
      have fB1 := B1.frozen
      have lB1 := B1.lt
      have cB2 := B2.cell
      have fB2 := B2.frozen
      have lB2 := B2.lt
      go_wp2_with fail
      clear cB1 fB1 lB1 cB2 fB2 lB2
      refine (HF.out _ _ x wx HM.out HX.out HY.out).mono ?_
      rintro e w3 ⟨rfl, hb3⟩
      have HB3 := Lib.hid (HB2.out.trans (hb3.mono HB2.out.size))
      clear hb3 HB2
      go_wp2_with fail
      exact ⟨⟨k + 1, by go_num, by omega, HB3⟩, by simp [intOf]; omega⟩
    · go_wp2_with fail
      go_ret
      exact ⟨rfl, HB.out⟩
theorem enters_same : ∀ (args : Array Value) (w : World), (callFunc 16 args).run Tryd.prog w = .ok (.enter 16 args) w :=
  enters_q (c := _) (fn := Tryd.f16) rfl (by kernel_rfl) rfl
/-- no node has too many kids -/
inductive Tr.Nrw : Tr → Prop
  | leaf (t : Nat) : Tr.Nrw (.leaf t)
  | node (r : Nat) (ks : List Tr) (hl : ks.length ≤ 1000000) (hk : ∀ x ∈ ks, Tr.Nrw x) : Tr.Nrw (.node r ks)
theorem Tr.Nrw.kids {t : Tr} (h : t.Nrw) : t.kids.length ≤ 1000000 ∧ ∀ x ∈ t.kids, Tr.Nrw x := by
  cases h with
  | leaf t => exact ⟨by simp [Tr.kids], fun x hx => by simp [Tr.kids] at hx⟩
  | node r ks hl hk => exact ⟨hl, hk⟩
set_option maxRecDepth 100000 in
set_option maxHeartbeats 2000000 in
/-- equal trees -/
theorem same3_n (N : Nat) : ∀ (ok ok' : Nat → Prop) (v1 v2 : TrV) (t : Tr) (w : World), TreeR ok w v1 t → TreeR ok' w v2 t → t.Nrw → t.size ≤ N →
    Calls Tryd.prog 16 #[trVal v1, trVal v2] w (YesT w) := by
  induction N with
  | zero => intro ok ok' v1 v2 t w _ _ _ h; have := t.size_pos; omega
  | succ N ih =>
    intro ok ok' v1 v2 t w h1 h2 hnr ht
    obtain ⟨a, b, A, n, c⟩ := v1
    obtain ⟨a2, b2, B, m, d⟩ := v2
    obtain ⟨e1, e2, e3⟩ := h1.parts
    obtain ⟨f1, f2, f3⟩ := h2.parts
    simp only at e1 e2 e3 f1 f2 f3
    subst e1 e2 f1 f2
    obtain rfl : n = m := by rw [← e3.len, f3.len]
    have hlen := hnr.kids.1
    rw [e3.len] at hlen
    have hbe := ((Below.refl w.heap.size w).al (.cells #[.int .i64 t.rl, .int .i64 t.tm, .slice A n c] 34)).al (.cells #[.int .i64 t.rl, .int .i64 t.tm, .slice B n d] 34)
    have H1 := Lib.hid (e3.agr (Agr.below hbe))
    have H2 := Lib.hid (f3.agr (Agr.below hbe))
    have HB := Lib.hid hbe
    have HK := Lib.hid hnr.kids.2
    have HN := Lib.hid ht
    have k1 : (t.rl == t.rl) = true := by simp
    have k2 : (t.tm == t.tm) = true := by simp
    clear h1 h2 e3 f3 hbe hnr ht
    simp only [trVal]
    go_enter Tryd.func16, Tryd.ntmps16
    go_wp2_with fail
    refine (eqT_c 16 enters_same ok ok' A B n c d t.kids _ H1.out H2.out hlen (fun v1 v2 x w' hx h1 h2 => ih ok ok' v1 v2 x w' h1 h2 (HK.out x hx) (by have := Tr.size_kid hx; have := HN.out; omega))).mono ?_
    rintro e w2 ⟨rfl, hb3⟩
    have HB3 := Lib.hid (HB.out.via hb3)
    clear hb3
    go_wp2_with fail
    go_ret
    exact ⟨rfl, HB3.out⟩
theorem same3_c {ok ok' : Nat → Prop} {v1 v2 : TrV} {t : Tr} {w : World} (h1 : TreeR ok w v1 t) (h2 : TreeR ok' w v2 t) (hn : t.Nrw) : Calls Tryd.prog 16 #[trVal v1, trVal v2] w (YesT w) := same3_n _ ok ok' v1 v2 t w h1 h2 hn (Nat.le_refl _)
end Go.Proofs.YtfmnmgnhanogmaaDoor




namespace Go.Proofs.YtfmnmgnhanogmaaDoor
open Go.RowKit

def IdxQ (w : World) (xs : List Int) (v : Int) (e : Ending) (w' : World) : Prop := ∃ r : Int, e = .returned (.int .i64 r) ∧ (0 ≤ r ↔ v ∈ xs) ∧ w' = w
set_option maxRecDepth 100000 in
set_option maxHeartbeats 1000000 in
theorem indexQ_c (A : Option Addr) (n c : Nat) (xs : List Int) (v : Int) (w : World) (h : Ints w A n c xs) (hn : n ≤ 1000000) :
    Calls Tryd.prog 65 #[.slice A n c, .int .i64 v] w (IdxQ w xs v) := by
  have H := Lib.hid h
  clear h
  go_enter Tryd.func65, Tryd.ntmps65
  go_wp2_with fail
  go_loopw [8] (fun i wr => ∃ k : Nat, i = .int .i64 k ∧ k ≤ n ∧ Hid (∀ j, j < k → xs.getD j 0 ≠ v) ∧ wr = w) (fun i _ => n - (intOf i).toNat)
  case atStart => exact ⟨0, rfl, Nat.zero_le _, Lib.hid (fun j h => by omega), rfl⟩
  case round =>
    obtain ⟨k, rfl, hk, HN, rfl⟩ := hrel
    by_cases hkn : k < n
    · obtain ⟨b1, o1, rfl, hb1, hx⟩ := H.out.at_ hkn
      have i0 : (0 : Int) ≤ (k : Int) := by omega
      have i1 : (k : Int) < (n : Int) := by omega
      obtain ⟨x, hxx⟩ : ∃ x, x = xs.getD k 0 := ⟨_, rfl⟩
      rw [← hxx] at hx
      have HX := Lib.hid hxx
      clear hxx
      by_cases e : v = x
      · have he : (v == x) = true := by simpa using e
        have HE := Lib.hid e
        clear e
        go_wp2_with fail
        go_ret
        refine ⟨k, rfl, ⟨fun _ => ?_, fun _ => by omega⟩, rfl⟩
        have hl := H.out.len
        rw [HE.out, HX.out, List.getD_eq_getElem?_getD, List.getElem?_eq_getElem (by omega)]
        exact List.getElem_mem _
      · have he : (v == x) = false := by simpa using e
        have HE := Lib.hid e
        clear e
        go_wp2_with fail
        refine ⟨⟨k + 1, by go_num, by omega, Lib.hid fun j hj => ?_, by trivial⟩, by simp [intOf]; omega⟩
        by_cases e2 : j = k
        · rw [e2, ← HX.out]; exact fun h => HE.out h.symm
        · exact HN.out j (by omega)
    · go_wp2_with fail
      go_ret
      refine ⟨-1, rfl, ⟨fun h => by omega, fun h => ?_⟩, rfl⟩
      exfalso
      obtain ⟨j, hj, e⟩ := List.getElem_of_mem h
      have hl := H.out.len
      refine HN.out j (by omega) ?_
      rw [List.getD_eq_getElem?_getD, List.getElem?_eq_getElem hj, e]; rfl
set_option maxRecDepth 100000 in
set_option maxHeartbeats 1000000 in
theorem containsQ_c (A : Option Addr) (n c : Nat) (xs : List Int) (v : Int) (w : World) (h : Ints w A n c xs) (hn : n ≤ 1000000) :
    Calls Tryd.prog 38 #[.slice A n c, .int .i64 v] w fun e w' => e = .returned (.bool (decide (v ∈ xs))) ∧ w' = w := by
  have H := Lib.hid h
  clear h
  go_enter Tryd.func38, Tryd.ntmps38
  go_wp2_with fail
  refine (indexQ_c A n c xs v w H.out hn).mono ?_
  rintro e w' ⟨r, rfl, hr, rfl⟩
  have HR := Lib.hid hr
  clear hr
  go_wp2_with fail
  go_ret
  refine ⟨?_, rfl⟩
  rw [show decide (v ∈ xs) = decide (0 ≤ r) from decide_eq_decide.2 HR.out.symm]
  rfl

set_option maxRecDepth 100000 in
set_option maxHeartbeats 4000000 in
theorem rloops_c (ok : Nat → Prop) (g : Gr) (Ag : Option Addr) (ng cg : Nat) (w : World) (hg : GrOk g) (hl : Sl RuE ok w Ag ng cg g.rules) :
    Calls Tryd.prog 15 #[grVal g Ag ng cg] w (fun e w' => e = .returned (.bool (loopB g)) ∧ Below w.heap.size w w') := by
  have hn10 := hg.ok.nons.2
  have B0 := Blk.new w 24 (gCells g Ag ng cg)
  have hB0 := (Below.refl w.heap.size w).al (.cells (gCells g Ag ng cg) 24)
  have HGO := Lib.hid hg
  have HL0 := Lib.hid (hl.via hB0)
  simp only [grVal]
  clear hg hl
  go_enter Tryd.func15, Tryd.ntmps15
  go_upto_region 1 with fail
  have e0 : (Obj.cells #[.int .i64 (g.terms : Int), .int .i64 (g.nons : Int), .int .i64 (g.start : Int), .slice Ag ng cg] 24) = .cells (gCells g Ag ng cg) 24 := rfl
  rw [e0]
  have hW0 : (w.alloc (.cells (gCells g Ag ng cg) 24)).heap.size = w.heap.size + 1 := by simp
  clear e0
  generalize w.alloc (.cells (gCells g Ag ng cg) 24) = W0 at *
  have Bg := B0
  simp only [gCells] at Bg
  have cBg := Bg.cell
  have fBg := Bg.frozen
  have lBg := Bg.lt
  go_wp2_with fail
  clear cBg fBg lBg
  clear Bg
  have HF := leftof_c ok g Ag ng cg W0 HGO.out HL0.out
  simp only [grVal] at HF
  refine HF.mono ?_
  clear HF HL0
  rintro e w1 ⟨A, c, rfl, hs, hb1⟩
  have HS := Lib.hid hs
  have HB1 := Lib.hid (show Below w.heap.size w w1 from hB0.trans (hb1.mono (by omega)))
  clear hs hb1 B0 hB0 hW0
  go_wp2_with fail
  go_loopw [8] (fun a wr => ∃ k : Nat, a = .int .i64 k ∧ k ≤ g.nons ∧ Hid (Below w1.heap.size w1 wr) ∧ Hid (∀ i, i < k → wshF (begD g.rules) g.nons i i = false)) (fun a _ => g.nons - (intOf a).toNat)
  case atStart => exact ⟨0, rfl, Nat.zero_le _, Lib.hid (Below.refl _ _), Lib.hid (fun i h => absurd h (Nat.not_lt_zero _))⟩
  case round =>
    obtain ⟨k, rfl, hk, HW, HN⟩ := hrel
    by_cases hkn : k < g.nons
    · have k0 : (0 : Int) ≤ (k : Int) := by omega
      have k1 : (k : Int) < (g.nons : Int) := by omega
      obtain ⟨b1, o1, ⟨rA, rn, rc⟩, x, hA, -, -, hx, hr, hc⟩ := (HS.out.via HW.out).at_ hkn
      subst hA
      have c0 := hc 0 _ rfl
      have hk1 : RwE.k = 1 := rfl
      simp only [hk1, Nat.mul_one, Nat.add_zero] at c0
      have hxl : x = intsN (lefL (begD g.rules) g.nons k) := by
        unfold lefW at hx
        rw [List.getElem?_map, List.getElem?_range hkn] at hx
        exact (Option.some.inj hx).symm
      subst hxl
      have HI := Lib.hid (show Ints wr rA rn rc (intsN (lefL (begD g.rules) g.nons k)) from Sl.intsIn hr)
      have hrn : rn ≤ 1000000 := by
        have h1 := HI.out.len
        have h2 : (lefL (begD g.rules) g.nons k).length ≤ g.nons := by
          unfold lefL
          have := List.length_filter_le (fun i => wshF (begD g.rules) g.nons k i) (List.range g.nons)
          simpa using this
        simp only [intsN, List.length_map] at h1
        omega
      have HIV := Lib.hid (show decide ((k : Int) ∈ intsN (lefL (begD g.rules) g.nons k)) = wshF (begD g.rules) g.nons k k from by
        have h1 : (k : Int) ∈ intsN (lefL (begD g.rules) g.nons k) ↔ wshF (begD g.rules) g.nons k k = true := by
          rw [← lefL_has hkn]
          unfold intsN
          rw [List.mem_map]
          constructor
          · rintro ⟨a, ha, e⟩
            have : a = k := by have e' : ((a : Nat) : Int) = (k : Int) := e; omega
            exact this ▸ ha
          · intro h; exact ⟨k, h, rfl⟩
        cases hv : wshF (begD g.rules) g.nons k k with
        | true => exact decide_eq_true (h1.2 hv)
        | false => exact decide_eq_false fun h => by rw [h1.1 h] at hv; cases hv)
      clear hx hr hc hk1
      go_wp2_with fail
      clear c0
      refine (containsQ_c rA rn rc (intsN (lefL (begD g.rules) g.nons k)) (k : Int) wr HI.out hrn).mono ?_
      rintro e w2 ⟨rfl, rfl⟩
      rw [HIV.out]
      cases hv : wshF (begD g.rules) g.nons k k with
      | true =>
        have HV := Lib.hid hv
        clear hv
        go_wp2_with fail
        go_ret
        refine ⟨?_, HB1.out.trans (HW.out.mono HB1.out.size)⟩
        rw [show loopB g = true from List.any_eq_true.2 ⟨k, List.mem_range.2 hkn, HV.out⟩]; rfl
      | false =>
        have HV := Lib.hid hv
        clear hv
        go_wp2_with fail
        exact ⟨⟨k + 1, by go_num, by omega, HW, Lib.hid (fun i hi => by
          by_cases e : i = k
          · rw [e]; exact HV.out
          · exact HN.out i (by omega))⟩, by simp [intOf]; omega⟩
    · obtain rfl : k = g.nons := by omega
      go_wp2_with fail
      go_ret
      refine ⟨?_, HB1.out.trans (HW.out.mono HB1.out.size)⟩
      rw [show loopB g = false from List.any_eq_false.2 fun i hi => by rw [HN.out i (List.mem_range.1 hi)]; simp]; rfl
theorem OwnI.one (w : World) (x : Int) : OwnI (w.alloc (.cells #[.int .i64 x] 3)) w.heap.size (.slice (some ⟨w.heap.size, 0, none⟩) 1 1) 1 [x] :=
  ⟨by simp, Or.inr ⟨w.heap.size, 1, #[.int .i64 x], rfl, Nat.le_refl _, Blk.new w 3 #[.int .i64 x], Nat.le_refl _, by simp [maxLen], by simp, by simp⟩⟩
/-! ### the rules of a tree in preorder -/
mutual
def Tr.ruP : Tr → List Int
  | .leaf _ => [-1]
  | .node r ks => (r : Int) :: Tr.ruPs ks
def Tr.ruPs : List Tr → List Int
  | [] => []
  | t :: ts => t.ruP ++ Tr.ruPs ts
end
theorem ruP_eq (t : Tr) : t.ruP = t.rl :: Tr.ruPs t.kids := by cases t <;> rfl
theorem ruPs_snoc (a : List Tr) (t : Tr) : Tr.ruPs (a ++ [t]) = Tr.ruPs a ++ t.ruP := by
  induction a with
  | nil => simp [Tr.ruPs]
  | cons x a ih => simp only [List.cons_append, Tr.ruPs, ih, List.append_assoc]
theorem ruP_size (t : Tr) : t.ruP.length = t.size := by
  induction t using Tr.rec (motive_2 := fun ks => (Tr.ruPs ks).length = Tr.sizes ks) with
  | leaf a => rfl
  | node r ks ih => simp only [Tr.ruP, List.length_cons, Tr.size, ih]
  | nil => rfl
  | cons t ts h1 h2 => simp only [Tr.ruPs, List.length_append, Tr.sizes, h1, h2]
def PreP (w : World) (t : Tr) (e : Ending) (w' : World) : Prop := ∃ A c, e = .returned (.slice A t.size c) ∧ Ints w' A t.size c t.ruP ∧ Below w.heap.size w w'
set_option maxRecDepth 100000 in
set_option maxHeartbeats 4000000 in
theorem pre_n (N : Nat) : ∀ (ok : Nat → Prop) (v : TrV) (t : Tr) (w : World), TreeR ok w v t → t.size ≤ N → t.size ≤ 1000000 →
    Calls Tryd.prog 34 #[trVal v] w (PreP w t) := by
  induction N with
  | zero => intro ok v t w _ h; have := t.size_pos; omega
  | succ N ih =>
    intro ok v t w h hN hM
    obtain ⟨a, b, A, n, c⟩ := v
    obtain ⟨h1, h2, h3⟩ := h.parts
    simp only at h1 h2 h3
    subst h1 h2
    simp only [trVal]
    have hal := (Below.refl w.heap.size w).al (.cells #[.int .i64 t.rl, .int .i64 t.tm, .slice A n c] 34)
    have HK := Lib.hid (h3.via hal)
    have HK0 := Lib.hid h3
    have HB := Lib.hid hal
    have B1 := Blk.new w 34 #[.int .i64 t.rl, .int .i64 t.tm, .slice A n c]
    have HB1 := Lib.hid B1
    have hlen := t.kids_len
    rw [h3.len] at hlen
    have IH := Lib.hid ih
    clear h h3 hal ih
    go_enter Tryd.func34, Tryd.ntmps34
    have cB1 := B1.cell
    have fB1 := B1.frozen
    have lB1 := B1.lt
    go_upto_region 2 with fail
    clear cB1 fB1 lB1
    clear B1
    have hsz : w.heap.size < (w.alloc (.cells #[.int .i64 t.rl, .int .i64 t.tm, .slice A n c] 34)).heap.size := by simp
    have hs2 : w.heap.size + 1 < ((w.alloc (.cells #[.int .i64 t.rl, .int .i64 t.tm, .slice A n c] 34)).alloc (.cells #[.int .i64 t.rl] 3)).heap.size := by simp
    have HO := Lib.hid (OwnI.one (w.alloc (.cells #[.int .i64 t.rl, .int .i64 t.tm, .slice A n c] 34)) t.rl)
    have hal2 := (Below.refl (w.alloc (.cells #[.int .i64 t.rl, .int .i64 t.tm, .slice A n c] 34)).heap.size (w.alloc (.cells #[.int .i64 t.rl, .int .i64 t.tm, .slice A n c] 34))).al (.cells #[.int .i64 t.rl] 3)
    have HK2 := Lib.hid (HK.out.via hal2)
    have HB2 := Lib.hid (HB.out.trans (hal2.mono (by simp)))
    have HB12 := Lib.hid (HB1.out.via hal2)
    have hb0 : (w.alloc (.cells #[.int .i64 t.rl, .int .i64 t.tm, .slice A n c] 34)).heap.size = w.heap.size + 1 := by simp
    rw [hb0] at HO
    clear hal2 HK HB HB1 hb0 hsz
    generalize (w.alloc (.cells #[.int .i64 t.rl, .int .i64 t.tm, .slice A n c] 34)).alloc (.cells #[.int .i64 t.rl] 3) = W2 at *
    have B1 := HB12.out
    have cB1 := B1.cell
    have fB1 := B1.frozen
    have lB1 := B1.lt
    go_wp2_with fail
    clear cB1 fB1 lB1
    clear B1
    have hsk : ∀ k, k ≤ n → (Tr.sizes (t.kids.take k)) + 1 ≤ t.size := fun k _ => by
      have h1 := Tr.sizes_append (t.kids.take k) (t.kids.drop k)
      rw [List.take_append_drop] at h1
      cases t with
      | leaf a => simp [Tr.kids, Tr.sizes, Tr.size]
      | node r ks => simp only [Tr.kids, Tr.size] at h1 ⊢; omega
    have HSK := Lib.hid hsk
    clear hsk
    go_loopw [3, 12] (fun s3 q wr => ∃ (v : Value) (k m : Nat), v = s3 ∧ q = .int .i64 k ∧ k ≤ n ∧ m = Tr.sizes (t.kids.take k) + 1 ∧ Hid (OwnI wr (w.heap.size + 1) v m (t.rl :: Tr.ruPs (t.kids.take k))) ∧ Hid (Below w.heap.size w wr) ∧ Hid (w.heap.size + 1 ≤ wr.heap.size)) (fun _ q _ => n - (intOf q).toNat)
    case atStart => exact ⟨_, 0, 1, rfl, rfl, Nat.zero_le _, by simp [Tr.sizes], Lib.hid (by simpa [Tr.ruPs] using HO.out), HB2, Lib.hid (by omega)⟩
    case round =>
      obtain ⟨v, k, m, rfl, rfl, hk, hm, HO1, HB3, HZ3⟩ := hrel
      have HMM := Lib.hid hm
      clear hm
      clear HO HB2
      obtain ⟨vA, vc, rfl, hvi⟩ := HO1.out.form
      have HVI := Lib.hid hvi
      clear hvi
      by_cases hkn : k < n
      · obtain ⟨b2, o2, ⟨xa, xb, xA, xn, xc⟩, y, hA, -, hb, hy, hxy, hc⟩ := (HK0.out.via HB3.out).at_ hkn
        subst hA
        have x0 := hc 0 _ rfl
        have x1 := hc 1 _ rfl
        have x2 := hc 2 _ rfl
        have hk3 : TrE.k = 3 := rfl
        simp only [hk3, Nat.add_zero] at x0 x1 x2
        have k0 : (0 : Int) ≤ (k : Int) := by omega
        have k1 : (k : Int) < (n : Int) := by omega
        have HY := Lib.hid hy
        have hsy : y.size ≤ N ∧ y.size ≤ 1000000 := by have := Tr.size_kid (List.mem_of_getElem? hy); omega
        have hal := (Below.refl wr.heap.size wr).al (.cells #[.int .i64 xa, .int .i64 xb, .slice xA xn xc] 34)
        have BX := Blk.new wr 34 #[.int .i64 xa, .int .i64 xb, .slice xA xn xc]
        have HXT := Lib.hid (show TreeR ok _ (xa, xb, xA, xn, xc) y from TreeR.via hxy hal)
        have HO4 := Lib.hid (HO1.out.alloc (.cells #[.int .i64 xa, .int .i64 xb, .slice xA xn xc] 34))
        have HB4 := Lib.hid (HB3.out.trans (hal.mono HB3.out.size))
        have HZ4 := Lib.hid (show w.heap.size + 1 ≤ (wr.alloc (.cells #[.int .i64 xa, .int .i64 xb, .slice xA xn xc] 34)).heap.size from Nat.le_trans HZ3.out hal.size)
        clear hc hy hxy hb hk3 hal
        go_upto_region 5 with fail
        clear x0 x1 x2
        generalize wr.alloc (.cells #[.int .i64 xa, .int .i64 xb, .slice xA xn xc] 34) = W4 at *
        have cBX := BX.cell
        have fBX := BX.frozen
        have lBX := BX.lt
        go_wp2_with fail
        clear cBX fBX lBX
        clear BX
        have hc := IH.out ok (xa, xb, xA, xn, xc) y W4 HXT.out hsy.1 hsy.2
        simp only [trVal] at hc
        refine hc.mono ?_
        clear hc
        rintro e w5 ⟨pA, pc, rfl, hp5, hb5⟩
        have HO5 := Lib.hid (HO4.out.keep hb5 (Nat.le_refl _))
        have HB5 := Lib.hid (HB4.out.trans (hb5.mono HB4.out.size))
        have HZ5 := Lib.hid (Nat.le_trans HZ4.out hb5.size)
        have HP5 := Lib.hid hp5
        have hmz : m ≤ 1000000 := by rw [HMM.out]; have := HSK.out k (by omega); omega
        clear hp5 hb5 HO4 HB4 HZ4
        go_wp2_with (at_builtin; refine wpList_append_ints _ rfl (.tmp 16) (.tmp 18) rfl (w.heap.size + 1) (.slice vA m vc) m _ rfl HO5.out pA y.size pc y.ruP rfl HP5.out (by omega) HZ5.out ?_)
        intro A' c' w6 ho6 hg6 hat6
        have HB6 := Lib.hid (HB5.out.grown hg6 HB5.out.size (fun j e => by have := (HO5.out.lt' j e).1; omega))
        have HZ6 := Lib.hid (Nat.le_trans HZ5.out hg6.size)
        have HO6 := Lib.hid ho6
        have HTK := Lib.hid (show t.kids.take (k + 1) = t.kids.take k ++ [y] from by rw [List.take_add_one, HY.out]; rfl)
        clear ho6 hg6 hat6
        go_wp2_with fail
        refine ⟨⟨_, k + 1, m + y.size, rfl, by go_num, by omega, ?_, Lib.hid ?_, HB6, HZ6⟩, by simp [intOf]; omega⟩
        · rw [HTK.out, Tr.sizes_append, HMM.out]
          simp only [Tr.sizes]; omega
        · rw [HTK.out, ruPs_snoc]; exact HO6.out
      · obtain rfl : k = n := by omega
        have hkl : t.kids.length ≤ k := by rw [HK2.out.len]; exact Nat.le_refl _
        go_wp2_with fail
        go_ret
        have h1 := HVI.out
        rw [List.take_of_length_le hkl, ← ruP_eq] at h1
        have h2 : m = t.size := by rw [← ruP_size, h1.len]
        subst h2
        exact ⟨vA, vc, rfl, h1, HB3.out⟩
end Go.Proofs.YtfmnmgnhanogmaaDoor





namespace Go.Proofs.YtfmnmgnhanogmaaDoor
open Go.RowKit

/-! ### places as keys -/
def plVal (x : Nat × Nat) : Value := .agg #[.int .i64 (x.1 : Int), .int .i64 (x.2 : Int)]
theorem plVal_inj (x y : Nat × Nat) (h : plVal x = plVal y) : x = y := by
  obtain ⟨a, b⟩ := x
  obtain ⟨c, d⟩ := y
  simp [plVal] at h
  obtain ⟨h1, h2⟩ := h
  simp only [Prod.mk.injEq]
  exact ⟨by omega, by omega⟩
theorem pl_keyed : Maps.Keyed Tryd.prog 101 :=
  Maps.Keyed.of_law (deep_law_laid laidOutK (m := 2) (by omega) (of_decide_eq_true (by kernel_rfl)) (by kernel_rfl) (by rw [Tryd.underlying101]))
theorem pl_key (x : Nat × Nat) (h1 : x.1 ≤ 1000000000) (h2 : x.2 ≤ 1000000000) : ∃ l, keyOf Tryd.prog 101 (plVal x) = some l := by
  have hc : Tryd.prog.cellsOf 101 = 2 := by kernel_rfl
  have hi : Tryd.prog.cellsOf 3 = 1 := by kernel_rfl
  have w1 : (Lit.int .i64 (x.1 : Int)).wf = true := WalkArith.wf_i64 (by omega)
  have w2 : (Lit.int .i64 (x.2 : Int)).wf = true := WalkArith.wf_i64 (by omega)
  have hf : (plVal x).formed Tryd.prog 101 = true := by simp [Value.formed, Tryd.underlying101, hc, plVal]
  have hk : Tryd.prog.keyLits (Tryd.prog.types.size + 1) 101 [.int .i64 (x.1 : Int), .int .i64 (x.2 : Int)] = some [.int .i64 (x.1 : Int), .int .i64 (x.2 : Int)] := by
    have e : Tryd.prog.types.size + 1 = (Tryd.prog.types.size - 1) + 1 + 1 := by have : 1 ≤ Tryd.prog.types.size := of_decide_eq_true (by kernel_rfl); omega
    rw [e]
    generalize Tryd.prog.types.size - 1 = d
    simp [Program.keyLits, Tryd.underlying101, Tryd.underlying3, hc, hi, w1, w2]
  refine ⟨.string (keyBytes [.int .i64 (x.1 : Int), .int .i64 (x.2 : Int)]), ?_⟩
  unfold keyOf
  rw [Tryd.underlying101]
  simp only [hf, Bool.and_true]
  rw [if_pos (by kernel_rfl)]
  show Option.map _ (Tryd.prog.keyLits _ _ [.int .i64 (x.1 : Int), .int .i64 (x.2 : Int)]) = _
  rw [hk]; rfl
/-! ### the parser -/
/-- a result in memory: no tree, or where it lies and where it ends -/
def resV : Option (Nat × Nat) → Value
  | none => .agg #[.pointer none, .int .i64 (-1)]
  | some (b, e) => .agg #[.pointer (some ⟨b, 0, none⟩), .int .i64 (e : Int)]
/-- the memory's result is the one of ordered choice -/
def ResP (G : Nat → Prop) (w : World) (r : Option (Tr × Nat)) (q : Option (Nat × Nat)) : Prop := match r, q with
  | none, none => True
  | some (t, e), some (b, e') => e' = e ∧ AtT G w b 0 t
  | _, _ => False
section
variable {G G' : Nat → Prop} {w w' : World} {r : Option (Tr × Nat)} {q : Option (Nat × Nat)}
theorem ResP.agr (h : ResP G w r q) (k : Agr G w w') : ResP G w' r q := by
  cases r with
  | none => cases q with
    | none => exact trivial
    | some x => exact h.elim
  | some x =>
    obtain ⟨t, e⟩ := x
    cases q with
    | none => exact h.elim
    | some y => exact ⟨h.1, h.2.agr k⟩
theorem ResP.mono (h : ResP G w r q) (k : ∀ b, G b → G' b) : ResP G' w r q := by
  cases r with
  | none => cases q with
    | none => exact trivial
    | some x => exact h.elim
  | some x =>
    obtain ⟨t, e⟩ := x
    cases q with
    | none => exact h.elim
    | some y => exact ⟨h.1, h.2.mono fun b _ hb => k b hb⟩
theorem ResP.via (h : ResP G w r q) (k : Below w.heap.size w w') : ResP G w' r q := h.agr (Agr.below k)
end
def EntP (g : Gr) (W : List Nat) (G : Nat → Prop) (w : World) (x : Nat × Nat) (q : Option (Nat × Nat)) : Prop := ∃ d r, pg g.rules W d (false, x.1) x.2 = some r ∧ ResP G w r q
theorem EntP.agr {g : Gr} {W : List Nat} {G : Nat → Prop} {w w' : World} {x : Nat × Nat} {q : Option (Nat × Nat)} (h : EntP g W G w x q) (k : Agr G w w') : EntP g W G w' x q := by
  obtain ⟨d, r, h1, h2⟩ := h; exact ⟨d, r, h1, h2.agr k⟩
theorem EntP.mono {g : Gr} {W : List Nat} {G G' : Nat → Prop} {w : World} {x : Nat × Nat} {q : Option (Nat × Nat)} (h : EntP g W G w x q) (k : ∀ b, G b → G' b) : EntP g W G' w x q := by
  obtain ⟨d, r, h1, h2⟩ := h; exact ⟨d, r, h1, h2.mono k⟩
structure PaT (wS : World) (bp bm : Nat) (g : Gr) (W : List Nat) (Ag : Option Addr) (ng cg : Nat) (A : Option Addr) (c : Nat) : Prop where
  gok : GrOk g
  wl : W.length ≤ 2000
  p : Blk wS bp 96 #[.int .i64 (g.terms : Int), .int .i64 (g.nons : Int), .int .i64 (g.start : Int), .slice Ag ng cg, .slice A W.length c, .map (some bm)]
  rules : Sl RuE (fun b => b ≠ bm) wS Ag ng cg g.rules
  wd : Ints wS A W.length c (intsN W)
  mp : bm < wS.heap.size ∧ ∃ es ck, wS.heap[bm]? = some (.map es ck)
structure PaS (wS : World) (bm : Nat) (g : Gr) (W : List Nat) (G : Nat → Prop) (M : Nat × Nat → Option (Option (Nat × Nat))) (w : World) : Prop where
  ag : Agr (fun b => b ≠ bm) wS w
  sz : wS.heap.size ≤ w.heap.size
  mp : MapK Tryd.prog 101 plVal w bm (fun x => (M x).map resV)
  good : ∀ b, G b → okC w b ∧ wS.heap.size ≤ b
  ent : ∀ x q, M x = some q → (x.1 < g.nons ∧ x.2 ≤ W.length) ∧ EntP g W G w x q
section
variable {wS w w' : World} {bp bm : Nat} {g : Gr} {W : List Nat} {G G' : Nat → Prop} {M : Nat × Nat → Option (Option (Nat × Nat))} {Ag : Option Addr} {ng cg : Nat} {A : Option Addr} {c : Nat}
theorem PaT.cell (h : PaT wS bp bm g W Ag ng cg A c) (s : PaS wS bm g W G M w) {b i : Nat} {v : Value} (hc : wS.cell? ⟨b, i, none⟩ = some v) : w.cell? ⟨b, i, none⟩ = some v := by
  refine s.ag.cell (fun e => ?_) hc
  subst e
  obtain ⟨-, es, ck, hm⟩ := h.mp
  simp [World.cell?, hm] at hc
theorem PaT.p_ (h : PaT wS bp bm g W Ag ng cg A c) (s : PaS wS bm g W G M w) : Blk w bp 96 #[.int .i64 (g.terms : Int), .int .i64 (g.nons : Int), .int .i64 (g.start : Int), .slice Ag ng cg, .slice A W.length c, .map (some bm)] :=
  (s.ag bp (fun e => by
    subst e
    obtain ⟨-, es, ck, hm⟩ := h.mp
    have := h.p
    unfold Blk at this
    rw [hm] at this; cases this) h.p.lt).trans h.p
theorem PaT.rules_ (h : PaT wS bp bm g W Ag ng cg A c) (s : PaS wS bm g W G M w) : Sl RuE (fun b => b ≠ bm) w Ag ng cg g.rules := h.rules.agr s.ag
theorem PaT.wd_ (h : PaT wS bp bm g W Ag ng cg A c) (s : PaS wS bm g W G M w) : Ints w A W.length c (intsN W) := by
  obtain ⟨h1, h2, h3⟩ := h.wd
  refine ⟨h1, h2, fun hn => ?_⟩
  obtain ⟨b, off, e, hc⟩ := h3 hn
  exact ⟨b, off, e, fun i hi => h.cell s (hc i hi)⟩
theorem PaS.nm (s : PaS wS bm g W G M w) {b : Nat} (hb : G b) : b ≠ bm := fun e => by
  subst e
  obtain ⟨cs, t, h1⟩ := (s.good b hb).1
  obtain ⟨es, ck, h2, -⟩ := s.mp
  rw [h1] at h2; cases h2
/-- blocks of neither kind turn, or new ones come -/
theorem PaS.agr_ (s : PaS wS bm g W G M w) (k : Agr (fun b => b < wS.heap.size ∨ G b) w w') (hs : w.heap.size ≤ w'.heap.size) (hm : bm < wS.heap.size) : PaS wS bm g W G M w' :=
  ⟨fun b hb hl => (k b (Or.inl hl) (Nat.lt_of_lt_of_le hl s.sz)).trans (s.ag b hb hl), Nat.le_trans s.sz hs, s.mp.agr_ (k bm (Or.inl hm) s.mp.lt), fun b hb => by
    obtain ⟨⟨cs, t, h1⟩, h2⟩ := s.good b hb
    exact ⟨⟨cs, t, (k b (Or.inr hb) (Array.getElem?_eq_some_iff.1 h1).1).trans h1⟩, h2⟩, fun q r hq => ⟨(s.ent q r hq).1, (s.ent q r hq).2.agr (k.mono fun b hb => Or.inr hb)⟩⟩
theorem PaS.via (s : PaS wS bm g W G M w) (hb : Below w.heap.size w w') (hm : bm < wS.heap.size) : PaS wS bm g W G M w' := s.agr_ (Agr.below hb) hb.size hm
theorem PaS.far (s : PaS wS bm g W G M w) (hm : bm < wS.heap.size) {p : Addr} (h1 : wS.heap.size ≤ p.block) (h2 : ¬ G p.block) (u : Value) : PaS wS bm g W G M (w.setCell p u) :=
  s.agr_ (Agr.setCell u fun b hb e => by rcases hb with hb | hb; (· omega); (· exact h2 (e ▸ hb))) (by simp) hm
theorem PaS.grown {x : Nat} (s : PaS wS bm g W G M w) (hm : bm < wS.heap.size) (h1 : wS.heap.size ≤ x) (h2 : ¬ G x) (k : w.grownBy w' (some x)) : PaS wS bm g W G M w' :=
  s.agr_ (Agr.grown k fun b hb e => by have := Option.some.inj e; rcases hb with hb | hb; (· omega); (· exact h2 (this ▸ hb))) k.size hm
/-- more blocks are done -/
theorem PaS.more (s : PaS wS bm g W G M w) (h1 : ∀ b, G b → G' b) (h2 : ∀ b, G' b → okC w b ∧ wS.heap.size ≤ b) : PaS wS bm g W G' M w :=
  ⟨s.ag, s.sz, s.mp, h2, fun q r hq => ⟨(s.ent q r hq).1, (s.ent q r hq).2.mono h1⟩⟩
/-- an entry is laid -/
theorem PaS.put {x : Nat × Nat} {q : Option (Nat × Nat)} (s : PaS wS bm g W G M w) (hx : x.1 < g.nons ∧ x.2 ≤ W.length) (he : EntP g W G w x q) (hg : w.grownBy w' (some bm))
    (hm : MapK Tryd.prog 101 plVal w' bm (fun z => if z = x then some (resV q) else (M z).map resV)) : PaS wS bm g W G (fun z => if z = x then some q else M z) w' := by
  have ka : Agr G w w' := Agr.grown hg fun x hx e => s.nm hx (Option.some.inj e)
  refine ⟨fun x hx hl => (hg.block x (Nat.lt_of_lt_of_le hl s.sz) (fun e => hx (Option.some.inj e))).trans (s.ag x hx hl), Nat.le_trans s.sz hg.size, hm.ext fun z => ?_, fun x hx => ?_, fun z q' hz => ?_⟩
  · by_cases e : z = x <;> simp [e]
  · obtain ⟨⟨cs, t, h1⟩, h2⟩ := s.good x hx
    exact ⟨⟨cs, t, (ka x hx (Array.getElem?_eq_some_iff.1 h1).1).trans h1⟩, h2⟩
  · by_cases e : z = x
    · subst e
      simp only [if_true, Option.some.injEq] at hz
      subst hz
      exact ⟨hx, he.agr ka⟩
    · simp only [if_neg e] at hz
      exact ⟨(s.ent z q' hz).1, (s.ent z q' hz).2.agr ka⟩
theorem PaS.room (s : PaS wS bm g W G M w) (hg : g.nons ≤ 10) (hW : W.length ≤ 2000) : ∀ es clock, w.heap[bm]? = some (.map es clock) → es.size < maxLen := fun es clock he =>
  Nat.lt_of_le_of_lt (s.mp.room (fun x => x.1 * 2001 + x.2) 30000 (fun y hy => by
    cases hq : M y with
    | none => rw [hq] at hy; exact absurd rfl hy
    | some q => have := (s.ent y q hq).1; omega) (fun x y hx hy e => by
    cases hq : M x with
    | none => rw [hq] at hx; exact absurd rfl hx
    | some q =>
      cases hq2 : M y with
      | none => rw [hq2] at hy; exact absurd rfl hy
      | some q2 =>
        have h1 := (s.ent x q hq).1
        have h2 := (s.ent y q2 hq2).1
        obtain ⟨a, b⟩ := x
        obtain ⟨c, d⟩ := y
        simp only at h1 h2 e ⊢
        have : a = c := by omega
        subst this
        simp only [Prod.mk.injEq, true_and]; omega) es clock he) (by simp [maxLen])
end
/-- between the rounds of parse's loop over a right side: the tree lies in block bt, with the kids' header v0; the kids are the row v -/
structure InP (wS w3 : World) (bm bt : Nat) (g : Gr) (W : List Nat) (G1 : Nat → Prop) (pr : Nat) (n : Nat) (l : List Tr) (G2 : Nat → Prop) (M2 : Nat × Nat → Option (Option (Nat × Nat))) (v0 v : Value) (wr : World) : Prop where
  s : PaS wS bm g W G2 M2 wr
  up : ∀ x, G1 x → G2 x
  dn : ∀ x, G2 x → G1 x ∨ bt < x
  gr : w3.grownBy wr (some bm)
  t : Blk wr bt 34 #[.int .i64 (pr : Int), .int .i64 0, v0]
  own : Own TrE 34 G2 wr (bt + 1) v n l
  nb : ¬ G2 bt ∧ ∀ b, v.ownBlock = some b → ¬ G2 b
  lo : w3.heap.size ≤ bt ∧ wS.heap.size ≤ bt ∧ bm < wS.heap.size ∧ bt < wr.heap.size
section
variable {wS w3 wr wa : World} {bm bt : Nat} {g : Gr} {W : List Nat} {G1 G2 G3 : Nat → Prop} {pr n : Nat} {l : List Tr} {M2 M3 : Nat × Nat → Option (Option (Nat × Nat))} {v0 v v' : Value}
theorem InP.via (h : InP wS w3 bm bt g W G1 pr n l G2 M2 v0 v wr) (hb : Below wr.heap.size wr wa) : InP wS w3 bm bt g W G1 pr n l G2 M2 v0 v wa :=
  ⟨h.s.via hb h.lo.2.2.1, h.up, h.dn, h.gr.trans (grownOf hb _), h.t.via hb, h.own.via hb, h.nb, h.lo.1, h.lo.2.1, h.lo.2.2.1, Nat.lt_of_lt_of_le h.lo.2.2.2 hb.size⟩
/-- a part's tree has been found -/
theorem InP.call (h : InP wS w3 bm bt g W G1 pr n l G2 M2 v0 v wr) (hs : PaS wS bm g W G3 M3 wa) (hup : ∀ x, G2 x → G3 x) (hdn : ∀ x, G3 x → G2 x ∨ wr.heap.size ≤ x) (hg : wr.grownBy wa (some bm)) : InP wS w3 bm bt g W G1 pr n l G3 M3 v0 v wa := by
  have hlo := h.lo
  have ne : ∀ b, wS.heap.size ≤ b → some b ≠ some bm := fun b hb e => by have := Option.some.inj e; omega
  have hv : ∀ b, v.ownBlock = some b → wS.heap.size ≤ b ∧ b < wr.heap.size := fun b e => by have := h.own.lt b e; omega
  refine ⟨hs, fun x hx => hup x (h.up x hx), fun x hx => ?_, h.gr.trans hg, h.t.grown hg (ne _ (by omega)), ?_, ⟨fun hx => ?_, fun b hb hx => ?_⟩, hlo.1, hlo.2.1, hlo.2.2.1, Nat.lt_of_lt_of_le hlo.2.2.2 hg.size⟩
  · rcases hdn x hx with h1 | h1
    · exact h.dn x h1
    · exact Or.inr (by omega)
  · refine (h.own.agr (Agr.grown hg fun x hx e => ?_)).mono fun x _ hx => hup x hx
    rcases hx with hx | hx
    · exact h.s.nm hx (Option.some.inj e)
    · have := (hv x hx.symm).1; have := Option.some.inj e; omega
  · rcases hdn _ hx with h1 | h1
    · exact h.nb.1 h1
    · omega
  · rcases hdn _ hx with h1 | h1
    · exact h.nb.2 b hb h1
    · have := (hv b hb).2; omega
theorem InP.app {x : Tr} (h : InP wS w3 bm bt g W G1 pr n l G2 M2 v0 v wr) (ho : Own TrE 34 G2 wa (bt + 1) v' (n + 1) (l ++ [x])) (hg : wr.grownBy wa v.ownBlock) (hat : v'.ownBlock = v.ownBlock ∨ v'.ownBlock = some wr.heap.size) : InP wS w3 bm bt g W G1 pr (n + 1) (l ++ [x]) G2 M2 v0 v' wa := by
  have hlo := h.lo
  have hv : ∀ b, v.ownBlock = some b → bt < b ∧ ¬ G2 b := fun b e => ⟨(h.own.lt b e).1, h.nb.2 b e⟩
  have ka : Agr (fun b => b < wS.heap.size ∨ G2 b) wr wa := Agr.grown hg fun b hb e => by
    have := hv b e.symm
    rcases hb with hb | hb
    · omega
    · exact this.2 hb
  refine ⟨h.s.agr_ ka hg.size hlo.2.2.1, h.up, h.dn, grown_far h.gr hg (fun b e => by have := (hv b e).1; omega), h.t.grown hg (fun e => by have := (hv _ e.symm).1; omega), ho, ⟨h.nb.1, fun b hb hx => ?_⟩, hlo.1, hlo.2.1, hlo.2.2.1, Nat.lt_of_lt_of_le hlo.2.2.2 hg.size⟩
  rcases hat with e | e
  · exact h.nb.2 b (e ▸ hb) hx
  · have e1 := e ▸ hb
    have := Option.some.inj e1
    have := (h.s.good b hx).1.lt; omega
theorem InP.putT {gb q c : Nat} {r m : Int} {A : Option Addr} {k d : Nat} {x : Tr} (h : InP wS w3 bm bt g W G1 pr n l G2 M2 v0 (.slice (some ⟨gb, 0, none⟩) n c) wr) (hq : q < n) (hx : TreeR G2 wr (r, m, A, k, d) x) :
    InP wS w3 bm bt g W G1 pr n (l.set q x) G2 M2 v0 (.slice (some ⟨gb, 0, none⟩) n c) (((wr.setCell ⟨gb, q * 3, none⟩ (.int .i64 r)).setCell ⟨gb, q * 3 + 1, none⟩ (.int .i64 m)).setCell ⟨gb, q * 3 + 2, none⟩ (.slice A k d)) := by
  have hlo := h.lo
  have hgb : bt < gb := (h.own.lt gb rfl).1
  have hng : ¬ G2 gb := h.nb.2 gb rfl
  obtain ⟨-, -, ho⟩ := h.own.putTr hq (hx.mono fun b _ hb => ⟨hb, fun e => hng (e ▸ hb)⟩)
  have ka : ∀ (ok : Nat → Prop), (∀ b, ok b → b ≠ gb) → Agr ok wr (((wr.setCell ⟨gb, q * 3, none⟩ (.int .i64 r)).setCell ⟨gb, q * 3 + 1, none⟩ (.int .i64 m)).setCell ⟨gb, q * 3 + 2, none⟩ (.slice A k d)) := fun ok hk =>
    ((Agr.setCell (p := ⟨gb, q * 3, none⟩) _ fun b hb => hk b hb).trans (Agr.setCell (p := ⟨gb, q * 3 + 1, none⟩) _ fun b hb => hk b hb)).trans (Agr.setCell (p := ⟨gb, q * 3 + 2, none⟩) _ fun b hb => hk b hb)
  refine ⟨h.s.agr_ (ka _ fun b hb e => ?_) (by simp) hlo.2.2.1, h.up, h.dn, ?_, ((h.t.far (p := ⟨gb, q * 3, none⟩) (by simp only; omega) _).far (p := ⟨gb, q * 3 + 1, none⟩) (by simp only; omega) _).far (p := ⟨gb, q * 3 + 2, none⟩) (by simp only; omega) _, ho, h.nb, hlo.1, hlo.2.1, hlo.2.2.1, by simpa using hlo.2.2.2⟩
  · rcases hb with hb | hb
    · omega
    · exact hng (e ▸ hb)
  · exact grown_far (grown_far (grown_far h.gr (grownBySet _ gb _ _) (fun b e => by have := Option.some.inj e; omega)) (grownBySet _ gb _ _) (fun b e => by have := Option.some.inj e; omega)) (grownBySet _ gb _ _) (fun b e => by have := Option.some.inj e; omega)
theorem InP.hdr (h : InP wS w3 bm bt g W G1 pr n l G2 M2 v0 v wr) : InP wS w3 bm bt g W G1 pr n l G2 M2 v v (wr.setCell ⟨bt, 2, none⟩ v) := by
  have hlo := h.lo
  have hG : ∀ b, G2 b → b ≠ bt := fun b hb e => h.nb.1 (e ▸ hb)
  refine ⟨h.s.far hlo.2.2.1 (p := ⟨bt, 2, none⟩) (by simp only; omega) h.nb.1 v, h.up, h.dn, grown_far h.gr (grownBySet _ bt _ _) (fun b e => by have := Option.some.inj e; omega), ?_, h.own.setCell (p := ⟨bt, 2, none⟩) v (fun b hb => hG b hb) (by simp only; omega), h.nb, hlo.1, hlo.2.1, hlo.2.2.1, by simpa using hlo.2.2.2⟩
  have := h.t.set_ 2 v
  simpa using this
theorem InP.fin {ks : List Tr} (h : InP wS w3 bm bt g W G1 pr n ks G2 M2 v v wr) : PaS wS bm g W (gAdd G2 bt v) M2 wr ∧ AtT (gAdd G2 bt v) wr bt 0 (.node pr ks) := by
  have hlo := h.lo
  refine ⟨h.s.more (fun b hb => Or.inl hb) fun b hb => ?_, ?_⟩
  · rcases hb with hb | rfl | hb
    · exact h.s.good b hb
    · exact ⟨h.t.okC, by omega⟩
    · refine ⟨?_, by have := (h.own.lt b hb).1; omega⟩
      obtain ⟨-, raw, -, h3, -⟩ := h.own
      rcases h3.2 with ⟨h0, _⟩ | ⟨gb, cap, cur, hv, hb2, hh, _⟩
      · rw [h0] at hb; cases hb
      · rw [hv] at hb
        obtain rfl : gb = b := by simpa [Value.ownBlock] using hb
        exact ⟨_, _, hh⟩
  · obtain ⟨A, c, rfl, hc⟩ := h.own.form
    have hk := h.own
    have hsl : Sl TrE (gAdd G2 bt (.slice A n c)) wr A n c ks := by
      obtain ⟨h1, raw, h2, h3, h4⟩ := hk
      refine ⟨h1, hc, raw, h2, fun hne => ?_, fun i r x hr hx => TrE.mono (h4 i r x hr hx) fun b _ hb => Or.inl hb.1⟩
      rcases h3.2 with ⟨h0, hn⟩ | ⟨gb, cap, cur, hv, hbg, hh, hr⟩
      · have : raw = [] := List.eq_nil_of_length_eq_zero (by omega)
        subst this; exact absurd rfl hne
      · cases hv
        refine ⟨gb, 0, rfl, Or.inr (Or.inr rfl), fun j u hu => ?_⟩
        have := h3.cells (g := gb) rfl j u hu
        rwa [Addr.add_lit] at this
    refine ⟨((pr : Int), 0, A, n, c), TreeR.mk pr hsl, Or.inr (Or.inl rfl), fun j u hu => ?_⟩
    rw [Nat.zero_add, h.t.cell j, List.getElem?_toArray]
    exact hu
end
end Go.Proofs.YtfmnmgnhanogmaaDoor

