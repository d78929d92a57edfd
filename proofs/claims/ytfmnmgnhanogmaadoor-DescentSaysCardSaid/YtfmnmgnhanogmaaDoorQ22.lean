/- Texts IT, OP, OT, laid together. -/
import Derived.Test.YtfmnmgnhanogmaaDoorQ3
import Derived.Test.YtfmnmgnhanogmaaDoorQ21
import Derived.Test.YtfmnmgnhanogmaaDoorQ7
import Derived.Test.YtfmnmgnhanogmaaDoorQ11


namespace Go.Proofs.YtfmnmgnhanogmaaDoor
open Go.RowKit

theorem enters_q {P : Program} {f : FuncId} {fn : Func} {c : Code} (hf : P.funcs[f]? = some fn) (hname : (fn.name == "runtime.NumGoroutine") = false) (hb : fn.body = some c) : ∀ (args : Array Value) (w : World), (callFunc f args).run P w = .ok (.enter f args) w := by
  intro args w
  have h1 : fn.name ≠ "runtime.NumGoroutine" := by simpa using hname
  simp [callFunc, hf, h1, hb, mark]

def YesT (w : World) (e : Ending) (w' : World) : Prop := e = .returned (.bool true) ∧ Below w.heap.size w w'
set_option maxRecDepth 100000 in
set_option maxHeartbeats 2000000 in
theorem eqT_c (fid : Nat) (he : ∀ (args : Array Value) (w : World), (callFunc fid args).run Tryd.prog w = .ok (.enter fid args) w) (ok ok' : Nat → Prop) (A B : Option Addr) (n c d : Nat) (ks : List Tr) (w : World) (h1 : Sl TrE ok w A n c ks) (h2 : Sl TrE ok' w B n d ks) (hn : n ≤ 1000000)
    (hf : ∀ v1 v2 x w', x ∈ ks → TreeR ok w' v1 x → TreeR ok' w' v2 x → Calls Tryd.prog fid #[trVal v1, trVal v2] w' (YesT w')) :
    Calls Tryd.prog 39 #[.slice A n c, .slice B n d, .func (.func fid) #[] #[]] w (YesT w) := by
  have H1 := Lib.hid h1
  have H2 := Lib.hid h2
  have HF := Lib.hid hf
  clear h1 h2 hf
  have k0 : ((n : Int) != (n : Int)) = false := by simp
  go_enter Tryd.func39, Tryd.ntmps39
  go_wp2_with fail
  clear k0
  go_loopw [17] (fun i wr => ∃ k : Nat, i = .int .i64 k ∧ k ≤ n ∧ Hid (Below w.heap.size w wr)) (fun i _ => n - (intOf i).toNat)
  case atStart => exact ⟨0, rfl, Nat.zero_le _, Lib.hid (Below.refl _ _)⟩
  case round =>
    obtain ⟨k, rfl, hk, HB⟩ := hrel
    by_cases hlt : k < n
    · obtain ⟨b1, o1, X1, x, rfl, -, hb1, hx, hx1, hc1⟩ := (H1.out.via HB.out).at_ hlt
      obtain ⟨b2, o2, Y1, y, rfl, -, hb2, hy, hy1, hc2⟩ := (H2.out.via HB.out).at_ hlt
      obtain rfl : x = y := by rw [hx] at hy; exact Option.some.inj hy
      have i0 : (0 : Int) ≤ (k : Int) := by omega
      have i1 : (k : Int) < (n : Int) := by omega
      have hxm := List.mem_of_getElem? hx
      obtain ⟨xk, xi, xA, xn, xc⟩ := X1
      obtain ⟨yk, yi, yA, yn, yc⟩ := Y1
      have c0 := hc1 0 _ rfl
      have c1 := hc1 1 _ rfl
      have c2 := hc1 2 _ rfl
      have d0 := hc2 0 _ rfl
      have d1 := hc2 1 _ rfl
      have d2 := hc2 2 _ rfl
      simp only [TrE, Nat.add_zero] at c0 c1 c2 d0 d1 d2
      have hA := (Below.refl wr.heap.size wr).al (.cells #[.int .i64 xk, .int .i64 xi, .slice xA xn xc] 34)
      have hA2 := (hA.al (.cells #[.int .i64 yk, .int .i64 yi, .slice yA yn yc] 34)).mono (Nat.le_refl _)
      have HX := Lib.hid (TrE.agr hx1 (Agr.below hA2))
      have HY := Lib.hid (TrE.agr hy1 (Agr.below hA2))
      have HB2 := Lib.hid (HB.out.trans (hA2.mono HB.out.size))
      have HM := Lib.hid hxm
      have B1 := (Blk.new wr 34 #[.int .i64 xk, .int .i64 xi, .slice xA xn xc]).al (.cells #[.int .i64 yk, .int .i64 yi, .slice yA yn yc] 34)
      have B2 := Blk.newAt (wr.alloc (.cells #[.int .i64 xk, .int .i64 xi, .slice xA xn xc] 34)) 34 #[.int .i64 yk, .int .i64 yi, .slice yA yn yc] (wr.heap.size + 1) (by simp)
      clear hx hy hx1 hy1 hc1 hc2 hb1 hA hA2 HB hxm
      have hsz : (wr.alloc (.cells #[.int .i64 xk, .int .i64 xi, .slice xA xn xc] 34)).heap.size = wr.heap.size + 1 := by simp
      go_upto_region 7 with fail
      clear c0 c1 c2 d0 d1 d2 hb2
      generalize (wr.alloc (.cells #[.int .i64 xk, .int .i64 xi, .slice xA xn xc] 34)).alloc (.cells #[.int .i64 yk, .int .i64 yi, .slice yA yn yc] 34) = wx at *
      clear hsz
      have cB1 := B1.cell
      have fB1 := B1.frozen
      have lB1 := B1.lt
      have cB2 := B2.cell
      have fB2 := B2.frozen
      have lB2 := B2.lt
      go_wp2_with fail
      clear cB1 fB1 lB1 cB2 fB2 lB2
      refine (HF.out _ _ x wx HM.out HX.out HY.out).mono ?_
      rintro e w3 ⟨rfl, hb3⟩
      have HB3 := Lib.hid (HB2.out.trans (hb3.mono HB2.out.size))
      clear hb3 HB2
      go_wp2_with fail
      exact ⟨⟨k + 1, by go_num, by omega, HB3⟩, by simp [intOf]; omega⟩
    · go_wp2_with fail
      go_ret
      exact ⟨rfl, HB.out⟩
theorem enters_same : ∀ (args : Array Value) (w : World), (callFunc 16 args).run Tryd.prog w = .ok (.enter 16 args) w :=
  enters_q (c := _) (fn := Tryd.f16) rfl (by kernel_rfl) rfl
/-- no node has too many kids -/
inductive Tr.Nrw : Tr → Prop
  | leaf (t : Nat) : Tr.Nrw (.leaf t)
  | node (r : Nat) (ks : List Tr) (hl : ks.length ≤ 1000000) (hk : ∀ x ∈ ks, Tr.Nrw x) : Tr.Nrw (.node r ks)
theorem Tr.Nrw.kids {t : Tr} (h : t.Nrw) : t.kids.length ≤ 1000000 ∧ ∀ x ∈ t.kids, Tr.Nrw x := by
  cases h with
  | leaf t => exact ⟨by simp [Tr.kids], fun x hx => by simp [Tr.kids] at hx⟩
  | node r ks hl hk => exact ⟨hl, hk⟩
set_option maxRecDepth 100000 in
set_option maxHeartbeats 2000000 in
/-- equal trees -/
theorem same3_n (N : Nat) : ∀ (ok ok' : Nat → Prop) (v1 v2 : TrV) (t : Tr) (w : World), TreeR ok w v1 t → TreeR ok' w v2 t → t.Nrw → t.size ≤ N →
    Calls Tryd.prog 16 #[trVal v1, trVal v2] w (YesT w) := by
  induction N with
  | zero => intro ok ok' v1 v2 t w _ _ _ h; have := t.size_pos; omega
  | succ N ih =>
    intro ok ok' v1 v2 t w h1 h2 hnr ht
    obtain ⟨a, b, A, n, c⟩ := v1
    obtain ⟨a2, b2, B, m, d⟩ := v2
    obtain ⟨e1, e2, e3⟩ := h1.parts
    obtain ⟨f1, f2, f3⟩ := h2.parts
    simp only at e1 e2 e3 f1 f2 f3
    subst e1 e2 f1 f2
    obtain rfl : n = m := by rw [← e3.len, f3.len]
    have hlen := hnr.kids.1
    rw [e3.len] at hlen
    have hbe := ((Below.refl w.heap.size w).al (.cells #[.int .i64 t.rl, .int .i64 t.tm, .slice A n c] 34)).al (.cells #[.int .i64 t.rl, .int .i64 t.tm, .slice B n d] 34)
    have H1 := Lib.hid (e3.agr (Agr.below hbe))
    have H2 := Lib.hid (f3.agr (Agr.below hbe))
    have HB := Lib.hid hbe
    have HK := Lib.hid hnr.kids.2
    have HN := Lib.hid ht
    have k1 : (t.rl == t.rl) = true := by simp
    have k2 : (t.tm == t.tm) = true := by simp
    clear h1 h2 e3 f3 hbe hnr ht
    simp only [trVal]
    go_enter Tryd.func16, Tryd.ntmps16
    go_wp2_with fail
    refine (eqT_c 16 enters_same ok ok' A B n c d t.kids _ H1.out H2.out hlen (fun v1 v2 x w' hx h1 h2 => ih ok ok' v1 v2 x w' h1 h2 (HK.out x hx) (by have := Tr.size_kid hx; have := HN.out; omega))).mono ?_
    rintro e w2 ⟨rfl, hb3⟩
    have HB3 := Lib.hid (HB.out.via hb3)
    clear hb3
    go_wp2_with fail
    go_ret
    exact ⟨rfl, HB3.out⟩
theorem same3_c {ok ok' : Nat → Prop} {v1 v2 : TrV} {t : Tr} {w : World} (h1 : TreeR ok w v1 t) (h2 : TreeR ok' w v2 t) (hn : t.Nrw) : Calls Tryd.prog 16 #[trVal v1, trVal v2] w (YesT w) := same3_n _ ok ok' v1 v2 t w h1 h2 hn (Nat.le_refl _)
end Go.Proofs.YtfmnmgnhanogmaaDoor




namespace Go.Proofs.YtfmnmgnhanogmaaDoor
open Go.RowKit

def IdxQ (w : World) (xs : List Int) (v : Int) (e : Ending) (w' : World) : Prop := ∃ r : Int, e = .returned (.int .i64 r) ∧ (0 ≤ r ↔ v ∈ xs) ∧ w' = w
set_option maxRecDepth 100000 in
set_option maxHeartbeats 1000000 in
theorem indexQ_c (A : Option Addr) (n c : Nat) (xs : List Int) (v : Int) (w : World) (h : Ints w A n c xs) (hn : n ≤ 1000000) :
    Calls Tryd.prog 65 #[.slice A n c, .int .i64 v] w (IdxQ w xs v) := by
  have H := Lib.hid h
  clear h
  go_enter Tryd.func65, Tryd.ntmps65
  go_wp2_with fail
  go_loopw [8] (fun i wr => ∃ k : Nat, i = .int .i64 k ∧ k ≤ n ∧ Hid (∀ j, j < k → xs.getD j 0 ≠ v) ∧ wr = w) (fun i _ => n - (intOf i).toNat)
  case atStart => exact ⟨0, rfl, Nat.zero_le _, Lib.hid (fun j h => by omega), rfl⟩
  case round =>
    obtain ⟨k, rfl, hk, HN, rfl⟩ := hrel
    by_cases hkn : k < n
    · obtain ⟨b1, o1, rfl, hb1, hx⟩ := H.out.at_ hkn
      have i0 : (0 : Int) ≤ (k : Int) := by omega
      have i1 : (k : Int) < (n : Int) := by omega
      obtain ⟨x, hxx⟩ : ∃ x, x = xs.getD k 0 := ⟨_, rfl⟩
      rw [← hxx] at hx
      have HX := Lib.hid hxx
      clear hxx
      by_cases e : v = x
      · have he : (v == x) = true := by simpa using e
        have HE := Lib.hid e
        clear e
        go_wp2_with fail
        go_ret
        refine ⟨k, rfl, ⟨fun _ => ?_, fun _ => by omega⟩, rfl⟩
        have hl := H.out.len
        rw [HE.out, HX.out, List.getD_eq_getElem?_getD, List.getElem?_eq_getElem (by omega)]
        exact List.getElem_mem _
      · have he : (v == x) = false := by simpa using e
        have HE := Lib.hid e
        clear e
        go_wp2_with fail
        refine ⟨⟨k + 1, by go_num, by omega, Lib.hid fun j hj => ?_, by trivial⟩, by simp [intOf]; omega⟩
        by_cases e2 : j = k
        · rw [e2, ← HX.out]; exact fun h => HE.out h.symm
        · exact HN.out j (by omega)
    · go_wp2_with fail
      go_ret
      refine ⟨-1, rfl, ⟨fun h => by omega, fun h => ?_⟩, rfl⟩
      exfalso
      obtain ⟨j, hj, e⟩ := List.getElem_of_mem h
      have hl := H.out.len
      refine HN.out j (by omega) ?_
      rw [List.getD_eq_getElem?_getD, List.getElem?_eq_getElem hj, e]; rfl
set_option maxRecDepth 100000 in
set_option maxHeartbeats 1000000 in
theorem containsQ_c (A : Option Addr) (n c : Nat) (xs : List Int) (v : Int) (w : World) (h : Ints w A n c xs) (hn : n ≤ 1000000) :
    Calls Tryd.prog 38 #[.slice A n c, .int .i64 v] w fun e w' => e = .returned (.bool (decide (v ∈ xs))) ∧ w' = w := by
  have H := Lib.hid h
  clear h
  go_enter Tryd.func38, Tryd.ntmps38
  go_wp2_with fail
  refine (indexQ_c A n c xs v w H.out hn).mono ?_
  rintro e w' ⟨r, rfl, hr, rfl⟩
  have HR := Lib.hid hr
  clear hr
  go_wp2_with fail
  go_ret
  refine ⟨?_, rfl⟩
  rw [show decide (v ∈ xs) = decide (0 ≤ r) from decide_eq_decide.2 HR.out.symm]
  rfl

set_option maxRecDepth 100000 in
set_option maxHeartbeats 4000000 in
theorem rloops_c (ok : Nat → Prop) (g : Gr) (Ag : Option Addr) (ng cg : Nat) (w : World) (hg : GrOk g) (hl : Sl RuE ok w Ag ng cg g.rules) :
    Calls Tryd.prog 15 #[grVal g Ag ng cg] w (fun e w' => e = .returned (.bool (loopB g)) ∧ Below w.heap.size w w') := by
  have hn10 := hg.ok.nons.2
  have B0 := Blk.new w 24 (gCells g Ag ng cg)
  have hB0 := (Below.refl w.heap.size w).al (.cells (gCells g Ag ng cg) 24)
  have HGO := Lib.hid hg
  have HL0 := Lib.hid (hl.via hB0)
  simp only [grVal]
  clear hg hl
  go_enter Tryd.func15, Tryd.ntmps15
  go_upto_region 1 with fail
  have e0 : (Obj.cells #[.int .i64 (g.terms : Int), .int .i64 (g.nons : Int), .int .i64 (g.start : Int), .slice Ag ng cg] 24) = .cells (gCells g Ag ng cg) 24 := rfl
  rw [e0]
  have hW0 : (w.alloc (.cells (gCells g Ag ng cg) 24)).heap.size = w.heap.size + 1 := by simp
  clear e0
  generalize w.alloc (.cells (gCells g Ag ng cg) 24) = W0 at *
  have Bg := B0
  simp only [gCells] at Bg
  have cBg := Bg.cell
  have fBg := Bg.frozen
  have lBg := Bg.lt
  go_wp2_with fail
  clear cBg fBg lBg
  clear Bg
  have HF := leftof_c ok g Ag ng cg W0 HGO.out HL0.out
  simp only [grVal] at HF
  refine HF.mono ?_
  clear HF HL0
  rintro e w1 ⟨A, c, rfl, hs, hb1⟩
  have HS := Lib.hid hs
  have HB1 := Lib.hid (show Below w.heap.size w w1 from hB0.trans (hb1.mono (by omega)))
  clear hs hb1 B0 hB0 hW0
  go_wp2_with fail
  go_loopw [8] (fun a wr => ∃ k : Nat, a = .int .i64 k ∧ k ≤ g.nons ∧ Hid (Below w1.heap.size w1 wr) ∧ Hid (∀ i, i < k → wshF (begD g.rules) g.nons i i = false)) (fun a _ => g.nons - (intOf a).toNat)
  case atStart => exact ⟨0, rfl, Nat.zero_le _, Lib.hid (Below.refl _ _), Lib.hid (fun i h => absurd h (Nat.not_lt_zero _))⟩
  case round =>
    obtain ⟨k, rfl, hk, HW, HN⟩ := hrel
    by_cases hkn : k < g.nons
    · have k0 : (0 : Int) ≤ (k : Int) := by omega
      have k1 : (k : Int) < (g.nons : Int) := by omega
      obtain ⟨b1, o1, ⟨rA, rn, rc⟩, x, hA, -, -, hx, hr, hc⟩ := (HS.out.via HW.out).at_ hkn
      subst hA
      have c0 := hc 0 _ rfl
      have hk1 : RwE.k = 1 := rfl
      simp only [hk1, Nat.mul_one, Nat.add_zero] at c0
      have hxl : x = intsN (lefL (begD g.rules) g.nons k) := by
        unfold lefW at hx
        rw [List.getElem?_map, List.getElem?_range hkn] at hx
        exact (Option.some.inj hx).symm
      subst hxl
      have HI := Lib.hid (show Ints wr rA rn rc (intsN (lefL (begD g.rules) g.nons k)) from Sl.intsIn hr)
      have hrn : rn ≤ 1000000 := by
        have h1 := HI.out.len
        have h2 : (lefL (begD g.rules) g.nons k).length ≤ g.nons := by
          unfold lefL
          have := List.length_filter_le (fun i => wshF (begD g.rules) g.nons k i) (List.range g.nons)
          simpa using this
        simp only [intsN, List.length_map] at h1
        omega
      have HIV := Lib.hid (show decide ((k : Int) ∈ intsN (lefL (begD g.rules) g.nons k)) = wshF (begD g.rules) g.nons k k from by
        have h1 : (k : Int) ∈ intsN (lefL (begD g.rules) g.nons k) ↔ wshF (begD g.rules) g.nons k k = true := by
          rw [← lefL_has hkn]
          unfold intsN
          rw [List.mem_map]
          constructor
          · rintro ⟨a, ha, e⟩
            have : a = k := by have e' : ((a : Nat) : Int) = (k : Int) := e; omega
            exact this ▸ ha
          · intro h; exact ⟨k, h, rfl⟩
        cases hv : wshF (begD g.rules) g.nons k k with
        | true => exact decide_eq_true (h1.2 hv)
        | false => exact decide_eq_false fun h => by rw [h1.1 h] at hv; cases hv)
      clear hx hr hc hk1
      go_wp2_with fail
      clear c0
      refine (containsQ_c rA rn rc (intsN (lefL (begD g.rules) g.nons k)) (k : Int) wr HI.out hrn).mono ?_
      rintro e w2 ⟨rfl, rfl⟩
      rw [HIV.out]
      cases hv : wshF (begD g.rules) g.nons k k with
      | true =>
        have HV := Lib.hid hv
        clear hv
        go_wp2_with fail
        go_ret
        refine ⟨?_, HB1.out.trans (HW.out.mono HB1.out.size)⟩
        rw [show loopB g = true from List.any_eq_true.2 ⟨k, List.mem_range.2 hkn, HV.out⟩]; rfl
      | false =>
        have HV := Lib.hid hv
        clear hv
        go_wp2_with fail
        exact ⟨⟨k + 1, by go_num, by omega, HW, Lib.hid (fun i hi => by
          by_cases e : i = k
          · rw [e]; exact HV.out
          · exact HN.out i (by omega))⟩, by simp [intOf]; omega⟩
    · obtain rfl : k = g.nons := by omega
      go_wp2_with fail
      go_ret
      refine ⟨?_, HB1.out.trans (HW.out.mono HB1.out.size)⟩
      rw [show loopB g = false from List.any_eq_false.2 fun i hi => by rw [HN.out i (List.mem_range.1 hi)]; simp]; rfl
theorem OwnI.one (w : World) (x : Int) : OwnI (w.alloc (.cells #[.int .i64 x] 3)) w.heap.size (.slice (some ⟨w.heap.size, 0, none⟩) 1 1) 1 [x] :=
  ⟨by simp, Or.inr ⟨w.heap.size, 1, #[.int .i64 x], rfl, Nat.le_refl _, Blk.new w 3 #[.int .i64 x], Nat.le_refl _, by simp [maxLen], by simp, by simp⟩⟩
/-! ### the rules of a tree in preorder -/
mutual
def Tr.ruP : Tr → List Int
  | .leaf _ => [-1]
  | .node r ks => (r : Int) :: Tr.ruPs ks
def Tr.ruPs : List Tr → List Int
  | [] => []
  | t :: ts => t.ruP ++ Tr.ruPs ts
end
theorem ruP_eq (t : Tr) : t.ruP = t.rl :: Tr.ruPs t.kids := by cases t <;> rfl
theorem ruPs_snoc (a : List Tr) (t : Tr) : Tr.ruPs (a ++ [t]) = Tr.ruPs a ++ t.ruP := by
  induction a with
  | nil => simp [Tr.ruPs]
  | cons x a ih => simp only [List.cons_append, Tr.ruPs, ih, List.append_assoc]
theorem ruP_size (t : Tr) : t.ruP.length = t.size := by
  induction t using Tr.rec (motive_2 := fun ks => (Tr.ruPs ks).length = Tr.sizes ks) with
  | leaf a => rfl
  | node r ks ih => simp only [Tr.ruP, List.length_cons, Tr.size, ih]
  | nil => rfl
  | cons t ts h1 h2 => simp only [Tr.ruPs, List.length_append, Tr.sizes, h1, h2]
def PreP (w : World) (t : Tr) (e : Ending) (w' : World) : Prop := ∃ A c, e = .returned (.slice A t.size c) ∧ Ints w' A t.size c t.ruP ∧ Below w.heap.size w w'
set_option maxRecDepth 100000 in
set_option maxHeartbeats 4000000 in
theorem pre_n (N : Nat) : ∀ (ok : Nat → Prop) (v : TrV) (t : Tr) (w : World), TreeR ok w v t → t.size ≤ N → t.size ≤ 1000000 →
    Calls Tryd.prog 34 #[trVal v] w (PreP w t) := by
  induction N with
  | zero => intro ok v t w _ h; have := t.size_pos; omega
  | succ N ih =>
    intro ok v t w h hN hM
    obtain ⟨a, b, A, n, c⟩ := v
    obtain ⟨h1, h2, h3⟩ := h.parts
    simp only at h1 h2 h3
    subst h1 h2
    simp only [trVal]
    have hal := (Below.refl w.heap.size w).al (.cells #[.int .i64 t.rl, .int .i64 t.tm, .slice A n c] 34)
    have HK := Lib.hid (h3.via hal)
    have HK0 := Lib.hid h3
    have HB := Lib.hid hal
    have B1 := Blk.new w 34 #[.int .i64 t.rl, .int .i64 t.tm, .slice A n c]
    have HB1 := Lib.hid B1
    have hlen := t.kids_len
    rw [h3.len] at hlen
    have IH := Lib.hid ih
    clear h h3 hal ih
    go_enter Tryd.func34, Tryd.ntmps34
    have cB1 := B1.cell
    have fB1 := B1.frozen
    have lB1 := B1.lt
    go_upto_region 2 with fail
    clear cB1 fB1 lB1
    clear B1
    have hsz : w.heap.size < (w.alloc (.cells #[.int .i64 t.rl, .int .i64 t.tm, .slice A n c] 34)).heap.size := by simp
    have hs2 : w.heap.size + 1 < ((w.alloc (.cells #[.int .i64 t.rl, .int .i64 t.tm, .slice A n c] 34)).alloc (.cells #[.int .i64 t.rl] 3)).heap.size := by simp
    have HO := Lib.hid (OwnI.one (w.alloc (.cells #[.int .i64 t.rl, .int .i64 t.tm, .slice A n c] 34)) t.rl)
    have hal2 := (Below.refl (w.alloc (.cells #[.int .i64 t.rl, .int .i64 t.tm, .slice A n c] 34)).heap.size (w.alloc (.cells #[.int .i64 t.rl, .int .i64 t.tm, .slice A n c] 34))).al (.cells #[.int .i64 t.rl] 3)
    have HK2 := Lib.hid (HK.out.via hal2)
    have HB2 := Lib.hid (HB.out.trans (hal2.mono (by simp)))
    have HB12 := Lib.hid (HB1.out.via hal2)
    have hb0 : (w.alloc (.cells #[.int .i64 t.rl, .int .i64 t.tm, .slice A n c] 34)).heap.size = w.heap.size + 1 := by simp
    rw [hb0] at HO
    clear hal2 HK HB HB1 hb0 hsz
    generalize (w.alloc (.cells #[.int .i64 t.rl, .int .i64 t.tm, .slice A n c] 34)).alloc (.cells #[.int .i64 t.rl] 3) = W2 at *
    have B1 := HB12.out
    have cB1 := B1.cell
    have fB1 := B1.frozen
    have lB1 := B1.lt
    go_wp2_with fail
    clear cB1 fB1 lB1
    clear B1
    have hsk : ∀ k, k ≤ n → (Tr.sizes (t.kids.take k)) + 1 ≤ t.size := fun k _ => by
      have h1 := Tr.sizes_append (t.kids.take k) (t.kids.drop k)
      rw [List.take_append_drop] at h1
      cases t with
      | leaf a => simp [Tr.kids, Tr.sizes, Tr.size]
      | node r ks => simp only [Tr.kids, Tr.size] at h1 ⊢; omega
    have HSK := Lib.hid hsk
    clear hsk
    go_loopw [3, 12] (fun s3 q wr => ∃ (v : Value) (k m : Nat), v = s3 ∧ q = .int .i64 k ∧ k ≤ n ∧ m = Tr.sizes (t.kids.take k) + 1 ∧ Hid (OwnI wr (w.heap.size + 1) v m (t.rl :: Tr.ruPs (t.kids.take k))) ∧ Hid (Below w.heap.size w wr) ∧ Hid (w.heap.size + 1 ≤ wr.heap.size)) (fun _ q _ => n - (intOf q).toNat)
    case atStart => exact ⟨_, 0, 1, rfl, rfl, Nat.zero_le _, by simp [Tr.sizes], Lib.hid (by simpa [Tr.ruPs] using HO.out), HB2, Lib.hid (by omega)⟩
    case round =>
      obtain ⟨v, k, m, rfl, rfl, hk, hm, HO1, HB3, HZ3⟩ := hrel
      have HMM := Lib.hid hm
      clear hm
      clear HO HB2
      obtain ⟨vA, vc, rfl, hvi⟩ := HO1.out.form
      have HVI := Lib.hid hvi
      clear hvi
      by_cases hkn : k < n
      · obtain ⟨b2, o2, ⟨xa, xb, xA, xn, xc⟩, y, hA, -, hb, hy, hxy, hc⟩ := (HK0.out.via HB3.out).at_ hkn
        subst hA
        have x0 := hc 0 _ rfl
        have x1 := hc 1 _ rfl
        have x2 := hc 2 _ rfl
        have hk3 : TrE.k = 3 := rfl
        simp only [hk3, Nat.add_zero] at x0 x1 x2
        have k0 : (0 : Int) ≤ (k : Int) := by omega
        have k1 : (k : Int) < (n : Int) := by omega
        have HY := Lib.hid hy
        have hsy : y.size ≤ N ∧ y.size ≤ 1000000 := by have := Tr.size_kid (List.mem_of_getElem? hy); omega
        have hal := (Below.refl wr.heap.size wr).al (.cells #[.int .i64 xa, .int .i64 xb, .slice xA xn xc] 34)
        have BX := Blk.new wr 34 #[.int .i64 xa, .int .i64 xb, .slice xA xn xc]
        have HXT := Lib.hid (show TreeR ok _ (xa, xb, xA, xn, xc) y from TreeR.via hxy hal)
        have HO4 := Lib.hid (HO1.out.alloc (.cells #[.int .i64 xa, .int .i64 xb, .slice xA xn xc] 34))
        have HB4 := Lib.hid (HB3.out.trans (hal.mono HB3.out.size))
        have HZ4 := Lib.hid (show w.heap.size + 1 ≤ (wr.alloc (.cells #[.int .i64 xa, .int .i64 xb, .slice xA xn xc] 34)).heap.size from Nat.le_trans HZ3.out hal.size)
        clear hc hy hxy hb hk3 hal
        go_upto_region 5 with fail
        clear x0 x1 x2
        generalize wr.alloc (.cells #[.int .i64 xa, .int .i64 xb, .slice xA xn xc] 34) = W4 at *
        have cBX := BX.cell
        have fBX := BX.frozen
        have lBX := BX.lt
        go_wp2_with fail
        clear cBX fBX lBX
        clear BX
        have hc := IH.out ok (xa, xb, xA, xn, xc) y W4 HXT.out hsy.1 hsy.2
        simp only [trVal] at hc
        refine hc.mono ?_
        clear hc
        rintro e w5 ⟨pA, pc, rfl, hp5, hb5⟩
        have HO5 := Lib.hid (HO4.out.keep hb5 (Nat.le_refl _))
        have HB5 := Lib.hid (HB4.out.trans (hb5.mono HB4.out.size))
        have HZ5 := Lib.hid (Nat.le_trans HZ4.out hb5.size)
        have HP5 := Lib.hid hp5
        have hmz : m ≤ 1000000 := by rw [HMM.out]; have := HSK.out k (by omega); omega
        clear hp5 hb5 HO4 HB4 HZ4
        go_wp2_with (at_builtin; refine wpList_append_ints _ rfl (.tmp 16) (.tmp 18) rfl (w.heap.size + 1) (.slice vA m vc) m _ rfl HO5.out pA y.size pc y.ruP rfl HP5.out (by omega) HZ5.out ?_)
        intro A' c' w6 ho6 hg6 hat6
        have HB6 := Lib.hid (HB5.out.grown hg6 HB5.out.size (fun j e => by have := (HO5.out.lt' j e).1; omega))
        have HZ6 := Lib.hid (Nat.le_trans HZ5.out hg6.size)
        have HO6 := Lib.hid ho6
        have HTK := Lib.hid (show t.kids.take (k + 1) = t.kids.take k ++ [y] from by rw [List.take_add_one, HY.out]; rfl)
        clear ho6 hg6 hat6
        go_wp2_with fail
        refine ⟨⟨_, k + 1, m + y.size, rfl, by go_num, by omega, ?_, Lib.hid ?_, HB6, HZ6⟩, by simp [intOf]; omega⟩
        · rw [HTK.out, Tr.sizes_append, HMM.out]
          simp only [Tr.sizes]; omega
        · rw [HTK.out, ruPs_snoc]; exact HO6.out
      · obtain rfl : k = n := by omega
        have hkl : t.kids.length ≤ k := by rw [HK2.out.len]; exact Nat.le_refl _
        go_wp2_with fail
        go_ret
        have h1 := HVI.out
        rw [List.take_of_length_le hkl, ← ruP_eq] at h1
        have h2 : m = t.size := by rw [← ruP_size, h1.len]
        subst h2
        exact ⟨vA, vc, rfl, h1, HB3.out⟩
end Go.Proofs.YtfmnmgnhanogmaaDoor





namespace Go.Proofs.YtfmnmgnhanogmaaDoor
open Go.RowKit

/-- what a clone hands back, with what its elements may lie in -/
def CloneQ {α ρ : Type} (E : Elem α ρ) (e : TypeId) (ok : Nat → Prop) (w : World) (n : Nat) (xs : List α) (ee : Ending) (w' : World) : Prop :=
  ∃ B d, ee = .returned (.slice B n d) ∧ Own E e (fun b => ok b ∧ b < w.heap.size) w' w.heap.size (.slice B n d) n xs ∧ Below w.heap.size w w'
set_option maxHeartbeats 400000 in
theorem cloneTr_c (ok : Nat → Prop) (A : Option Addr) (n c : Nat) (xs : List Tr) (w : World) (h : Sl TrE ok w A n c xs) (hn : n ≤ 1000000) :
    Calls Tryd.prog 43 #[.slice A n c] w (CloneQ TrE 34 ok w n xs) := by
  have he := fun wx => Lib.run_eql_slice_nil (P := Tryd.prog) wx 32 34 A n c 0 0 Tryd.underlying32
  rcases A with _ | ad
  · have hn0 : n = 0 := by
      rcases Nat.eq_zero_or_pos n with h0 | h0
      · exact h0
      · obtain ⟨b, off, r, x, e, _⟩ := h.at_ h0; cases e
    subst hn0
    obtain rfl : xs = [] := List.eq_nil_of_length_eq_zero h.len
    clear h
    go_enter Tryd.func43, Tryd.ntmps43
    go_wp2
    go_ret
    exact ⟨_, _, rfl, Own.nil _ _, Below.refl _ _⟩
  · have H := Lib.hid (h.mono (ok' := fun b => ok b ∧ b < w.heap.size) fun b hb h => ⟨h, hb⟩)
    clear h
    obtain ⟨i, hi, hz⟩ := Option.map_eq_some_iff.1 tree_info
    simp only [Prod.mk.injEq] at hz
    obtain ⟨z1, z2, z3⟩ := hz
    have HI := Lib.hid (And.intro hi (And.intro z1 (And.intro z2 z3)))
    clear hi z1 z2 z3
    go_enter Tryd.func43, Tryd.ntmps43
    go_wp2_with (at_builtin; refine wpList_append_manyE (E := TrE) _ rfl (.tmp 5) (.tmp 6) 32 34 rfl i _ 40 (by kernel_rfl) HI.out.1 HI.out.2.1 HI.out.2.2.1 HI.out.2.2.2 rfl (fun b => ok b ∧ b < w.heap.size) w.heap.size (.slice (some ⟨w.heap.size, 0, none⟩) 0 0) 0 [] rfl (Own.empty _ w) (some ad) n c xs rfl ((H.out.al _).mono fun b _ hb => ⟨hb, by have := hb.2; simp [Value.ownBlock]; omega⟩) (by simp [maxLen]; omega) (by omega) (by simp) ?_; intro Av1 cv1 w1 hown1 hg1 hat1)
    go_ret
    exact ⟨Av1, cv1, by simp, by simpa using hown1, ((Below.refl _ _).alloc (Nat.le_refl _) _).grown hg1 (by simp) (by simp [Value.ownBlock])⟩
/-- what a call leaves alone: all but the steps and the tree found -/
structure Gw2 (bs bo : Nat) (w w' : World) : Prop where
  os : w'.os = w.os
  tape : w'.tape = w.tape
  output : w'.output = w.output
  size : w.heap.size ≤ w'.heap.size
  block : ∀ b, b < w.heap.size → b ≠ bs → b ≠ bo → w'.heap[b]? = w.heap[b]?
abbrev okB (bs bo : Nat) (b : Nat) : Prop := b ≠ bs ∧ b ≠ bo
/-- where trees may lie: the result's cell (three blocks ahead of the tree found) is no place for them -/
abbrev okK (bs bo : Nat) (b : Nat) : Prop := okB bs bo b ∧ b + 3 ≠ bo
section
variable {bs bo : Nat} {w w' w'' : World}
theorem Gw2.refl (w : World) : Gw2 bs bo w w := ⟨rfl, rfl, rfl, Nat.le_refl _, fun _ _ _ _ => rfl⟩
theorem Gw2.trans (h : Gw2 bs bo w w') (k : Gw2 bs bo w' w'') : Gw2 bs bo w w'' :=
  ⟨k.os.trans h.os, k.tape.trans h.tape, k.output.trans h.output, Nat.le_trans h.size k.size, fun b hb h1 h2 => (k.block b (Nat.lt_of_lt_of_le hb h.size) h1 h2).trans (h.block b hb h1 h2)⟩
theorem Gw2.bel (h : Below w.heap.size w w') : Gw2 bs bo w w' := ⟨h.os, h.tape, h.output, h.size, fun b hb _ _ => h.block b hb⟩
theorem Gw2.via (h : Gw2 bs bo w w') (k : Below w'.heap.size w' w'') : Gw2 bs bo w w'' := h.trans (.bel k)
theorem Gw2.row {row : Option Nat} (h : w.grownBy w' row) (hr : ∀ b, row = some b → b = bs ∨ b = bo ∨ w.heap.size ≤ b) : Gw2 bs bo w w' :=
  ⟨h.os, h.tape, h.output, h.size, fun b hb h1 h2 => h.block b hb fun e => by
    rcases hr b e.symm with h | h | h
    · exact h1 h
    · exact h2 h
    · omega⟩
theorem Gw2.set (b i : Nat) (u : Value) (hb : b = bs ∨ b = bo) : Gw2 bs bo w (w.setCell ⟨b, i, none⟩ u) := .row (grownBySet w b i u) fun x e => by
  have := Option.some.inj e
  rcases hb with h | h
  · exact Or.inl (by omega)
  · exact Or.inr (Or.inl (by omega))
theorem Gw2.agr (h : Gw2 bs bo w w') : Agr (okB bs bo) w w' := fun b hb hlt => h.block b hlt hb.1 hb.2
theorem Gw2.agrT (h : Gw2 bs bo w w') : Agr (okK bs bo) w w' := fun b hb hlt => h.block b hlt hb.1.1 hb.1.2
theorem Gw2.blk {b : Nat} {t : TypeId} {cs : Array Value} (h : Gw2 bs bo w w') (hb : Blk w b t cs) (h1 : b ≠ bs) (h2 : b ≠ bo) : Blk w' b t cs := (h.block b hb.lt h1 h2).trans hb
end
/-- the boxes that Back's closures share: steps' pointer bp, word bw, grammar bg, try bt, row br -/
structure BkM (ft fr bs bo bp bw bg bt br : Nat) (g : Gr) (W : List Nat) (Ag : Option Addr) (ng cg : Nat) (wA : Option Addr) (wc : Nat) (w : World) : Prop where
  rules : Sl RuE (okB bs bo) w Ag ng cg g.rules
  word : Sl InE (okB bs bo) w wA W.length wc (intsN W)
  pb : Blk w bp 47 #[.pointer (some ⟨bs, 0, none⟩)]
  wb : Blk w bw 25 #[.slice wA W.length wc]
  gb : Blk w bg 24 #[.int .i64 (g.terms : Int), .int .i64 (g.nons : Int), .int .i64 (g.start : Int), .slice Ag ng cg]
  tb : Blk w bt 89 #[.func (.func ft) #[] #[.pointer (some ⟨bp, 0, none⟩), .pointer (some ⟨bw, 0, none⟩), .pointer (some ⟨bg, 0, none⟩), .pointer (some ⟨br, 0, none⟩)]]
  rb : Blk w br 90 #[.func (.func fr) #[] #[.pointer (some ⟨bp, 0, none⟩), .pointer (some ⟨bt, 0, none⟩), .pointer (some ⟨br, 0, none⟩)]]
  ne : bs ≠ bo ∧ okB bs bo bp ∧ okB bs bo bw ∧ okB bs bo bg ∧ okB bs bo bt ∧ okB bs bo br
theorem BkM.go {ft fr bs bo bp bw bg bt br : Nat} {g : Gr} {W : List Nat} {Ag : Option Addr} {ng cg : Nat} {wA : Option Addr} {wc : Nat} {w w' : World} (h : BkM ft fr bs bo bp bw bg bt br g W Ag ng cg wA wc w) (k : Gw2 bs bo w w') : BkM ft fr bs bo bp bw bg bt br g W Ag ng cg wA wc w' :=
  ⟨h.rules.agr k.agr, h.word.agr k.agr, k.blk h.pb h.ne.2.1.1 h.ne.2.1.2, k.blk h.wb h.ne.2.2.1.1 h.ne.2.2.1.2, k.blk h.gb h.ne.2.2.2.1.1 h.ne.2.2.2.1.2, k.blk h.tb h.ne.2.2.2.2.1.1 h.ne.2.2.2.2.1.2, k.blk h.rb h.ne.2.2.2.2.2.1 h.ne.2.2.2.2.2.2, h.ne⟩
/-- the two blocks that change: the steps, the tree found -/
structure BkS (bs bo : Nat) (s : Int) (ov : TrV) (w : World) : Prop where
  s : Blk w bs 3 #[.int .i64 s]
  o : Blk w bo 34 #[.int .i64 ov.1, .int .i64 ov.2.1, .slice ov.2.2.1 ov.2.2.2.1 ov.2.2.2.2]
theorem BkS.via {bs bo : Nat} {s : Int} {ov : TrV} {w w' : World} (h : BkS bs bo s ov w) (k : Below w.heap.size w w') : BkS bs bo s ov w' := ⟨h.s.via k, h.o.via k⟩
/-- what try, row and each continuation leave: r what is found -/
def BkP (bs bo : Nat) (w : World) (r : Option Tr) (s : Int) (e : Ending) (w' : World) : Prop :=
  ∃ (b : Bool) (s' : Int) (ov : TrV), e = .returned (.bool b) ∧ BkS bs bo s' ov w' ∧ Gw2 bs bo w w' ∧ -1 ≤ s' ∧ s' ≤ s ∧ (b = true → 0 ≤ s' ∧ ∃ u, r = some u ∧ TreeR (okK bs bo) w' ov u) ∧ (b = false → 0 ≤ s' → r = none)
/-- a continuation: what it finds behind a tree and a place of P -/
def ThenK (bs bo : Nat) (n : Nat) (W0 : World) (fid : Nat) (caps : Array Value) (F : Tr → Nat → Option Tr) (P : Tr → Nat → Prop) : Prop :=
  (∀ (args : Array Value) (w : World), (callFunc fid args).run Tryd.prog w = .ok (.enter fid args) w) ∧
  ∀ (w : World) (v ov : TrV) (t : Tr) (k : Nat) (s : Int), Gw2 bs bo W0 w → TreeR (okK bs bo) w v t → k ≤ n → P t k → 0 ≤ s → s ≤ 10000000 → BkS bs bo s ov w → Calls Tryd.prog fid (#[trVal v, .int .i64 (k : Int)] ++ caps) w (BkP bs bo w (F t k) s)
theorem ThenK.go {bs bo n : Nat} {W0 w : World} {fid : Nat} {caps : Array Value} {F : Tr → Nat → Option Tr} {P : Tr → Nat → Prop} (h : ThenK bs bo n W0 fid caps F P) (k : Gw2 bs bo W0 w) : ThenK bs bo n w fid caps F P := ⟨h.1, fun w' v ov t j s h1 => h.2 w' v ov t j s (k.trans h1)⟩
/-- a tree of a row's first symbol, then a row of the others: a row -/
theorem enL_cons {f : Sy → Nat → Option (List (Tr × Nat))} {s : Sy} {l : List Sy} {k : Nat} {L : List (Tr × Nat)} {M : List (List Tr × Nat)} (hs : f s k = some L) (h : enL f (s :: l) k = some M) (p : Tr × Nat) (hp : p ∈ L) : ∃ Q, enL f l p.2 = some Q ∧ ∀ q ∈ Q, (p.1 :: q.1, q.2) ∈ M := by
  simp only [enL, hs] at h
  clear hs
  induction L generalizing M with
  | nil => cases hp
  | cons a L ih =>
    obtain ⟨x, y, hx, hy, rfl⟩ := bindO_cons h
    simp only [Option.map_eq_some_iff] at hx
    obtain ⟨Q, hQ, rfl⟩ := hx
    rcases List.mem_cons.1 hp with rfl | hp
    · exact ⟨Q, hQ, fun q hq => List.mem_append_left _ (List.mem_map.2 ⟨q, hq, rfl⟩)⟩
    · obtain ⟨Q', h1, h2⟩ := ih hp hy
      exact ⟨Q', h1, fun q hq => List.mem_append_right _ (h2 q hq)⟩
set_option maxRecDepth 100000 in
set_option maxHeartbeats 4000000 in
/-- the last continuation -/
theorem last_c (bs bo bw : Nat) (W : List Nat) (wA : Option Addr) (wc : Nat) (W0 : World) (hne : bs ≠ bo ∧ okB bs bo bw) (hw : Blk W0 bw 25 #[.slice wA W.length wc]) :
    ThenK bs bo W.length W0 44 #[.pointer (some ⟨bo, 0, none⟩), .pointer (some ⟨bw, 0, none⟩)] (fun t j => if j = W.length then some t else none) (fun _ _ => True) := by
  refine ⟨fun args w => by kernel_rfl, fun w v ov t k s hg ht hk _ hs0 hs1 hS => ?_⟩
  obtain ⟨va, vb, vA, vn, vc⟩ := v
  have hal := (Below.refl w.heap.size w).al (.cells #[.int .i64 va, .int .i64 vb, .slice vA vn vc] 34)
  have BV := Blk.new w 34 #[.int .i64 va, .int .i64 vb, .slice vA vn vc]
  have hS1 := hS.via hal
  have HS := Lib.hid hS1
  have BO := hS1.o
  have HW := Lib.hid ((hg.blk hw hne.2.1 hne.2.2).via hal)
  have HT := Lib.hid (ht.via hal)
  have HG := Lib.hid (Gw2.bel (bs := bs) (bo := bo) hal)
  have hbo := hS.o.lt
  have hbs := hS.s.lt
  have HNE := Lib.hid hne
  have hboz : bo ≠ w.heap.size := by omega
  clear hal hS hS1 hg hw ht
  simp only [trVal]
  go_enter Tryd.func44, Tryd.ntmps44
  go_upto_region 1 with fail
  generalize w.alloc (.cells #[.int .i64 va, .int .i64 vb, .slice vA vn vc] 34) = w1 at *
  generalize w.heap.size = bv at *
  have cBV := BV.cell
  have fBV := BV.frozen
  have lBV := BV.lt
  have cBO := BO.cell
  have fBO := BO.frozen
  have lBO := BO.lt
  go_upto_region 2 with fail
  clear cBV fBV lBV cBO fBO lBO
  have HS2 := Lib.hid (show BkS bs bo s (va, vb, vA, vn, vc) (((w1.setCell ⟨bo, 0, none⟩ (.int .i64 va)).setCell ⟨bo, 1, none⟩ (.int .i64 vb)).setCell ⟨bo, 2, none⟩ (.slice vA vn vc)) from
    ⟨((HS.out.s.far (p := ⟨bo, 0, none⟩) (by simpa using hne.1) _).far (p := ⟨bo, 1, none⟩) (by simpa using hne.1) _).far (p := ⟨bo, 2, none⟩) (by simpa using hne.1) _, by
      have := ((BO.set_ 0 (.int .i64 va)).set_ 1 (.int .i64 vb)).set_ 2 (.slice vA vn vc); simpa using this⟩)
  have hg2 : Gw2 bs bo w1 (((w1.setCell ⟨bo, 0, none⟩ (.int .i64 va)).setCell ⟨bo, 1, none⟩ (.int .i64 vb)).setCell ⟨bo, 2, none⟩ (.slice vA vn vc)) :=
    ((Gw2.set bo 0 _ (Or.inr rfl)).trans (Gw2.set bo 1 _ (Or.inr rfl))).trans (Gw2.set bo 2 _ (Or.inr rfl))
  have HT2 := Lib.hid (HT.out.agr hg2.agrT)
  have HG2 := Lib.hid (HG.out.trans hg2)
  have BW := hg2.blk HW.out hne.2.1 hne.2.2
  clear hg2 HT HG HW HS BO
  generalize ((w1.setCell ⟨bo, 0, none⟩ (.int .i64 va)).setCell ⟨bo, 1, none⟩ (.int .i64 vb)).setCell ⟨bo, 2, none⟩ (.slice vA vn vc) = w2 at *
  have cBW := BW.cell
  have fBW := BW.frozen
  have lBW := BW.lt
  by_cases hkw : k = W.length
  · subst hkw
    have e1 : (((W.length : Nat) : Int) == (W.length : Int)) = true := by simp
    go_wp2_with fail
    go_ret
    exact ⟨true, s, (va, vb, vA, vn, vc), rfl, HS2.out, HG2.out, by omega, Int.le_refl _, fun _ => ⟨hs0, t, by simp, HT2.out⟩, fun h => by cases h⟩
  · have e1 : ((k : Int) == (W.length : Int)) = false := by simp; omega
    have HKW := Lib.hid hkw
    clear hkw
    go_wp2_with fail
    go_ret
    exact ⟨false, s, (va, vb, vA, vn, vc), rfl, HS2.out, HG2.out, by omega, Int.le_refl _, (fun h => by cases h), fun _ _ => by first | rfl | rw [if_neg HKW.out]⟩
end Go.Proofs.YtfmnmgnhanogmaaDoor

