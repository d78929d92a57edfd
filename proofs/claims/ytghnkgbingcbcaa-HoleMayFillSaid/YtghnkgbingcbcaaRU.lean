/- tree.walk with a closure of one capture; Size. -/
import Derived.Test.YtghnkgbingcbcaaRT
namespace Go.Proofs.Ytghnkgbingcbcaa
open Go.RowKit

mutual
def Tr.pre : Tr → List Tr
  | .leaf k => [.leaf k]
  | .node r ks => .node r ks :: Tr.pres ks
def Tr.pres : List Tr → List Tr
  | [] => []
  | t :: ts => t.pre ++ Tr.pres ts
end
theorem Tr.pre_eq (t : Tr) : t.pre = t :: Tr.pres t.kids := by cases t <;> simp [Tr.pre, Tr.kids, Tr.pres]
theorem Tr.pres_append (a b : List Tr) : Tr.pres (a ++ b) = Tr.pres a ++ Tr.pres b := by
  induction a with
  | nil => simp [Tr.pres]
  | cons t ts ih => simp only [List.cons_append, Tr.pres, ih, List.append_assoc]
theorem Tr.pres_take {ks : List Tr} {k : Nat} {t : Tr} (h : ks[k]? = some t) : Tr.pres (ks.take (k + 1)) = Tr.pres (ks.take k) ++ t.pre := by
  have hl := List.getElem?_eq_some_iff.1 h
  rw [List.take_succ_eq_append_getElem hl.1, hl.2, Tr.pres_append]
  simp [Tr.pres]

mutual
theorem Tr.pre_len (t : Tr) : t.pre.length = t.size := by
  cases t with
  | leaf k => simp [Tr.pre, Tr.size]
  | node r ks => simp only [Tr.pre, Tr.size, List.length_cons]; rw [Tr.pres_len ks]
theorem Tr.pres_len (ks : List Tr) : (Tr.pres ks).length = Tr.sizes ks := by
  cases ks with
  | nil => simp [Tr.pres, Tr.sizes]
  | cons t ts => simp only [Tr.pres, Tr.sizes, List.length_append]; rw [Tr.pre_len t, Tr.pres_len ts]
end
theorem Tr.size_eq (t : Tr) : t.size = Tr.sizes t.kids + 1 := by cases t <;> simp [Tr.size, Tr.kids, Tr.sizes]
theorem Tr.sizes_take {ks : List Tr} {k : Nat} {y : Tr} (h : ks[k]? = some y) : Tr.sizes (ks.take k) + y.size ≤ Tr.sizes ks := by
  have hl := List.getElem?_eq_some_iff.1 h
  have e : Tr.sizes (ks.take (k + 1)) + Tr.sizes (ks.drop (k + 1)) = Tr.sizes ks := by rw [← Tr.sizes_append, List.take_append_drop]
  rw [List.take_succ_eq_append_getElem hl.1, hl.2, Tr.sizes_append] at e
  simp only [Tr.sizes] at e
  omega
theorem Agr.lo {lo : Nat} {w w' : World} (h : Below lo w w') : Agr (fun b => b < lo) w w' := fun b hb _ => h.block b hb

/-- what a visit leaves -/
def VisitP (lo : Nat) (P : List Tr → (Nat → Prop) → World → Prop) (R : Nat → Prop) (w : World) (l : List Tr) (e : Ending) (w' : World) : Prop :=
  e = .returned (.bool true) ∧ ∃ R', P l R' w' ∧ Below lo w w' ∧ Agr (fun b => ¬ R b) w w' ∧ ∀ b, R' b → R b ∨ w.heap.size ≤ b

structure WalkRel (lo : Nat) (P : List Tr → (Nat → Prop) → World → Prop) (R0 : Nat → Prop) (w : World) (l : List Tr) (R : Nat → Prop) (wr : World) : Prop where
  p : P l R wr
  bel : Below lo w wr
  agr : Agr (fun b => ¬ R0 b) w wr
  row : ∀ b, R b → R0 b ∨ w.heap.size ≤ b

theorem WalkRel.via {lo : Nat} {P : List Tr → (Nat → Prop) → World → Prop} {R0 : Nat → Prop} {w : World} {l : List Tr} {R : Nat → Prop} {wr wa : World} (h : WalkRel lo P R0 w l R wr)
    (hP : ∀ l R w w', P l R w → Below w.heap.size w w' → P l R w') (hlo : lo ≤ w.heap.size) (hb : Below wr.heap.size wr wa) : WalkRel lo P R0 w l R wa :=
  ⟨hP _ _ _ _ h.p hb, h.bel.trans (hb.mono (Nat.le_trans hlo h.bel.size)), h.agr.trans (Agr.below hb), h.row⟩
theorem WalkRel.step {lo : Nat} {P : List Tr → (Nat → Prop) → World → Prop} {R0 : Nat → Prop} {w : World} {l l' : List Tr} {R R' : Nat → Prop} {wr wa : World} (h : WalkRel lo P R0 w l R wr)
    (h1 : P l' R' wa) (h2 : Below lo wr wa) (h3 : Agr (fun b => ¬ R b) wr wa) (h4 : ∀ b, R' b → R b ∨ wr.heap.size ≤ b) : WalkRel lo P R0 w l' R' wa := by
  refine ⟨h1, h.bel.trans h2, ?_, ?_⟩
  · intro b hb hlt
    have hlt' : b < wr.heap.size := Nat.lt_of_lt_of_le hlt h.bel.size
    exact (h3 b (fun hR => (h.row b hR).elim hb fun h => by omega) hlt').trans (h.agr b hb hlt)
  · intro b hb
    rcases h4 b hb with h5 | h5
    · exact h.row b h5
    · exact Or.inr (Nat.le_trans h.bel.size h5)

set_option maxRecDepth 100000 in
set_option maxHeartbeats 4000000 in
theorem walk_n (fid : Nat) (he : ∀ (args : Array Value) (w : World), (callFunc fid args).run Try.prog w = .ok (.enter fid args) w) (cap : Value) (lo : Nat) (P : List Tr → (Nat → Prop) → World → Prop)
    (hP : ∀ l R w w', P l R w → Below w.heap.size w w' → P l R w') (hR : ∀ l R w, P l R w → lo ≤ w.heap.size ∧ ∀ b, R b → lo ≤ b ∧ b < w.heap.size) (M : Nat)
    (hf : ∀ l R w v x, l.length < M → P l R w → TreeR (fun b => b < lo) w v x → Calls Try.prog fid #[trVal v, cap] w (VisitP lo P R w (l ++ [x]))) (N : Nat) :
    ∀ (v : TrV) (t : Tr) (w : World) (l : List Tr) (R : Nat → Prop), TreeR (fun b => b < lo) w v t → P l R w → t.size ≤ N → l.length + t.size ≤ M → M ≤ 1000000 →
    Calls Try.prog 37 #[trVal v, .func (.func fid) #[] #[cap]] w (VisitP lo P R w (l ++ t.pre)) := by
  induction N with
  | zero => intro v t w l R _ _ h; have := t.size_pos; omega
  | succ N ih =>
    intro v t w l R hT hp hN hl hM
    obtain ⟨a, b, A, n, c⟩ := v
    simp only [trVal]
    have B0 := Blk.new w 36 #[.int .i64 a, .int .i64 b, .slice A n c]
    have hT1 := hT.al (.cells #[.int .i64 a, .int .i64 b, .slice A n c] 36)
    have hp1 := hP _ _ _ _ hp ((Below.refl w.heap.size w).alloc (Nat.le_refl _) (.cells #[.int .i64 a, .int .i64 b, .slice A n c] 36))
    have hlo := (hR _ _ _ hp).1
    have hw : WalkRel lo P R w l R (w.alloc (.cells #[.int .i64 a, .int .i64 b, .slice A n c] 36)) := ⟨hp1, (Below.refl lo w).alloc hlo _, Agr.below ((Below.refl w.heap.size w).alloc (Nat.le_refl _) _), fun b hb => Or.inl hb⟩
    have hnR : ¬ R w.heap.size := fun h => Nat.lt_irrefl _ ((hR _ _ _ hp).2 _ h).2
    have HT := Lib.hid hT1
    have HP := Lib.hid hw
    have HNR := Lib.hid hnR
    have hps := t.size_pos
    clear hT hT1 hp hp1 hw hnR
    go_enter Try.func37, Try.ntmps37
    go_wp2_with fail
    refine (hf l R _ (a, b, A, n, c) t (by omega) HP.out.p HT.out).mono ?_
    rintro e w' ⟨rfl, R1, h1, h2, h3, h4⟩
    have hw1 := HP.out.step h1 h2 h3 h4
    have B1 : Blk w' w.heap.size 36 #[.int .i64 a, .int .i64 b, .slice A n c] := (h3 _ HNR.out B0.lt).trans B0
    have hT1 := HT.out.agr (Agr.lo h2)
    have HT1 := Lib.hid hT1
    have HW := Lib.hid hw1
    clear h1 h2 h3 h4 hT1 hw1 HP HT B0
    have cB1 := B1.cell
    have fB1 := B1.frozen
    have lB1 := B1.lt
    go_wp2_with fail
    clear cB1 fB1 lB1
    refine (kids_c _ (a, b, A, n, c) t w' HT1.out).mono ?_
    rintro e w2 ⟨A2, n2, c2, rfl, hS, hb2⟩
    have hw2 := HW.out.via hP hlo hb2
    have hS2 := hS.via hb2
    have HS := Lib.hid hS2
    have hws := hw2.bel.size
    have hln : n2 < t.size := by rw [← hS.len]; exact t.kids_len
    clear hS hS2 hb2 HW HT1 B1
    go_wp2_with fail
    go_loopw [14] (fun i wr => ∃ (k : Nat) (R2 : Nat → Prop), i = .int .i64 k ∧ k ≤ n2 ∧ WalkRel lo P R w (l ++ [t] ++ Tr.pres (t.kids.take k)) R2 wr ∧ Below lo w2 wr) (fun i _ => n2 - (intOf i).toNat)
    case atStart => exact ⟨0, R1, rfl, Nat.zero_le _, by simpa [Tr.pres] using hw2, Below.refl _ _⟩
    case round =>
      obtain ⟨k, R2, rfl, hk, hr, hbr⟩ := hrel
      clear hw2
      by_cases hlt : k < n2
      · obtain ⟨b1, o1, x, y, rfl, hob, hb1, hy, hxy, hc⟩ := HS.out.at_ hlt
        have hxy' : TreeR (fun b => b < lo) w2 x y := hxy
        have c0 := (Agr.lo hbr).cell hob (hc 0 _ rfl)
        have c1 := (Agr.lo hbr).cell hob (hc 1 _ rfl)
        have c2 := (Agr.lo hbr).cell hob (hc 2 _ rfl)
        obtain ⟨xa, xb, xA, xn, xc⟩ := x
        simp only [TrE, Nat.add_zero] at c0 c1 c2
        have i0 : (0 : Int) ≤ (k : Int) := by omega
        have i1 : (k : Int) < (n2 : Int) := by omega
        have HR := Lib.hid (hr.via hP hlo ((Below.refl wr.heap.size wr).alloc (Nat.le_refl _) (.cells #[.int .i64 xa, .int .i64 xb, .slice xA xn xc] 36)))
        have HX := Lib.hid ((hxy'.agr (Agr.lo hbr)).al (.cells #[.int .i64 xa, .int .i64 xb, .slice xA xn xc] 36))
        have HY := Lib.hid hy
        have HB := Lib.hid (hbr.alloc (Nat.le_trans hlo (Nat.le_trans hws hbr.size)) (.cells #[.int .i64 xa, .int .i64 xb, .slice xA xn xc] 36))
        clear hr hxy hxy' hc hy hb1 hbr
        have hsz := Tr.sizes_take HY.out
        have hsz2 := t.size_eq
        have hpl := Tr.pres_len (t.kids.take k)
        go_wp2_with fail
        clear c0 c1 c2
        refine (ih (xa, xb, xA, xn, xc) y _ _ R2 HX.out HR.out.p (by omega) (by simp only [List.length_append, List.length_singleton]; omega) hM).mono ?_
        rintro e w3 ⟨rfl, R3, h1, h2, h3, h4⟩
        have hb3 := HB.out.trans h2
        have hr3 := HR.out.step h1 h2 h3 h4
        rw [List.append_assoc, ← Tr.pres_take HY.out] at hr3
        have HR3 := Lib.hid hr3
        have HB3 := Lib.hid hb3
        clear hr3 hb3 h1 h2 h3 h4
        go_wp2_with fail
        exact ⟨⟨k + 1, R3, by go_num, by omega, HR3.out, HB3.out⟩, by simp [intOf]; omega⟩
      · have HR := Lib.hid hr
        have HKE := Lib.hid (show k = n2 by omega)
        clear hr
        go_wp2_with fail
        go_ret
        refine ⟨rfl, R2, ?_, HR.out.bel, HR.out.agr, HR.out.row⟩
        have := HR.out.p
        rw [List.take_of_length_le (by rw [HS.out.len, HKE.out]; exact Nat.le_refl _), List.append_assoc] at this
        rw [Tr.pre_eq]
        exact this

theorem enters_c {P : Program} {f : FuncId} {fn : Func} {c : Code} (hf : P.funcs[f]? = some fn) (hname : (fn.name == "runtime.NumGoroutine") = false) (hb : fn.body = some c) : ∀ (args : Array Value) (w : World), (callFunc f args).run P w = .ok (.enter f args) w := by
  intro args w
  have h1 : fn.name ≠ "runtime.NumGoroutine" := by simpa using hname
  simp [callFunc, hf, h1, hb, mark]

/-! ### Size -/
def SizeInv (lo bn : Nat) (l : List Tr) (R : Nat → Prop) (w : World) : Prop := (∀ b, R b ↔ b = bn) ∧ Blk w bn 3 #[.int .i64 (l.length : Int)] ∧ lo ≤ bn
set_option maxHeartbeats 1000000 in
theorem size1_c (lo bn : Nat) (l : List Tr) (R : Nat → Prop) (w : World) (v : TrV) (x : Tr) (hl : l.length < 1000000) (h : SizeInv lo bn l R w) :
    Calls Try.prog 81 #[trVal v, .pointer (some ⟨bn, 0, none⟩)] w (VisitP lo (SizeInv lo bn) R w (l ++ [x])) := by
  obtain ⟨hR, hB, hlo⟩ := h
  have hlt := hB.lt
  have B1 := hB.al (.cells #[.int .i64 v.1, .int .i64 v.2.1, .slice v.2.2.1 v.2.2.2.1 v.2.2.2.2] 36)
  simp only [trVal]
  have HR := Lib.hid hR
  have HB0 := Lib.hid hB
  clear hR hB
  have cB1 := B1.cell
  have fB1 := B1.frozen
  have lB1 := B1.lt
  go_enter Try.func81, Try.ntmps81
  go_wp2_with fail
  go_ret
  refine ⟨rfl, R, ⟨HR.out, ?_, hlo⟩, ((Below.refl lo w).setCell (p := ⟨bn, 0, none⟩) hlo _).alloc (by simp; omega) _, ?_, fun b hb => Or.inl hb⟩
  · have := (HB0.out.set1 (.int .i64 ((l.length : Int) + 1))).al (.cells #[.int .i64 v.1, .int .i64 v.2.1, .slice v.2.2.1 v.2.2.2.1 v.2.2.2.2] 36)
    simpa using this
  · exact (Agr.setCell (p := ⟨bn, 0, none⟩) _ fun b hb e => hb ((HR.out b).2 e)).trans (Agr.below ((Below.refl _ _).alloc (Nat.le_refl _) _))

def IntB (w : World) (n : Nat) (e : Ending) (w' : World) : Prop := e = .returned (.int .i64 (n : Int)) ∧ Below w.heap.size w w'
set_option maxHeartbeats 1000000 in
theorem size_c (ok : Nat → Prop) (v : TrV) (t : Tr) (w : World) (h : TreeR ok w v t) (hM : t.size ≤ 1000000) :
    Calls Try.prog 68 #[trVal v] w (IntB w t.size) := by
  obtain ⟨a, b, A, n, c⟩ := v
  have hT := ((h.mono (ok' := fun b => b < w.heap.size) fun b hb _ => hb).al (.cells #[.int .i64 a, .int .i64 b, .slice A n c] 36)).al (.cells #[.int .i64 0] 3)
  have HT := Lib.hid hT
  clear h hT
  simp only [trVal]
  have B1 := Blk.new (w.alloc (.cells #[.int .i64 a, .int .i64 b, .slice A n c] 36)) 3 #[.int .i64 0]
  rw [World.size_alloc] at B1
  have hB := ((Below.refl w.heap.size w).al (.cells #[.int .i64 a, .int .i64 b, .slice A n c] 36)).al (.cells #[.int .i64 0] 3)
  go_enter Try.func68, Try.ntmps68
  go_wp2_with fail
  generalize (w.alloc (.cells #[.int .i64 a, .int .i64 b, .slice A n c] 36)).alloc (.cells #[.int .i64 0] 3) = W at *
  refine (walk_n 81 (enters_c (c := _) (fn := Try.f81) rfl (by kernel_rfl) rfl) (.pointer (some ⟨w.heap.size + 1, 0, none⟩)) w.heap.size (SizeInv w.heap.size (w.heap.size + 1)) ?_ ?_ 1000000 (fun l R w v x hl hp _ => size1_c _ _ l R w v x hl hp) t.size (a, b, A, n, c) t W [] (fun b => b = w.heap.size + 1) HT.out ⟨fun b => Iff.rfl, B1, by omega⟩ (Nat.le_refl _) (by simpa using hM) (Nat.le_refl _)).mono ?_
  · intro l R w1 w2 h1 h2
    exact ⟨h1.1, h1.2.1.via h2, h1.2.2⟩
  · intro l R w1 h1
    exact ⟨Nat.le_of_lt (Nat.lt_of_le_of_lt h1.2.2 h1.2.1.lt), fun b hb => by rw [(h1.1 b).1 hb]; exact ⟨h1.2.2, h1.2.1.lt⟩⟩
  · rintro e w' ⟨rfl, R', ⟨h1, h2, h3⟩, h4, h5, h6⟩
    rw [List.nil_append, Tr.pre_len] at h2
    have H4 := Lib.hid h4
    have B2 := h2
    clear h1 h2 h3 h4 h5 h6 B1
    have cB2 := B2.cell
    have fB2 := B2.frozen
    have lB2 := B2.lt
    go_wp2_with fail
    go_ret
    exact ⟨rfl, hB.trans H4.out⟩
end Go.Proofs.Ytghnkgbingcbcaa
