/- Texts DE, DF, DG, laid together. -/
import Derived.Test.YtbhenicldddlfaaDoorD1
import Derived.Laws.RangeString


namespace Go.Proofs.YtbhenicldddlfaaDoor
open Go.RowKit

/-! ### all nodes meet a test -/
mutual
def Dc.all (p : Dc → Bool) : Dc → Bool
  | .node k s i ks => p (.node k s i ks) && Dc.alls p ks
def Dc.alls (p : Dc → Bool) : List Dc → Bool
  | [] => true
  | t :: ts => t.all p && Dc.alls p ts
end
theorem Dc.all_eq (p : Dc → Bool) (t : Dc) : t.all p = (p t && Dc.alls p t.args) := by cases t; simp [Dc.all, Dc.args]
theorem Dc.alls_append (p : Dc → Bool) (a b : List Dc) : Dc.alls p (a ++ b) = (Dc.alls p a && Dc.alls p b) := by
  induction a with
  | nil => simp [Dc.alls]
  | cons t ts ih => simp only [List.cons_append, Dc.alls, ih, Bool.and_assoc]
theorem Dc.alls_take {p : Dc → Bool} {ks : List Dc} {k : Nat} {t : Dc} (h : ks[k]? = some t) : Dc.alls p (ks.take (k + 1)) = (Dc.alls p (ks.take k) && t.all p) := by
  have hl := List.getElem?_eq_some_iff.1 h
  rw [List.take_succ_eq_append_getElem hl.1, hl.2, Dc.alls_append]
  simp [Dc.alls]
theorem Dc.alls_false {p : Dc → Bool} {ks : List Dc} {t : Dc} (h : t ∈ ks) (ht : t.all p = false) : Dc.alls p ks = false := by
  induction ks with
  | nil => cases h
  | cons a ks ih =>
    rcases List.mem_cons.1 h with rfl | h
    · simp [Dc.alls, ht]
    · simp [Dc.alls, ih h]
mutual
theorem Dc.all_true {p : Dc → Bool} {Q : Dc → Prop} (hQ : ∀ t x, Q t → x ∈ t.args → Q x) (hp : ∀ x, Q x → p x = true) (t : Dc) (h : Q t) : t.all p = true := by
  cases t with
  | node k s i ks =>
    simp only [Dc.all, Bool.and_eq_true]
    exact ⟨hp _ h, Dc.alls_true hQ hp ks fun x hx => hQ _ x h hx⟩
theorem Dc.alls_true {p : Dc → Bool} {Q : Dc → Prop} (hQ : ∀ t x, Q t → x ∈ t.args → Q x) (hp : ∀ x, Q x → p x = true) (ks : List Dc) (h : ∀ x ∈ ks, Q x) : Dc.alls p ks = true := by
  cases ks with
  | nil => rfl
  | cons t ts =>
    simp only [Dc.alls, Bool.and_eq_true]
    exact ⟨Dc.all_true hQ hp t (h t (List.mem_cons_self ..)), Dc.alls_true hQ hp ts fun x hx => h x (List.mem_cons_of_mem _ hx)⟩
end

/-- what a visit leaves; X: what the closure writes -/
def VisD (lo : Nat) (X : Nat → Prop) (I : Nat → World → Prop) (b : Bool) (m : Nat) (w : World) (e : Ending) (w' : World) : Prop :=
  e = .returned (.bool b) ∧ ∃ k, I k w' ∧ k ≤ m ∧ Agr (fun b => ¬ X b) w w' ∧ w.heap.size ≤ w'.heap.size ∧ Below lo w w'

structure WalkD (lo : Nat) (X : Nat → Prop) (I : Nat → World → Prop) (m : Nat) (w : World) (k : Nat) (wr : World) : Prop where
  i : I k wr
  le : k ≤ m
  agr : Agr (fun b => ¬ X b) w wr
  size : w.heap.size ≤ wr.heap.size
  bel : Below lo w wr
section
variable {lo : Nat} {X : Nat → Prop} {I : Nat → World → Prop} {m k m' k' : Nat} {w wr wa : World}
theorem WalkD.via (h : WalkD lo X I m w k wr) (hI : ∀ k w w', I k w → Below w.heap.size w w' → I k w') (hlo : lo ≤ w.heap.size) (hb : Below wr.heap.size wr wa) : WalkD lo X I m w k wa :=
  ⟨hI _ _ _ h.i hb, h.le, h.agr.trans (Agr.below hb), Nat.le_trans h.size hb.size, h.bel.trans (hb.mono (Nat.le_trans hlo h.size))⟩
theorem WalkD.step (h : WalkD lo X I m w k wr) (h1 : I k' wa) (h2 : k' ≤ m') (h3 : Agr (fun b => ¬ X b) wr wa) (h4 : wr.heap.size ≤ wa.heap.size) (h5 : Below lo wr wa) : WalkD lo X I m' w k' wa :=
  ⟨h1, h2, h.agr.trans h3, Nat.le_trans h.size h4, h.bel.trans h5⟩
end

set_option maxRecDepth 100000 in
set_option maxHeartbeats 4000000 in
theorem walkD_n (fid : Nat) (he : ∀ (args : Array Value) (w : World), (callFunc fid args).run Tryd.prog w = .ok (.enter fid args) w) (caps : Array Value) (ok X : Nat → Prop) (hX : ∀ b, ok b → ¬ X b) (I : Nat → World → Prop)
    (lo : Nat) (hlo : ∀ k w, I k w → lo ≤ w.heap.size) (hI : ∀ k w w', I k w → Below w.heap.size w w' → I k w') (hXI : ∀ k w, I k w → ∀ b, X b → b < w.heap.size) (M : Nat) (Q : Dc → Prop) (hQ : ∀ t x, Q t → x ∈ t.args → Q x) (p : Dc → Bool)
    (hf : ∀ k w v x, k < M → I k w → Q x → DcR ok w v x → Calls Tryd.prog fid (#[dcVal v] ++ caps) w (VisD lo X I (p x) (k + 1) w)) (N : Nat) :
    ∀ (v : DcV) (t : Dc) (w : World) (k : Nat), DcR ok w v t → Q t → I k w → t.size ≤ N → k + t.size ≤ M → M ≤ 1000000 →
    Calls Tryd.prog 41 #[dcVal v, .func (.func fid) #[] caps] w (VisD lo X I (t.all p) (k + t.size) w) := by
  induction N with
  | zero => intro v t w k _ _ _ h; have := t.size_pos; omega
  | succ N ih =>
    intro v t w k hT hq hi hN hk hM
    obtain ⟨a, s, b, A, n, c⟩ := v
    simp only [dcVal]
    have B0 := Blk.new w 29 #[.int .i64 (a : Int), .string s, .int .i64 (b : Int), .slice A n c]
    have hB := (Below.refl w.heap.size w).al (.cells #[.int .i64 (a : Int), .string s, .int .i64 (b : Int), .slice A n c] 29)
    have hw : WalkD lo X I k w k (w.alloc (.cells #[.int .i64 (a : Int), .string s, .int .i64 (b : Int), .slice A n c] 29)) := ⟨hI _ _ _ hi hB, Nat.le_refl _, Agr.below hB, hB.size, hB.mono (hlo _ _ hi)⟩
    have hlo' := hlo _ _ hi
    have hnX : ¬ X w.heap.size := fun h => Nat.lt_irrefl _ (hXI _ _ hi _ h)
    have HT := Lib.hid (hT.via hB)
    have HW := Lib.hid hw
    have HNX := Lib.hid hnX
    have HQ := Lib.hid hq
    have hps := t.size_pos
    clear hT hi hw hnX hB hq
    go_enter Tryd.func41, Tryd.ntmps41
    go_wp2_with fail
    generalize w.alloc (.cells #[.int .i64 (a : Int), .string s, .int .i64 (b : Int), .slice A n c] 29) = W at *
    refine (hf k W (a, s, b, A, n, c) t (by omega) HW.out.i HQ.out HT.out).mono ?_
    rintro e w' ⟨rfl, k1, h1, h2, h3, h4, h5⟩
    have HW1 := Lib.hid (HW.out.step h1 (m' := k + 1) h2 h3 h4 h5)
    have B1 : Blk w' w.heap.size 29 #[.int .i64 (a : Int), .string s, .int .i64 (b : Int), .slice A n c] := (h3 _ HNX.out B0.lt).trans B0
    have HT1 := Lib.hid (HT.out.agr (h3.mono hX))
    clear h1 h2 h3 h4 h5 HT HW B0
    cases hp : p t
    case false =>
      have HP := Lib.hid hp
      clear hp B1
      go_wp2_with fail
      go_ret
      exact ⟨by rw [Dc.all_eq, HP.out, Bool.false_and]; rfl, k1, HW1.out.i, by have := HW1.out.le; omega, HW1.out.agr, HW1.out.size, HW1.out.bel⟩
    case true =>
      have HP := Lib.hid hp
      obtain ⟨-, -, -, hS⟩ := HT1.out.parts
      have HS : Hid (Sl DcE ok w' A n c t.args) := Lib.hid hS
      have hln : n < t.size := by have := hS.len; have := t.args_len; simp only at *; omega
      clear hp hS
      have cB1 := B1.cell
      have fB1 := B1.frozen
      have lB1 := B1.lt
      go_wp2_with fail
      clear cB1 fB1 lB1
      clear B1
      go_loopw [14] (fun i wr => ∃ (j kk : Nat), i = .int .i64 j ∧ j ≤ n ∧ Hid (Dc.alls p (t.args.take j) = true) ∧ WalkD lo X I (k + 1 + Dc.sizes (t.args.take j)) w kk wr ∧ Agr (fun b => ¬ X b) w' wr ∧ w'.heap.size ≤ wr.heap.size) (fun i _ => n - (intOf i).toNat)
      case atStart => exact ⟨0, k1, rfl, Nat.zero_le _, Lib.hid (by simp [Dc.alls]), by simpa [Dc.sizes] using HW1.out, Agr.refl, Nat.le_refl _⟩
      case round =>
        obtain ⟨j, kk, rfl, hj, HA, hr, hbr, hsr⟩ := hrel
        clear HW1 HT1
        by_cases hlt : j < n
        · obtain ⟨b1, o1, x, y, rfl, hob, hb1, hy, hxy, hc⟩ := (HS.out.agr (hbr.mono hX)).at_ hlt
          have hxy' : DcR ok wr x y := hxy
          have c0 := hc 0 _ rfl
          have c1 := hc 1 _ rfl
          have c2 := hc 2 _ rfl
          have c3 := hc 3 _ rfl
          obtain ⟨xk, xs, xi, xA, xn, xc⟩ := x
          simp only [DcE, Nat.add_zero] at c0 c1 c2 c3
          have i0 : (0 : Int) ≤ (j : Int) := by omega
          have i1 : (j : Int) < (n : Int) := by omega
          have hB2 := (Below.refl wr.heap.size wr).al (.cells #[.int .i64 (xk : Int), .string xs, .int .i64 (xi : Int), .slice xA xn xc] 29)
          have HR := Lib.hid (hr.via hI hlo' hB2)
          have HX := Lib.hid (hxy'.via hB2)
          have HY := Lib.hid hy
          have HBR := Lib.hid (hbr.trans (Agr.below hB2))
          have hsz := Dc.sizes_take hy
          have hsz2 := t.size_eq
          have hsz3 := Dc.sizes_take_le t.args (j + 1)
          have hsr' : w'.heap.size ≤ (wr.alloc (.cells #[.int .i64 (xk : Int), .string xs, .int .i64 (xi : Int), .slice xA xn xc] 29)).heap.size := by simp; omega
          have hle := hr.le
          clear hr hxy hxy' hc hy hb1 hbr hsr hB2
          go_wp2_with fail
          clear c0 c1 c2 c3
          refine (ih (xk, xs, xi, xA, xn, xc) y _ kk HX.out (hQ t y HQ.out (List.mem_of_getElem? HY.out)) HR.out.i (by omega) (by omega) hM).mono ?_
          rintro e w3 ⟨rfl, k3, h1, h2, h3, h4, h5⟩
          have HR3 := Lib.hid (HR.out.step (m' := k + 1 + Dc.sizes (t.args.take (j + 1))) h1 (by omega) h3 h4 h5)
          have HB3 := Lib.hid (HBR.out.trans h3)
          have hs3 : w'.heap.size ≤ w3.heap.size := by omega
          clear h1 h2 h3 h4 h5 HR HBR hsr'
          cases hp : y.all p
          case false =>
            have HY2 := Lib.hid hp
            clear hp
            go_wp2_with fail
            go_ret
            refine ⟨?_, k3, HR3.out.i, by have := HR3.out.le; omega, HR3.out.agr, HR3.out.size, HR3.out.bel⟩
            rw [Dc.all_eq, Dc.alls_false (List.mem_of_getElem? HY.out) HY2.out, Bool.and_false]; rfl
          case true =>
            have HY2 := Lib.hid hp
            clear hp
            go_wp2_with fail
            exact ⟨⟨j + 1, k3, by go_num, by omega, Lib.hid (by rw [Dc.alls_take HY.out, HA.out, HY2.out]; rfl), HR3.out, HB3.out, hs3⟩, by simp [intOf]; omega⟩
        · have HR := Lib.hid hr
          have hsz2 := t.size_eq
          have hsz3 := Dc.sizes_take_le t.args j
          have HJ := Lib.hid (show j = n by omega)
          clear hr
          go_wp2_with fail
          go_ret
          refine ⟨?_, kk, HR.out.i, by have := HR.out.le; omega, HR.out.agr, HR.out.size, HR.out.bel⟩
          have h1 := HA.out
          rw [List.take_of_length_le (by have := HS.out.len; have := HJ.out; omega)] at h1
          rw [Dc.all_eq, HP.out, h1]; rfl

def IdxP (w : World) (xs : List Int) (v : Int) (e : Ending) (w' : World) : Prop := ∃ r : Int, e = .returned (.int .i64 r) ∧ (0 ≤ r ↔ v ∈ xs) ∧ w' = w
set_option maxRecDepth 100000 in
set_option maxHeartbeats 1000000 in
theorem index_c (A : Option Addr) (n c : Nat) (xs : List Int) (v : Int) (w : World) (h : Ints w A n c xs) (hn : n ≤ 1000000) :
    Calls Tryd.prog 85 #[.slice A n c, .int .i64 v] w (IdxP w xs v) := by
  have H := Lib.hid h
  clear h
  go_enter Tryd.func85, Tryd.ntmps85
  go_wp2_with fail
  go_loopw [8] (fun i wr => ∃ k : Nat, i = .int .i64 k ∧ k ≤ n ∧ Hid (∀ j, j < k → xs.getD j 0 ≠ v) ∧ wr = w) (fun i _ => n - (intOf i).toNat)
  case atStart => exact ⟨0, rfl, Nat.zero_le _, Lib.hid (fun j h => by omega), rfl⟩
  case round =>
    obtain ⟨k, rfl, hk, HN, rfl⟩ := hrel
    by_cases hkn : k < n
    · obtain ⟨b1, o1, rfl, hb1, hx⟩ := H.out.at_ hkn
      have i0 : (0 : Int) ≤ (k : Int) := by omega
      have i1 : (k : Int) < (n : Int) := by omega
      obtain ⟨x, hxx⟩ : ∃ x, x = xs.getD k 0 := ⟨_, rfl⟩
      rw [← hxx] at hx
      have HX := Lib.hid hxx
      clear hxx
      by_cases e : v = x
      · have he : (v == x) = true := by simpa using e
        have HE := Lib.hid e
        clear e
        go_wp2_with fail
        go_ret
        refine ⟨k, rfl, ⟨fun _ => ?_, fun _ => by omega⟩, rfl⟩
        have hl := H.out.len
        rw [HE.out, HX.out, List.getD_eq_getElem?_getD, List.getElem?_eq_getElem (by omega)]
        exact List.getElem_mem _
      · have he : (v == x) = false := by simpa using e
        have HE := Lib.hid e
        clear e
        go_wp2_with fail
        refine ⟨⟨k + 1, by go_num, by omega, Lib.hid fun j hj => ?_, by trivial⟩, by simp [intOf]; omega⟩
        by_cases e2 : j = k
        · rw [e2, ← HX.out]; exact fun h => HE.out h.symm
        · exact HN.out j (by omega)
    · go_wp2_with fail
      go_ret
      refine ⟨-1, rfl, ⟨fun h => by omega, fun h => ?_⟩, rfl⟩
      exfalso
      obtain ⟨j, hj, e⟩ := List.getElem_of_mem h
      have hl := H.out.len
      refine HN.out j (by omega) ?_
      rw [List.getD_eq_getElem?_getD, List.getElem?_eq_getElem hj, e]; rfl
set_option maxRecDepth 100000 in
set_option maxHeartbeats 1000000 in
theorem contains_i (A : Option Addr) (n c : Nat) (xs : List Int) (v : Int) (w : World) (h : Ints w A n c xs) (hn : n ≤ 1000000) :
    Calls Tryd.prog 68 #[.slice A n c, .int .i64 v] w fun e w' => e = .returned (.bool (decide (v ∈ xs))) ∧ w' = w := by
  have H := Lib.hid h
  clear h
  go_enter Tryd.func68, Tryd.ntmps68
  go_wp2_with fail
  refine (index_c A n c xs v w H.out hn).mono ?_
  rintro e w' ⟨r, rfl, hr, rfl⟩
  have HR := Lib.hid hr
  clear hr
  go_wp2_with fail
  go_ret
  refine ⟨?_, rfl⟩
  rw [show decide (v ∈ xs) = decide (0 ≤ r) from decide_eq_decide.2 HR.out.symm]
  rfl
end Go.Proofs.YtbhenicldddlfaaDoor




namespace Go.Proofs.YtbhenicldddlfaaDoor
open Go.RowKit

theorem enters_c {P : Program} {f : FuncId} {fn : Func} {c : Code} (hf : P.funcs[f]? = some fn) (hname : (fn.name == "runtime.NumGoroutine") = false) (hb : fn.body = some c) : ∀ (args : Array Value) (w : World), (callFunc f args).run P w = .ok (.enter f args) w := by
  intro args w
  have h1 : fn.name ≠ "runtime.NumGoroutine" := by simpa using hname
  simp [callFunc, hf, h1, hb, mark]

set_option maxRecDepth 100000 in
set_option maxHeartbeats 1000000 in
theorem odd_c (x : Int) (w : World) (h1 : 32 ≤ x) (h2 : x ≤ 126) : Calls Tryd.prog 66 #[.int .i32 x] w fun e w' => e = .returned (.bool false) ∧ w = w' := by
  have k1 : decide (x < 32) = false := by simp; omega
  have k2 : decide (x > 126) = false := by simp; omega
  go_enter Tryd.func66, Tryd.ntmps66
  go_wp2_with fail
  go_ret
  exact ⟨rfl, rfl⟩

def IdxF (w : World) (e : Ending) (w' : World) : Prop := e = .returned (.int .i64 (-1)) ∧ Below w.heap.size w w'
set_option maxRecDepth 100000 in
set_option maxRecDepth 100000 in
set_option maxHeartbeats 1000000 in
theorem indexFunc_c (s : ByteArray) (w : World) (h : TextOk s) : Calls Tryd.prog 84 #[.string s, .func (.func 66) #[] #[], .bool true] w (IdxF w) := by
  have H := Lib.hid h
  clear h
  go_enter Tryd.func84, Tryd.ntmps84
  go_wp2_with fail
  go_loopw [7] (fun _ wr => ∃ pos : Nat, wr = w.iter s pos) (fun _ wr => s.size - wr.iterPos w.heap.size)
  case atStart => exact ⟨0, rfl⟩
  case round =>
    obtain ⟨pos, rfl⟩ := hrel
    by_cases hp : pos < s.size
    · have hb := H.out.2 (s[pos]'hp) (by simp [ByteArray.getElem_eq_getElem_data])
      have hnx : ∀ ty, (Instr.next (.pointer (some ⟨w.heap.size, 0, none⟩)) true ty).run Tryd.prog (w.iter s pos) = _ := fun ty => run_next_ascii w s pos ty hp (by omega)
      generalize hx : (s[pos]'hp).toNat = x at *
      have HX := Lib.hid hx
      clear hx
      have x1 : (32 : Int) ≤ (x : Int) := by omega
      have x2 : (x : Int) ≤ 126 := by omega
      go_wp2_with fail
      refine (odd_c (x : Int) _ x1 x2).mono ?_
      rintro e w' ⟨rfl, rfl⟩
      go_wp2_with fail
      go_roundw
      case rel => exact ⟨pos + 1, rfl⟩
      case measure => simp; omega
    · have hnx : ∀ ty, (Instr.next (.pointer (some ⟨w.heap.size, 0, none⟩)) true ty).run Tryd.prog (w.iter s pos) = _ := fun ty => run_next_end w s pos ty hp
      go_wp2_with fail
      go_ret
      exact ⟨rfl, (Below.refl _ _).alloc (Nat.le_refl _) _⟩
theorem IndexFunc_c (s : ByteArray) (w : World) (h : TextOk s) : Calls Tryd.prog 65 #[.string s, .func (.func 66) #[] #[]] w (IdxF w) := by
  have H := Lib.hid h
  clear h
  go_enter Tryd.func65, Tryd.ntmps65
  go_wp2_with fail
  refine (indexFunc_c s w H.out).mono ?_
  rintro e w' ⟨rfl, hb⟩
  have HB := Lib.hid hb
  clear hb
  go_wp2_with fail
  go_ret
  exact ⟨rfl, HB.out⟩

/-! ### sound -/
def SndP (w : World) (e : Ending) (w' : World) : Prop := e = .returned (.bool true) ∧ Below w.heap.size w w'
set_option maxRecDepth 100000 in
set_option maxHeartbeats 4000000 in
theorem sound_c (ok : Nat → Prop) (v : DcV) (t : Dc) (w : World) (hT : DcR ok w v t) (ht : t.Ok) :
    Calls Tryd.prog 43 #[dcVal v] w (SndP w) := by
  obtain ⟨a, s, b, A, n, c⟩ := v
  obtain ⟨h1, h2, h3, hS⟩ := hT.parts
  simp only at h1 h2 h3 hS
  have hn := hS.len
  subst h1 h2 h3
  simp only [dcVal]
  have B0 := Blk.new w 29 #[.int .i64 (t.kind : Int), .string t.text, .int .i64 (t.ind : Int), .slice A n c]
  have HB := Lib.hid ((Below.refl w.heap.size w).al (.cells #[.int .i64 (t.kind : Int), .string t.text, .int .i64 (t.ind : Int), .slice A n c] 29))
  clear hS hT
  cases ht with
  | text s h =>
    simp only [Dc.kind, Dc.text, Dc.ind, Dc.args, List.length_nil] at *
    have h60 := h.1
    have HTX := Lib.hid h
    subst hn
    have hk : decide ((s.size : Int) ≤ 60) = true := by simp; omega
    clear h
    go_enter Tryd.func43, Tryd.ntmps43
    go_wp2_with fail
    refine (IndexFunc_c s _ HTX.out).mono ?_
    rintro e w' ⟨rfl, hb⟩
    have HB1 := Lib.hid (HB.out.via hb)
    have B1 := B0.via hb
    clear hb B0 HB
    have cB1 := B1.cell
    have fB1 := B1.frozen
    have lB1 := B1.lt
    go_wp2_with fail
    go_ret
    exact ⟨rfl, HB1.out⟩
  | line k hk1 hk3 =>
    simp only [Dc.kind, Dc.text, Dc.ind, Dc.args, List.length_nil] at *
    subst hn
    have hb0 : ((k : Int) == 0) = false := by simp; omega
    have hb4 : ((k : Int) == 4) = false := by simp; omega
    have hb5 : ((k : Int) == 5) = false := by simp; omega
    have hb6 : ((k : Int) == 6) = false := by simp; omega
    have i0 : (0 : Int) ≤ (k : Int) := by omega
    have i1 : (k : Int) ≤ 6 := by omega
    have cB0 := B0.cell
    have fB0 := B0.frozen
    have lB0 := B0.lt
    go_enter Tryd.func43, Tryd.ntmps43
    go_wp2_with fail
    go_ret
    exact ⟨rfl, HB.out⟩
  | cat ks h =>
    simp only [Dc.kind, Dc.text, Dc.ind, Dc.args] at *
    clear hn h
    have cB0 := B0.cell
    have fB0 := B0.frozen
    have lB0 := B0.lt
    go_enter Tryd.func43, Tryd.ntmps43
    go_wp2_with fail
    go_ret
    exact ⟨rfl, HB.out⟩
  | nest m t hm h =>
    simp only [Dc.kind, Dc.text, Dc.ind, Dc.args, List.length_singleton] at *
    subst hn
    have i0 : (0 : Int) ≤ (m : Int) := by omega
    have i1 : (m : Int) ≤ 20 := by omega
    clear h
    have cB0 := B0.cell
    have fB0 := B0.frozen
    have lB0 := B0.lt
    go_enter Tryd.func43, Tryd.ntmps43
    go_wp2_with fail
    go_ret
    exact ⟨rfl, HB.out⟩
  | group t h =>
    simp only [Dc.kind, Dc.text, Dc.ind, Dc.args, List.length_singleton] at *
    subst hn
    clear h
    have cB0 := B0.cell
    have fB0 := B0.frozen
    have lB0 := B0.lt
    go_enter Tryd.func43, Tryd.ntmps43
    go_wp2_with fail
    go_ret
    exact ⟨rfl, HB.out⟩

theorem Blk.new1 (w : World) (o : Obj) (t : TypeId) (cs : Array Value) : Blk ((w.alloc o).alloc (.cells cs t)) (w.heap.size + 1) t cs := by
  have := Blk.new (w.alloc o) t cs; simpa using this
/-! ### has -/
def hasB (ks : List Int) (t : Dc) : Bool := !(t.all fun x => !decide ((x.kind : Int) ∈ ks))
/-- what has's closure sees -/
def KindsI (bk : Nat) (A : Option Addr) (n c : Nat) (ks : List Int) (_ : Nat) (w : World) : Prop := Blk w bk 22 #[.slice A n c] ∧ Ints w A n c ks
set_option maxRecDepth 100000 in
set_option maxHeartbeats 1000000 in
theorem has1_c (bk : Nat) (A : Option Addr) (n c : Nat) (ks : List Int) (hn : n ≤ 1000000) (ok : Nat → Prop) (k : Nat) (w : World) (v : DcV) (x : Dc) (lo : Nat) (hlo : lo ≤ w.heap.size) (hI : KindsI bk A n c ks k w) (hT : DcR ok w v x) :
    Calls Tryd.prog 67 #[dcVal v, .pointer (some ⟨bk, 0, none⟩)] w (VisD lo (fun _ => False) (KindsI bk A n c ks) (!decide ((x.kind : Int) ∈ ks)) (k + 1) w) := by
  obtain ⟨a, s, b, B, m, d⟩ := v
  have h1 := hT.parts.1
  simp only at h1
  subst h1
  have hB := (Below.refl w.heap.size w).al (.cells #[.int .i64 (x.kind : Int), .string s, .int .i64 (b : Int), .slice B m d] 29)
  have B0 := Blk.new w 29 #[.int .i64 (x.kind : Int), .string s, .int .i64 (b : Int), .slice B m d]
  have Bk := hI.1.via hB
  have HK := Lib.hid (hI.2.via hB)
  have HB := Lib.hid hB
  clear hI hT hB
  simp only [dcVal]
  have cB0 := B0.cell
  have fB0 := B0.frozen
  have lB0 := B0.lt
  have cBk := Bk.cell
  have fBk := Bk.frozen
  have lBk := Bk.lt
  go_enter Tryd.func67, Tryd.ntmps67
  go_wp2_with fail
  refine (contains_i A n c ks (x.kind : Int) _ HK.out hn).mono ?_
  rintro e w' ⟨rfl, rfl⟩
  go_wp2_with fail
  go_ret
  exact ⟨rfl, 0, ⟨Bk, HK.out⟩, Nat.zero_le _, Agr.below HB.out, HB.out.size, HB.out.mono hlo⟩
set_option maxRecDepth 100000 in
set_option maxHeartbeats 1000000 in
theorem dhas_c (ok : Nat → Prop) (v : DcV) (t : Dc) (A : Option Addr) (n c : Nat) (ks : List Int) (w : World) (hT : DcR ok w v t) (hK : Ints w A n c ks) (hn : n ≤ 1000000) (hs : t.size ≤ 1000000) :
    Calls Tryd.prog 44 #[dcVal v, .slice A n c] w fun e w' => e = .returned (.bool (hasB ks t)) ∧ Below w.heap.size w w' := by
  obtain ⟨a, s, b, B, m, d⟩ := v
  have hB := ((Below.refl w.heap.size w).al (.cells #[.int .i64 (a : Int), .string s, .int .i64 (b : Int), .slice B m d] 29)).al (.cells #[.slice A n c] 22)
  have B0 := (Blk.new w 29 #[.int .i64 (a : Int), .string s, .int .i64 (b : Int), .slice B m d]).al (.cells #[.slice A n c] 22)
  have B1 := Blk.new1 w (.cells #[.int .i64 (a : Int), .string s, .int .i64 (b : Int), .slice B m d] 29) 22 #[.slice A n c]
  have HK := Lib.hid (hK.via hB)
  have HT := Lib.hid (hT.via hB)
  have HB := Lib.hid hB
  clear hT hK hB
  simp only [dcVal]
  have cB0 := B0.cell
  have fB0 := B0.frozen
  have lB0 := B0.lt
  go_enter Tryd.func44, Tryd.ntmps44
  go_wp2_with fail
  clear cB0 fB0 lB0
  clear B0
  have HB1 := Lib.hid B1
  clear B1
  have hz : w.heap.size + 1 ≤ ((w.alloc (.cells #[.int .i64 (a : Int), .string s, .int .i64 (b : Int), .slice B m d] 29)).alloc (.cells #[.slice A n c] 22)).heap.size := by simp
  generalize (w.alloc (.cells #[.int .i64 (a : Int), .string s, .int .i64 (b : Int), .slice B m d] 29)).alloc (.cells #[.slice A n c] 22) = W at *
  refine (walkD_n 67 (enters_c (c := _) (fn := Tryd.f67) rfl (by kernel_rfl) rfl) #[.pointer (some ⟨w.heap.size + 1, 0, none⟩)] ok (fun _ => False) (fun _ _ h => h) (fun k wr => KindsI (w.heap.size + 1) A n c ks k wr ∧ w.heap.size ≤ wr.heap.size)
    w.heap.size (fun _ _ h => h.2) (fun _ _ _ h hb => ⟨⟨h.1.1.via hb, h.1.2.via hb⟩, Nat.le_trans h.2 hb.size⟩) (fun _ _ _ _ h => h.elim) t.size (fun _ => True) (fun _ _ _ _ => trivial) (fun x => !decide ((x.kind : Int) ∈ ks))
    (fun k wr v x _ hI _ hx => (has1_c _ A n c ks hn ok k wr v x w.heap.size hI.2 hI.1 hx).mono fun _ _ ⟨h1, k1, h2, h3, h4, h5, h6⟩ => ⟨h1, k1, ⟨h2, Nat.le_trans hI.2 h5⟩, h3, h4, h5, h6⟩) t.size (a, s, b, B, m, d) t W 0 HT.out trivial ⟨⟨HB1.out, HK.out⟩, by omega⟩ (Nat.le_refl _) (by omega) hs).mono ?_
  rintro e w' ⟨rfl, k, -, -, -, -, h5⟩
  have HF := Lib.hid (HB.out.trans h5)
  clear h5
  go_wp2_with fail
  go_ret
  exact ⟨rfl, HF.out⟩

/-! ### Check -/
def CntI (bn : Nat) (k : Nat) (w : World) : Prop := Blk w bn 3 #[.int .i64 (k : Int)]
set_option maxRecDepth 100000 in
set_option maxHeartbeats 1000000 in
theorem check1_c (bn : Nat) (k : Nat) (w : World) (v : DcV) (hk : k < 400) (lo : Nat) (hlo : lo ≤ bn) (hI : CntI bn k w) :
    Calls Tryd.prog 42 #[dcVal v, .pointer (some ⟨bn, 0, none⟩)] w (VisD lo (fun b => b = bn) (CntI bn) true (k + 1) w) := by
  obtain ⟨a, s, b, B, m, d⟩ := v
  have hlt := Lib.hid (show bn < w.heap.size from Blk.lt hI)
  have hB := (Below.refl w.heap.size w).al (.cells #[.int .i64 (a : Int), .string s, .int .i64 (b : Int), .slice B m d] 29)
  have Bk : Blk _ bn 3 #[.int .i64 (k : Int)] := Blk.via hI hB
  have HB := Lib.hid hB
  clear hI hB
  simp only [dcVal]
  have hk1 : decide ((k : Int) + 1 ≤ 400) = true := by simp; omega
  have cBk := Bk.cell
  have fBk := Bk.frozen
  have lBk := Bk.lt
  go_enter Tryd.func42, Tryd.ntmps42
  go_wp2_with fail
  go_ret
  refine ⟨rfl, k + 1, ?_, Nat.le_refl _, ?_, by simp, ?_⟩
  · have := Bk.set_ 0 (.int .i64 ((k : Int) + 1)); simpa [CntI] using this
  · exact (Agr.below HB.out).trans (Agr.setCell _ fun b hb => hb)
  · exact (HB.out.mono (Nat.le_of_lt (Nat.lt_of_le_of_lt hlo hlt.out))).setCell hlo _

def CheckP (w : World) (e : Ending) (w' : World) : Prop := e = .returned (.int .i64 0) ∧ Below w.heap.size w w'
set_option maxRecDepth 100000 in
set_option maxHeartbeats 1000000 in
theorem dcheck_c (ok : Nat → Prop) (v : DcV) (t : Dc) (w : World) (hT : DcR ok w v t) (ht : t.Ok) (hs : t.size ≤ 400) :
    Calls Tryd.prog 25 #[dcVal v] w (CheckP w) := by
  obtain ⟨a, s, b, B, m, d⟩ := v
  have hB := ((Below.refl w.heap.size w).al (.cells #[.int .i64 (a : Int), .string s, .int .i64 (b : Int), .slice B m d] 29)).al (.cells #[.int .i64 0] 3)
  have B0 := (Blk.new w 29 #[.int .i64 (a : Int), .string s, .int .i64 (b : Int), .slice B m d]).al (.cells #[.int .i64 0] 3)
  have B1 := Blk.new1 w (.cells #[.int .i64 (a : Int), .string s, .int .i64 (b : Int), .slice B m d] 29) 3 #[.int .i64 0]
  have HT := Lib.hid (hT.mono (ok' := fun b => ok b ∧ b < w.heap.size) (fun b h1 h2 => ⟨h2, h1⟩) |>.via hB)
  have HB := Lib.hid hB
  clear hT hB
  simp only [dcVal]
  have cB0 := B0.cell
  have fB0 := B0.frozen
  have lB0 := B0.lt
  go_enter Tryd.func25, Tryd.ntmps25
  go_wp2_with fail
  clear cB0 fB0 lB0
  have HB0 := Lib.hid B0
  have HB1 := Lib.hid B1
  clear B0 B1
  have hz : w.heap.size + 2 ≤ ((w.alloc (.cells #[.int .i64 (a : Int), .string s, .int .i64 (b : Int), .slice B m d] 29)).alloc (.cells #[.int .i64 0] 3)).heap.size := by simp
  generalize (w.alloc (.cells #[.int .i64 (a : Int), .string s, .int .i64 (b : Int), .slice B m d] 29)).alloc (.cells #[.int .i64 0] 3) = W at *
  refine (walkD_n 42 (enters_c (c := _) (fn := Tryd.f42) rfl (by kernel_rfl) rfl) #[.pointer (some ⟨w.heap.size + 1, 0, none⟩)] (fun b => ok b ∧ b < w.heap.size) (fun b => b = w.heap.size + 1) (fun b h e => by omega) (CntI (w.heap.size + 1))
    w.heap.size (fun _ _ h => Nat.le_of_lt (Nat.lt_of_succ_lt (Blk.lt h))) (fun _ _ _ h hb => Blk.via h hb) (fun _ _ h b e => by have := Blk.lt h; omega) 400 (fun _ => True) (fun _ _ _ _ => trivial) (fun _ => true)
    (fun k wr v x hk hI _ hx => check1_c _ k wr v hk w.heap.size (Nat.le_succ _) hI) t.size (a, s, b, B, m, d) t W 0 HT.out trivial HB1.out (Nat.le_refl _) (by omega) (by omega)).mono ?_
  rintro e w1 ⟨rfl, k, h1, h2, h3, h4, h5⟩
  rw [Dc.all_true (Q := fun _ => True) (fun _ _ _ _ => trivial) (fun _ _ => rfl) t trivial]
  have B0 := (h3 _ (by show ¬ (w.heap.size = w.heap.size + 1); omega) HB0.out.lt).trans HB0.out
  have HT1 := Lib.hid (HT.out.agr (h3.mono fun b h => by show ¬ b = _; omega))
  have HB2 := Lib.hid (HB.out.trans h5)
  clear h1 h2 h3 h4 h5 HB1 HB0 HT HB
  replace B0 : Blk w1 w.heap.size 29 #[.int .i64 (a : Int), .string s, .int .i64 (b : Int), .slice B m d] := B0
  have cB0 := B0.cell
  have fB0 := B0.frozen
  have lB0 := B0.lt
  go_wp2_with fail
  clear cB0 fB0 lB0
  have hz1 := B0.lt
  refine (walkD_n 43 (enters_c (c := _) (fn := Tryd.f43) rfl (by kernel_rfl) rfl) #[] (fun b => ok b ∧ b < w.heap.size) (fun _ => False) (fun _ _ h => h) (fun _ wr => w.heap.size ≤ wr.heap.size)
    w.heap.size (fun _ _ h => h) (fun _ _ _ h hb => Nat.le_trans h hb.size) (fun _ _ _ _ h => h.elim) 400 Dc.Ok (fun t x h hx => h.arg x hx) (fun _ => true)
    (fun k wr v x _ hI hq hx => (sound_c _ v x wr hx hq).mono fun _ _ ⟨h1, h2⟩ => ⟨h1, 0, Nat.le_trans hI h2.size, Nat.zero_le _, Agr.below h2, h2.size, h2.mono hI⟩) t.size (a, s, b, B, m, d) t w1 0 HT1.out ht (Nat.le_of_lt hz1) (Nat.le_refl _) (by omega) (by omega)).mono ?_
  rintro e w2 ⟨rfl, k, -, -, -, -, h5⟩
  rw [Dc.all_true (Q := fun _ => True) (fun _ _ _ _ => trivial) (fun _ _ => rfl) t trivial]
  have HB3 := Lib.hid (HB2.out.trans h5)
  clear h5 B0
  go_wp2_with fail
  go_ret
  exact ⟨rfl, HB3.out⟩
end Go.Proofs.YtbhenicldddlfaaDoor



namespace Go.Proofs.YtbhenicldddlfaaDoor
open Go.RowKit

mutual
def Dc.flat : Dc → ByteArray
  | .node kd s _ ks => if kd = 0 then s else if kd = 1 then ⟨#[32]⟩ else Dc.flats ks
def Dc.flats : List Dc → ByteArray
  | [] => ⟨#[]⟩
  | t :: ts => t.flat ++ Dc.flats ts
end
theorem ba_nil_append (a : ByteArray) : (⟨#[]⟩ : ByteArray) ++ a = a := ByteArray.empty_append
theorem ba_append_nil (a : ByteArray) : a ++ (⟨#[]⟩ : ByteArray) = a := ByteArray.append_empty
theorem Dc.flats_append (a b : List Dc) : Dc.flats (a ++ b) = Dc.flats a ++ Dc.flats b := by
  induction a with
  | nil => simp [Dc.flats, ba_nil_append]
  | cons t ts ih => simp only [List.cons_append, Dc.flats, ih, ByteArray.append_assoc]
theorem Dc.flats_take {ks : List Dc} {k : Nat} {t : Dc} (h : ks[k]? = some t) : Dc.flats (ks.take (k + 1)) = Dc.flats (ks.take k) ++ t.flat := by
  have hl := List.getElem?_eq_some_iff.1 h
  rw [List.take_succ_eq_append_getElem hl.1, hl.2, Dc.flats_append]
  simp [Dc.flats, ba_append_nil]
mutual
theorem Dc.flat_size (t : Dc) (h : t.Ok) : t.flat.size ≤ 60 * t.size := by
  cases t with
  | node kd s i ks =>
    have hk := Dc.flats_size ks fun x hx => h.arg x hx
    simp only [Dc.flat, Dc.size]
    split
    · rename_i h0
      subst h0
      cases h with
      | text s h => have := h.1; omega
      | line k h1 h3 => omega
    · split
      · have : (⟨#[32]⟩ : ByteArray).size = 1 := rfl
        omega
      · omega
theorem Dc.flats_size (ks : List Dc) (h : ∀ x ∈ ks, Dc.Ok x) : (Dc.flats ks).size ≤ 60 * Dc.sizes ks := by
  cases ks with
  | nil => exact Nat.zero_le _
  | cons t ts =>
    have h1 := Dc.flat_size t (h t (List.mem_cons_self ..))
    have h2 := Dc.flats_size ts fun x hx => h x (List.mem_cons_of_mem _ hx)
    simp only [Dc.flats, Dc.sizes, ByteArray.size_append]; omega
end
theorem Dc.flat_eq {t : Dc} (h0 : t.kind ≠ 0) (h1 : t.kind ≠ 1) : t.flat = Dc.flats t.args := by
  cases t; simp only [Dc.kind, Dc.args] at *; simp [Dc.flat, h0, h1]
theorem Dc.flat_0 {t : Dc} (h0 : t.kind = 0) : t.flat = t.text := by
  cases t; simp only [Dc.kind, Dc.text] at *; simp [Dc.flat, h0]
theorem Dc.flat_1 {t : Dc} (h0 : t.kind = 1) : t.flat = ⟨#[32]⟩ := by
  cases t; simp only [Dc.kind] at *; simp [Dc.flat, h0]

def StrP (s : ByteArray) (w : World) (e : Ending) (w' : World) : Prop := e = .returned (.string s) ∧ Below w.heap.size w w'
set_option maxRecDepth 100000 in
set_option maxHeartbeats 4000000 in
theorem flat_n (ok : Nat → Prop) (N : Nat) : ∀ (v : DcV) (t : Dc) (w : World), DcR ok w v t → t.Ok → t.size ≤ N → N ≤ 1000000 →
    Calls Tryd.prog 45 #[dcVal v] w (StrP t.flat w) := by
  induction N with
  | zero => intro v t w _ _ h; have := t.size_pos; omega
  | succ N ih =>
    intro v t w hT ho hN hM
    obtain ⟨a, s, b, A, n, c⟩ := v
    obtain ⟨h1, h2, h3, hS⟩ := hT.parts
    simp only at h1 h2 h3 hS
    subst h1 h2 h3
    simp only [dcVal]
    have hB := (Below.refl w.heap.size w).al (.cells #[.int .i64 (t.kind : Int), .string t.text, .int .i64 (t.ind : Int), .slice A n c] 29)
    have B0 := Blk.new w 29 #[.int .i64 (t.kind : Int), .string t.text, .int .i64 (t.ind : Int), .slice A n c]
    have HS := Lib.hid (hS.via hB)
    have HB := Lib.hid hB
    have HO := Lib.hid ho
    have hps := t.size_pos
    have hln : n < t.size := by rw [← hS.len]; exact t.args_len
    clear hT hS hB ho
    by_cases hk0 : t.kind = 0
    · have HK := Lib.hid hk0
      have hb0 : ((t.kind : Int) == 0) = true := by simp; omega
      clear hk0
      have cB0 := B0.cell
      have fB0 := B0.frozen
      have lB0 := B0.lt
      go_enter Tryd.func45, Tryd.ntmps45
      go_wp2_with fail
      go_ret
      exact ⟨by rw [Dc.flat_0 HK.out]; rfl, HB.out⟩
    by_cases hk1 : t.kind = 1
    · have HK := Lib.hid hk1
      have hb0 : ((t.kind : Int) == 0) = false := by simp; omega
      have hb1 : ((t.kind : Int) == 1) = true := by simp; omega
      clear hk0 hk1
      have cB0 := B0.cell
      have fB0 := B0.frozen
      have lB0 := B0.lt
      go_enter Tryd.func45, Tryd.ntmps45
      go_wp2_with fail
      go_ret
      exact ⟨by rw [Dc.flat_1 HK.out]; rfl, HB.out⟩
    have hb0 : ((t.kind : Int) == 0) = false := by simp; omega
    have hb1 : ((t.kind : Int) == 1) = false := by simp; omega
    have HK0 := Lib.hid hk0
    have HK1 := Lib.hid hk1
    clear hk0 hk1
    have cB0 := B0.cell
    have fB0 := B0.frozen
    have lB0 := B0.lt
    go_enter Tryd.func45, Tryd.ntmps45
    go_wp2_with fail
    clear cB0 fB0 lB0
    clear B0
    generalize w.alloc (.cells #[.int .i64 (t.kind : Int), .string t.text, .int .i64 (t.ind : Int), .slice A n c] 29) = W at *
    go_loopw [17, 3] (fun i o wr => ∃ k : Nat, i = .int .i64 k ∧ k ≤ n ∧ o = .string (Dc.flats (t.args.take k)) ∧ Below W.heap.size W wr) (fun i _ _ => n - (intOf i).toNat)
    case atStart => exact ⟨0, rfl, Nat.zero_le _, rfl, Below.refl _ _⟩
    case round =>
      obtain ⟨k, rfl, hk, rfl, hb⟩ := hrel
      have HBR := Lib.hid hb
      clear hb
      by_cases hlt : k < n
      · obtain ⟨b1, o1, ⟨xk, xs, xi, xA, xn, xc⟩, y, rfl, -, hb1, hy, hxy, hc⟩ := (HS.out.via HBR.out).at_ hlt
        have hxy' : DcR ok wr (xk, xs, xi, xA, xn, xc) y := hxy
        have c0 := hc 0 _ rfl
        have c1 := hc 1 _ rfl
        have c2 := hc 2 _ rfl
        have c3 := hc 3 _ rfl
        simp only [DcE, Nat.add_zero] at c0 c1 c2 c3
        have i0 : (0 : Int) ≤ (k : Int) := by omega
        have i1 : (k : Int) < (n : Int) := by omega
        have hBx := (Below.refl wr.heap.size wr).al (.cells #[.int .i64 (xk : Int), .string xs, .int .i64 (xi : Int), .slice xA xn xc] 29)
        have HBX := Lib.hid hBx
        have HX := Lib.hid (hxy'.via hBx)
        have hym := List.mem_of_getElem? hy
        have hsz := Dc.size_arg hym
        have HOY := Lib.hid (HO.out.arg y hym)
        have hs1 := Dc.flats_size (t.args.take k) fun x hx => HO.out.arg x (List.mem_of_mem_take hx)
        have hs2 := Dc.sizes_take_le t.args k
        have hs3 := t.size_eq
        have hs4 := Dc.flat_size y HOY.out
        have HF := Lib.hid (Dc.flats_take hy)
        generalize Dc.flats (t.args.take k) = out at *
        have hso : out.size ≤ 60000000 := by omega
        have hsy : y.flat.size ≤ 60000000 := by omega
        clear hc hxy hxy' hy hb1 hBx hym hs1 hs2 hs3 hs4
        go_wp2_with fail
        clear c0 c1 c2 c3
        refine (ih (xk, xs, xi, xA, xn, xc) y _ HX.out HOY.out (by omega) (by omega)).mono ?_
        rintro e w3 ⟨rfl, hb3⟩
        have HF3 := Lib.hid ((HBR.out.via HBX.out).via hb3)
        generalize y.flat = fy at *
        clear hb3
        go_wp2_with fail
        exact ⟨⟨k + 1, by go_num, by omega, by rw [HF.out], HF3.out⟩, by simp [intOf]; omega⟩
      · have HF := Lib.hid (HB.out.via HBR.out)
        have HKN := Lib.hid (show k = n by omega)
        go_wp2_with fail
        go_ret
        refine ⟨?_, HF.out⟩
        rw [Dc.flat_eq HK0.out HK1.out, List.take_of_length_le (by have := HS.out.len; have := HKN.out; omega)]; rfl

/-- what Flat returns of a valid document -/
def FlatP (t : Dc) (w : World) (e : Ending) (w' : World) : Prop := e = .returned (if hasB [3] t then .tuple #[.string ⟨#[]⟩, .int .i64 5] else .tuple #[.string t.flat, .int .i64 0]) ∧ Below w.heap.size w w'
end Go.Proofs.YtbhenicldddlfaaDoor

