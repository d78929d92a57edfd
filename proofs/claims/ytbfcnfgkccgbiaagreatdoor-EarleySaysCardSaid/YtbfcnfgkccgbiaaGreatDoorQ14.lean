/- Texts JA, SB, BD, laid together. -/
import Derived.Test.YtbfcnfgkccgbiaaGreatDoorQ6
import Derived.Test.YtbfcnfgkccgbiaaGreatDoorQ10
import Derived.Test.YtbfcnfgkccgbiaaGreatDoorQ11
import Derived.Test.YtbfcnfgkccgbiaaGreatDoorQ13
import Derived.Test.YtbfcnfgkccgbiaaGreatDoorQ5


namespace Go.Proofs.YtbfcnfgkccgbiaaGreatDoor
open Go.RowKit

/-! ### symbols and rules of any numbers -/
abbrev Ci := Bool × Int
def SiE : Elem Ci Ci where
  k := 2
  cells s := [.bool s.1, .int .i64 s.2]
  rel _ _ r x := r = x
  pos := by omega
  len _ := rfl
  one r u hu := by simp at hu; rcases hu with rfl | rfl <;> rfl
  agr h _ := h
  mono h _ := h
abbrev Ri := Int × List Ci
def RiE : Elem Ri (Int × SlV) where
  k := 2
  cells r := [.int .i64 r.1, .slice r.2.1 r.2.2.1 r.2.2.2]
  rel ok w r x := r.1 = x.1 ∧ Sl SiE ok w r.2.1 r.2.2.1 r.2.2.2 x.2
  pos := by omega
  len _ := rfl
  one r u hu := by simp at hu; rcases hu with rfl | rfl <;> rfl
  agr h k := ⟨h.1, h.2.agr k⟩
  mono h k := ⟨h.1, h.2.mono k⟩
def siVal (s : Ci) : Value := .agg #[.bool s.1, .int .i64 s.2]
def riVal (r : Int × SlV) : Value := .agg #[.int .i64 r.1, .slice r.2.1 r.2.2.1 r.2.2.2]
/-! ### what Check answers -/
def okSi (T N : Int) (s : Ci) : Bool := decide (0 ≤ s.2) && ((s.1 && decide (s.2 < T)) || (!s.1 && decide (s.2 < N)))
/-- the rules one after the other; those that have passed: done -/
def chkL (T N : Int) (done : List Ri) : List Ri → Int
  | [] => 0
  | r :: rs =>
    if ¬ (0 ≤ r.1 ∧ r.1 < N) then 3
    else if 4 < r.2.length then 2
    else if (r.2.any fun s => !okSi T N s) = true then 3
    else if r ∈ done then 6
    else chkL T N (done ++ [r]) rs
def chkG (T N S : Int) (rs : List Ri) : Int :=
  if ¬ (1 ≤ T ∧ T ≤ 8 ∧ 1 ≤ N ∧ N ≤ 10 ∧ 0 ≤ S ∧ S < N) then 1 else if 32 < rs.length then 2 else chkL T N [] rs
/-! ### order -/
def ordC (a b : Ci) : Int := if a.1 = b.1 then cmpI a.2 b.2 else if a.1 then -1 else 1
theorem ordC_zero {a b : Ci} : ordC a b = 0 ↔ a = b := by
  obtain ⟨x, m⟩ := a
  obtain ⟨y, n⟩ := b
  unfold ordC
  by_cases e : x = y
  · subst e; simp only [if_true]; rw [cmpI_zero]; simp
  · rw [if_neg e]
    constructor
    · intro h; split at h <;> omega
    · intro h; exact absurd (congrArg Prod.fst h) e
def cmpC : List Ci → List Ci → Int
  | [], [] => 0
  | [], _ :: _ => -1
  | _ :: _, [] => 1
  | x :: xs, y :: ys => if ordC x y = 0 then cmpC xs ys else ordC x y
theorem cmpC_zero : ∀ {a b : List Ci}, cmpC a b = 0 ↔ a = b
  | [], [] => by simp [cmpC]
  | [], _ :: _ => by simp [cmpC]
  | _ :: _, [] => by simp [cmpC]
  | x :: xs, y :: ys => by
    rw [cmpC]
    by_cases e : ordC x y = 0
    · rw [if_pos e, cmpC_zero (a := xs) (b := ys), ordC_zero.1 e]; simp
    · rw [if_neg e]
      constructor
      · intro h; exact absurd h e
      · intro h; exact absurd (ordC_zero.2 (List.cons.inj h).1) e
def cmpRi (a b : Ri) : Int := orL [cmpI a.1 b.1, cmpC a.2 b.2]
theorem cmpRi_zero {a b : Ri} : cmpRi a b = 0 ↔ a = b := by
  obtain ⟨x, l⟩ := a
  obtain ⟨y, m⟩ := b
  unfold cmpRi
  simp only [orL]
  by_cases e : cmpI x y = 0
  · rw [if_pos e]
    have h := cmpI_zero.1 e
    subst h
    by_cases e2 : cmpC l m = 0
    · rw [if_pos e2]; simp [cmpC_zero.1 e2]
    · rw [if_neg e2]
      constructor
      · intro h; exact absurd h e2
      · intro h; exact absurd (cmpC_zero.2 (congrArg Prod.snd h)) e2
  · rw [if_neg e]
    constructor
    · intro h; exact absurd h e
    · intro h; exact absurd (cmpI_zero.2 (congrArg Prod.fst h)) e
set_option maxRecDepth 100000 in
set_option maxHeartbeats 2000000 in
theorem orderI_c (a b : Ci) (w : World) :
    Calls Tryz.prog 153 #[.agg #[.bool a.1, .int .i64 a.2], .agg #[.bool b.1, .int .i64 b.2]] w (IntO w (ordC a b)) := by
  obtain ⟨x, m⟩ := a
  obtain ⟨y, n⟩ := b
  have HB := Lib.hid (((Below.refl w.heap.size w).al (.cells #[.bool x, .int .i64 m] 66)).al (.cells #[.bool y, .int .i64 n] 66))
  cases x <;> cases y
  · go_enter Tryz.func153, Tryz.ntmps153
    go_wp2_with fail
    refine (cmp_c _ _ _).mono ?_
    rintro e w' ⟨rfl, rfl⟩
    go_wp2_with fail
    go_ret
    exact ⟨by simp [ordC], HB.out⟩
  · go_enter Tryz.func153, Tryz.ntmps153
    go_wp2_with fail
    go_ret
    exact ⟨rfl, HB.out⟩
  · go_enter Tryz.func153, Tryz.ntmps153
    go_wp2_with fail
    go_ret
    exact ⟨rfl, HB.out⟩
  · go_enter Tryz.func153, Tryz.ntmps153
    go_wp2_with fail
    refine (cmp_c _ _ _).mono ?_
    rintro e w' ⟨rfl, rfl⟩
    go_wp2_with fail
    go_ret
    exact ⟨by simp [ordC], HB.out⟩
theorem cmpC_step {xs ys : List Ci} {k : Nat} {x y : Ci} (hx : xs[k]? = some x) (hy : ys[k]? = some y) : cmpC (xs.drop k) (ys.drop k) = if ordC x y = 0 then cmpC (xs.drop (k + 1)) (ys.drop (k + 1)) else ordC x y := by
  have h1 := List.getElem?_eq_some_iff.1 hx
  have h2 := List.getElem?_eq_some_iff.1 hy
  rw [List.drop_eq_getElem_cons h1.1, List.drop_eq_getElem_cons h2.1, cmpC, h1.2, h2.2]
set_option maxRecDepth 100000 in
set_option maxHeartbeats 4000000 in
theorem cmpC_c (ok ok' : Nat → Prop) (A B : Option Addr) (n c m d : Nat) (xs ys : List Ci) (w : World) (h1 : Sl SiE ok w A n c xs) (h2 : Sl SiE ok' w B m d ys) (hn : n ≤ 1000000) :
    Calls Tryz.prog 158 #[.slice A n c, .slice B m d, .func (.func 153) #[] #[]] w (IntO w (cmpC xs ys)) := by
  have H1 := Lib.hid h1
  have H2 := Lib.hid h2
  have L1 := Lib.hid h1.len
  have L2 := Lib.hid h2.len
  clear h1 h2
  go_enter Tryz.func158, Tryz.ntmps158
  go_wp2_with fail
  go_loopw [13] (fun i wr => ∃ k : Nat, i = .int .i64 k ∧ k ≤ n ∧ k ≤ m ∧ Hid (cmpC xs ys = cmpC (xs.drop k) (ys.drop k)) ∧ Below w.heap.size w wr) (fun i _ => n - (intOf i).toNat)
  case atStart => exact ⟨0, rfl, Nat.zero_le _, Nat.zero_le _, Lib.hid rfl, Below.refl _ _⟩
  case round =>
    obtain ⟨k, rfl, hk, hkm, HC, hb⟩ := hrel
    have HB := Lib.hid hb
    clear hb
    by_cases hkn : k < n
    · obtain ⟨b1, o1, sx, sx', rfl, -, hb1, hx, hxx, hc⟩ := (H1.out.via HB.out).at_ hkn
      obtain rfl : sx = sx' := hxx
      have c0 := hc 0 _ rfl
      have c1 := hc 1 _ rfl
      simp only [SiE, Nat.add_zero] at c0 c1
      have i0 : (0 : Int) ≤ (k : Int) := by omega
      have i1 : (k : Int) < (n : Int) := by omega
      by_cases hk2 : k < m
      · obtain ⟨b2, o2, sy, sy', rfl, -, hb2, hy, hyy, hd⟩ := (H2.out.via HB.out).at_ hk2
        obtain rfl : sy = sy' := hyy
        have d0 := hd 0 _ rfl
        have d1 := hd 1 _ rfl
        simp only [SiE, Nat.add_zero] at d0 d1
        have i2 : (k : Int) < (m : Int) := by omega
        have HS := Lib.hid (cmpC_step hx hy)
        have HB2 := Lib.hid ((HB.out.al (.cells #[.bool sx.1, .int .i64 sx.2] 66)).al (.cells #[.bool sy.1, .int .i64 sy.2] 66))
        clear hc hd hx hy
        go_wp2_with fail
        refine (orderI_c sx sy _).mono ?_
        rintro e w' ⟨rfl, hb⟩
        have HF := Lib.hid (HB2.out.via hb)
        clear hb c0 c1 d0 d1
        by_cases he : ordC sx sy = 0
        · rw [he]
          have HE := Lib.hid (HC.out.trans (by rw [HS.out, if_pos he]))
          clear he
          go_wp2_with fail
          exact ⟨⟨k + 1, by go_num, by omega, by omega, HE, HF.out⟩, by simp [intOf]; omega⟩
        · have HE := Lib.hid (HC.out.trans (by rw [HS.out, if_neg he]))
          have hne : (ordC sx sy != 0) = true := by simpa using he
          clear he
          generalize ordC sx sy = q at *
          go_wp2_with fail
          go_ret
          exact ⟨by rw [HE.out]; rfl, HF.out⟩
      · have hv : cmpC xs ys = 1 := by
          rw [HC.out, List.drop_of_length_le (l := ys) (by rw [L2.out]; omega), List.drop_eq_getElem_cons (by rw [L1.out]; exact hkn)]; rfl
        have HV := Lib.hid hv
        have HB2 := Lib.hid (HB.out.al (.cells #[.bool sx.1, .int .i64 sx.2] 66))
        clear hv hc hx
        go_wp2_with fail
        go_ret
        exact ⟨by rw [HV.out]; rfl, HB2.out⟩
    · by_cases hnm : n < m
      · have hv : cmpC xs ys = -1 := by
          rw [HC.out, List.drop_of_length_le (by rw [L1.out]; omega), List.drop_eq_getElem_cons (by rw [L2.out]; omega)]; rfl
        have HV := Lib.hid hv
        clear hv
        go_wp2_with fail
        go_ret
        exact ⟨by rw [HV.out]; rfl, HB.out⟩
      · have hv : cmpC xs ys = 0 := by
          rw [HC.out, List.drop_of_length_le (by rw [L1.out]; omega), List.drop_of_length_le (by rw [L2.out]; omega)]; rfl
        have HV := Lib.hid hv
        clear hv
        go_wp2_with fail
        go_ret
        exact ⟨by rw [HV.out]; rfl, HB.out⟩
set_option maxRecDepth 100000 in
set_option maxHeartbeats 4000000 in
theorem compareI_c (ok ok' : Nat → Prop) (x y : Int) (A B : Option Addr) (n c m d : Nat) (xs ys : List Ci) (w : World) (h1 : Sl SiE ok w A n c xs) (h2 : Sl SiE ok' w B m d ys) (hn : n ≤ 1000000) :
    Calls Tryz.prog 133 #[.agg #[.int .i64 x, .slice A n c], .agg #[.int .i64 y, .slice B m d]] w (IntO w (cmpRi (x, xs) (y, ys))) := by
  have hB := ((Below.refl w.heap.size w).al (.cells #[.int .i64 x, .slice A n c] 97)).al (.cells #[.int .i64 y, .slice B m d] 97)
  have B0 := (Blk.new w 97 #[.int .i64 x, .slice A n c]).al (.cells #[.int .i64 y, .slice B m d] 97)
  have B1 := Blk.new (w.alloc (.cells #[.int .i64 x, .slice A n c] 97)) 97 #[.int .i64 y, .slice B m d]
  rw [World.size_alloc] at B1
  have H1 := Lib.hid (h1.via hB)
  have H2 := Lib.hid (h2.via hB)
  clear h1 h2
  go_enter Tryz.func133, Tryz.ntmps133
  go_upto_region 1 with fail
  generalize (w.alloc (.cells #[.int .i64 x, .slice A n c] 97)).alloc (.cells #[.int .i64 y, .slice B m d] 97) = W at *
  have J1 := Lib.hid (show ∀ w', Below W.heap.size W w' → Sl SiE ok w' A n c xs from fun w' hb => H1.out.via hb)
  have J2 := Lib.hid (show ∀ w', Below W.heap.size W w' → Sl SiE ok' w' B m d ys from fun w' hb => H2.out.via hb)
  have SOF := Lib.hid (show ∀ w', Below W.heap.size W w' → ((∀ i, w'.cell? ⟨w.heap.size, i, none⟩ = #[.int .i64 x, .slice A n c][i]?) ∧ (∀ i, w'.cell? ⟨w.heap.size + 1, i, none⟩ = #[.int .i64 y, .slice B m d][i]?) ∧ Below W.heap.size W w') from fun w' hb => ⟨(B0.via hb).cell, (B1.via hb).cell, hb⟩)
  have HBB := Lib.hid hB
  have hb0 := (Below.refl W.heap.size W).drew
  clear hB H1 H2 B0 B1
  go_region_held3 (fun w' => (∀ i, w'.cell? ⟨w.heap.size, i, none⟩ = #[.int .i64 x, .slice A n c][i]?) ∧ (∀ i, w'.cell? ⟨w.heap.size + 1, i, none⟩ = #[.int .i64 y, .slice B m d][i]?) ∧ Below W.heap.size W w') (exact SOF.out _ (by first | assumption | exact Below.al (by assumption) _)) (first
    | (go_at_call 31; (with_reducible refine (cmp_c _ _ _).mono ?_); rintro ee wk ⟨rfl, rfl⟩)
    | (go_at_call 158; (with_reducible refine (cmpC_c ok ok' A B n c m d xs ys _ (J1.out _ (by assumption)) (J2.out _ (by assumption)) hn).mono ?_); rintro ee wk ⟨rfl, hbk⟩; have hbm : Below W.heap.size W wk := Below.via (by assumption) hbk)
    | (go_at_call 30; (with_reducible refine (or_c (some ⟨_, 0, none⟩) 2 2 [_, _] _ (Ints.two _ _ _ _) (by omega)).mono ?_); rintro ee wk ⟨rfl, rfl⟩))
  have HF := Lib.hid (HBB.out.via (hbm.al (.cells #[.int .i64 (cmpI x y), .int .i64 (cmpC xs ys)] 3)))
  clear hb0 hbm hbk
  go_wp2_with fail
  go_ret
  exact ⟨rfl, HF.out⟩
/-- where the first element is that meets p -/
def IdxFP {α : Type} (p : α → Bool) (xs : List α) (w : World) (e : Ending) (w' : World) : Prop :=
  ∃ r : Int, e = .returned (.int .i64 r) ∧ Below w.heap.size w w' ∧ ((r = -1 ∧ ∀ x ∈ xs, p x = false) ∨ ∃ i : Nat, r = (i : Int) ∧ (∃ x, xs[i]? = some x ∧ p x = true) ∧ ∀ (j : Nat) x, j < i → xs[j]? = some x → p x = false)
set_option maxRecDepth 100000 in
set_option maxHeartbeats 1000000 in
theorem idxSi_c (fid : Nat) (he : ∀ (args : Array Value) (w : World), (callFunc fid args).run Tryz.prog w = .ok (.enter fid args) w) (caps : Array Value) (ok : Nat → Prop) (A : Option Addr) (n c : Nat) (xs : List Ci) (p : Ci → Bool) (w : World) (h : Sl SiE ok w A n c xs) (hn : n ≤ 1000000)
    (hf : ∀ w' r x, Below w.heap.size w w' → x ∈ xs → SiE.rel ok w' r x → Calls Tryz.prog fid (#[siVal r] ++ caps) w' fun e w'' => e = .returned (.bool (p x)) ∧ Below w'.heap.size w' w'') :
    Calls Tryz.prog 157 #[.slice A n c, .func (.func fid) #[] caps] w (IdxFP p xs w) := by
  have H := Lib.hid h
  have HF := Lib.hid hf
  clear h hf
  go_enter Tryz.func157, Tryz.ntmps157
  go_wp2_with fail
  go_loopw [8] (fun i wr => ∃ j : Nat, i = .int .i64 j ∧ j ≤ n ∧ Hid (∀ (k : Nat) x, k < j → xs[k]? = some x → p x = false) ∧ Hid (Below w.heap.size w wr)) (fun i _ => n - (intOf i).toNat)
  case atStart => exact ⟨0, rfl, Nat.zero_le _, Lib.hid (fun k x h => absurd h (Nat.not_lt_zero _)), Lib.hid (Below.refl _ _)⟩
  case round =>
    obtain ⟨j, rfl, hj, HN, HB⟩ := hrel
    by_cases hjl : j < n
    · obtain ⟨b1, o1, ⟨xb, xn⟩, x, rfl, -, hb1, hx, hxr, hc⟩ := (H.out.via HB.out).at_ hjl
      have c0 := hc 0 _ rfl
      have c1 := hc 1 _ rfl
      simp only [SiE, Nat.add_zero] at c0 c1
      have i0 : (0 : Int) ≤ (j : Int) := by omega
      have i1 : (j : Int) < (n : Int) := by omega
      have HX := Lib.hid hx
      have HXR := Lib.hid hxr
      clear hc hx hxr hb1
      go_wp2_with fail
      clear c0 c1
      refine (HF.out wr ⟨xb, xn⟩ x HB.out (List.mem_of_getElem? HX.out) HXR.out).mono ?_
      rintro e w2 ⟨rfl, hb2⟩
      have HB2 := Lib.hid (HB.out.via hb2)
      clear hb2
      cases hp : p x
      case false =>
        have HP := Lib.hid hp
        clear hp
        go_wp2_with fail
        exact ⟨⟨j + 1, by go_num, by omega, Lib.hid (fun k y hk hy => by
          rcases Nat.lt_or_ge k j with h1 | h1
          · exact HN.out k y h1 hy
          · obtain rfl : k = j := by omega
            rw [HX.out] at hy; cases hy; exact HP.out), HB2⟩, by simp [intOf]; omega⟩
      case true =>
        have HP := Lib.hid hp
        clear hp
        go_wp2_with fail
        go_ret
        exact ⟨j, rfl, HB2.out, Or.inr ⟨j, rfl, ⟨x, HX.out, HP.out⟩, HN.out⟩⟩
    · go_wp2_with fail
      go_ret
      exact ⟨-1, rfl, HB.out, Or.inl ⟨rfl, fun x hx => by
        obtain ⟨k, hk⟩ := List.getElem?_of_mem hx
        have := (List.getElem?_eq_some_iff.1 hk).1
        have := H.out.len
        exact HN.out k x (by omega) hk⟩⟩
set_option maxRecDepth 100000 in
set_option maxHeartbeats 1000000 in
theorem idxRi_c (fid : Nat) (he : ∀ (args : Array Value) (w : World), (callFunc fid args).run Tryz.prog w = .ok (.enter fid args) w) (caps : Array Value) (ok : Nat → Prop) (A : Option Addr) (n c : Nat) (xs : List Ri) (p : Ri → Bool) (w : World) (h : Sl RiE ok w A n c xs) (hn : n ≤ 1000000)
    (hf : ∀ w' r x, Below w.heap.size w w' → x ∈ xs → RiE.rel ok w' r x → Calls Tryz.prog fid (#[riVal r] ++ caps) w' fun e w'' => e = .returned (.bool (p x)) ∧ Below w'.heap.size w' w'') :
    Calls Tryz.prog 94 #[.slice A n c, .func (.func fid) #[] caps] w (IdxFP p xs w) := by
  have H := Lib.hid h
  have HF := Lib.hid hf
  clear h hf
  go_enter Tryz.func94, Tryz.ntmps94
  go_wp2_with fail
  go_loopw [8] (fun i wr => ∃ j : Nat, i = .int .i64 j ∧ j ≤ n ∧ Hid (∀ (k : Nat) x, k < j → xs[k]? = some x → p x = false) ∧ Hid (Below w.heap.size w wr)) (fun i _ => n - (intOf i).toNat)
  case atStart => exact ⟨0, rfl, Nat.zero_le _, Lib.hid (fun k x h => absurd h (Nat.not_lt_zero _)), Lib.hid (Below.refl _ _)⟩
  case round =>
    obtain ⟨j, rfl, hj, HN, HB⟩ := hrel
    by_cases hjl : j < n
    · obtain ⟨b1, o1, ⟨xl, xA, xn, xc⟩, x, rfl, -, hb1, hx, hxr, hc⟩ := (H.out.via HB.out).at_ hjl
      have c0 := hc 0 _ rfl
      have c1 := hc 1 _ rfl
      simp only [RiE, Nat.add_zero] at c0 c1
      have i0 : (0 : Int) ≤ (j : Int) := by omega
      have i1 : (j : Int) < (n : Int) := by omega
      have HX := Lib.hid hx
      have HXR := Lib.hid hxr
      clear hc hx hxr hb1
      go_wp2_with fail
      clear c0 c1
      refine (HF.out wr ⟨xl, xA, xn, xc⟩ x HB.out (List.mem_of_getElem? HX.out) HXR.out).mono ?_
      rintro e w2 ⟨rfl, hb2⟩
      have HB2 := Lib.hid (HB.out.via hb2)
      clear hb2
      cases hp : p x
      case false =>
        have HP := Lib.hid hp
        clear hp
        go_wp2_with fail
        exact ⟨⟨j + 1, by go_num, by omega, Lib.hid (fun k y hk hy => by
          rcases Nat.lt_or_ge k j with h1 | h1
          · exact HN.out k y h1 hy
          · obtain rfl : k = j := by omega
            rw [HX.out] at hy; cases hy; exact HP.out), HB2⟩, by simp [intOf]; omega⟩
      case true =>
        have HP := Lib.hid hp
        clear hp
        go_wp2_with fail
        go_ret
        exact ⟨j, rfl, HB2.out, Or.inr ⟨j, rfl, ⟨x, HX.out, HP.out⟩, HN.out⟩⟩
    · go_wp2_with fail
      go_ret
      exact ⟨-1, rfl, HB.out, Or.inl ⟨rfl, fun x hx => by
        obtain ⟨k, hk⟩ := List.getElem?_of_mem hx
        have := (List.getElem?_eq_some_iff.1 hk).1
        have := H.out.len
        exact HN.out k x (by omega) hk⟩⟩
set_option maxHeartbeats 1000000 in
theorem conSi_c (fid : Nat) (he : ∀ (args : Array Value) (w : World), (callFunc fid args).run Tryz.prog w = .ok (.enter fid args) w) (caps : Array Value) (ok : Nat → Prop) (A : Option Addr) (n c : Nat) (xs : List Ci) (p : Ci → Bool) (w : World) (h : Sl SiE ok w A n c xs) (hn : n ≤ 1000000)
    (hf : ∀ w' r x, Below w.heap.size w w' → x ∈ xs → SiE.rel ok w' r x → Calls Tryz.prog fid (#[siVal r] ++ caps) w' fun e w'' => e = .returned (.bool (p x)) ∧ Below w'.heap.size w' w'') :
    Calls Tryz.prog 129 #[.slice A n c, .func (.func fid) #[] caps] w fun e w' => e = .returned (.bool (xs.any p)) ∧ Below w.heap.size w w' := by
  have HC := Lib.hid (idxSi_c fid he caps ok A n c xs p w h hn hf)
  clear h hf
  go_enter Tryz.func129, Tryz.ntmps129
  go_wp2_with fail
  refine HC.out.mono ?_
  rintro e w1 ⟨r, rfl, hb, hr⟩
  have HB := Lib.hid hb
  have HV := Lib.hid (show decide (0 ≤ r) = xs.any p by
    rcases hr with ⟨rfl, h0⟩ | ⟨i, rfl, ⟨x, hx, hp⟩, -⟩
    · rw [decide_eq_false (by omega)]
      exact (List.any_eq_false.2 fun x hx => by rw [h0 x hx]; simp).symm
    · rw [decide_eq_true (by omega)]
      exact (List.any_eq_true.2 ⟨x, List.mem_of_getElem? hx, hp⟩).symm)
  obtain ⟨bv, hbv⟩ : ∃ bv, decide (0 ≤ r) = bv := ⟨_, rfl⟩
  have HW := Lib.hid (show bv = xs.any p by rw [← hbv]; exact HV.out)
  clear hr hb HV
  go_wp2_with fail
  go_ret
  exact ⟨by rw [HW.out]; rfl, HB.out⟩
set_option maxHeartbeats 1000000 in
theorem conRi_c (fid : Nat) (he : ∀ (args : Array Value) (w : World), (callFunc fid args).run Tryz.prog w = .ok (.enter fid args) w) (caps : Array Value) (ok : Nat → Prop) (A : Option Addr) (n c : Nat) (xs : List Ri) (p : Ri → Bool) (w : World) (h : Sl RiE ok w A n c xs) (hn : n ≤ 1000000)
    (hf : ∀ w' r x, Below w.heap.size w w' → x ∈ xs → RiE.rel ok w' r x → Calls Tryz.prog fid (#[riVal r] ++ caps) w' fun e w'' => e = .returned (.bool (p x)) ∧ Below w'.heap.size w' w'') :
    Calls Tryz.prog 67 #[.slice A n c, .func (.func fid) #[] caps] w fun e w' => e = .returned (.bool (xs.any p)) ∧ Below w.heap.size w w' := by
  have HC := Lib.hid (idxRi_c fid he caps ok A n c xs p w h hn hf)
  clear h hf
  go_enter Tryz.func67, Tryz.ntmps67
  go_wp2_with fail
  refine HC.out.mono ?_
  rintro e w1 ⟨r, rfl, hb, hr⟩
  have HB := Lib.hid hb
  have HV := Lib.hid (show decide (0 ≤ r) = xs.any p by
    rcases hr with ⟨rfl, h0⟩ | ⟨i, rfl, ⟨x, hx, hp⟩, -⟩
    · rw [decide_eq_false (by omega)]
      exact (List.any_eq_false.2 fun x hx => by rw [h0 x hx]; simp).symm
    · rw [decide_eq_true (by omega)]
      exact (List.any_eq_true.2 ⟨x, List.mem_of_getElem? hx, hp⟩).symm)
  obtain ⟨bv, hbv⟩ : ∃ bv, decide (0 ≤ r) = bv := ⟨_, rfl⟩
  have HW := Lib.hid (show bv = xs.any p by rw [← hbv]; exact HV.out)
  clear hr hb HV
  go_wp2_with fail
  go_ret
  exact ⟨by rw [HW.out]; rfl, HB.out⟩
set_option maxRecDepth 100000 in
set_option maxHeartbeats 2000000 in
theorem hasI_c (T N S : Int) (A : Option Addr) (n c : Nat) (sb : Bool) (k : Int) (w : World) :
    Calls Tryz.prog 131 #[.agg #[.int .i64 T, .int .i64 N, .int .i64 S, .slice A n c], .agg #[.bool sb, .int .i64 k]] w (TellB w (okSi T N (sb, k))) := by
  have HB := Lib.hid (((Below.refl w.heap.size w).al (.cells #[.int .i64 T, .int .i64 N, .int .i64 S, .slice A n c] 24)).al (.cells #[.bool sb, .int .i64 k] 66))
  obtain ⟨b0, h0⟩ : ∃ b, decide (0 ≤ k) = b := ⟨_, rfl⟩
  obtain ⟨b1, h1⟩ : ∃ b, decide (k < T) = b := ⟨_, rfl⟩
  obtain ⟨b2, h2⟩ : ∃ b, decide (k < N) = b := ⟨_, rfl⟩
  have HV := Lib.hid (show okSi T N (sb, k) = (b0 && ((sb && b1) || (!sb && b2))) by unfold okSi; rw [← h0, ← h1, ← h2])
  cases b0 <;> cases sb <;> cases b1 <;> cases b2 <;>
  · go_enter Tryz.func131, Tryz.ntmps131
    go_wp2_with fail
    go_ret
    exact ⟨by rw [HV.out]; rfl, HB.out⟩
end Go.Proofs.YtbfcnfgkccgbiaaGreatDoor






namespace Go.Proofs.YtbfcnfgkccgbiaaGreatDoor
open Go.RowKit

/-- block b is the map that is true at just the spans of S -/
def SpM (g : Gr) (n : Nat) (w : World) (b : Nat) (S : Ky → Bool) : Prop := MapK Tryz.prog 68 kyVal w b (fun k => if S k then some (.bool true) else none) ∧ ∀ k, S k = true → KyOk g n k
section
variable {g : Gr} {n : Nat} {w w' : World} {b : Nat} {S : Ky → Bool}
theorem SpM.via (h : SpM g n w b S) (hb : Below w.heap.size w w') : SpM g n w' b S := ⟨h.1.via hb, h.2⟩
theorem SpM.grown {row : Option Nat} (h : SpM g n w b S) (hb : w.grownBy w' row) (hg : some b ≠ row) : SpM g n w' b S := ⟨h.1.grown hb hg, h.2⟩
theorem SpM.agr_ (h : SpM g n w b S) (e : w'.heap[b]? = w.heap[b]?) : SpM g n w' b S := ⟨h.1.agr_ e, h.2⟩
theorem SpM.room (h : SpM g n w b S) (hg : g.Ok) (hn : n ≤ 12) : ∀ es clock, w.heap[b]? = some (.map es clock) → es.size < maxLen := fun es clock he =>
  Nat.lt_of_le_of_lt (h.1.room kyC2 3400 (fun y hy => kyC2_lt (h.2 y (by by_cases e : S y = true; exact e; rw [if_neg e] at hy; exact absurd rfl hy)) hg hn) (fun x y hx hy e => kyC2_inj (h.2 x (by by_cases e : S x = true; exact e; rw [if_neg e] at hx; exact absurd rfl hx)) (h.2 y (by by_cases e : S y = true; exact e; rw [if_neg e] at hy; exact absurd rfl hy)) hg hn e) es clock he) (by simp [maxLen])
theorem spm_look (h : SpM g n w b S) (k : Ky) {kl : Lit} (hkey : keyOf Tryz.prog 68 (kyVal k) = some kl) : (Instr.lookup 62 (.map (some b)) (kyVal k) false).run Tryz.prog w = .ok (.bool (S k)) w := by
  have := h.1.look false span_keyed Tryz.underlying62 (z := .bool false) (by kernel_rfl) k hkey
  rw [this]
  cases S k <;> rfl
end
/-- the spans of a grammar and a word in memory -/
structure SpR (w : World) (g : Gr) (Ag : Option Addr) (ng cg : Nat) (A : Option Addr) (n c bs bm : Nat) (S : Ky → Bool) : Prop where
  blk : Blk w bs 64 #[.int .i64 (g.terms : Int), .int .i64 (g.nons : Int), .int .i64 (g.start : Int), .slice Ag ng cg, .slice A n c, .map (some bm)]
  map : SpM g n w bm S
theorem SpR.via {w w' : World} {g : Gr} {Ag : Option Addr} {ng cg : Nat} {A : Option Addr} {n c bs bm : Nat} {S : Ky → Bool} (h : SpR w g Ag ng cg A n c bs bm S) (hb : Below w.heap.size w w') : SpR w' g Ag ng cg A n c bs bm S := ⟨h.blk.via hb, h.map.via hb⟩
def SomeP (w : World) (b : Bool) (e : Ending) (w' : World) : Prop := e = .returned (.bool b) ∧ Below w.heap.size w w'
theorem span_k (s : Sy) (i p : Nat) (h1 : s.2 ≤ 1000) (h2 : i ≤ 1000) (h3 : p ≤ 1000) : ∃ l, keyOf Tryz.prog 68 (kyVal (s, i, p)) = some l := span_key (s, i, p) (by show s.2 ≤ _; omega) (by show i ≤ _; omega) (by show p ≤ _; omega)
set_option maxRecDepth 100000 in
set_option maxHeartbeats 8000000 in
theorem some_n (ok : Nat → Prop) (g : Gr) (Ag : Option Addr) (ng cg : Nat) (A : Option Addr) (n c bs bm : Nat) (S : Ky → Bool) (j : Nat) (hj : j ≤ 100) :
    ∀ (l : List Sy) (w : World) (B : Option Addr) (m d i : Nat), SpR w g Ag ng cg A n c bs bm S → Sl SyE ok w B m d l → (∀ t ∈ l, t.2 ≤ 1000) → i ≤ j + 1 → m ≤ 100 →
    Calls Tryz.prog 41 #[.pointer (some ⟨bs, 0, none⟩), .slice B m d, .int .i64 (i : Int), .int .i64 (j : Int)] w (SomeP w (someF S l i j)) := by
  intro l
  induction l with
  | nil =>
    intro w B m d i hR hl hok hi hm
    obtain rfl : m = 0 := hl.len.symm
    have HV := Lib.hid (show ((i : Int) == (j : Int)) = someF S [] i j by
      simp only [someF]
      exact Bool.eq_iff_iff.2 (by simp only [beq_iff_eq, decide_eq_true_eq]; omega))
    clear hR hl
    go_enter Tryz.func41, Tryz.ntmps41
    go_wp2_with fail
    go_ret
    exact ⟨by rw [← HV.out]; rfl, Below.refl _ _⟩
  | cons s l ih =>
    intro w B m d i hR hl hok hi hm
    have HML := Lib.hid (show m = l.length + 1 by rw [← hl.len]; rfl)
    have hm1 : 0 < m := by have := HML.out; omega
    have e0 : ((m : Int) == 0) = false := by simp; omega
    have HSR := Lib.hid hR
    have HL := Lib.hid hl
    have HIH := Lib.hid ih
    have HOK := Lib.hid hok
    have hmd := hl.le
    clear hR hl ih hok
    go_enter Tryz.func41, Tryz.ntmps41
    go_wp2_with fail
    go_loopw [9] (fun q wr => ∃ p : Nat, q = .int .i64 (p : Int) ∧ i ≤ p ∧ p ≤ j + 1 ∧ Hid ((∀ q, i ≤ q → q < p → (S (s, i, q) && someF S l q j) = false) ∧ Below w.heap.size w wr)) (fun q _ => j + 1 - (intOf q).toNat)
    case atStart => exact ⟨i, rfl, Nat.le_refl _, hi, Lib.hid ⟨fun q h1 h2 => by omega, Below.refl _ _⟩⟩
    case round =>
      obtain ⟨p, rfl, hip, hpj, HQ⟩ := hrel
      have HNO := Lib.hid HQ.out.1
      have hbw := HQ.out.2
      clear HQ
      by_cases hp : p ≤ j
      · have e1 : (p : Int) ≤ (j : Int) := by omega
        obtain ⟨b2, o2, s1, s2, rfl, hob2, hb2, hs1, hs2, hc2⟩ := HL.out.at_ hm1
        have hs12 : s1 = s2 := hs2
        obtain rfl : s = s2 := by simpa using hs1
        subst hs12
        have d0 := (hbw.cell (p := ⟨b2, o2 + 0 * SyE.k + 0, none⟩) hb2).trans (hc2 0 _ rfl)
        have d1 := (hbw.cell (p := ⟨b2, o2 + 0 * SyE.k + 1, none⟩) hb2).trans (hc2 1 _ rfl)
        simp only [SyE, Nat.zero_mul, Nat.add_zero] at d0 d1
        have HTL := Lib.hid (HL.out.tailK (l := 1) (by omega))
        have HMW := Lib.hid ((HSR.out.via hbw).map)
        have BS := (HSR.out.via hbw).blk
        have hs1k := HOK.out s1 (by simp)
        obtain ⟨kl, hkl⟩ := span_k s1 i p hs1k (by omega) (by omega)
        have HKEY := Lib.hid hkl
        clear hkl hc2 hs1 hs2 hb2 hob2
        go_upto_region 6 with fail
        clear e0 e1
        have m0 : (0 : Int) < (m : Int) := by omega
        have m1 : (1 : Int) ≤ (m : Int) := by omega
        have hmd2 : m ≤ d := hmd
        by_cases hdd : d = 1
        · subst hdd
          have HTT := Lib.hid (show Sl SyE ok w (some ⟨b2, o2, none⟩) 0 0 l from by
            have := HTL.out
            rw [show m - 1 = 0 by omega] at this
            simpa using this)
          clear HTL
          have SO := Lib.hid (show ∀ w', Below wr.heap.size wr w' → ((∀ x, w'.cell? ⟨bs, x, none⟩ = #[.int .i64 (g.terms : Int), .int .i64 (g.nons : Int), .int .i64 (g.start : Int), .slice Ag ng cg, .slice A n c, .map (some bm)][x]?) ∧ w'.cell? ⟨b2, o2, none⟩ = some (.bool s1.1) ∧ w'.cell? ⟨b2, o2 + 1, none⟩ = some (.int .i64 (s1.2 : Int)) ∧ (Instr.lookup 62 (.map (some bm)) (.agg #[.bool s1.1, .int .i64 (s1.2 : Int), .int .i64 (i : Int), .int .i64 (p : Int)]) false).run Tryz.prog w' = .ok (.bool (S (s1, i, p))) w' ∧ Below wr.heap.size wr w') from fun w' hb => ⟨(BS.via hb).cell, (hb.cell (World.block_lt_of_cell? _ _ d0)).trans d0, (hb.cell (World.block_lt_of_cell? _ _ d1)).trans d1, spm_look (HMW.out.via hb) (s1, i, p) HKEY.out, hb⟩)
          have JS := Lib.hid (show ∀ w', Below wr.heap.size wr w' → Calls Tryz.prog 41 #[.pointer (some ⟨bs, 0, none⟩), .slice (some ⟨b2, o2, none⟩) 0 0, .int .i64 (p : Int), .int .i64 (j : Int)] w' (SomeP w' (someF S l p j)) from fun w' hb => HIH.out w' (some ⟨b2, o2, none⟩) 0 0 p ((HSR.out.via hbw).via hb) (HTT.out.via (hbw.trans (hb.mono hbw.size))) (fun t ht => HOK.out t (by simp [ht])) (by omega) (by omega))
          have hb0 := (Below.refl wr.heap.size wr).drew
          clear BS d0 d1
          cases hS : S (s1, i, p) with
          | true =>
            rw [hS] at SO
            have HSS := Lib.hid hS
            clear hS
            go_region_held3 (fun w' => (∀ x, w'.cell? ⟨bs, x, none⟩ = #[.int .i64 (g.terms : Int), .int .i64 (g.nons : Int), .int .i64 (g.start : Int), .slice Ag ng cg, .slice A n c, .map (some bm)][x]?) ∧ w'.cell? ⟨b2, o2, none⟩ = some (.bool s1.1) ∧ w'.cell? ⟨b2, o2 + 1, none⟩ = some (.int .i64 (s1.2 : Int)) ∧ (Instr.lookup 62 (.map (some bm)) (.agg #[.bool s1.1, .int .i64 (s1.2 : Int), .int .i64 (i : Int), .int .i64 (p : Int)]) false).run Tryz.prog w' = .ok (.bool true) w' ∧ Below wr.heap.size wr w') (exact SO.out _ (by assumption)) (first
              | (go_at_call 41; (with_reducible refine (JS.out _ (by assumption)).mono ?_); rintro ee wk ⟨rfl, hbk⟩; have hbm : Below wr.heap.size wr wk := Below.via (by assumption) hbk))
            have HBM := Lib.hid (hbw.trans (hbm.mono hbw.size))
            cases hf : someF S l p j with
            | true =>
              have HFF := Lib.hid hf
              clear hf hb0 hbm hbk SO JS
              go_wp2_with fail
              go_ret
              refine ⟨?_, HBM.out⟩
              rw [some_iff.2 ⟨p, hip, by omega, HSS.out, HFF.out⟩]
              rfl
            | false =>
              have HFF := Lib.hid hf
              clear hf hb0 hbm hbk SO JS
              go_wp2_with fail
              refine ⟨⟨p + 1, by go_num, by omega, by omega, Lib.hid ⟨fun q h1 h2 => ?_, HBM.out⟩⟩, by simp [intOf]; omega⟩
              by_cases e : q = p
              · subst e; rw [HFF.out, Bool.and_false]
              · exact HNO.out q h1 (by omega)
          | false =>
            rw [hS] at SO
            have HSS := Lib.hid hS
            obtain ⟨ca, cb, cc, cd, -⟩ := SO.out _ (Below.refl _ _)
            have ce : ∀ q, (Instr.lookup 62 (.map (some bm)) (.agg #[.bool s1.1, .int .i64 (s1.2 : Int), .int .i64 (i : Int), .int .i64 (p : Int)]) false).run Tryz.prog (wr.drewN q) = .ok (.bool false) (wr.drewN q) := fun q => (SO.out _ (below_drewN (Below.refl _ _) q)).2.2.2.1
            clear hS
            go_quiet (fail)
            have HBM := Lib.hid (hbw.trans ((below_drewN (Below.refl _ _) nq).mono hbw.size))
            clear hb0 SO JS ca cb cc cd ce
            go_wp2_with fail
            refine ⟨⟨p + 1, by go_num, by omega, by omega, Lib.hid ⟨fun q h1 h2 => ?_, HBM.out⟩⟩, by simp [intOf]; omega⟩
            by_cases e : q = p
            · subst e; rw [HSS.out, Bool.false_and]
            · exact HNO.out q h1 (by omega)
        · have HTT := Lib.hid (show Sl SyE ok w (some ⟨b2, o2 + 2, none⟩) (m - 1) (d - 1) l from by
            have := HTL.out
            rw [if_neg hdd] at this
            simpa [SyE, Addr.add] using this)
          clear HTL
          have SO := Lib.hid (show ∀ w', Below wr.heap.size wr w' → ((∀ x, w'.cell? ⟨bs, x, none⟩ = #[.int .i64 (g.terms : Int), .int .i64 (g.nons : Int), .int .i64 (g.start : Int), .slice Ag ng cg, .slice A n c, .map (some bm)][x]?) ∧ w'.cell? ⟨b2, o2, none⟩ = some (.bool s1.1) ∧ w'.cell? ⟨b2, o2 + 1, none⟩ = some (.int .i64 (s1.2 : Int)) ∧ (Instr.lookup 62 (.map (some bm)) (.agg #[.bool s1.1, .int .i64 (s1.2 : Int), .int .i64 (i : Int), .int .i64 (p : Int)]) false).run Tryz.prog w' = .ok (.bool (S (s1, i, p))) w' ∧ Below wr.heap.size wr w') from fun w' hb => ⟨(BS.via hb).cell, (hb.cell (World.block_lt_of_cell? _ _ d0)).trans d0, (hb.cell (World.block_lt_of_cell? _ _ d1)).trans d1, spm_look (HMW.out.via hb) (s1, i, p) HKEY.out, hb⟩)
          have JS := Lib.hid (show ∀ w', Below wr.heap.size wr w' → Calls Tryz.prog 41 #[.pointer (some ⟨bs, 0, none⟩), .slice (some ⟨b2, o2 + 2, none⟩) (m - 1) (d - 1), .int .i64 (p : Int), .int .i64 (j : Int)] w' (SomeP w' (someF S l p j)) from fun w' hb => HIH.out w' (some ⟨b2, o2 + 2, none⟩) (m - 1) (d - 1) p ((HSR.out.via hbw).via hb) (HTT.out.via (hbw.trans (hb.mono hbw.size))) (fun t ht => HOK.out t (by simp [ht])) (by omega) (by omega))
          have hb0 := (Below.refl wr.heap.size wr).drew
          clear BS d0 d1
          cases hS : S (s1, i, p) with
          | true =>
            rw [hS] at SO
            have HSS := Lib.hid hS
            clear hS
            go_region_held3 (fun w' => (∀ x, w'.cell? ⟨bs, x, none⟩ = #[.int .i64 (g.terms : Int), .int .i64 (g.nons : Int), .int .i64 (g.start : Int), .slice Ag ng cg, .slice A n c, .map (some bm)][x]?) ∧ w'.cell? ⟨b2, o2, none⟩ = some (.bool s1.1) ∧ w'.cell? ⟨b2, o2 + 1, none⟩ = some (.int .i64 (s1.2 : Int)) ∧ (Instr.lookup 62 (.map (some bm)) (.agg #[.bool s1.1, .int .i64 (s1.2 : Int), .int .i64 (i : Int), .int .i64 (p : Int)]) false).run Tryz.prog w' = .ok (.bool true) w' ∧ Below wr.heap.size wr w') (exact SO.out _ (by assumption)) (first
              | (go_at_call 41; (with_reducible refine (JS.out _ (by assumption)).mono ?_); rintro ee wk ⟨rfl, hbk⟩; have hbm : Below wr.heap.size wr wk := Below.via (by assumption) hbk))
            have HBM := Lib.hid (hbw.trans (hbm.mono hbw.size))
            cases hf : someF S l p j with
            | true =>
              have HFF := Lib.hid hf
              clear hf hb0 hbm hbk SO JS
              go_wp2_with fail
              go_ret
              refine ⟨?_, HBM.out⟩
              rw [some_iff.2 ⟨p, hip, by omega, HSS.out, HFF.out⟩]
              rfl
            | false =>
              have HFF := Lib.hid hf
              clear hf hb0 hbm hbk SO JS
              go_wp2_with fail
              refine ⟨⟨p + 1, by go_num, by omega, by omega, Lib.hid ⟨fun q h1 h2 => ?_, HBM.out⟩⟩, by simp [intOf]; omega⟩
              by_cases e : q = p
              · subst e; rw [HFF.out, Bool.and_false]
              · exact HNO.out q h1 (by omega)
          | false =>
            rw [hS] at SO
            have HSS := Lib.hid hS
            obtain ⟨ca, cb, cc, cd, -⟩ := SO.out _ (Below.refl _ _)
            have ce : ∀ q, (Instr.lookup 62 (.map (some bm)) (.agg #[.bool s1.1, .int .i64 (s1.2 : Int), .int .i64 (i : Int), .int .i64 (p : Int)]) false).run Tryz.prog (wr.drewN q) = .ok (.bool false) (wr.drewN q) := fun q => (SO.out _ (below_drewN (Below.refl _ _) q)).2.2.2.1
            clear hS
            go_quiet (fail)
            have HBM := Lib.hid (hbw.trans ((below_drewN (Below.refl _ _) nq).mono hbw.size))
            clear hb0 SO JS ca cb cc cd ce
            go_wp2_with fail
            refine ⟨⟨p + 1, by go_num, by omega, by omega, Lib.hid ⟨fun q h1 h2 => ?_, HBM.out⟩⟩, by simp [intOf]; omega⟩
            by_cases e : q = p
            · subst e; rw [HSS.out, Bool.false_and]
            · exact HNO.out q h1 (by omega)
      · obtain rfl : p = j + 1 := by omega
        have HV := Lib.hid (show someF S (s :: l) i j = false by
          cases h : someF S (s :: l) i j with
          | false => rfl
          | true =>
            obtain ⟨q, q1, q2, q3, q4⟩ := some_iff.1 h
            have := HNO.out q q1 (by omega)
            rw [q3, q4] at this; cases this)
        have HBW := Lib.hid hbw
        clear hbw
        go_wp2_with fail
        go_ret
        exact ⟨by rw [HV.out]; rfl, HBW.out⟩
end Go.Proofs.YtbfcnfgkccgbiaaGreatDoor




namespace Go.Proofs.YtbfcnfgkccgbiaaGreatDoor
open Go.RowKit

theorem cmpI_anti (x y : Int) : cmpI x y = - cmpI y x := by
  unfold cmpI; split <;> split <;> first | rfl | omega
theorem cmpI_z0 {x y : Int} : cmpI x y = 0 ↔ x = y := by
  unfold cmpI; constructor
  · intro h; split at h
    · omega
    · split at h <;> omega
  · rintro rfl; simp
theorem cmpI_self (x : Int) : cmpI x x = 0 := cmpI_z0.2 rfl
theorem cmpI_le2 {x y : Int} : cmpI x y ≤ 0 ↔ x ≤ y := by
  unfold cmpI; constructor
  · intro h; split at h
    · omega
    · split at h <;> omega
  · intro h; split
    · omega
    · rw [if_neg (by omega)]; omega
theorem cmpL_anti : ∀ xs ys : List Int, cmpL xs ys = - cmpL ys xs
  | [], [] => rfl
  | [], _ :: _ => rfl
  | _ :: _, [] => rfl
  | x :: xs, y :: ys => by
    rw [cmpL, cmpL, cmpI_anti x y, cmpL_anti xs ys]
    by_cases h : cmpI y x = 0
    · rw [h]; simp
    · rw [if_neg (by omega), if_neg h]
theorem cmpL_zero : ∀ {xs ys : List Int}, cmpL xs ys = 0 ↔ xs = ys
  | [], [] => by simp [cmpL]
  | [], _ :: _ => by simp [cmpL]
  | _ :: _, [] => by simp [cmpL]
  | x :: xs, y :: ys => by
    rw [cmpL]
    by_cases h : cmpI x y = 0
    · rw [if_pos h, cmpL_zero, cmpI_z0.1 h]; simp
    · rw [if_neg h]
      constructor
      · intro e; exact absurd e h
      · intro e; cases e; exact absurd (cmpI_self x) h
theorem cmpL_trans : ∀ {xs ys zs : List Int}, cmpL xs ys ≤ 0 → cmpL ys zs ≤ 0 → cmpL xs zs ≤ 0
  | [], _, [] => by simp [cmpL]
  | [], _, _ :: _ => by simp [cmpL]
  | _ :: _, [], _ => by intro h; simp [cmpL] at h
  | _ :: _, _ :: _, [] => by intro _ h; simp [cmpL] at h
  | x :: xs, y :: ys, z :: zs => by
    rw [cmpL, cmpL, cmpL]
    intro h1 h2
    by_cases e1 : cmpI x y = 0
    · rw [if_pos e1] at h1
      have := cmpI_z0.1 e1; subst this
      by_cases e2 : cmpI x z = 0
      · rw [if_pos e2] at h2 ⊢
        exact cmpL_trans h1 h2
      · rw [if_neg e2] at h2 ⊢; exact h2
    · rw [if_neg e1] at h1
      have n1 := cmpI_le2.1 h1
      by_cases e2 : cmpI y z = 0
      · have := cmpI_z0.1 e2; subst this
        rw [if_neg e1]; exact h1
      · rw [if_neg e2] at h2
        have n2 := cmpI_le2.1 h2
        have m1 : x ≠ y := fun e => e1 (cmpI_z0.2 e)
        rw [if_neg (fun e => by have := cmpI_z0.1 e; omega)]
        exact cmpI_le2.2 (by omega)
theorem cmpL_self (xs : List Int) : cmpL xs xs = 0 := cmpL_zero.2 rfl


def intsN (l : List Nat) : List Int := l.map fun i : Nat => (i : Int)
/-- a pack as a list of numbers -/
def pkL (p : Nat × List Nat) : List Int := (p.1 : Int) :: intsN p.2
theorem cmpL_cons_lt {x y : Int} {xs ys : List Int} (h : x < y) : cmpL (x :: xs) (y :: ys) < 0 := by
  have e : cmpI x y = -1 := by unfold cmpI; rw [if_pos h]
  rw [cmpL, e]; simp
theorem cmpL_cons_eq {x : Int} {xs ys : List Int} : cmpL (x :: xs) (x :: ys) = cmpL xs ys := by
  rw [cmpL, cmpI_self]; simp
section
variable {D : Ky → Bool} {idx : Ky → Nat} {P : Ky → Prop}
theorem ways_sorted (hm : ∀ a b, P a → P b → kyN a < kyN b → idx a < idx b) : ∀ {l : List Sy} {i j : Nat}, (∀ w ∈ waysF D l i j, ∀ q ∈ w, P q) → ((waysF D l i j).map fun w => intsN (w.map idx)).Pairwise fun a b => cmpL a b < 0 := by
  intro l
  induction l with
  | nil =>
    intro i j _
    simp only [waysF]
    split <;> simp
  | cons s l ih =>
    intro i j hP
    rw [List.pairwise_map]
    have key : ∀ q, q < j + 1 - i → ∀ a ∈ (if (D (s, i, i + q) && someF D l (i + q) j) = true then (waysF D l (i + q) j).map ((s, i, i + q) :: ·) else []), a ∈ waysF D (s :: l) i j ∧ ∃ w, w ∈ waysF D l (i + q) j ∧ a = (s, i, i + q) :: w := by
      intro q hq a ha
      refine ⟨?_, ?_⟩
      · simp only [waysF, List.mem_flatMap, List.mem_range]
        exact ⟨q, hq, ha⟩
      · split at ha
        · obtain ⟨w, hw, rfl⟩ := List.mem_map.1 ha; exact ⟨w, hw, rfl⟩
        · simp at ha
    rw [waysF, List.pairwise_flatMap]
    constructor
    · intro q hq
      have hq' := List.mem_range.1 hq
      have hk := key q hq'
      split
      · rename_i hc
        rw [if_pos hc] at hk
        rw [List.pairwise_map]
        have h1 := ih (i := i + q) (j := j) (fun w hw x hx => hP _ (hk ((s, i, i + q) :: w) (List.mem_map.2 ⟨w, hw, rfl⟩)).1 x (by simp [hx]))
        rw [List.pairwise_map] at h1
        refine h1.imp fun {a b} hab => ?_
        simp only [intsN, List.map_cons]
        rw [cmpL_cons_eq]; exact hab
      · exact List.Pairwise.nil
    · rw [List.pairwise_iff_getElem]
      intro a b ha hb hab x hx y hy
      simp only [List.getElem_range] at hx hy
      simp only [List.length_range] at ha hb
      obtain ⟨hx1, w, -, rfl⟩ := key a ha x hx
      obtain ⟨hy1, v, -, rfl⟩ := key b hb y hy
      simp only [intsN, List.map_cons]
      refine cmpL_cons_lt ?_
      have := hm (s, i, i + a) (s, i, i + b) (hP _ hx1 _ (by simp)) (hP _ hy1 _ (by simp)) (by simp only [kyN]; omega)
      omega
theorem packs_sorted (hm : ∀ a b, P a → P b → kyN a < kyN b → idx a < idx b) {R : List Ru} {k : Ky} (hP : ∀ p ∈ packsF D R k, ∀ q ∈ p.2, P q) : ((packsF D R k).map fun p => pkL (p.1, p.2.map idx)).Pairwise fun a b => cmpL a b < 0 := by
  unfold packsF packT
  rw [List.pairwise_map, List.pairwise_flatMap]
  constructor
  · intro n hn
    have hin : ∀ p ∈ packN D R k n, p ∈ packsF D R k := fun p hp => by unfold packsF packT; exact List.mem_flatMap.2 ⟨n, hn, hp⟩
    unfold packN at hin ⊢
    cases hu : R[n]? with
    | none => simp
    | some u =>
      rw [hu] at hin
      simp only at hin ⊢
      by_cases e : u.1 = k.1.2 ∧ k.1.1 = false
      · rw [if_pos e] at hin ⊢
        rw [List.pairwise_map]
        have h1 := ways_sorted (D := D) hm (l := u.2) (i := k.2.1) (j := k.2.2) (fun w hw q hq => hP _ (hin (n, w) (List.mem_map.2 ⟨w, hw, rfl⟩)) q hq)
        rw [List.pairwise_map] at h1
        refine h1.imp fun {a b} hab => ?_
        simp only [pkL]
        rw [cmpL_cons_eq]; exact hab
      · rw [if_neg e]; exact List.Pairwise.nil
  · rw [List.pairwise_iff_getElem]
    intro a b ha hb hab x hx y hy
    simp only [List.getElem_range] at hx hy
    obtain ⟨e1, -⟩ := packN_mem hx
    obtain ⟨e2, -⟩ := packN_mem hy
    simp only [pkL]
    refine cmpL_cons_lt ?_
    rw [e1, e2]; omega
end
end Go.Proofs.YtbfcnfgkccgbiaaGreatDoor

