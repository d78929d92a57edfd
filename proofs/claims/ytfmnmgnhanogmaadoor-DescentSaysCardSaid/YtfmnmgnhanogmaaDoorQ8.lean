/- Texts JA, JB, laid together. -/
import Derived.Test.YtfmnmgnhanogmaaDoorQ5


namespace Go.Proofs.YtfmnmgnhanogmaaDoor
open Go.RowKit

/-! ### symbols and rules of any numbers -/
abbrev Ci := Bool × Int
def SiE : Elem Ci Ci where
  k := 2
  cells s := [.bool s.1, .int .i64 s.2]
  rel _ _ r x := r = x
  pos := by omega
  len _ := rfl
  one r u hu := by simp at hu; rcases hu with rfl | rfl <;> rfl
  agr h _ := h
  mono h _ := h
abbrev Ri := Int × List Ci
def RiE : Elem Ri (Int × SlV) where
  k := 2
  cells r := [.int .i64 r.1, .slice r.2.1 r.2.2.1 r.2.2.2]
  rel ok w r x := r.1 = x.1 ∧ Sl SiE ok w r.2.1 r.2.2.1 r.2.2.2 x.2
  pos := by omega
  len _ := rfl
  one r u hu := by simp at hu; rcases hu with rfl | rfl <;> rfl
  agr h k := ⟨h.1, h.2.agr k⟩
  mono h k := ⟨h.1, h.2.mono k⟩
def siVal (s : Ci) : Value := .agg #[.bool s.1, .int .i64 s.2]
def riVal (r : Int × SlV) : Value := .agg #[.int .i64 r.1, .slice r.2.1 r.2.2.1 r.2.2.2]
/-! ### what Check answers -/
def okSi (T N : Int) (s : Ci) : Bool := decide (0 ≤ s.2) && ((s.1 && decide (s.2 < T)) || (!s.1 && decide (s.2 < N)))
/-- the rules one after the other; those that have passed: done -/
def chkL (T N : Int) (done : List Ri) : List Ri → Int
  | [] => 0
  | r :: rs =>
    if ¬ (0 ≤ r.1 ∧ r.1 < N) then 3
    else if 4 < r.2.length then 2
    else if (r.2.any fun s => !okSi T N s) = true then 3
    else if r ∈ done then 6
    else chkL T N (done ++ [r]) rs
def chkG (T N S : Int) (rs : List Ri) : Int :=
  if ¬ (1 ≤ T ∧ T ≤ 8 ∧ 1 ≤ N ∧ N ≤ 10 ∧ 0 ≤ S ∧ S < N) then 1 else if 32 < rs.length then 2 else chkL T N [] rs
/-! ### order -/
def ordC (a b : Ci) : Int := if a.1 = b.1 then cmpI a.2 b.2 else if a.1 then -1 else 1
theorem ordC_zero {a b : Ci} : ordC a b = 0 ↔ a = b := by
  obtain ⟨x, m⟩ := a
  obtain ⟨y, n⟩ := b
  unfold ordC
  by_cases e : x = y
  · subst e; simp only [if_true]; rw [cmpI_zero]; simp
  · rw [if_neg e]
    constructor
    · intro h; split at h <;> omega
    · intro h; exact absurd (congrArg Prod.fst h) e
def cmpC : List Ci → List Ci → Int
  | [], [] => 0
  | [], _ :: _ => -1
  | _ :: _, [] => 1
  | x :: xs, y :: ys => if ordC x y = 0 then cmpC xs ys else ordC x y
theorem cmpC_zero : ∀ {a b : List Ci}, cmpC a b = 0 ↔ a = b
  | [], [] => by simp [cmpC]
  | [], _ :: _ => by simp [cmpC]
  | _ :: _, [] => by simp [cmpC]
  | x :: xs, y :: ys => by
    rw [cmpC]
    by_cases e : ordC x y = 0
    · rw [if_pos e, cmpC_zero (a := xs) (b := ys), ordC_zero.1 e]; simp
    · rw [if_neg e]
      constructor
      · intro h; exact absurd h e
      · intro h; exact absurd (ordC_zero.2 (List.cons.inj h).1) e
def cmpRi (a b : Ri) : Int := orL [cmpI a.1 b.1, cmpC a.2 b.2]
theorem cmpRi_zero {a b : Ri} : cmpRi a b = 0 ↔ a = b := by
  obtain ⟨x, l⟩ := a
  obtain ⟨y, m⟩ := b
  unfold cmpRi
  simp only [orL]
  by_cases e : cmpI x y = 0
  · rw [if_pos e]
    have h := cmpI_zero.1 e
    subst h
    by_cases e2 : cmpC l m = 0
    · rw [if_pos e2]; simp [cmpC_zero.1 e2]
    · rw [if_neg e2]
      constructor
      · intro h; exact absurd h e2
      · intro h; exact absurd (cmpC_zero.2 (congrArg Prod.snd h)) e2
  · rw [if_neg e]
    constructor
    · intro h; exact absurd h e
    · intro h; exact absurd (cmpI_zero.2 (congrArg Prod.fst h)) e
set_option maxRecDepth 100000 in
set_option maxHeartbeats 2000000 in
theorem orderI_c (a b : Ci) (w : World) :
    Calls Tryd.prog 72 #[.agg #[.bool a.1, .int .i64 a.2], .agg #[.bool b.1, .int .i64 b.2]] w (IntO w (ordC a b)) := by
  obtain ⟨x, m⟩ := a
  obtain ⟨y, n⟩ := b
  have HB := Lib.hid (((Below.refl w.heap.size w).al (.cells #[.bool x, .int .i64 m] 54)).al (.cells #[.bool y, .int .i64 n] 54))
  cases x <;> cases y
  · go_enter Tryd.func72, Tryd.ntmps72
    go_wp2_with fail
    refine (cmp_c _ _ _).mono ?_
    rintro e w' ⟨rfl, rfl⟩
    go_wp2_with fail
    go_ret
    exact ⟨by simp [ordC], HB.out⟩
  · go_enter Tryd.func72, Tryd.ntmps72
    go_wp2_with fail
    go_ret
    exact ⟨rfl, HB.out⟩
  · go_enter Tryd.func72, Tryd.ntmps72
    go_wp2_with fail
    go_ret
    exact ⟨rfl, HB.out⟩
  · go_enter Tryd.func72, Tryd.ntmps72
    go_wp2_with fail
    refine (cmp_c _ _ _).mono ?_
    rintro e w' ⟨rfl, rfl⟩
    go_wp2_with fail
    go_ret
    exact ⟨by simp [ordC], HB.out⟩
theorem cmpC_step {xs ys : List Ci} {k : Nat} {x y : Ci} (hx : xs[k]? = some x) (hy : ys[k]? = some y) : cmpC (xs.drop k) (ys.drop k) = if ordC x y = 0 then cmpC (xs.drop (k + 1)) (ys.drop (k + 1)) else ordC x y := by
  have h1 := List.getElem?_eq_some_iff.1 hx
  have h2 := List.getElem?_eq_some_iff.1 hy
  rw [List.drop_eq_getElem_cons h1.1, List.drop_eq_getElem_cons h2.1, cmpC, h1.2, h2.2]
set_option maxRecDepth 100000 in
set_option maxHeartbeats 4000000 in
theorem cmpC_c (ok ok' : Nat → Prop) (A B : Option Addr) (n c m d : Nat) (xs ys : List Ci) (w : World) (h1 : Sl SiE ok w A n c xs) (h2 : Sl SiE ok' w B m d ys) (hn : n ≤ 1000000) :
    Calls Tryd.prog 71 #[.slice A n c, .slice B m d, .func (.func 72) #[] #[]] w (IntO w (cmpC xs ys)) := by
  have H1 := Lib.hid h1
  have H2 := Lib.hid h2
  have L1 := Lib.hid h1.len
  have L2 := Lib.hid h2.len
  clear h1 h2
  go_enter Tryd.func71, Tryd.ntmps71
  go_wp2_with fail
  go_loopw [13] (fun i wr => ∃ k : Nat, i = .int .i64 k ∧ k ≤ n ∧ k ≤ m ∧ Hid (cmpC xs ys = cmpC (xs.drop k) (ys.drop k)) ∧ Below w.heap.size w wr) (fun i _ => n - (intOf i).toNat)
  case atStart => exact ⟨0, rfl, Nat.zero_le _, Nat.zero_le _, Lib.hid rfl, Below.refl _ _⟩
  case round =>
    obtain ⟨k, rfl, hk, hkm, HC, hb⟩ := hrel
    have HB := Lib.hid hb
    clear hb
    by_cases hkn : k < n
    · obtain ⟨b1, o1, sx, sx', rfl, -, hb1, hx, hxx, hc⟩ := (H1.out.via HB.out).at_ hkn
      obtain rfl : sx = sx' := hxx
      have c0 := hc 0 _ rfl
      have c1 := hc 1 _ rfl
      simp only [SiE, Nat.add_zero] at c0 c1
      have i0 : (0 : Int) ≤ (k : Int) := by omega
      have i1 : (k : Int) < (n : Int) := by omega
      by_cases hk2 : k < m
      · obtain ⟨b2, o2, sy, sy', rfl, -, hb2, hy, hyy, hd⟩ := (H2.out.via HB.out).at_ hk2
        obtain rfl : sy = sy' := hyy
        have d0 := hd 0 _ rfl
        have d1 := hd 1 _ rfl
        simp only [SiE, Nat.add_zero] at d0 d1
        have i2 : (k : Int) < (m : Int) := by omega
        have HS := Lib.hid (cmpC_step hx hy)
        have HB2 := Lib.hid ((HB.out.al (.cells #[.bool sx.1, .int .i64 sx.2] 54)).al (.cells #[.bool sy.1, .int .i64 sy.2] 54))
        clear hc hd hx hy
        go_wp2_with fail
        refine (orderI_c sx sy _).mono ?_
        rintro e w' ⟨rfl, hb⟩
        have HF := Lib.hid (HB2.out.via hb)
        clear hb c0 c1 d0 d1
        by_cases he : ordC sx sy = 0
        · rw [he]
          have HE := Lib.hid (HC.out.trans (by rw [HS.out, if_pos he]))
          clear he
          go_wp2_with fail
          exact ⟨⟨k + 1, by go_num, by omega, by omega, HE, HF.out⟩, by simp [intOf]; omega⟩
        · have HE := Lib.hid (HC.out.trans (by rw [HS.out, if_neg he]))
          have hne : (ordC sx sy != 0) = true := by simpa using he
          clear he
          generalize ordC sx sy = q at *
          go_wp2_with fail
          go_ret
          exact ⟨by rw [HE.out]; rfl, HF.out⟩
      · have hv : cmpC xs ys = 1 := by
          rw [HC.out, List.drop_of_length_le (l := ys) (by rw [L2.out]; omega), List.drop_eq_getElem_cons (by rw [L1.out]; exact hkn)]; rfl
        have HV := Lib.hid hv
        have HB2 := Lib.hid (HB.out.al (.cells #[.bool sx.1, .int .i64 sx.2] 54))
        clear hv hc hx
        go_wp2_with fail
        go_ret
        exact ⟨by rw [HV.out]; rfl, HB2.out⟩
    · by_cases hnm : n < m
      · have hv : cmpC xs ys = -1 := by
          rw [HC.out, List.drop_of_length_le (by rw [L1.out]; omega), List.drop_eq_getElem_cons (by rw [L2.out]; omega)]; rfl
        have HV := Lib.hid hv
        clear hv
        go_wp2_with fail
        go_ret
        exact ⟨by rw [HV.out]; rfl, HB.out⟩
      · have hv : cmpC xs ys = 0 := by
          rw [HC.out, List.drop_of_length_le (by rw [L1.out]; omega), List.drop_of_length_le (by rw [L2.out]; omega)]; rfl
        have HV := Lib.hid hv
        clear hv
        go_wp2_with fail
        go_ret
        exact ⟨by rw [HV.out]; rfl, HB.out⟩
set_option maxRecDepth 100000 in
set_option maxHeartbeats 4000000 in
theorem compareI_c (ok ok' : Nat → Prop) (x y : Int) (A B : Option Addr) (n c m d : Nat) (xs ys : List Ci) (w : World) (h1 : Sl SiE ok w A n c xs) (h2 : Sl SiE ok' w B m d ys) (hn : n ≤ 1000000) :
    Calls Tryd.prog 54 #[.agg #[.int .i64 x, .slice A n c], .agg #[.int .i64 y, .slice B m d]] w (IntO w (cmpRi (x, xs) (y, ys))) := by
  have hB := ((Below.refl w.heap.size w).al (.cells #[.int .i64 x, .slice A n c] 77)).al (.cells #[.int .i64 y, .slice B m d] 77)
  have B0 := (Blk.new w 77 #[.int .i64 x, .slice A n c]).al (.cells #[.int .i64 y, .slice B m d] 77)
  have B1 := Blk.new (w.alloc (.cells #[.int .i64 x, .slice A n c] 77)) 77 #[.int .i64 y, .slice B m d]
  rw [World.size_alloc] at B1
  have H1 := Lib.hid (h1.via hB)
  have H2 := Lib.hid (h2.via hB)
  clear h1 h2
  go_enter Tryd.func54, Tryd.ntmps54
  go_upto_region 1 with fail
  generalize (w.alloc (.cells #[.int .i64 x, .slice A n c] 77)).alloc (.cells #[.int .i64 y, .slice B m d] 77) = W at *
  have J1 := Lib.hid (show ∀ w', Below W.heap.size W w' → Sl SiE ok w' A n c xs from fun w' hb => H1.out.via hb)
  have J2 := Lib.hid (show ∀ w', Below W.heap.size W w' → Sl SiE ok' w' B m d ys from fun w' hb => H2.out.via hb)
  have SOF := Lib.hid (show ∀ w', Below W.heap.size W w' → ((∀ i, w'.cell? ⟨w.heap.size, i, none⟩ = #[.int .i64 x, .slice A n c][i]?) ∧ (∀ i, w'.cell? ⟨w.heap.size + 1, i, none⟩ = #[.int .i64 y, .slice B m d][i]?) ∧ Below W.heap.size W w') from fun w' hb => ⟨(B0.via hb).cell, (B1.via hb).cell, hb⟩)
  have HBB := Lib.hid hB
  have hb0 := (Below.refl W.heap.size W).drew
  clear hB H1 H2 B0 B1
  go_region_held3 (fun w' => (∀ i, w'.cell? ⟨w.heap.size, i, none⟩ = #[.int .i64 x, .slice A n c][i]?) ∧ (∀ i, w'.cell? ⟨w.heap.size + 1, i, none⟩ = #[.int .i64 y, .slice B m d][i]?) ∧ Below W.heap.size W w') (exact SOF.out _ (by first | assumption | exact Below.al (by assumption) _)) (first
    | (go_at_call 70; (with_reducible refine (cmp_c _ _ _).mono ?_); rintro ee wk ⟨rfl, rfl⟩)
    | (go_at_call 71; (with_reducible refine (cmpC_c ok ok' A B n c m d xs ys _ (J1.out _ (by assumption)) (J2.out _ (by assumption)) hn).mono ?_); rintro ee wk ⟨rfl, hbk⟩; have hbm : Below W.heap.size W wk := Below.via (by assumption) hbk)
    | (go_at_call 69; (with_reducible refine (or_c (some ⟨_, 0, none⟩) 2 2 [_, _] _ (Ints.two _ _ _ _) (by omega)).mono ?_); rintro ee wk ⟨rfl, rfl⟩))
  have HF := Lib.hid (HBB.out.via (hbm.al (.cells #[.int .i64 (cmpI x y), .int .i64 (cmpC xs ys)] 3)))
  clear hb0 hbm hbk
  go_wp2_with fail
  go_ret
  exact ⟨rfl, HF.out⟩
/-- where the first element is that meets p -/
def IdxFP {α : Type} (p : α → Bool) (xs : List α) (w : World) (e : Ending) (w' : World) : Prop :=
  ∃ r : Int, e = .returned (.int .i64 r) ∧ Below w.heap.size w w' ∧ ((r = -1 ∧ ∀ x ∈ xs, p x = false) ∨ ∃ i : Nat, r = (i : Int) ∧ (∃ x, xs[i]? = some x ∧ p x = true) ∧ ∀ (j : Nat) x, j < i → xs[j]? = some x → p x = false)
set_option maxRecDepth 100000 in
set_option maxHeartbeats 1000000 in
theorem idxSi_c (fid : Nat) (he : ∀ (args : Array Value) (w : World), (callFunc fid args).run Tryd.prog w = .ok (.enter fid args) w) (caps : Array Value) (ok : Nat → Prop) (A : Option Addr) (n c : Nat) (xs : List Ci) (p : Ci → Bool) (w : World) (h : Sl SiE ok w A n c xs) (hn : n ≤ 1000000)
    (hf : ∀ w' r x, Below w.heap.size w w' → x ∈ xs → SiE.rel ok w' r x → Calls Tryd.prog fid (#[siVal r] ++ caps) w' fun e w'' => e = .returned (.bool (p x)) ∧ Below w'.heap.size w' w'') :
    Calls Tryd.prog 68 #[.slice A n c, .func (.func fid) #[] caps] w (IdxFP p xs w) := by
  have H := Lib.hid h
  have HF := Lib.hid hf
  clear h hf
  go_enter Tryd.func68, Tryd.ntmps68
  go_wp2_with fail
  go_loopw [8] (fun i wr => ∃ j : Nat, i = .int .i64 j ∧ j ≤ n ∧ Hid (∀ (k : Nat) x, k < j → xs[k]? = some x → p x = false) ∧ Hid (Below w.heap.size w wr)) (fun i _ => n - (intOf i).toNat)
  case atStart => exact ⟨0, rfl, Nat.zero_le _, Lib.hid (fun k x h => absurd h (Nat.not_lt_zero _)), Lib.hid (Below.refl _ _)⟩
  case round =>
    obtain ⟨j, rfl, hj, HN, HB⟩ := hrel
    by_cases hjl : j < n
    · obtain ⟨b1, o1, ⟨xb, xn⟩, x, rfl, -, hb1, hx, hxr, hc⟩ := (H.out.via HB.out).at_ hjl
      have c0 := hc 0 _ rfl
      have c1 := hc 1 _ rfl
      simp only [SiE, Nat.add_zero] at c0 c1
      have i0 : (0 : Int) ≤ (j : Int) := by omega
      have i1 : (j : Int) < (n : Int) := by omega
      have HX := Lib.hid hx
      have HXR := Lib.hid hxr
      clear hc hx hxr hb1
      go_wp2_with fail
      clear c0 c1
      refine (HF.out wr ⟨xb, xn⟩ x HB.out (List.mem_of_getElem? HX.out) HXR.out).mono ?_
      rintro e w2 ⟨rfl, hb2⟩
      have HB2 := Lib.hid (HB.out.via hb2)
      clear hb2
      cases hp : p x
      case false =>
        have HP := Lib.hid hp
        clear hp
        go_wp2_with fail
        exact ⟨⟨j + 1, by go_num, by omega, Lib.hid (fun k y hk hy => by
          rcases Nat.lt_or_ge k j with h1 | h1
          · exact HN.out k y h1 hy
          · obtain rfl : k = j := by omega
            rw [HX.out] at hy; cases hy; exact HP.out), HB2⟩, by simp [intOf]; omega⟩
      case true =>
        have HP := Lib.hid hp
        clear hp
        go_wp2_with fail
        go_ret
        exact ⟨j, rfl, HB2.out, Or.inr ⟨j, rfl, ⟨x, HX.out, HP.out⟩, HN.out⟩⟩
    · go_wp2_with fail
      go_ret
      exact ⟨-1, rfl, HB.out, Or.inl ⟨rfl, fun x hx => by
        obtain ⟨k, hk⟩ := List.getElem?_of_mem hx
        have := (List.getElem?_eq_some_iff.1 hk).1
        have := H.out.len
        exact HN.out k x (by omega) hk⟩⟩
set_option maxRecDepth 100000 in
set_option maxHeartbeats 1000000 in
theorem idxRi_c (fid : Nat) (he : ∀ (args : Array Value) (w : World), (callFunc fid args).run Tryd.prog w = .ok (.enter fid args) w) (caps : Array Value) (ok : Nat → Prop) (A : Option Addr) (n c : Nat) (xs : List Ri) (p : Ri → Bool) (w : World) (h : Sl RiE ok w A n c xs) (hn : n ≤ 1000000)
    (hf : ∀ w' r x, Below w.heap.size w w' → x ∈ xs → RiE.rel ok w' r x → Calls Tryd.prog fid (#[riVal r] ++ caps) w' fun e w'' => e = .returned (.bool (p x)) ∧ Below w'.heap.size w' w'') :
    Calls Tryd.prog 61 #[.slice A n c, .func (.func fid) #[] caps] w (IdxFP p xs w) := by
  have H := Lib.hid h
  have HF := Lib.hid hf
  clear h hf
  go_enter Tryd.func61, Tryd.ntmps61
  go_wp2_with fail
  go_loopw [8] (fun i wr => ∃ j : Nat, i = .int .i64 j ∧ j ≤ n ∧ Hid (∀ (k : Nat) x, k < j → xs[k]? = some x → p x = false) ∧ Hid (Below w.heap.size w wr)) (fun i _ => n - (intOf i).toNat)
  case atStart => exact ⟨0, rfl, Nat.zero_le _, Lib.hid (fun k x h => absurd h (Nat.not_lt_zero _)), Lib.hid (Below.refl _ _)⟩
  case round =>
    obtain ⟨j, rfl, hj, HN, HB⟩ := hrel
    by_cases hjl : j < n
    · obtain ⟨b1, o1, ⟨xl, xA, xn, xc⟩, x, rfl, -, hb1, hx, hxr, hc⟩ := (H.out.via HB.out).at_ hjl
      have c0 := hc 0 _ rfl
      have c1 := hc 1 _ rfl
      simp only [RiE, Nat.add_zero] at c0 c1
      have i0 : (0 : Int) ≤ (j : Int) := by omega
      have i1 : (j : Int) < (n : Int) := by omega
      have HX := Lib.hid hx
      have HXR := Lib.hid hxr
      clear hc hx hxr hb1
      go_wp2_with fail
      clear c0 c1
      refine (HF.out wr ⟨xl, xA, xn, xc⟩ x HB.out (List.mem_of_getElem? HX.out) HXR.out).mono ?_
      rintro e w2 ⟨rfl, hb2⟩
      have HB2 := Lib.hid (HB.out.via hb2)
      clear hb2
      cases hp : p x
      case false =>
        have HP := Lib.hid hp
        clear hp
        go_wp2_with fail
        exact ⟨⟨j + 1, by go_num, by omega, Lib.hid (fun k y hk hy => by
          rcases Nat.lt_or_ge k j with h1 | h1
          · exact HN.out k y h1 hy
          · obtain rfl : k = j := by omega
            rw [HX.out] at hy; cases hy; exact HP.out), HB2⟩, by simp [intOf]; omega⟩
      case true =>
        have HP := Lib.hid hp
        clear hp
        go_wp2_with fail
        go_ret
        exact ⟨j, rfl, HB2.out, Or.inr ⟨j, rfl, ⟨x, HX.out, HP.out⟩, HN.out⟩⟩
    · go_wp2_with fail
      go_ret
      exact ⟨-1, rfl, HB.out, Or.inl ⟨rfl, fun x hx => by
        obtain ⟨k, hk⟩ := List.getElem?_of_mem hx
        have := (List.getElem?_eq_some_iff.1 hk).1
        have := H.out.len
        exact HN.out k x (by omega) hk⟩⟩
set_option maxHeartbeats 1000000 in
theorem conSi_c (fid : Nat) (he : ∀ (args : Array Value) (w : World), (callFunc fid args).run Tryd.prog w = .ok (.enter fid args) w) (caps : Array Value) (ok : Nat → Prop) (A : Option Addr) (n c : Nat) (xs : List Ci) (p : Ci → Bool) (w : World) (h : Sl SiE ok w A n c xs) (hn : n ≤ 1000000)
    (hf : ∀ w' r x, Below w.heap.size w w' → x ∈ xs → SiE.rel ok w' r x → Calls Tryd.prog fid (#[siVal r] ++ caps) w' fun e w'' => e = .returned (.bool (p x)) ∧ Below w'.heap.size w' w'') :
    Calls Tryd.prog 50 #[.slice A n c, .func (.func fid) #[] caps] w fun e w' => e = .returned (.bool (xs.any p)) ∧ Below w.heap.size w w' := by
  have HC := Lib.hid (idxSi_c fid he caps ok A n c xs p w h hn hf)
  clear h hf
  go_enter Tryd.func50, Tryd.ntmps50
  go_wp2_with fail
  refine HC.out.mono ?_
  rintro e w1 ⟨r, rfl, hb, hr⟩
  have HB := Lib.hid hb
  have HV := Lib.hid (show decide (0 ≤ r) = xs.any p by
    rcases hr with ⟨rfl, h0⟩ | ⟨i, rfl, ⟨x, hx, hp⟩, -⟩
    · rw [decide_eq_false (by omega)]
      exact (List.any_eq_false.2 fun x hx => by rw [h0 x hx]; simp).symm
    · rw [decide_eq_true (by omega)]
      exact (List.any_eq_true.2 ⟨x, List.mem_of_getElem? hx, hp⟩).symm)
  obtain ⟨bv, hbv⟩ : ∃ bv, decide (0 ≤ r) = bv := ⟨_, rfl⟩
  have HW := Lib.hid (show bv = xs.any p by rw [← hbv]; exact HV.out)
  clear hr hb HV
  go_wp2_with fail
  go_ret
  exact ⟨by rw [HW.out]; rfl, HB.out⟩
set_option maxHeartbeats 1000000 in
theorem conRi_c (fid : Nat) (he : ∀ (args : Array Value) (w : World), (callFunc fid args).run Tryd.prog w = .ok (.enter fid args) w) (caps : Array Value) (ok : Nat → Prop) (A : Option Addr) (n c : Nat) (xs : List Ri) (p : Ri → Bool) (w : World) (h : Sl RiE ok w A n c xs) (hn : n ≤ 1000000)
    (hf : ∀ w' r x, Below w.heap.size w w' → x ∈ xs → RiE.rel ok w' r x → Calls Tryd.prog fid (#[riVal r] ++ caps) w' fun e w'' => e = .returned (.bool (p x)) ∧ Below w'.heap.size w' w'') :
    Calls Tryd.prog 31 #[.slice A n c, .func (.func fid) #[] caps] w fun e w' => e = .returned (.bool (xs.any p)) ∧ Below w.heap.size w w' := by
  have HC := Lib.hid (idxRi_c fid he caps ok A n c xs p w h hn hf)
  clear h hf
  go_enter Tryd.func31, Tryd.ntmps31
  go_wp2_with fail
  refine HC.out.mono ?_
  rintro e w1 ⟨r, rfl, hb, hr⟩
  have HB := Lib.hid hb
  have HV := Lib.hid (show decide (0 ≤ r) = xs.any p by
    rcases hr with ⟨rfl, h0⟩ | ⟨i, rfl, ⟨x, hx, hp⟩, -⟩
    · rw [decide_eq_false (by omega)]
      exact (List.any_eq_false.2 fun x hx => by rw [h0 x hx]; simp).symm
    · rw [decide_eq_true (by omega)]
      exact (List.any_eq_true.2 ⟨x, List.mem_of_getElem? hx, hp⟩).symm)
  obtain ⟨bv, hbv⟩ : ∃ bv, decide (0 ≤ r) = bv := ⟨_, rfl⟩
  have HW := Lib.hid (show bv = xs.any p by rw [← hbv]; exact HV.out)
  clear hr hb HV
  go_wp2_with fail
  go_ret
  exact ⟨by rw [HW.out]; rfl, HB.out⟩
set_option maxRecDepth 100000 in
set_option maxHeartbeats 2000000 in
theorem hasI_c (T N S : Int) (A : Option Addr) (n c : Nat) (sb : Bool) (k : Int) (w : World) :
    Calls Tryd.prog 52 #[.agg #[.int .i64 T, .int .i64 N, .int .i64 S, .slice A n c], .agg #[.bool sb, .int .i64 k]] w (TellB w (okSi T N (sb, k))) := by
  have HB := Lib.hid (((Below.refl w.heap.size w).al (.cells #[.int .i64 T, .int .i64 N, .int .i64 S, .slice A n c] 24)).al (.cells #[.bool sb, .int .i64 k] 54))
  obtain ⟨b0, h0⟩ : ∃ b, decide (0 ≤ k) = b := ⟨_, rfl⟩
  obtain ⟨b1, h1⟩ : ∃ b, decide (k < T) = b := ⟨_, rfl⟩
  obtain ⟨b2, h2⟩ : ∃ b, decide (k < N) = b := ⟨_, rfl⟩
  have HV := Lib.hid (show okSi T N (sb, k) = (b0 && ((sb && b1) || (!sb && b2))) by unfold okSi; rw [← h0, ← h1, ← h2])
  cases b0 <;> cases sb <;> cases b1 <;> cases b2 <;>
  · go_enter Tryd.func52, Tryd.ntmps52
    go_wp2_with fail
    go_ret
    exact ⟨by rw [HV.out]; rfl, HB.out⟩
end Go.Proofs.YtfmnmgnhanogmaaDoor



namespace Go.Proofs.YtfmnmgnhanogmaaDoor
open Go.RowKit

def giCells (T N S : Int) (A : Option Addr) (n c : Nat) : Array Value := #[.int .i64 T, .int .i64 N, .int .i64 S, .slice A n c]
set_option maxRecDepth 100000 in
set_option maxHeartbeats 2000000 in
theorem check1I_c (bg : Nat) (T N S : Int) (A : Option Addr) (n c : Nat) (s : Ci) (w : World) (hg : Blk w bg 24 (giCells T N S A n c)) :
    Calls Tryd.prog 51 (#[siVal s] ++ #[.pointer (some ⟨bg, 0, none⟩)]) w (TellB w (!okSi T N s)) := by
  obtain ⟨sb, sk⟩ := s
  unfold giCells at hg
  have HB := Lib.hid ((Below.refl w.heap.size w).al (.cells #[.bool sb, .int .i64 sk] 54))
  have Bg := hg.al (.cells #[.bool sb, .int .i64 sk] 54)
  clear hg
  have cBg := Bg.cell
  have fBg := Bg.frozen
  have lBg := Bg.lt
  dsimp only [siVal]
  go_enter Tryd.func51, Tryd.ntmps51
  go_wp2_with fail
  refine (hasI_c T N S A n c sb sk _).mono ?_
  rintro e w' ⟨rfl, hb⟩
  have HF := Lib.hid (HB.out.via hb)
  clear hb
  go_wp2_with fail
  go_ret
  exact ⟨rfl, HF.out⟩
set_option maxRecDepth 100000 in
set_option maxHeartbeats 2000000 in
theorem check2I_c (ok ok' : Nat → Prop) (br : Nat) (y : Int) (B : Option Addr) (m d : Nat) (r : Int × SlV) (x : Ri) (ys : List Ci) (w : World) (h1 : RiE.rel ok w r x) (hr : Blk w br 77 #[.int .i64 y, .slice B m d]) (h2 : Sl SiE ok' w B m d ys) (hn : x.2.length ≤ 1000000) :
    Calls Tryd.prog 53 (#[riVal r] ++ #[.pointer (some ⟨br, 0, none⟩)]) w (TellB w (decide (x = (y, ys)))) := by
  obtain ⟨xl, xA, xn, xc⟩ := r
  obtain ⟨x1, xs⟩ := x
  obtain ⟨e1, e2⟩ := h1
  simp only at e1 e2 hn
  subst e1
  have hxn : xn ≤ 1000000 := by have := e2.len; omega
  obtain ⟨q, hqq⟩ : ∃ q, q = cmpRi (xl, xs) (y, ys) := ⟨_, rfl⟩
  have HQ := Lib.hid hqq
  obtain ⟨bv, hbv⟩ : ∃ bv, (q == 0) = bv := ⟨_, rfl⟩
  have HV := Lib.hid (show decide ((xl, xs) = (y, ys)) = bv by
    rw [← hbv, hqq]
    by_cases h : (xl, xs) = (y, ys)
    · rw [decide_eq_true h, cmpRi_zero.2 h]; rfl
    · rw [decide_eq_false h]
      exact (beq_eq_false_iff_ne.2 fun e => h (cmpRi_zero.1 e)).symm)
  have HB := Lib.hid ((Below.refl w.heap.size w).al (.cells #[.int .i64 xl, .slice xA xn xc] 77))
  have H1 := Lib.hid (e2.al (.cells #[.int .i64 xl, .slice xA xn xc] 77))
  have H2 := Lib.hid (h2.al (.cells #[.int .i64 xl, .slice xA xn xc] 77))
  have Br := hr.al (.cells #[.int .i64 xl, .slice xA xn xc] 77)
  clear e2 h2 hr hqq hn
  have cBr := Br.cell
  have fBr := Br.frozen
  have lBr := Br.lt
  dsimp only [riVal]
  go_enter Tryd.func53, Tryd.ntmps53
  go_wp2_with fail
  refine (compareI_c ok ok' xl y xA B xn xc m d xs ys _ H1.out H2.out hxn).mono ?_
  rintro e w' ⟨rfl, hb⟩
  rw [← HQ.out]
  have HF := Lib.hid (HB.out.via hb)
  clear hb
  go_wp2_with fail
  go_ret
  exact ⟨by rw [HV.out]; rfl, HF.out⟩
theorem dlt {a b : Int} (h : a < b) : decide (a < b) = true := decide_eq_true h
theorem dge {a b : Int} (h : ¬ a < b) : decide (a < b) = false := decide_eq_false h
theorem dle {a b : Int} (h : a ≤ b) : decide (a ≤ b) = true := decide_eq_true h
theorem dgt {a b : Int} (h : ¬ a ≤ b) : decide (a ≤ b) = false := decide_eq_false h
theorem chkL_step (T N : Int) (rs : List Ri) (k : Nat) {r : Ri} (hr : rs[k]? = some r) (h1 : 0 ≤ r.1 ∧ r.1 < N) (h2 : ¬ 4 < r.2.length) (h3 : ¬ (r.2.any fun s => !okSi T N s) = true) (h4 : ¬ r ∈ rs.take k) :
    chkL T N (rs.take k) (rs.drop k) = chkL T N (rs.take (k + 1)) (rs.drop (k + 1)) := by
  have hl := List.getElem?_eq_some_iff.1 hr
  rw [List.drop_eq_getElem_cons hl.1, hl.2, take_at hr]
  conv => lhs; unfold chkL
  rw [if_neg (by simpa using h1), if_neg h2, if_neg h3, if_neg h4]
set_option maxRecDepth 100000 in
set_option maxHeartbeats 8000000 in
theorem checkI_c (ok : Nat → Prop) (T N S : Int) (A : Option Addr) (n c : Nat) (rs : List Ri) (w : World) (hl : Sl RiE ok w A n c rs) :
    Calls Tryd.prog 22 #[.agg #[.int .i64 T, .int .i64 N, .int .i64 S, .slice A n c]] w (IntO w (chkG T N S rs)) := by
  have hlen := hl.len
  have B0 := Blk.new w 24 #[.int .i64 T, .int .i64 N, .int .i64 S, .slice A n c]
  have HB0 := Lib.hid B0
  have HL := Lib.hid (hl.al (.cells #[.int .i64 T, .int .i64 N, .int .i64 S, .slice A n c] 24))
  have HB := Lib.hid ((Below.refl w.heap.size w).al (.cells #[.int .i64 T, .int .i64 N, .int .i64 S, .slice A n c] 24))
  have HLEN := Lib.hid hlen
  clear hl hlen B0
  by_cases hall : 1 ≤ T ∧ T ≤ 8 ∧ 1 ≤ N ∧ N ≤ 10 ∧ 0 ≤ S ∧ S < N
  · obtain ⟨a1, a2, a3, a4, a5, a6⟩ := hall
    have e1 : decide (T < 1) = false := dge (by omega)
    have e2 : decide ((8 : Int) < T) = false := dge (by omega)
    have e3 : decide (N < 1) = false := dge (by omega)
    have e4 : decide ((10 : Int) < N) = false := dge (by omega)
    have e5 : decide (S < 0) = false := dge (by omega)
    have e6 : decide (N ≤ S) = false := dgt (by omega)
    by_cases hn : 32 < n
    · have HV := Lib.hid (show chkG T N S rs = 2 by
        unfold chkG; rw [if_neg (by simp; omega), if_pos (by rw [HLEN.out]; exact hn)])
      have e7 : decide ((32 : Int) < (n : Int)) = true := dlt (by omega)
      go_enter Tryd.func22, Tryd.ntmps22
      go_wp2_with fail
      go_ret
      exact ⟨by rw [HV.out]; rfl, HB.out⟩
    · have HV := Lib.hid (show chkG T N S rs = chkL T N [] rs by
        unfold chkG; rw [if_neg (by simp; omega), if_neg (by rw [HLEN.out]; exact hn)])
      go_enter Tryd.func22, Tryd.ntmps22
      go_wp2_with fail
      clear e1 e2 e3 e4 e5 e6
      generalize hW : w.alloc (.cells #[.int .i64 T, .int .i64 N, .int .i64 S, .slice A n c] 24) = W at *
      clear hW
      go_loopw [42] (fun i wr => ∃ k : Nat, i = .int .i64 k ∧ k ≤ n ∧ Hid (chkL T N [] rs = chkL T N (rs.take k) (rs.drop k)) ∧ Hid (∀ r ∈ rs.take k, r.2.length ≤ 4) ∧ Hid (Below W.heap.size W wr)) (fun i _ => n - (intOf i).toNat)
      case atStart => exact ⟨0, rfl, Nat.zero_le _, Lib.hid (by simp), Lib.hid (fun r hr => by simp at hr), Lib.hid (Below.refl _ _)⟩
      case round =>
        obtain ⟨k, rfl, hk, HC, H4, HR⟩ := hrel
        by_cases hlt : k < n
        · as_aux_lemma =>
          obtain ⟨b1, o1, ⟨sl, sA, sn, sc⟩, ⟨x, xs⟩, rfl, -, hbb, hy, ⟨hx1, hx2⟩, hc⟩ := (HL.out.via HR.out).at_ hlt
          simp only at hx1 hx2
          obtain rfl : sl = x := hx1
          have c0 := hc 0 _ rfl
          have c1 := hc 1 _ rfl
          simp only [RiE, Nat.add_zero] at c0 c1
          have i0 : (0 : Int) ≤ (k : Int) := by omega
          have i1 : (k : Int) < (n : Int) := by omega
          have hxl := hx2.len
          have HY := Lib.hid hy
          have HX := Lib.hid (hx2.al (.cells #[.int .i64 sl, .slice sA sn sc] 77))
          have HR2 := Lib.hid (HR.out.al (.cells #[.int .i64 sl, .slice sA sn sc] 77))
          have Bk := Blk.new wr 77 #[.int .i64 sl, .slice sA sn sc]
          have Bg := (HB0.out.via HR.out).al (.cells #[.int .i64 sl, .slice sA sn sc] 77)
          have HXL := Lib.hid hxl
          have HD := Lib.hid (show chkL T N [] rs = chkL T N (rs.take k) ((sl, xs) :: rs.drop (k + 1)) by
            have h := List.getElem?_eq_some_iff.1 hy
            rw [HC.out, List.drop_eq_getElem_cons h.1, h.2])
          clear hc hy hx2 hbb hxl
          go_upto_region 8 with fail
          clear c0 c1
          generalize wr.alloc (.cells #[.int .i64 sl, .slice sA sn sc] 77) = W2 at *
          generalize wr.heap.size = bk at *
          have HBk := Lib.hid Bk
          have HBg := Lib.hid Bg
          by_cases k1 : sl < 0
          · have e1 : decide (sl < 0) = true := dlt k1
            have HV2 := Lib.hid (show chkG T N S rs = 3 by rw [HV.out, HD.out]; unfold chkL; rw [if_pos (by simp; omega)])
            have cBk := Bk.cell
            have fBk := Bk.frozen
            have lBk := Bk.lt
            have cBg := Bg.cell
            have fBg := Bg.frozen
            have lBg := Bg.lt
            go_wp2_with fail
            go_ret
            exact ⟨by rw [HV2.out]; rfl, HB.out.via HR2.out⟩
          · have e1 : decide (sl < 0) = false := dge k1
            by_cases k2 : N ≤ sl
            · have e2 : decide (N ≤ sl) = true := dle k2
              have HV2 := Lib.hid (show chkG T N S rs = 3 by rw [HV.out, HD.out]; unfold chkL; rw [if_pos (by simp; omega)])
              have cBk := Bk.cell
              have fBk := Bk.frozen
              have lBk := Bk.lt
              have cBg := Bg.cell
              have fBg := Bg.frozen
              have lBg := Bg.lt
              go_wp2_with fail
              go_ret
              exact ⟨by rw [HV2.out]; rfl, HB.out.via HR2.out⟩
            · have e2 : decide (N ≤ sl) = false := dgt k2
              by_cases k3 : 4 < sn
              · have e3 : decide ((4 : Int) < (sn : Int)) = true := dlt (by omega)
                have HV2 := Lib.hid (show chkG T N S rs = 2 by rw [HV.out, HD.out]; unfold chkL; rw [if_neg (by simp; omega), if_pos (by rw [HXL.out]; exact k3)])
                have cBk := Bk.cell
                have fBk := Bk.frozen
                have lBk := Bk.lt
                have cBg := Bg.cell
                have fBg := Bg.frozen
                have lBg := Bg.lt
                go_wp2_with fail
                go_ret
                exact ⟨by rw [HV2.out]; rfl, HB.out.via HR2.out⟩
              · have e3 : decide ((4 : Int) < (sn : Int)) = false := dge (by omega)
                have cBk := Bk.cell
                have fBk := Bk.frozen
                have lBk := Bk.lt
                have cBg := Bg.cell
                have fBg := Bg.frozen
                have lBg := Bg.lt
                go_wp2_with fail
                clear cBk fBk lBk cBg fBg lBg
                clear e1 e2 e3
                refine (conSi_c 51 (enters_c rfl rfl rfl) #[.pointer (some ⟨w.heap.size, 0, none⟩)] ok sA sn sc xs (fun s => !okSi T N s) W2 HX.out (by omega) ?_).mono ?_
                · intro w' s y hb' hy hrel
                  obtain rfl : s = y := hrel
                  exact check1I_c w.heap.size T N S (some ⟨b1, o1, none⟩) n c s w' (HBg.out.via hb')
                rintro e w3 ⟨rfl, hb⟩
                have HR3 := Lib.hid (HR2.out.via hb)
                have HX3 := Lib.hid (HX.out.via hb)
                have Bk := HBk.out.via hb
                have Bg := HBg.out.via hb
                have HBk := Lib.hid Bk
                clear hb HR2 HX HBg
                have j2 : (k : Int) ≤ (c : Int) := by have := HL.out.le; omega
                cases hany : xs.any fun s => !okSi T N s with
                | true =>
                  have HV2 := Lib.hid (show chkG T N S rs = 3 by rw [HV.out, HD.out]; unfold chkL; rw [if_neg (by simp; omega), if_neg (by rw [HXL.out]; exact k3), if_pos hany])
                  clear hany
                  have cBk := Bk.cell
                  have fBk := Bk.frozen
                  have lBk := Bk.lt
                  have cBg := Bg.cell
                  have fBg := Bg.frozen
                  have lBg := Bg.lt
                  go_wp2_with fail
                  go_ret
                  exact ⟨by rw [HV2.out]; rfl, HB.out.via HR3.out⟩
                | false =>
                  have HAN := Lib.hid hany
                  clear hany
                  have cBk := Bk.cell
                  have fBk := Bk.frozen
                  have lBk := Bk.lt
                  have cBg := Bg.cell
                  have fBg := Bg.frozen
                  have lBg := Bg.lt
                  go_wp2_with fail
                  clear cBk fBk lBk cBg fBg lBg
                  refine (conRi_c 53 (enters_c rfl rfl rfl) #[.pointer (some ⟨bk, 0, none⟩)] ok (some ⟨b1, o1, none⟩) k c (rs.take k) (fun r => decide (r = (sl, xs))) w3 ((HL.out.via HR3.out).take (by omega)) (by omega) ?_).mono ?_
                  · intro w' r y hb' hy hrel
                    exact check2I_c ok ok bk sl sA sn sc r y xs w' hrel (HBk.out.via hb') (HX3.out.via hb') (Nat.le_trans (H4.out y hy) (by omega))
                  rintro e w4 ⟨rfl, hb⟩
                  have HR4 := Lib.hid (HR3.out.via hb)
                  clear hb
                  by_cases hmem : (sl, xs) ∈ rs.take k
                  · have hq : ((rs.take k).any fun r => decide (r = (sl, xs))) = true := List.any_eq_true.2 ⟨_, hmem, by simp⟩
                    rw [hq]
                    have HV2 := Lib.hid (show chkG T N S rs = 6 by rw [HV.out, HD.out]; unfold chkL; rw [if_neg (by simp; omega), if_neg (by rw [HXL.out]; exact k3), if_neg (by rw [HAN.out]; simp), if_pos hmem])
                    clear hq hmem
                    go_wp2_with fail
                    go_ret
                    exact ⟨by rw [HV2.out]; rfl, HB.out.via HR4.out⟩
                  · have hq : ((rs.take k).any fun r => decide (r = (sl, xs))) = false := List.any_eq_false.2 fun r hr => by
                      simp only [decide_eq_true_eq]; exact fun e => hmem (e ▸ hr)
                    rw [hq]
                    have HC2 := Lib.hid (HC.out.trans (chkL_step T N rs k HY.out ⟨by simp only; omega, by simp only; omega⟩ (by simp only; rw [HXL.out]; exact k3) (by rw [HAN.out]; simp) hmem))
                    have H42 := Lib.hid (show ∀ r ∈ rs.take (k + 1), r.2.length ≤ 4 from fun r hr => by
                      rw [take_at HY.out, List.mem_append, List.mem_singleton] at hr
                      rcases hr with hr | rfl
                      · exact H4.out r hr
                      · simp only; rw [HXL.out]; omega)
                    clear hq hmem
                    go_wp2_with fail
                    exact ⟨⟨k + 1, by go_num, by omega, HC2, H42, HR4⟩, by simp [intOf]; omega⟩
        · obtain rfl : k = n := by omega
          have HV2 := Lib.hid (show chkG T N S rs = 0 by
            rw [HV.out, HC.out, List.drop_of_length_le (by rw [HLEN.out]; exact Nat.le_refl _)]; rfl)
          go_wp2_with fail
          go_ret
          exact ⟨by rw [HV2.out]; rfl, HB.out.via HR.out⟩
  · have HV := Lib.hid (show chkG T N S rs = 1 by unfold chkG; rw [if_pos hall])
    by_cases a1 : T < 1
    · have e1 : decide (T < 1) = true := dlt a1
      go_enter Tryd.func22, Tryd.ntmps22
      go_wp2_with fail
      go_ret
      exact ⟨by rw [HV.out]; rfl, HB.out⟩
    · have e1 : decide (T < 1) = false := dge a1
      by_cases a2 : 8 < T
      · have e2 : decide ((8 : Int) < T) = true := dlt a2
        go_enter Tryd.func22, Tryd.ntmps22
        go_wp2_with fail
        go_ret
        exact ⟨by rw [HV.out]; rfl, HB.out⟩
      · have e2 : decide ((8 : Int) < T) = false := dge a2
        by_cases a3 : N < 1
        · have e3 : decide (N < 1) = true := dlt a3
          go_enter Tryd.func22, Tryd.ntmps22
          go_wp2_with fail
          go_ret
          exact ⟨by rw [HV.out]; rfl, HB.out⟩
        · have e3 : decide (N < 1) = false := dge a3
          by_cases a4 : 10 < N
          · have e4 : decide ((10 : Int) < N) = true := dlt a4
            go_enter Tryd.func22, Tryd.ntmps22
            go_wp2_with fail
            go_ret
            exact ⟨by rw [HV.out]; rfl, HB.out⟩
          · have e4 : decide ((10 : Int) < N) = false := dge a4
            by_cases a5 : S < 0
            · have e5 : decide (S < 0) = true := dlt a5
              go_enter Tryd.func22, Tryd.ntmps22
              go_wp2_with fail
              go_ret
              exact ⟨by rw [HV.out]; rfl, HB.out⟩
            · have e5 : decide (S < 0) = false := dge a5
              have e6 : decide (N ≤ S) = true := dle (by omega)
              go_enter Tryd.func22, Tryd.ntmps22
              go_wp2_with fail
              go_ret
              exact ⟨by rw [HV.out]; rfl, HB.out⟩
end Go.Proofs.YtfmnmgnhanogmaaDoor

