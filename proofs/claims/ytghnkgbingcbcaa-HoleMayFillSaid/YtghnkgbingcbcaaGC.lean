/- gram.Has, Order, Compare, and gram.Check of a valid grammar. -/
import Derived.Test.YtghnkgbingcbcaaZD
namespace Go.Proofs.Ytghnkgbingcbcaa
open Go.RowKit

def grCells (g : Gr) (A : Option Addr) (n c : Nat) : Array Value := #[.int .i64 (g.terms : Int), .int .i64 (g.nons : Int), .int .i64 (g.start : Int), .slice A n c]
set_option maxRecDepth 100000 in
set_option maxHeartbeats 2000000 in
theorem has_sym (g : Gr) (A : Option Addr) (n c : Nat) (s : Sy) (w : World) (hs : g.okSy s) :
    Calls Try.prog 50 #[grVal g A n c, .agg #[.bool s.1, .int .i64 (s.2 : Int)]] w (TellB w true) := by
  obtain ⟨b, k⟩ := s
  simp only [Gr.okSy] at hs
  simp only [grVal]
  have HB := Lib.hid (((Below.refl w.heap.size w).al (.cells #[.int .i64 (g.terms : Int), .int .i64 (g.nons : Int), .int .i64 (g.start : Int), .slice A n c] 28)).al (.cells #[.bool b, .int .i64 (k : Int)] 48))
  have k0 : decide ((0 : Int) ≤ (k : Int)) = true := by simp
  cases b with
  | true =>
    have k1 : decide (k < g.terms) = true := by simpa using hs
    clear hs
    go_enter Try.func50, Try.ntmps50
    go_wp2_with fail
    go_ret
    exact ⟨rfl, HB.out⟩
  | false =>
    have k1 : decide (k < g.nons) = true := by simpa using hs
    clear hs
    go_enter Try.func50, Try.ntmps50
    go_wp2_with fail
    go_ret
    exact ⟨rfl, HB.out⟩
set_option maxRecDepth 100000 in
set_option maxHeartbeats 2000000 in
theorem check1_c (bg : Nat) (g : Gr) (A : Option Addr) (n c : Nat) (s : Sy) (w : World) (hg : Blk w bg 28 (grCells g A n c)) (hs : g.okSy s) :
    Calls Try.prog 49 #[.agg #[.bool s.1, .int .i64 (s.2 : Int)], .pointer (some ⟨bg, 0, none⟩)] w (TellB w false) := by
  unfold grCells at hg
  have hlt := hg.lt
  have HB := Lib.hid ((Below.refl w.heap.size w).al (.cells #[.bool s.1, .int .i64 (s.2 : Int)] 48))
  have Bg := hg.al (.cells #[.bool s.1, .int .i64 (s.2 : Int)] 48)
  clear hg
  have cBg := Bg.cell
  have fBg := Bg.frozen
  have lBg := Bg.lt
  go_enter Try.func49, Try.ntmps49
  go_wp2_with fail
  refine (has_sym g A n c s _ hs).mono ?_
  rintro e w' ⟨rfl, hb⟩
  have HF := Lib.hid (HB.out.via hb)
  clear hb
  go_wp2_with fail
  go_ret
  exact ⟨rfl, HF.out⟩
set_option maxRecDepth 100000 in
set_option maxHeartbeats 2000000 in
theorem symsOk_c (bg : Nat) (g : Gr) (A : Option Addr) (n c : Nat) (ok : Nat → Prop) (B : Option Addr) (m d : Nat) (l : List Sy) (w : World) (hg : Blk w bg 28 (grCells g A n c)) (hl : Sl SyE ok w B m d l) (hs : ∀ s ∈ l, g.okSy s) (hm : m ≤ 1000000) :
    Calls Try.prog 48 #[.slice B m d, .func (.func 49) #[] #[.pointer (some ⟨bg, 0, none⟩)]] w (TellB w false) := by
  have HG := Lib.hid hg
  have HL := Lib.hid hl
  have HS := Lib.hid hs
  clear hg hl hs
  have key : Calls Try.prog 70 #[.slice B m d, .func (.func 49) #[] #[.pointer (some ⟨bg, 0, none⟩)]] w fun e w' => e = .returned (.int .i64 (-1)) ∧ Below w.heap.size w w' := by
    go_enter Try.func70, Try.ntmps70
    go_wp2_with fail
    go_loopw [8] (fun i wr => ∃ k : Nat, i = .int .i64 k ∧ k ≤ m ∧ Below w.heap.size w wr) (fun i _ => m - (intOf i).toNat)
    case atStart => exact ⟨0, rfl, Nat.zero_le _, Below.refl _ _⟩
    case round =>
      obtain ⟨k, rfl, hk, hb⟩ := hrel
      have HB := Lib.hid hb
      clear hb
      by_cases hlt : k < m
      · obtain ⟨b1, o1, sx, sy, rfl, -, hbb, hy, hxy, hc⟩ := (HL.out.via HB.out).at_ hlt
        obtain rfl : sx = sy := hxy
        have c0 := hc 0 _ rfl
        have c1 := hc 1 _ rfl
        simp only [SyE, Nat.add_zero] at c0 c1
        have i0 : (0 : Int) ≤ (k : Int) := by omega
        have i1 : (k : Int) < (m : Int) := by omega
        have HY := Lib.hid (HS.out sx (List.mem_of_getElem? hy))
        clear hc hy
        go_wp2_with fail
        refine (check1_c bg g A n c sx wr (HG.out.via HB.out) HY.out).mono ?_
        rintro e w' ⟨rfl, hb2⟩
        have HF := Lib.hid (HB.out.via hb2)
        clear hb2 c0 c1
        go_wp2_with fail
        exact ⟨⟨k + 1, by go_num, by omega, HF.out⟩, by simp [intOf]; omega⟩
      · go_wp2_with fail
        go_ret
        exact ⟨rfl, HB.out⟩
  go_enter Try.func48, Try.ntmps48
  have KEY := Lib.hid key
  clear key
  go_wp2_with fail
  refine KEY.out.mono ?_
  rintro e w' ⟨rfl, hb⟩
  have HF := Lib.hid hb
  clear hb
  go_wp2_with fail
  go_ret
  exact ⟨rfl, HF.out⟩

/-! ### order of symbols and rules -/
def ordS (a b : Sy) : Int := if a.1 = b.1 then cmpI (a.2 : Int) (b.2 : Int) else if a.1 then -1 else 1
theorem ordS_zero {a b : Sy} : ordS a b = 0 ↔ a = b := by
  obtain ⟨x, m⟩ := a
  obtain ⟨y, n⟩ := b
  unfold ordS
  by_cases e : x = y
  · subst e; simp only [if_true]; rw [cmpI_zero]; simp; omega
  · rw [if_neg e]
    constructor
    · intro h; split at h <;> omega
    · intro h; exact absurd (congrArg Prod.fst h) e
def cmpS : List Sy → List Sy → Int
  | [], [] => 0
  | [], _ :: _ => -1
  | _ :: _, [] => 1
  | x :: xs, y :: ys => if ordS x y = 0 then cmpS xs ys else ordS x y
theorem cmpS_zero : ∀ {a b : List Sy}, cmpS a b = 0 ↔ a = b
  | [], [] => by simp [cmpS]
  | [], _ :: _ => by simp [cmpS]
  | _ :: _, [] => by simp [cmpS]
  | x :: xs, y :: ys => by
    rw [cmpS]
    by_cases e : ordS x y = 0
    · rw [if_pos e, cmpS_zero (a := xs) (b := ys), ordS_zero.1 e]; simp
    · rw [if_neg e]
      constructor
      · intro h; exact absurd h e
      · intro h; exact absurd (ordS_zero.2 (List.cons.inj h).1) e
def cmpR (a b : Ru) : Int := orL [cmpI (a.1 : Int) (b.1 : Int), cmpS a.2 b.2]
theorem cmpR_zero {a b : Ru} : cmpR a b = 0 ↔ a = b := by
  obtain ⟨x, l⟩ := a
  obtain ⟨y, m⟩ := b
  unfold cmpR
  simp only [orL]
  by_cases e : cmpI (x : Int) (y : Int) = 0
  · rw [if_pos e]
    have h := cmpI_zero.1 e
    have h : x = y := by omega
    subst h
    by_cases e2 : cmpS l m = 0
    · rw [if_pos e2]; simp [cmpS_zero.1 e2]
    · rw [if_neg e2]
      constructor
      · intro h; exact absurd h e2
      · intro h; exact absurd (cmpS_zero.2 (congrArg Prod.snd h)) e2
  · rw [if_neg e]
    constructor
    · intro h; exact absurd h e
    · intro h; exact absurd (cmpI_zero.2 (by have := congrArg Prod.fst h; simp at this; omega)) e
def IntO (w : World) (n : Int) (e : Ending) (w' : World) : Prop := e = .returned (.int .i64 n) ∧ Below w.heap.size w w'
set_option maxRecDepth 100000 in
set_option maxHeartbeats 2000000 in
theorem order_c (a b : Sy) (w : World) :
    Calls Try.prog 73 #[.agg #[.bool a.1, .int .i64 (a.2 : Int)], .agg #[.bool b.1, .int .i64 (b.2 : Int)]] w (IntO w (ordS a b)) := by
  obtain ⟨x, m⟩ := a
  obtain ⟨y, n⟩ := b
  have HB := Lib.hid (((Below.refl w.heap.size w).al (.cells #[.bool x, .int .i64 (m : Int)] 48)).al (.cells #[.bool y, .int .i64 (n : Int)] 48))
  cases x <;> cases y
  · go_enter Try.func73, Try.ntmps73
    go_wp2_with fail
    refine (cmp_c _ _ _).mono ?_
    rintro e w' ⟨rfl, rfl⟩
    go_wp2_with fail
    go_ret
    exact ⟨by simp [ordS], HB.out⟩
  · go_enter Try.func73, Try.ntmps73
    go_wp2_with fail
    go_ret
    exact ⟨rfl, HB.out⟩
  · go_enter Try.func73, Try.ntmps73
    go_wp2_with fail
    go_ret
    exact ⟨rfl, HB.out⟩
  · go_enter Try.func73, Try.ntmps73
    go_wp2_with fail
    refine (cmp_c _ _ _).mono ?_
    rintro e w' ⟨rfl, rfl⟩
    go_wp2_with fail
    go_ret
    exact ⟨by simp [ordS], HB.out⟩
theorem cmpS_step {xs ys : List Sy} {k : Nat} {x y : Sy} (hx : xs[k]? = some x) (hy : ys[k]? = some y) : cmpS (xs.drop k) (ys.drop k) = if ordS x y = 0 then cmpS (xs.drop (k + 1)) (ys.drop (k + 1)) else ordS x y := by
  have h1 := List.getElem?_eq_some_iff.1 hx
  have h2 := List.getElem?_eq_some_iff.1 hy
  rw [List.drop_eq_getElem_cons h1.1, List.drop_eq_getElem_cons h2.1, cmpS, h1.2, h2.2]
set_option maxRecDepth 100000 in
set_option maxHeartbeats 4000000 in
theorem cmpS_c (ok ok' : Nat → Prop) (A B : Option Addr) (n c m d : Nat) (xs ys : List Sy) (w : World) (h1 : Sl SyE ok w A n c xs) (h2 : Sl SyE ok' w B m d ys) (hn : n ≤ 1000000) :
    Calls Try.prog 72 #[.slice A n c, .slice B m d, .func (.func 73) #[] #[]] w (IntO w (cmpS xs ys)) := by
  have H1 := Lib.hid h1
  have H2 := Lib.hid h2
  have L1 := Lib.hid h1.len
  have L2 := Lib.hid h2.len
  clear h1 h2
  go_enter Try.func72, Try.ntmps72
  go_wp2_with fail
  go_loopw [13] (fun i wr => ∃ k : Nat, i = .int .i64 k ∧ k ≤ n ∧ k ≤ m ∧ Hid (cmpS xs ys = cmpS (xs.drop k) (ys.drop k)) ∧ Below w.heap.size w wr) (fun i _ => n - (intOf i).toNat)
  case atStart => exact ⟨0, rfl, Nat.zero_le _, Nat.zero_le _, Lib.hid rfl, Below.refl _ _⟩
  case round =>
    obtain ⟨k, rfl, hk, hkm, HC, hb⟩ := hrel
    have HB := Lib.hid hb
    clear hb
    by_cases hkn : k < n
    · obtain ⟨b1, o1, sx, sx', rfl, -, hb1, hx, hxx, hc⟩ := (H1.out.via HB.out).at_ hkn
      obtain rfl : sx = sx' := hxx
      have c0 := hc 0 _ rfl
      have c1 := hc 1 _ rfl
      simp only [SyE, Nat.add_zero] at c0 c1
      have i0 : (0 : Int) ≤ (k : Int) := by omega
      have i1 : (k : Int) < (n : Int) := by omega
      by_cases hk2 : k < m
      · obtain ⟨b2, o2, sy, sy', rfl, -, hb2, hy, hyy, hd⟩ := (H2.out.via HB.out).at_ hk2
        obtain rfl : sy = sy' := hyy
        have d0 := hd 0 _ rfl
        have d1 := hd 1 _ rfl
        simp only [SyE, Nat.add_zero] at d0 d1
        have i2 : (k : Int) < (m : Int) := by omega
        have HS := Lib.hid (cmpS_step hx hy)
        have HB2 := Lib.hid ((HB.out.al (.cells #[.bool sx.1, .int .i64 (sx.2 : Int)] 48)).al (.cells #[.bool sy.1, .int .i64 (sy.2 : Int)] 48))
        clear hc hd hx hy
        go_wp2_with fail
        refine (order_c sx sy _).mono ?_
        rintro e w' ⟨rfl, hb⟩
        have HF := Lib.hid (HB2.out.via hb)
        clear hb c0 c1 d0 d1
        by_cases he : ordS sx sy = 0
        · rw [he]
          have HE := Lib.hid (HC.out.trans (by rw [HS.out, if_pos he]))
          clear he
          go_wp2_with fail
          exact ⟨⟨k + 1, by go_num, by omega, by omega, HE, HF.out⟩, by simp [intOf]; omega⟩
        · have HE := Lib.hid (HC.out.trans (by rw [HS.out, if_neg he]))
          have hne : (ordS sx sy != 0) = true := by simpa using he
          clear he
          generalize ordS sx sy = q at *
          go_wp2_with fail
          go_ret
          exact ⟨by rw [HE.out]; rfl, HF.out⟩
      · have hv : cmpS xs ys = 1 := by
          rw [HC.out, List.drop_of_length_le (l := ys) (by rw [L2.out]; omega), List.drop_eq_getElem_cons (by rw [L1.out]; exact hkn)]; rfl
        have HV := Lib.hid hv
        have HB2 := Lib.hid (HB.out.al (.cells #[.bool sx.1, .int .i64 (sx.2 : Int)] 48))
        clear hv hc hx
        go_wp2_with fail
        go_ret
        exact ⟨by rw [HV.out]; rfl, HB2.out⟩
    · by_cases hnm : n < m
      · have hv : cmpS xs ys = -1 := by
          rw [HC.out, List.drop_of_length_le (by rw [L1.out]; omega), List.drop_eq_getElem_cons (by rw [L2.out]; omega)]; rfl
        have HV := Lib.hid hv
        clear hv
        go_wp2_with fail
        go_ret
        exact ⟨by rw [HV.out]; rfl, HB.out⟩
      · have hv : cmpS xs ys = 0 := by
          rw [HC.out, List.drop_of_length_le (by rw [L1.out]; omega), List.drop_of_length_le (by rw [L2.out]; omega)]; rfl
        have HV := Lib.hid hv
        clear hv
        go_wp2_with fail
        go_ret
        exact ⟨by rw [HV.out]; rfl, HB.out⟩
set_option maxRecDepth 100000 in
set_option maxHeartbeats 4000000 in
theorem compareR_c (ok ok' : Nat → Prop) (x y : Nat) (A B : Option Addr) (n c m d : Nat) (xs ys : List Sy) (w : World) (h1 : Sl SyE ok w A n c xs) (h2 : Sl SyE ok' w B m d ys) (hn : n ≤ 1000000) :
    Calls Try.prog 53 #[.agg #[.int .i64 (x : Int), .slice A n c], .agg #[.int .i64 (y : Int), .slice B m d]] w (IntO w (cmpR (x, xs) (y, ys))) := by
  have hB := ((Below.refl w.heap.size w).al (.cells #[.int .i64 (x : Int), .slice A n c] 75)).al (.cells #[.int .i64 (y : Int), .slice B m d] 75)
  have B0 := (Blk.new w 75 #[.int .i64 (x : Int), .slice A n c]).al (.cells #[.int .i64 (y : Int), .slice B m d] 75)
  have B1 := Blk.new (w.alloc (.cells #[.int .i64 (x : Int), .slice A n c] 75)) 75 #[.int .i64 (y : Int), .slice B m d]
  rw [World.size_alloc] at B1
  have H1 := Lib.hid (h1.via hB)
  have H2 := Lib.hid (h2.via hB)
  clear h1 h2
  go_enter Try.func53, Try.ntmps53
  go_upto_region 1 with fail
  generalize (w.alloc (.cells #[.int .i64 (x : Int), .slice A n c] 75)).alloc (.cells #[.int .i64 (y : Int), .slice B m d] 75) = W at *
  have J1 := Lib.hid (show ∀ w', Below W.heap.size W w' → Sl SyE ok w' A n c xs from fun w' hb => H1.out.via hb)
  have J2 := Lib.hid (show ∀ w', Below W.heap.size W w' → Sl SyE ok' w' B m d ys from fun w' hb => H2.out.via hb)
  have SOF := Lib.hid (show ∀ w', Below W.heap.size W w' → ((∀ i, w'.cell? ⟨w.heap.size, i, none⟩ = #[.int .i64 (x : Int), .slice A n c][i]?) ∧ (∀ i, w'.cell? ⟨w.heap.size + 1, i, none⟩ = #[.int .i64 (y : Int), .slice B m d][i]?) ∧ Below W.heap.size W w') from fun w' hb => ⟨(B0.via hb).cell, (B1.via hb).cell, hb⟩)
  have HBB := Lib.hid hB
  have hb0 := (Below.refl W.heap.size W).drew
  clear hB H1 H2 B0 B1
  go_region_held3 (fun w' => (∀ i, w'.cell? ⟨w.heap.size, i, none⟩ = #[.int .i64 (x : Int), .slice A n c][i]?) ∧ (∀ i, w'.cell? ⟨w.heap.size + 1, i, none⟩ = #[.int .i64 (y : Int), .slice B m d][i]?) ∧ Below W.heap.size W w') (exact SOF.out _ (by first | assumption | exact Below.al (by assumption) _)) (first
    | (go_at_call 60; (with_reducible refine (cmp_c _ _ _).mono ?_); rintro ee wk ⟨rfl, rfl⟩)
    | (go_at_call 72; (with_reducible refine (cmpS_c ok ok' A B n c m d xs ys _ (J1.out _ (by assumption)) (J2.out _ (by assumption)) hn).mono ?_); rintro ee wk ⟨rfl, hbk⟩; have hbm : Below W.heap.size W wk := Below.via (by assumption) hbk)
    | (go_at_call 59; (with_reducible refine (or_c (some ⟨_, 0, none⟩) 2 2 [_, _] _ (Ints.two _ _ _ _) (by omega)).mono ?_); rintro ee wk ⟨rfl, rfl⟩))
  have HF := Lib.hid (HBB.out.via (hbm.al (.cells #[.int .i64 (cmpI (x : Int) (y : Int)), .int .i64 (cmpS xs ys)] 3)))
  clear hb0 hbm hbk
  go_wp2_with fail
  go_ret
  exact ⟨rfl, HF.out⟩
set_option maxRecDepth 100000 in
set_option maxHeartbeats 2000000 in
theorem check2_c (ok ok' : Nat → Prop) (br x y : Nat) (A B : Option Addr) (n c m d : Nat) (xs ys : List Sy) (w : World) (h1 : Sl SyE ok w A n c xs) (hr : Blk w br 75 #[.int .i64 (y : Int), .slice B m d]) (h2 : Sl SyE ok' w B m d ys) (hn : n ≤ 1000000) (hne : (x, xs) ≠ (y, ys)) :
    Calls Try.prog 52 #[.agg #[.int .i64 (x : Int), .slice A n c], .pointer (some ⟨br, 0, none⟩)] w (TellB w false) := by
  have hlt := hr.lt
  have hq : (cmpR (x, xs) (y, ys) == 0) = false := by
    rw [beq_eq_false_iff_ne]; exact fun h => hne (cmpR_zero.1 h)
  obtain ⟨q, hqq⟩ : ∃ q, q = cmpR (x, xs) (y, ys) := ⟨_, rfl⟩
  rw [← hqq] at hq
  have HQ := Lib.hid hqq
  have HB := Lib.hid ((Below.refl w.heap.size w).al (.cells #[.int .i64 (x : Int), .slice A n c] 75))
  have H1 := Lib.hid (h1.al (.cells #[.int .i64 (x : Int), .slice A n c] 75))
  have H2 := Lib.hid (h2.al (.cells #[.int .i64 (x : Int), .slice A n c] 75))
  have Br := hr.al (.cells #[.int .i64 (x : Int), .slice A n c] 75)
  clear h1 h2 hr hne hqq
  have cBr := Br.cell
  have fBr := Br.frozen
  have lBr := Br.lt
  go_enter Try.func52, Try.ntmps52
  go_wp2_with fail
  refine (compareR_c ok ok' x y A B n c m d xs ys _ H1.out H2.out hn).mono ?_
  rintro e w' ⟨rfl, hb⟩
  rw [← HQ.out]
  have HF := Lib.hid (HB.out.via hb)
  clear hb
  go_wp2_with fail
  go_ret
  exact ⟨rfl, HF.out⟩
set_option maxRecDepth 100000 in
set_option maxHeartbeats 2000000 in
theorem rulesOk_c (ok ok' : Nat → Prop) (br y : Nat) (A B : Option Addr) (n c m d : Nat) (l : List Ru) (ys : List Sy) (w : World) (hl : Sl RuE ok w A n c l) (hr : Blk w br 75 #[.int .i64 (y : Int), .slice B m d]) (h2 : Sl SyE ok' w B m d ys) (hn : n ≤ 1000000) (h4 : ∀ r ∈ l, r.2.length ≤ 4) (hne : ∀ r ∈ l, r ≠ (y, ys)) :
    Calls Try.prog 51 #[.slice A n c, .func (.func 52) #[] #[.pointer (some ⟨br, 0, none⟩)]] w (TellB w false) := by
  have HL := Lib.hid hl
  have HR := Lib.hid hr
  have H2 := Lib.hid h2
  have H4 := Lib.hid h4
  have HN := Lib.hid hne
  clear hl hr h2 h4 hne
  have key : Calls Try.prog 71 #[.slice A n c, .func (.func 52) #[] #[.pointer (some ⟨br, 0, none⟩)]] w fun e w' => e = .returned (.int .i64 (-1)) ∧ Below w.heap.size w w' := by
    go_enter Try.func71, Try.ntmps71
    go_wp2_with fail
    go_loopw [8] (fun i wr => ∃ k : Nat, i = .int .i64 k ∧ k ≤ n ∧ Below w.heap.size w wr) (fun i _ => n - (intOf i).toNat)
    case atStart => exact ⟨0, rfl, Nat.zero_le _, Below.refl _ _⟩
    case round =>
      obtain ⟨k, rfl, hk, hb⟩ := hrel
      have HB := Lib.hid hb
      clear hb
      by_cases hlt : k < n
      · obtain ⟨b1, o1, ⟨sl, sA, sn, sc⟩, ⟨x, xs⟩, rfl, -, hbb, hy, ⟨hx1, hx2⟩, hc⟩ := (HL.out.via HB.out).at_ hlt
        simp only at hx1 hx2
        obtain rfl : sl = x := hx1
        have c0 := hc 0 _ rfl
        have c1 := hc 1 _ rfl
        simp only [RuE, Nat.add_zero] at c0 c1
        have i0 : (0 : Int) ≤ (k : Int) := by omega
        have i1 : (k : Int) < (n : Int) := by omega
        have HY := Lib.hid (HN.out _ (List.mem_of_getElem? hy))
        have hs4 : sn ≤ 1000000 := by have := H4.out _ (List.mem_of_getElem? hy); have := hx2.len; simp only at *; omega
        have HX := Lib.hid hx2
        clear hc hy hx2
        go_wp2_with fail
        refine (check2_c ok ok' br sl y sA B sn sc m d xs ys wr HX.out (HR.out.via HB.out) (H2.out.via HB.out) hs4 HY.out).mono ?_
        rintro e w' ⟨rfl, hb2⟩
        have HF := Lib.hid (HB.out.via hb2)
        clear hb2 c0 c1
        go_wp2_with fail
        exact ⟨⟨k + 1, by go_num, by omega, HF.out⟩, by simp [intOf]; omega⟩
      · go_wp2_with fail
        go_ret
        exact ⟨rfl, HB.out⟩
  go_enter Try.func51, Try.ntmps51
  have KEY := Lib.hid key
  clear key
  go_wp2_with fail
  refine KEY.out.mono ?_
  rintro e w' ⟨rfl, hb⟩
  have HF := Lib.hid hb
  clear hb
  go_wp2_with fail
  go_ret
  exact ⟨rfl, HF.out⟩

/-- a grammar that Check takes -/
structure GrOk (g : Gr) : Prop where
  ok : g.Ok
  nodup : g.rules.Nodup
theorem Sl.take {α ρ : Type} {E : Elem α ρ} {ok : Nat → Prop} {w : World} {A : Option Addr} {n c k : Nat} {l : List α} (h : Sl E ok w A n c l) (hk : k ≤ n) : Sl E ok w A k c (l.take k) := by
  obtain ⟨h1, h2, raw, h3, h4, h5⟩ := h
  refine ⟨by rw [List.length_take]; omega, by omega, raw.take k, by rw [List.length_take]; omega, fun hne => ?_, fun i r x hr hx => ?_⟩
  · have hf : flat E raw = flat E (raw.take k) ++ flat E (raw.drop k) := by
      unfold flat; rw [← List.flatMap_append, List.take_append_drop]
    have hne2 : flat E raw ≠ [] := by rw [hf]; simp [hne]
    obtain ⟨b, off, e, hb, hc⟩ := h4 hne2
    refine ⟨b, off, e, hb, fun j u hu => hc j u ?_⟩
    rw [hf, List.getElem?_append_left (List.getElem?_eq_some_iff.1 hu).1]; exact hu
  · have hi : i < k := by
      have := (List.getElem?_eq_some_iff.1 hr).1
      rw [List.length_take] at this; omega
    rw [List.getElem?_take, if_pos hi] at hr hx
    exact h5 i r x hr hx
end Go.Proofs.Ytghnkgbingcbcaa
