/- Texts AG, EQ, laid together. -/
import Derived.Test.YtghnkgbingcbcaaDoorE1
import Derived.Test.YtghnkgbingcbcaaDoorZ3
import Derived.Test.YtghnkgbingcbcaaDoorZ1



namespace Go.Proofs.YtghnkgbingcbcaaDoor
open Go.RowKit

/-! ### each nonterminal that has a word has a short one -/
def lvl (rules : List Ru) : Nat → Nat → Bool
  | 0, _ => false
  | k + 1, N => rules.any fun r => decide (r.1 = N) && r.2.all fun s => s.1 || lvl rules k s.2
theorem lvl_iff {rules : List Ru} {k N : Nat} : lvl rules (k + 1) N = true ↔ ∃ rhs, (N, rhs) ∈ rules ∧ ∀ s ∈ rhs, s.1 = true ∨ lvl rules k s.2 = true := by
  simp only [lvl, List.any_eq_true, Bool.and_eq_true, decide_eq_true_eq, List.all_eq_true, Bool.or_eq_true]
  constructor
  · rintro ⟨⟨a, rhs⟩, h1, rfl, h2⟩; exact ⟨rhs, h1, h2⟩
  · rintro ⟨rhs, h1, h2⟩; exact ⟨(N, rhs), h1, rfl, h2⟩
theorem lvl_mono {rules : List Ru} : ∀ {k N : Nat}, lvl rules k N = true → lvl rules (k + 1) N = true
  | 0, _, h => by simp [lvl] at h
  | k + 1, N, h => by
    obtain ⟨rhs, h1, h2⟩ := lvl_iff.1 h
    exact lvl_iff.2 ⟨rhs, h1, fun s hs => (h2 s hs).imp id lvl_mono⟩
theorem lvl_word {rules : List Ru} (h3 : ∀ r ∈ rules, r.2.length ≤ 3) : ∀ {k N : Nat}, lvl rules k N = true → ∃ u, Dv rules [(false, N)] u ∧ u.length ≤ 3 ^ k
  | 0, _, h => by simp [lvl] at h
  | k + 1, N, h => by
    obtain ⟨rhs, h1, h2⟩ := lvl_iff.1 h
    have key : ∀ l : List Sy, (∀ s ∈ l, s.1 = true ∨ lvl rules k s.2 = true) → ∃ u, Dv rules l u ∧ u.length ≤ l.length * 3 ^ k := by
      intro l
      induction l with
      | nil => intro _; exact ⟨[], .nil, by simp⟩
      | cons s l ih =>
        intro hl
        obtain ⟨u, hu, hul⟩ := ih fun t ht => hl t (List.mem_cons_of_mem _ ht)
        have hs : ∃ v, Dv rules [s] v ∧ v.length ≤ 3 ^ k := by
          obtain ⟨b, t⟩ := s
          cases b with
          | true => exact ⟨[(t : Int)], Dv.letter t, Nat.pos_of_ne_zero (by simp)⟩
          | false =>
            rcases hl (false, t) (List.mem_cons_self ..) with h | h
            · cases h
            · exact lvl_word h3 h
        obtain ⟨v, hv, hvl⟩ := hs
        refine ⟨v ++ u, by have := hv.append hu; simpa using this, ?_⟩
        rw [List.length_append, List.length_cons, Nat.add_mul]; omega
    obtain ⟨u, hu, hul⟩ := key rhs h2
    refine ⟨u, Dv.one h1 hu, Nat.le_trans hul ?_⟩
    rw [Nat.pow_succ, Nat.mul_comm (3 ^ k)]
    exact Nat.mul_le_mul_right _ (h3 _ h1)
def lcnt (rules : List Ru) (nons k : Nat) : Nat := ((List.range nons).filter (lvl rules k)).length
theorem filter_lt {p q : Nat → Bool} : ∀ {l : List Nat}, (∀ x ∈ l, p x = true → q x = true) → (∃ x ∈ l, p x = false ∧ q x = true) → (l.filter p).length < (l.filter q).length
  | [], _, h => by obtain ⟨x, hx, _⟩ := h; cases hx
  | a :: l, h1, h2 => by
    have hle : (l.filter p).length ≤ (l.filter q).length := by
      clear h2
      induction l with
      | nil => simp
      | cons b l ih =>
        have ihh := ih fun x hx => h1 x (by rcases List.mem_cons.1 hx with rfl | hx; exact List.mem_cons_self ..; exact List.mem_cons_of_mem _ (List.mem_cons_of_mem _ hx))
        have hb := h1 b (List.mem_cons_of_mem _ (List.mem_cons_self ..))
        simp only [List.filter_cons]
        cases hp : p b <;> cases hq : q b <;> simp <;> (try omega)
        rw [hb hp] at hq; cases hq
    have ha := h1 a (List.mem_cons_self ..)
    simp only [List.filter_cons]
    cases hp : p a <;> cases hq : q a
    · obtain ⟨x, hx, hx1, hx2⟩ := h2
      rcases List.mem_cons.1 hx with rfl | hx
      · rw [hq] at hx2; cases hx2
      · simpa using filter_lt (fun x hx => h1 x (List.mem_cons_of_mem _ hx)) ⟨x, hx, hx1, hx2⟩
    · simp; omega
    · rw [ha hp] at hq; cases hq
    · obtain ⟨x, hx, hx1, hx2⟩ := h2
      rcases List.mem_cons.1 hx with rfl | hx
      · rw [hp] at hx1; cases hx1
      · simpa using filter_lt (fun x hx => h1 x (List.mem_cons_of_mem _ hx)) ⟨x, hx, hx1, hx2⟩
theorem lvl_same {rules : List Ru} {nons : Nat} (hn : ∀ r ∈ rules, r.1 < nons) : ∃ k, k ≤ nons ∧ ∀ N, lvl rules (k + 1) N = true → lvl rules k N = true := by
  have key : ∀ k, (∃ j, j ≤ k ∧ ∀ N, lvl rules (j + 1) N = true → lvl rules j N = true) ∨ k + 1 ≤ lcnt rules nons (k + 1) := by
    intro k
    have step : ∀ k, (∀ N, lvl rules (k + 1) N = true → lvl rules k N = true) ∨ lcnt rules nons k < lcnt rules nons (k + 1) := by
      intro k
      by_cases h : ∀ N, lvl rules (k + 1) N = true → lvl rules k N = true
      · exact Or.inl h
      · right
        obtain ⟨N, h1⟩ := Classical.not_forall.1 h
        have h2 : lvl rules (k + 1) N = true := Classical.byContradiction fun h3 => h1 fun h4 => absurd h4 h3
        have h3 : lvl rules k N = false := by
          cases h4 : lvl rules k N with
          | false => rfl
          | true => exact absurd (fun _ => h4) h1
        obtain ⟨rhs, hr, _⟩ := lvl_iff.1 h2
        exact filter_lt (fun x _ hx => lvl_mono hx) ⟨N, List.mem_range.2 (hn _ hr), h3, h2⟩
    induction k with
    | zero =>
      rcases step 0 with h | h
      · exact Or.inl ⟨0, Nat.le_refl _, h⟩
      · right; omega
    | succ k ih =>
      rcases ih with ⟨j, hj, h⟩ | h
      · exact Or.inl ⟨j, by omega, h⟩
      · rcases step (k + 1) with h2 | h2
        · exact Or.inl ⟨k + 1, Nat.le_refl _, h2⟩
        · right; omega
  rcases key nons with ⟨j, hj, h⟩ | h
  · exact ⟨j, hj, h⟩
  · exfalso
    have : lcnt rules nons (nons + 1) ≤ nons := by
      have := List.length_filter_le (lvl rules (nons + 1)) (List.range nons)
      simpa [lcnt] using this
    omega
theorem Dv.lvl {rules : List Ru} {k : Nat} (hk : ∀ N, Go.Proofs.YtghnkgbingcbcaaDoor.lvl rules (k + 1) N = true → Go.Proofs.YtghnkgbingcbcaaDoor.lvl rules k N = true) {l : List Sy} {v : List Int} (h : Dv rules l v) : ∀ s ∈ l, s.1 = true ∨ Go.Proofs.YtghnkgbingcbcaaDoor.lvl rules k s.2 = true := by
  induction h with
  | nil => intro s hs; cases hs
  | term t h ih =>
    intro s hs
    rcases List.mem_cons.1 hs with rfl | hs
    · exact Or.inl rfl
    · exact ih s hs
  | non N hr h1 h2 ih1 ih2 =>
    intro s hs
    rcases List.mem_cons.1 hs with rfl | hs
    · exact Or.inr (hk _ (lvl_iff.2 ⟨_, hr, ih1⟩))
    · exact ih2 s hs
theorem MadeG.short {g : Gr} (h : MadeG g) {N : Nat} {v : List Int} (hd : Dv g.rules [(false, N)] v) : ∃ u, Dv g.rules [(false, N)] u ∧ u.length ≤ 81 := by
  obtain ⟨k, hk, hs⟩ := lvl_same (rules := g.rules) (nons := g.nons) fun r hr => (h.ok r hr).1
  rcases hd.lvl hs (false, N) (List.mem_singleton.2 rfl) with h1 | h1
  · cases h1
  · obtain ⟨u, hu, hl⟩ := lvl_word (fun r hr => (h.ok r hr).2.1) h1
    have := h.nons.2
    exact ⟨u, hu, Nat.le_trans hl (Nat.le_trans (Nat.pow_le_pow_right (by omega) (show k ≤ 4 by omega)) (by omega))⟩

/-! ### alignments -/
section
variable {c0 c1 c2 : Int}
theorem Al.inss (u : List Int) : Al c0 c1 c2 [] u ((u.length : Int) * c0) := by
  induction u with
  | nil => simpa using Al.nil
  | cons x u ih => rw [mul_succ_len, Int.add_comm]; exact .ins x ih
theorem Al.far (w u : List Int) : Al c0 c1 c2 w u ((w.length : Int) * c1 + (u.length : Int) * c0) := by
  have := (Al.dels (c0 := c0) (c1 := c1) (c2 := c2) w).append (Al.inss u)
  simpa using this
theorem Al.most (h0 : 0 ≤ c0) (h1 : 0 ≤ c1) (h2 : 0 ≤ c2) {w v : List Int} {k : Int} (h : Al c0 c1 c2 w v k) : (v.length : Int) * c0 ≤ k + (w.length : Int) * c0 := by
  induction h with
  | nil => simp
  | keep x _ ih => rw [mul_succ_len, mul_succ_len]; omega
  | ins y _ ih => rw [mul_succ_len]; omega
  | del x _ ih => rw [mul_succ_len]; omega
  | rep x y _ ih => rw [mul_succ_len, mul_succ_len]; omega
end
end Go.Proofs.YtghnkgbingcbcaaDoor



namespace Go.Proofs.YtghnkgbingcbcaaDoor
open Go.RowKit

/-- a function that only computes a Bool -/
def BoolP (w : World) (b : Bool) (e : Ending) (w' : World) : Prop := e = .returned (.bool b) ∧ ∃ q, w' = w.drewN q
theorem BoolP.below {w w' : World} {b : Bool} {e : Ending} (h : BoolP w b e w') : e = .returned (.bool b) ∧ Below w.heap.size w w' := by
  obtain ⟨he, q, rfl⟩ := h
  exact ⟨he, below_drewN (Below.refl _ _) q⟩

/-- the first k elements agree -/
def AgreeN (xs ys : List Int) (k : Nat) : Prop := ∀ j, j < k → xs.getD j 0 = ys.getD j 0
theorem AgreeN.full {xs ys : List Int} {n : Nat} (h : AgreeN xs ys n) (hx : xs.length = n) (hy : ys.length = n) : xs = ys := by
  apply List.ext_getElem (by omega)
  intro i h1 h2
  have := h i (by omega)
  simpa [List.getD_eq_getElem?_getD, h1, h2] using this

set_option maxHeartbeats 1000000 in
theorem equal_c (A B : Option Addr) (n c m d : Nat) (xs ys : List Int) (w : World) (h1 : Ints w A n c xs) (h2 : Ints w B m d ys) (hn : n ≤ 17592186044416) :
    Calls Tryd.prog 12 #[.slice A n c, .slice B m d] w (BoolP w (decide (xs = ys))) := by
  by_cases hnm : n = m
  · subst hnm
    have k0 : ((n : Int) != (n : Int)) = false := by simp
    go_enter Tryd.func12, Tryd.ntmps12
    go_wp2_with fail
    go_loopw [13] (fun i wr => ∃ k : Nat, i = .int .i64 k ∧ k ≤ n ∧ AgreeN xs ys k ∧ ∃ q, wr = w.drewN q) (fun i _ => n - (intOf i).toNat)
    case atStart => exact ⟨0, rfl, Nat.zero_le _, fun j hj => absurd hj (by omega), 0, rfl⟩
    case round =>
      obtain ⟨k, rfl, hk, hag, q, rfl⟩ := hrel
      by_cases hlt : k < n
      · obtain ⟨b1, o1, rfl, hb1, hx⟩ := h1.at_ hlt
        obtain ⟨b2, o2, rfl, hb2, hy⟩ := h2.at_ hlt
        have i0 : (0 : Int) ≤ (k : Int) := by omega
        have i1 : (k : Int) < (n : Int) := by omega
        have H1 := Lib.hid h1.len
        have H2 := Lib.hid h2.len
        have HA := Lib.hid hag
        by_cases he : xs.getD k 0 = ys.getD k 0
        · have hag' : AgreeN xs ys (k + 1) := fun j hj => by
            rcases Nat.lt_or_ge j k with hj' | hj'
            · exact HA.out j hj'
            · obtain rfl : j = k := by omega
              exact he
          have HA' := Lib.hid hag'
          rw [he] at hx
          generalize ys.getD k 0 = y at *
          have e0 : (y != y) = false := by simp
          clear hag hag' he h1 h2
          go_wp2_with fail
          go_quiet (fail)
          go_wp2_with fail
          go_roundw
          case rel => exact ⟨k + 1, by go_num, by omega, HA'.out, _, rfl⟩
          case measure => simp [intOf]; omega
        · have hne : xs ≠ ys := fun e => he (by rw [e])
          have HN := Lib.hid hne
          generalize ys.getD k 0 = y at *
          generalize xs.getD k 0 = x at *
          have e0 : (x != y) = true := by simpa using he
          clear hag he h1 h2 hne
          go_wp2_with fail
          go_quiet (fail)
          go_wp2_with fail
          go_ret
          exact ⟨by simp [HN.out], q + nq, (World.drewN_drewN _ _ _)⟩
      · have hkn : k = n := by omega
        have hfin : xs = ys := AgreeN.full (n := n) (hkn ▸ hag) h1.len h2.len
        have HF := Lib.hid hfin
        clear hfin h1 h2 hag hkn
        go_wp2_with fail
        go_ret
        exact ⟨by simp [HF.out], _, rfl⟩
  · have k0 : ((n : Int) != (m : Int)) = true := by simp; omega
    have hne : xs ≠ ys := fun e => hnm (by rw [← h1.len, ← h2.len, e])
    have HN := Lib.hid hne
    clear hnm hne
    go_enter Tryd.func12, Tryd.ntmps12
    go_wp2_with fail
    go_ret
    exact ⟨by simp [HN.out], 0, rfl⟩
theorem equal_yes (A B : Option Addr) (n c m d : Nat) (xs ys : List Int) (w : World) (h1 : Ints w A n c xs) (h2 : Ints w B m d ys) (hn : n ≤ 17592186044416) (h : xs = ys) :
    Calls Tryd.prog 12 #[.slice A n c, .slice B m d] w fun e w' => e = .returned (.bool true) ∧ Below w.heap.size w w' :=
  (equal_c A B n c m d xs ys w h1 h2 hn).mono fun e w' hp => by
    have := hp.below
    rwa [show decide (xs = ys) = true from by simp [h]] at this
end Go.Proofs.YtghnkgbingcbcaaDoor


