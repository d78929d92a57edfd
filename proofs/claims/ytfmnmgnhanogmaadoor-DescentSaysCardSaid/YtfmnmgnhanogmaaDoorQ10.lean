/- Texts JF, LB, LC, LD, laid together. -/
import Derived.Test.YtfmnmgnhanogmaaDoorQ9
import Derived.Test.YtfmnmgnhanogmaaDoorQ1


namespace Go.Proofs.YtfmnmgnhanogmaaDoor
open Go.RowKit

/-! ### raw and valid -/
def embS (s : Sy) : Ci := (s.1, (s.2 : Int))
def embR (r : Ru) : Ri := ((r.1 : Int), r.2.map embS)
theorem lift_sym {T N : Int} {s : Ci} (h : okSi T N s = true) : ∃ y : Sy, s = embS y ∧ (if y.1 then (y.2 : Int) < T else (y.2 : Int) < N) := by
  obtain ⟨b, k⟩ := s
  unfold okSi at h
  simp only [Bool.and_eq_true, decide_eq_true_eq, Bool.or_eq_true, Bool.not_eq_true'] at h
  refine ⟨(b, k.toNat), ?_, ?_⟩
  · simp only [embS, Prod.mk.injEq, true_and]; omega
  · cases b
    · simp at h ⊢; omega
    · simp at h ⊢; omega
theorem chkL_ok {T N : Int} : ∀ (rs done : List Ri), chkL T N done rs = 0 → (∀ r ∈ rs, (0 ≤ r.1 ∧ r.1 < N) ∧ r.2.length ≤ 4 ∧ ∀ s ∈ r.2, okSi T N s = true) ∧ rs.Nodup ∧ ∀ r ∈ rs, ¬ r ∈ done
  | [], _, _ => ⟨fun r h => (by cases h), List.nodup_nil, fun r h => (by cases h)⟩
  | r :: rs, done, h => by
    unfold chkL at h
    by_cases h1 : ¬ (0 ≤ r.1 ∧ r.1 < N)
    · rw [if_pos h1] at h; cases h
    · rw [if_neg h1] at h
      by_cases h2 : 4 < r.2.length
      · rw [if_pos h2] at h; cases h
      · rw [if_neg h2] at h
        by_cases h3 : (r.2.any fun s => !okSi T N s) = true
        · rw [if_pos h3] at h; cases h
        · rw [if_neg h3] at h
          by_cases h4 : r ∈ done
          · rw [if_pos h4] at h; cases h
          · rw [if_neg h4] at h
            obtain ⟨i1, i2, i3⟩ := chkL_ok rs (done ++ [r]) h
            refine ⟨fun x hx => ?_, List.nodup_cons.2 ⟨fun hm => i3 r hm (by simp), i2⟩, fun x hx hd => ?_⟩
            · rcases List.mem_cons.1 hx with rfl | hx
              · refine ⟨Classical.not_not.1 h1, by omega, fun s hs => ?_⟩
                cases ho : okSi T N s with
                | true => rfl
                | false => exact absurd (List.any_eq_true.2 ⟨s, hs, by rw [ho]; rfl⟩) h3
              · exact i1 x hx
            · rcases List.mem_cons.1 hx with rfl | hx
              · exact h4 hd
              · exact i3 x hx (List.mem_append_left _ hd)
theorem lift_list {α β : Type} {f : α → β} {p : α → Prop} : ∀ {l : List β}, (∀ y ∈ l, ∃ x, y = f x ∧ p x) → ∃ k : List α, l = k.map f ∧ ∀ x ∈ k, p x
  | [], _ => ⟨[], rfl, fun x h => (by cases h)⟩
  | y :: l, h => by
    obtain ⟨x, hx, hp⟩ := h y (List.mem_cons_self ..)
    obtain ⟨k, hk, hpk⟩ := lift_list (l := l) fun z hz => h z (List.mem_cons_of_mem _ hz)
    refine ⟨x :: k, by rw [hx, hk]; rfl, fun z hz => ?_⟩
    rcases List.mem_cons.1 hz with rfl | hz
    · exact hp
    · exact hpk z hz
/-- what passes the check is a valid grammar -/
theorem chkG_ok {T N S : Int} {rs : List Ri} (h : chkG T N S rs = 0) : ∃ g : Gr, GrOk g ∧ T = (g.terms : Int) ∧ N = (g.nons : Int) ∧ S = (g.start : Int) ∧ rs = g.rules.map embR := by
  unfold chkG at h
  by_cases h1 : ¬ (1 ≤ T ∧ T ≤ 8 ∧ 1 ≤ N ∧ N ≤ 10 ∧ 0 ≤ S ∧ S < N)
  · rw [if_pos h1] at h; cases h
  · rw [if_neg h1] at h
    by_cases h2 : 32 < rs.length
    · rw [if_pos h2] at h; cases h
    · rw [if_neg h2] at h
      obtain ⟨i1, i2, -⟩ := chkL_ok rs [] h
      have h1 := Classical.not_not.1 h1
      obtain ⟨k, hk, hp⟩ := lift_list (f := embR) (p := fun u => (u.1 : Int) < N ∧ u.2.length ≤ 4 ∧ ∀ y ∈ u.2, (if y.1 then (y.2 : Int) < T else (y.2 : Int) < N)) (l := rs) fun r hr => by
        obtain ⟨⟨a1, a2⟩, a3, a4⟩ := i1 r hr
        obtain ⟨l, hl, hlp⟩ := lift_list (f := embS) (p := fun y : Sy => if y.1 then (y.2 : Int) < T else (y.2 : Int) < N) (l := r.2) fun s hs => lift_sym (a4 s hs)
        refine ⟨(r.1.toNat, l), ?_, by simp only; omega, ?_, hlp⟩
        · obtain ⟨r1, r2⟩ := r
          simp only [embR, Prod.mk.injEq]
          exact ⟨by simp only at a1; omega, hl⟩
        · simp only
          rw [hl, List.length_map] at a3; exact a3
      refine ⟨⟨T.toNat, N.toNat, S.toNat, k⟩, ⟨⟨by simp only; omega, by simp only; omega, by simp only; omega, ?_, fun r hr => ?_, fun r hr => ⟨(hp r hr).2.1, fun s hs => ?_⟩⟩, ?_⟩, by simp only; omega, by simp only; omega, by simp only; omega, hk⟩
      · simp only; rw [hk, List.length_map] at h2; omega
      · have := (hp r hr).1; simp only; omega
      · have := (hp r hr).2.2 s hs
        unfold Gr.okSy
        cases hs1 : s.1 <;> rw [hs1] at this <;> simp at this ⊢ <;> omega
      · rw [hk] at i2
        exact List.Pairwise.of_map embR (fun a b h e => h (by rw [e])) i2
theorem Sl.lowS {ok : Nat → Prop} {w : World} {A : Option Addr} {n c : Nat} {l : List Sy} (h : Sl SiE ok w A n c (l.map embS)) : Sl SyE ok w A n c l := by
  obtain ⟨h1, h2, raw, h3, h4, h5⟩ := h
  rw [List.length_map] at h1
  have e : raw = l.map embS := List.ext_getElem (by rw [h3, List.length_map, h1]) fun i a b => h5 i _ _ (List.getElem?_eq_getElem a) (List.getElem?_eq_getElem b)
  have ef : ∀ l : List Sy, flat SiE (l.map embS) = flat SyE l := fun l => by
    induction l with
    | nil => rfl
    | cons x l ih => simp only [flat, List.map_cons, List.flatMap_cons] at ih ⊢; rw [ih]; rfl
  refine ⟨h1, h2, l, h1, ?_, fun i r x hr hx => by rw [hr] at hx; exact Option.some.inj hx⟩
  rw [e, ef] at h4; exact h4
theorem Sl.lowR {ok : Nat → Prop} {w : World} {A : Option Addr} {n c : Nat} {l : List Ru} (h : Sl RiE ok w A n c (l.map embR)) : Sl RuE ok w A n c l := by
  obtain ⟨h1, h2, raw, h3, h4, h5⟩ := h
  rw [List.length_map] at h1
  have key : ∀ (raw : List (Int × SlV)) (l : List Ru), raw.length = l.length → (∀ (i : Nat) r x, raw[i]? = some r → (l.map embR)[i]? = some x → RiE.rel ok w r x) →
      ∃ raw2 : List (Nat × SlV), raw2.length = l.length ∧ flat RuE raw2 = flat RiE raw ∧ ∀ (i : Nat) r x, raw2[i]? = some r → l[i]? = some x → RuE.rel ok w r x := by
    intro raw
    induction raw with
    | nil =>
      intro l hl _
      have e : l = [] := List.eq_nil_of_length_eq_zero (by simpa using hl.symm)
      subst e
      exact ⟨[], rfl, rfl, fun i r x hr => by simp at hr⟩
    | cons r raw ih =>
      intro l hl hrel
      cases l with
      | nil => simp at hl
      | cons u l =>
        obtain ⟨raw2, k1, k2, k3⟩ := ih l (by simpa using hl) fun i r' x hr hx => hrel (i + 1) r' x (by simpa using hr) (by simpa using hx)
        have h0 := hrel 0 r (embR u) rfl rfl
        obtain ⟨r1, r2⟩ := r
        obtain ⟨e1, e2⟩ := h0
        simp only [embR] at e1 e2
        refine ⟨(u.1, r2) :: raw2, by simp [k1], ?_, fun i r' x hr hx => ?_⟩
        · simp only [flat, List.flatMap_cons] at k2 ⊢
          rw [k2, e1]; rfl
        · cases i with
          | zero =>
            obtain rfl : (u.1, r2) = r' := by simpa using hr
            obtain rfl : u = x := by simpa using hx
            exact ⟨rfl, Sl.lowS e2⟩
          | succ i => exact k3 i r' x (by simpa using hr) (by simpa using hx)
  obtain ⟨raw2, k1, k2, k3⟩ := key raw l (by rw [h3, h1]) h5
  exact ⟨h1, h2, raw2, by rw [k1, h1], by rw [k2]; exact h4, k3⟩

/-! ### beginnings and continuations -/
inductive NullN (R : List Ru) : Nat → Prop
  | mk (N : Nat) (rhs : List Sy) (h : (N, rhs) ∈ R) (h1 : ∀ s ∈ rhs, s.1 = false) (h2 : ∀ s ∈ rhs, NullN R s.2) : NullN R N
def NulL (R : List Ru) (l : List Sy) : Prop := ∀ s ∈ l, s.1 = false ∧ NullN R s.2
inductive FstN (R : List Ru) : Nat → Nat → Prop
  | term (N t : Nat) (a b : List Sy) (h : (N, a ++ (true, t) :: b) ∈ R) (ha : NulL R a) : FstN R N t
  | non (N M t : Nat) (a b : List Sy) (h : (N, a ++ (false, M) :: b) ∈ R) (ha : NulL R a) (hf : FstN R M t) : FstN R N t
def FstL (R : List Ru) (l : List Sy) (t : Nat) : Prop := ∃ a y b, l = a ++ y :: b ∧ NulL R a ∧ (y = (true, t) ∨ ∃ M, y = (false, M) ∧ FstN R M t)
/-- by tables: with what a list begins -/
def ofB (es : Nat → Bool) (fs : Nat → Nat → Bool) : List Sy → Nat → Bool
  | [], _ => false
  | (true, k) :: _, t => decide (t = k)
  | (false, M) :: l, t => fs M t || (es M && ofB es fs l t)
/-- by a table: does a list become empty? -/
def ofE (es : Nat → Bool) : List Sy → Bool
  | [] => true
  | (true, _) :: _ => false
  | (false, M) :: l => es M && ofE es l
section
variable {R : List Ru} {es : Nat → Bool} {fs : Nat → Nat → Bool}
theorem FstL.cons_non {M t : Nat} {l : List Sy} (hn : NullN R M) (h : FstL R l t) : FstL R ((false, M) :: l) t := by
  obtain ⟨a, y, b, rfl, ha, hy⟩ := h
  exact ⟨(false, M) :: a, y, b, rfl, fun s hs => by rcases List.mem_cons.1 hs with rfl | hs; exact ⟨rfl, hn⟩; exact ha s hs, hy⟩
theorem ofE_null (hs : ∀ N, es N = true → NullN R N) : ∀ {l : List Sy}, ofE es l = true → NulL R l
  | [], _ => fun s h => by cases h
  | (true, _) :: _, h => by simp [ofE] at h
  | (false, M) :: l, h => by
    simp only [ofE, Bool.and_eq_true] at h
    intro s hs'
    rcases List.mem_cons.1 hs' with rfl | hs'
    · exact ⟨rfl, hs M h.1⟩
    · exact ofE_null hs h.2 s hs'
theorem ofB_fst (hs : ∀ N, es N = true → NullN R N) (hf : ∀ N t, fs N t = true → FstN R N t) : ∀ {l : List Sy} {t : Nat}, ofB es fs l t = true → FstL R l t
  | [], _, h => by simp [ofB] at h
  | (true, k) :: l, t, h => by
    simp only [ofB, decide_eq_true_eq] at h
    exact ⟨[], (true, k), l, rfl, fun s hs => (by cases hs), Or.inl (by rw [h])⟩
  | (false, M) :: l, t, h => by
    simp only [ofB, Bool.or_eq_true, Bool.and_eq_true] at h
    rcases h with h | ⟨h1, h2⟩
    · exact ⟨[], (false, M), l, rfl, fun s hs => (by cases hs), Or.inr ⟨M, rfl, hf M t h⟩⟩
    · exact (ofB_fst hs hf h2).cons_non (hs M h1)
/-- a table that is shut has all that becomes empty -/
theorem closed_null (hc : ∀ u ∈ R, ofE es u.2 = true → es u.1 = true) {N : Nat} (h : NullN R N) : es N = true := by
  induction h with
  | mk N rhs h h1 _ ih =>
    refine hc _ h ?_
    have : ∀ l : List Sy, (∀ s ∈ l, s.1 = false) → (∀ s ∈ l, es s.2 = true) → ofE es l = true := by
      intro l
      induction l with
      | nil => intro _ _; rfl
      | cons s l ihl =>
        intro k1 k2
        obtain ⟨sb, M⟩ := s
        have e1 : sb = false := k1 _ (List.mem_cons_self ..)
        subst e1
        simp only [ofE, Bool.and_eq_true]
        exact ⟨k2 _ (List.mem_cons_self ..), ihl (fun s hs => k1 s (List.mem_cons_of_mem _ hs)) (fun s hs => k2 s (List.mem_cons_of_mem _ hs))⟩
    exact this rhs h1 ih
theorem FstN.lt {B N t : Nat} (hb : ∀ u ∈ R, ∀ s ∈ u.2, s.1 = true → s.2 < B) (h : FstN R N t) : t < B := by
  induction h with
  | term N t a b h _ => exact hb _ h (true, t) (by simp) rfl
  | non N M t a b h _ _ ih => exact ih
theorem FstL.lt {B t : Nat} {l : List Sy} (hb : ∀ u ∈ R, ∀ s ∈ u.2, s.1 = true → s.2 < B) (hl : ∀ s ∈ l, s.1 = true → s.2 < B) (h : FstL R l t) : t < B := by
  obtain ⟨a, y, b, rfl, -, hy⟩ := h
  rcases hy with rfl | ⟨M, rfl, hM⟩
  · exact hl (true, t) (by simp) rfl
  · exact hM.lt hb
theorem closed_fst {B : Nat} (hb : ∀ u ∈ R, ∀ s ∈ u.2, s.1 = true → s.2 < B) (hn : ∀ N, NullN R N → es N = true) (hc : ∀ u ∈ R, ∀ t, t < B → ofB es fs u.2 t = true → fs u.1 t = true) {N t : Nat} (h : FstN R N t) : fs N t = true := by
  have ofa : ∀ (a : List Sy) (r : List Sy), NulL R a → ofB es fs r t = true → ofB es fs (a ++ r) t = true := by
    intro a r ha hr
    induction a with
    | nil => exact hr
    | cons x a ih =>
      obtain ⟨h1, h2⟩ := ha x (List.mem_cons_self ..)
      obtain ⟨xb, M⟩ := x
      simp only at h1 h2
      subst h1
      simp only [List.cons_append, ofB, ih fun s hs => ha s (List.mem_cons_of_mem _ hs), Bool.and_true, Bool.or_eq_true]
      exact Or.inr (hn M h2)
  induction h with
  | term N t a b h ha => exact hc _ h t (hb _ h (true, t) (by simp) rfl) (ofa a _ ha (by simp [ofB]))
  | non N M t a b h ha hf ih => exact hc _ h t (hf.lt hb) (ofa a _ ha (by simp [ofB, ih ofa]))
end
end Go.Proofs.YtfmnmgnhanogmaaDoor



namespace Go.Proofs.YtfmnmgnhanogmaaDoor
open Go.RowKit

/-- a chain of at least one step -/
inductive Plus (D : Nat → Nat → Bool) (i : Nat) : Nat → Prop
  | one (j : Nat) (h : D i j = true) : Plus D i j
  | more (m j : Nat) (h : Plus D i m) (h2 : D m j = true) : Plus D i j
theorem Plus.trans {D : Nat → Nat → Bool} {i m j : Nat} (h : Plus D i m) (k : Plus D m j) : Plus D i j := by
  induction k with
  | one j h2 => exact .more m j h h2
  | more q j _ h2 ih => exact .more q j ih h2
/-- what the loops hold when k nonterminals have been gone through -/
def wshF (D : Nat → Nat → Bool) : Nat → Nat → Nat → Bool
  | 0, i, j => D i j
  | k + 1, i, j => wshF D k i j || (wshF D k i k && wshF D k k j)
section
variable {D : Nat → Nat → Bool}
theorem wshF_mono {k i j : Nat} (h : wshF D k i j = true) : wshF D (k + 1) i j = true := by
  rw [wshF, h, Bool.true_or]
theorem wshF_le {i j : Nat} {k : Nat} (h : wshF D k i j = true) : ∀ {l : Nat}, k ≤ l → wshF D l i j = true
  | 0, hl => by obtain rfl : k = 0 := by omega
                exact h
  | l + 1, hl => by
    rcases Nat.lt_or_ge k (l + 1) with h1 | h1
    · exact wshF_mono (wshF_le h (by omega))
    · obtain rfl : k = l + 1 := by omega
      exact h
/-- the k-th row and the k-th column do not turn in the k-th going-through -/
theorem wshF_row {k j : Nat} : wshF D (k + 1) k j = wshF D k k j := by
  rw [wshF]; cases wshF D k k j <;> simp
theorem wshF_col {k i : Nat} : wshF D (k + 1) i k = wshF D k i k := by
  rw [wshF]; cases wshF D k i k <;> simp
theorem wshF_snd : ∀ {k i j : Nat}, wshF D k i j = true → Plus D i j
  | 0, i, j, h => .one j h
  | k + 1, i, j, h => by
    rw [wshF, Bool.or_eq_true, Bool.and_eq_true] at h
    rcases h with h | ⟨h1, h2⟩
    · exact wshF_snd h
    · exact (wshF_snd h1).trans (wshF_snd h2)
theorem wshF_trans : ∀ {k m i j : Nat}, m < k → wshF D k i m = true → wshF D k m j = true → wshF D k i j = true
  | 0, m, i, j, h, _, _ => absurd h (Nat.not_lt_zero _)
  | k + 1, m, i, j, h, h1, h2 => by
    rcases Nat.lt_or_ge m k with hm | hm
    · rw [wshF, Bool.or_eq_true, Bool.and_eq_true] at h1 h2 ⊢
      rcases h1 with h1 | ⟨a1, a2⟩
      · rcases h2 with h2 | ⟨b1, b2⟩
        · exact Or.inl (wshF_trans hm h1 h2)
        · exact Or.inr ⟨wshF_trans hm h1 b1, b2⟩
      · rcases h2 with h2 | ⟨b1, b2⟩
        · exact Or.inr ⟨a1, wshF_trans hm a2 h2⟩
        · exact Or.inr ⟨a1, b2⟩
    · obtain rfl : m = k := by omega
      rw [wshF_col] at h1
      rw [wshF_row] at h2
      rw [wshF, h1, h2]; simp
/-- all gone through: the chains -/
theorem wshF_all {N : Nat} (hD : ∀ i j, D i j = true → i < N ∧ j < N) (i j : Nat) : wshF D N i j = true ↔ Plus D i j := by
  refine ⟨wshF_snd, fun h => ?_⟩
  induction h with
  | one j h => exact wshF_le (k := 0) h (Nat.zero_le _)
  | more m j _ h2 ih => exact wshF_trans (hD m j h2).1 ih (wshF_le (k := 0) h2 (Nat.zero_le _))
/-- the table while the k-th going-through stands at row i, column j -/
def wshA (D : Nat → Nat → Bool) (k i j a b : Nat) : Bool := if a < i ∨ a = i ∧ b < j then wshF D (k + 1) a b else wshF D k a b
theorem wshA_start (k a b : Nat) : wshA D k 0 0 a b = wshF D k a b := by
  unfold wshA; rw [if_neg (by omega)]
theorem wshA_row (k i N a b : Nat) (hb : b < N) : wshA D k i N a b = wshA D k (i + 1) 0 a b := by
  unfold wshA
  by_cases h : a < i + 1
  · rw [if_pos (by omega), if_pos (by omega)]
  · rw [if_neg (by omega), if_neg (by omega)]
theorem wshA_end (k N a b : Nat) (ha : a < N) : wshA D k N 0 a b = wshF D (k + 1) a b := by
  unfold wshA; rw [if_pos (by omega)]
/-- what the k-th going-through reads in row k and column k is what stood there before it -/
theorem wshA_k {k i j a : Nat} : wshA D k i j a k = wshF D k a k ∧ wshA D k i j k a = wshF D k k a := by
  unfold wshA
  constructor
  · split
    · exact wshF_col
    · rfl
  · split
    · exact wshF_row
    · rfl
/-- one cell: 'out[i][j] = out[i][j] || out[i][k] && out[k][j]' -/
theorem wshA_step {k i j a b : Nat} : (if a = i ∧ b = j then (wshA D k i j i j || (wshA D k i j i k && wshA D k i j k j)) else wshA D k i j a b) = wshA D k i (j + 1) a b := by
  by_cases h : a = i ∧ b = j
  · obtain ⟨rfl, rfl⟩ := h
    rw [if_pos ⟨rfl, rfl⟩, wshA_k.1, wshA_k.2]
    unfold wshA
    rw [if_neg (by omega), if_pos (by omega), wshF]
  · rw [if_neg h]
    unfold wshA
    by_cases h2 : a < i ∨ a = i ∧ b < j
    · rw [if_pos h2, if_pos (by omega)]
    · rw [if_neg h2, if_neg (by omega)]
end
/-! ### no nonterminal begins with itself: each one begins with fewer than the one that it begins -/
/-- with how many of the first N each one begins -/
def begN (D : Nat → Nat → Bool) (N i : Nat) : Nat := ((List.range N).filter fun j => wshF D N i j).length
theorem begN_lt {D : Nat → Nat → Bool} {N : Nat} (hD : ∀ i j, D i j = true → i < N ∧ j < N) (hno : ∀ i, ¬ Plus D i i) {i j : Nat} (h : Plus D i j) : begN D N j < begN D N i := by
  have hj : j < N := by
    cases h with
    | one _ h => exact (hD i j h).2
    | more m _ _ h => exact (hD m j h).2
  have hsub : ∀ x, x ∈ (List.range N).filter (fun q => wshF D N j q) → x ∈ ((List.range N).filter (fun q => wshF D N i q)) ∧ x ≠ j := by
    intro x hx
    rw [List.mem_filter] at hx ⊢
    have hp := (wshF_all hD j x).1 hx.2
    exact ⟨⟨hx.1, (wshF_all hD i x).2 (h.trans hp)⟩, fun e => hno j (by rw [e] at hp; exact hp)⟩
  have hjm : j ∈ (List.range N).filter (fun q => wshF D N i q) := List.mem_filter.2 ⟨List.mem_range.2 hj, (wshF_all hD i j).2 h⟩
  have hnd : ((List.range N).filter (fun q => wshF D N j q)).Nodup := List.nodup_range.filter _
  unfold begN
  obtain ⟨p, q, hpq⟩ := List.append_of_mem hjm
  have key : ∀ (l m : List Nat), l.Nodup → (∀ x ∈ l, x ∈ m) → l.length ≤ m.length := by
    intro l
    induction l with
    | nil => intro m _ _; simp
    | cons a l ih =>
      intro m hnd hs
      obtain ⟨p, q, rfl⟩ := List.append_of_mem (hs a (List.mem_cons_self ..))
      have := ih (p ++ q) (List.nodup_cons.1 hnd).2 fun x hx => by
        have h1 := hs x (List.mem_cons_of_mem _ hx)
        have h2 : x ≠ a := fun e => (List.nodup_cons.1 hnd).1 (e ▸ hx)
        simp only [List.mem_append, List.mem_cons] at h1 ⊢
        rcases h1 with h1 | h1 | h1
        · exact Or.inl h1
        · exact absurd h1 h2
        · exact Or.inr h1
      simp only [List.length_append, List.length_cons] at this ⊢; omega
  have := key _ (p ++ q) hnd fun x hx => by
    obtain ⟨h1, h2⟩ := hsub x hx
    rw [hpq] at h1
    simp only [List.mem_append, List.mem_cons] at h1 ⊢
    rcases h1 with h1 | h1 | h1
    · exact Or.inl h1
    · exact absurd h1 h2
    · exact Or.inr h1
  rw [hpq]
  simp only [List.length_append, List.length_cons] at this ⊢; omega
end Go.Proofs.YtfmnmgnhanogmaaDoor




namespace Go.Proofs.YtfmnmgnhanogmaaDoor
open Go.RowKit

/-- a row of symbols; none: the depth did not do; some none: it fails -/
def pgL (f : Sy → Nat → Option (Option (Tr × Nat))) : List Sy → Nat → Option (Option (List Tr × Nat))
  | [], k => some (some ([], k))
  | s :: l, k => match f s k with
    | none => none
    | some none => some none
    | some (some (t, k')) => match pgL f l k' with
      | none => none
      | some none => some none
      | some (some (ts, k'')) => some (some (t :: ts, k''))
/-- the rules in order, from the i-th on -/
def pgC (f : Sy → Nat → Option (Option (Tr × Nat))) (n k : Nat) : Nat → List Ru → Option (Option (Tr × Nat))
  | _, [] => some none
  | i, u :: rs => if u.1 = n then (match pgL f u.2 k with
      | none => none
      | some none => pgC f n k (i + 1) rs
      | some (some (ts, k')) => some (some (.node i ts, k'))) else pgC f n k (i + 1) rs
def pg (R : List Ru) (W : List Nat) : Nat → Sy → Nat → Option (Option (Tr × Nat))
  | 0, _, _ => none
  | d + 1, s, k => if s.1 then (if W[k]? = some s.2 then some (some (.leaf s.2, k + 1)) else some none) else pgC (pg R W d) s.2 k 0 R
section
variable {f f' : Sy → Nat → Option (Option (Tr × Nat))} {R : List Ru} {W : List Nat}
theorem pgL_mono (h : ∀ s k r, f s k = some r → f' s k = some r) : ∀ (l : List Sy) (k : Nat) (r : Option (List Tr × Nat)), pgL f l k = some r → pgL f' l k = some r
  | [], k, r, e => e
  | s :: l, k, r, e => by
    simp only [pgL] at e ⊢
    cases hf : f s k with
    | none => rw [hf] at e; cases e
    | some x =>
      rw [hf] at e; rw [h s k x hf]
      cases x with
      | none => exact e
      | some p =>
        obtain ⟨t, k'⟩ := p
        simp only at e ⊢
        cases hl : pgL f l k' with
        | none => rw [hl] at e; cases e
        | some y => rw [hl] at e; rw [pgL_mono h l k' y hl]; exact e
theorem pgC_mono (h : ∀ s k r, f s k = some r → f' s k = some r) (n k : Nat) : ∀ (rs : List Ru) (i : Nat) (r : Option (Tr × Nat)), pgC f n k i rs = some r → pgC f' n k i rs = some r
  | [], i, r, e => e
  | u :: rs, i, r, e => by
    simp only [pgC] at e ⊢
    by_cases hn : u.1 = n
    · rw [if_pos hn] at e ⊢
      cases hl : pgL f u.2 k with
      | none => rw [hl] at e; cases e
      | some y =>
        rw [hl] at e; rw [pgL_mono h u.2 k y hl]
        cases y with
        | none => exact pgC_mono h n k rs (i + 1) r e
        | some p => exact e
    · rw [if_neg hn] at e ⊢; exact pgC_mono h n k rs (i + 1) r e
theorem pg_succ : ∀ (d : Nat) (s : Sy) (k : Nat) (r : Option (Tr × Nat)), pg R W d s k = some r → pg R W (d + 1) s k = some r
  | 0, s, k, r, e => by simp [pg] at e
  | d + 1, s, k, r, e => by
    rw [pg] at e ⊢
    by_cases hs : s.1 = true
    · rw [if_pos hs] at e ⊢; exact e
    · rw [if_neg hs] at e ⊢; exact pgC_mono (pg_succ d) s.2 k R 0 r e
theorem pg_mono {d : Nat} : ∀ {d' : Nat}, d ≤ d' → ∀ (s : Sy) (k : Nat) (r : Option (Tr × Nat)), pg R W d s k = some r → pg R W d' s k = some r
  | 0, h, s, k, r, e => by obtain rfl : d = 0 := by omega
                           exact e
  | d' + 1, h, s, k, r, e => by
    rcases Nat.lt_or_ge d (d' + 1) with h1 | h1
    · exact pg_succ d' s k r (pg_mono (by omega) s k r e)
    · obtain rfl : d = d' + 1 := by omega
      exact e
/-- the result is the same for all depths that do -/
theorem pg_uniq {d d' : Nat} {s : Sy} {k : Nat} {r r' : Option (Tr × Nat)} (h : pg R W d s k = some r) (h' : pg R W d' s k = some r') : r = r' := by
  have a := pg_mono (Nat.le_max_left d d') s k r h
  have b := pg_mono (Nat.le_max_right d d') s k r' h'
  rw [a] at b; exact Option.some.inj b
/-! ### what is read -/
theorem pgL_end {m : Nat} (hf : ∀ s k t k', k ≤ m → f s k = some (some (t, k')) → k ≤ k' ∧ k' ≤ m ∧ (k' = k → s.1 = false ∧ NullN R s.2)) : ∀ (l : List Sy) (k : Nat) (ts : List Tr) (k' : Nat), k ≤ m → pgL f l k = some (some (ts, k')) → k ≤ k' ∧ k' ≤ m ∧ (k' = k → NulL R l)
  | [], k, ts, k', hk, e => by
    simp only [pgL, Option.some.injEq, Prod.mk.injEq] at e
    obtain ⟨_, rfl⟩ := e
    exact ⟨Nat.le_refl _, hk, fun _ s hs => absurd hs (List.not_mem_nil)⟩
  | s :: l, k, ts, k', hk, e => by
    simp only [pgL] at e
    cases hs : f s k with
    | none => rw [hs] at e; cases e
    | some x =>
      rw [hs] at e
      cases x with
      | none => cases e
      | some p =>
        obtain ⟨t, k1⟩ := p
        simp only at e
        obtain ⟨a1, a2, a3⟩ := hf s k t k1 hk hs
        cases hl : pgL f l k1 with
        | none => rw [hl] at e; cases e
        | some y =>
          rw [hl] at e
          cases y with
          | none => cases e
          | some p =>
            obtain ⟨us, k2⟩ := p
            simp only [Option.some.injEq, Prod.mk.injEq] at e
            obtain ⟨_, rfl⟩ := e
            obtain ⟨b1, b2, b3⟩ := pgL_end hf l k1 us k2 a2 hl
            refine ⟨by omega, b2, fun he => ?_⟩
            have h1 : k1 = k := by omega
            intro y hy
            rcases List.mem_cons.1 hy with rfl | hy
            · exact a3 h1
            · exact b3 (by omega) y hy
theorem pgC_end {m n k : Nat} (hk : k ≤ m) (hf : ∀ s k t k', k ≤ m → f s k = some (some (t, k')) → k ≤ k' ∧ k' ≤ m ∧ (k' = k → s.1 = false ∧ NullN R s.2)) : ∀ (rs : List Ru) (i : Nat) (t : Tr) (k' : Nat), (∀ u ∈ rs, u ∈ R) → pgC f n k i rs = some (some (t, k')) → k ≤ k' ∧ k' ≤ m ∧ (k' = k → NullN R n)
  | [], i, t, k', _, e => by simp [pgC] at e
  | u :: rs, i, t, k', hR, e => by
    simp only [pgC] at e
    by_cases hn : u.1 = n
    · rw [if_pos hn] at e
      cases hl : pgL f u.2 k with
      | none => rw [hl] at e; cases e
      | some y =>
        rw [hl] at e
        cases y with
        | none => exact pgC_end hk hf rs (i + 1) t k' (fun v hv => hR v (List.mem_cons_of_mem _ hv)) e
        | some p =>
          obtain ⟨us, k2⟩ := p
          simp only [Option.some.injEq, Prod.mk.injEq] at e
          obtain ⟨_, rfl⟩ := e
          obtain ⟨b1, b2, b3⟩ := pgL_end hf u.2 k us k2 hk hl
          refine ⟨b1, b2, fun he => ?_⟩
          have hu : (n, u.2) ∈ R := by rw [← hn]; exact hR u (List.mem_cons_self ..)
          exact .mk n u.2 hu (fun s hs => (b3 he s hs).1) (fun s hs => (b3 he s hs).2)
    · rw [if_neg hn] at e; exact pgC_end hk hf rs (i + 1) t k' (fun v hv => hR v (List.mem_cons_of_mem _ hv)) e
theorem pg_end (d : Nat) : ∀ (s : Sy) (k : Nat) (t : Tr) (k' : Nat), k ≤ W.length → pg R W d s k = some (some (t, k')) → k ≤ k' ∧ k' ≤ W.length ∧ (k' = k → s.1 = false ∧ NullN R s.2) := by
  induction d with
  | zero => intro s k t k' _ e; simp [pg] at e
  | succ d ih =>
    intro s k t k' hk e
    rw [pg] at e
    by_cases hs : s.1 = true
    · rw [if_pos hs] at e
      by_cases hw : W[k]? = some s.2
      · rw [if_pos hw] at e
        simp only [Option.some.injEq, Prod.mk.injEq] at e
        obtain ⟨hlt, _⟩ := List.getElem?_eq_some_iff.1 hw
        omega
      · rw [if_neg hw] at e; cases e
    · rw [if_neg hs] at e
      obtain ⟨h1, h2, h3⟩ := pgC_end hk ih R 0 t k' (fun u hu => hu) e
      exact ⟨h1, h2, fun he => ⟨by simpa using hs, h3 he⟩⟩
/-! ### a depth that suffices -/
/-- N has a rule in which M stands behind symbols that may be empty -/
def BegM (R : List Ru) (N M : Nat) : Prop := ∃ a b, (N, a ++ (false, M) :: b) ∈ R ∧ NulL R a
theorem pgL_ex1 : ∀ (l : List Sy) (k : Nat), k ≤ W.length → (∀ k', k ≤ k' → k' ≤ W.length → ∀ s, ∃ d r, pg R W d s k' = some r) → ∃ d r, pgL (pg R W d) l k = some r
  | [], k, _, _ => ⟨0, _, rfl⟩
  | s :: l, k, hk, H => by
    obtain ⟨d, r, hr⟩ := H k (Nat.le_refl _) hk s
    cases r with
    | none => exact ⟨d, none, by simp only [pgL, hr]⟩
    | some p =>
      obtain ⟨t, k1⟩ := p
      obtain ⟨a1, a2, _⟩ := pg_end d s k t k1 hk hr
      obtain ⟨d2, r2, h2⟩ := pgL_ex1 l k1 a2 fun k' h h' => H k' (by omega) h'
      have e1 := pg_mono (Nat.le_max_left d d2) s k _ hr
      have e2 := pgL_mono (pg_mono (Nat.le_max_right d d2)) l k1 r2 h2
      refine ⟨max d d2, ?_⟩
      simp only [pgL, e1, e2]
      cases r2 with
      | none => exact ⟨_, rfl⟩
      | some p => exact ⟨_, rfl⟩
theorem pgL_ex2 : ∀ (l : List Sy) (k : Nat), k ≤ W.length → (∀ k', k < k' → k' ≤ W.length → ∀ s, ∃ d r, pg R W d s k' = some r) → (∀ a s b, l = a ++ s :: b → NulL R a → ∃ d r, pg R W d s k = some r) → ∃ d r, pgL (pg R W d) l k = some r
  | [], k, _, _, _ => ⟨0, _, rfl⟩
  | s :: l, k, hk, H, H2 => by
    obtain ⟨d, r, hr⟩ := H2 [] s l rfl (fun x hx => absurd hx List.not_mem_nil)
    cases r with
    | none => exact ⟨d, none, by simp only [pgL, hr]⟩
    | some p =>
      obtain ⟨t, k1⟩ := p
      obtain ⟨a1, a2, a3⟩ := pg_end d s k t k1 hk hr
      have : ∃ d r, pgL (pg R W d) l k1 = some r := by
        by_cases he : k1 = k
        · rw [he]
          refine pgL_ex2 l k hk H fun a x b e ha => H2 (s :: a) x b (by rw [e]; rfl) fun y hy => ?_
          rcases List.mem_cons.1 hy with rfl | hy
          · exact a3 he
          · exact ha y hy
        · exact pgL_ex1 l k1 a2 fun k' h h' => H k' (by omega) h'
      obtain ⟨d2, r2, h2⟩ := this
      have e1 := pg_mono (Nat.le_max_left d d2) s k _ hr
      have e2 := pgL_mono (pg_mono (Nat.le_max_right d d2)) l k1 r2 h2
      refine ⟨max d d2, ?_⟩
      simp only [pgL, e1, e2]
      cases r2 with
      | none => exact ⟨_, rfl⟩
      | some p => exact ⟨_, rfl⟩
theorem pgC_ex (n k : Nat) : ∀ (rs : List Ru) (i : Nat), (∀ u ∈ rs, u.1 = n → ∃ d r, pgL (pg R W d) u.2 k = some r) → ∃ d r, pgC (pg R W d) n k i rs = some r
  | [], i, _ => ⟨0, _, rfl⟩
  | u :: rs, i, H => by
    obtain ⟨d2, r2, h2⟩ := pgC_ex n k rs (i + 1) fun v hv => H v (List.mem_cons_of_mem _ hv)
    by_cases hn : u.1 = n
    · obtain ⟨d, r, hr⟩ := H u (List.mem_cons_self ..) hn
      have e1 := pgL_mono (pg_mono (Nat.le_max_left d d2)) u.2 k r hr
      have e2 := pgC_mono (pg_mono (Nat.le_max_right d d2)) n k rs (i + 1) r2 h2
      refine ⟨max d d2, ?_⟩
      simp only [pgC, if_pos hn, e1]
      cases r with
      | none => exact ⟨_, e2⟩
      | some p => exact ⟨_, rfl⟩
    · exact ⟨d2, r2, by simp only [pgC, if_neg hn]; exact h2⟩
theorem pg_term (x k : Nat) : ∃ d r, pg R W d (true, x) k = some r := by
  refine ⟨1, if W[k]? = some x then some (.leaf x, k + 1) else none, ?_⟩
  rw [pg, if_pos rfl]; split <;> rfl
/-- where no nonterminal begins with itself, some depth does -/
theorem pg_ex {D : Nat → Nat → Bool} {N : Nat} (hD : ∀ i j, D i j = true → i < N ∧ j < N) (hB : ∀ i j, BegM R i j → D i j = true) (hno : ∀ i, ¬ Plus D i i) : ∀ (m k : Nat), k ≤ W.length → W.length - k ≤ m → ∀ s, ∃ d r, pg R W d s k = some r := by
  intro m
  induction m using Nat.strongRecOn with
  | ind m ihm =>
    intro k hk hm
    have later : ∀ k', k < k' → k' ≤ W.length → ∀ s, ∃ d r, pg R W d s k' = some r := fun k' h1 h2 s => ihm (W.length - k') (by omega) k' h2 (Nat.le_refl _) s
    have here : ∀ q n, begN D N n ≤ q → ∃ d r, pg R W d (false, n) k = some r := by
      intro q
      induction q using Nat.strongRecOn with
      | ind q ihq =>
        intro n hq
        have : ∃ d r, pgC (pg R W d) n k 0 R = some r := by
          refine pgC_ex n k R 0 fun u hu hn => pgL_ex2 u.2 k hk later fun a s b e ha => ?_
          obtain ⟨t, x⟩ := s
          cases t with
          | true => exact pg_term x k
          | false =>
            have hb : D n x = true := hB n x ⟨a, b, by rw [← e, ← hn]; exact hu, ha⟩
            have := begN_lt hD hno (.one x hb)
            exact ihq (begN D N x) (by omega) x (Nat.le_refl _)
        obtain ⟨d, r, h⟩ := this
        exact ⟨d + 1, r, by rw [pg, if_neg (by simp)]; exact h⟩
    intro s
    obtain ⟨t, x⟩ := s
    cases t with
    | true => exact pg_term x k
    | false => exact here _ x (Nat.le_refl _)
end
end Go.Proofs.YtfmnmgnhanogmaaDoor



namespace Go.Proofs.YtfmnmgnhanogmaaDoor
open Go.RowKit

/-- the nonterminals with which a right side begins -/
def begL (nul : Nat → Bool) : List Sy → List Nat
  | [] => []
  | s :: l => if s.1 then [] else s.2 :: (if nul s.2 then begL nul l else [])
def begT (nul : Nat → Bool) (R : List Ru) (i j : Nat) : Bool := R.any fun u => u.1 == i && (begL nul u.2).contains j
section
variable {nul : Nat → Bool} {R : List Ru}
theorem begL_pass {s : Sy} {l : List Sy} (h : s.1 = false) (hn : nul s.2 = true) : begL nul (s :: l) = s.2 :: begL nul l := by
  rw [begL, if_neg (by simp [h]), if_pos hn]
theorem begL_last {s : Sy} {l : List Sy} (h : s.1 = false) (hn : nul s.2 = false) : begL nul (s :: l) = [s.2] := by
  rw [begL, if_neg (by simp [h]), if_neg (by simp [hn])]
theorem begL_term {s : Sy} {l : List Sy} (h : s.1 = true) : begL nul (s :: l) = [] := by
  rw [begL, if_pos h]
/-- all ahead of the p-th symbol may be empty -/
theorem begL_at : ∀ {a l : List Sy}, (∀ s ∈ a, s.1 = false ∧ nul s.2 = true) → begL nul (a ++ l) = a.map (·.2) ++ begL nul l
  | [], l, _ => rfl
  | s :: a, l, h => by
    have h1 := h s (List.mem_cons_self ..)
    rw [List.cons_append, begL_pass h1.1 h1.2, begL_at fun x hx => h x (List.mem_cons_of_mem _ hx)]; rfl
theorem begL_iff (hn : ∀ n, nul n = true ↔ NullN R n) : ∀ (l : List Sy) (j : Nat), j ∈ begL nul l ↔ ∃ a b, l = a ++ (false, j) :: b ∧ NulL R a
  | [], j => by simp [begL]
  | s :: l, j => by
    have ih := begL_iff hn l j
    obtain ⟨t, x⟩ := s
    cases t with
    | true =>
      rw [begL_term rfl]
      refine ⟨fun h => absurd h List.not_mem_nil, fun ⟨a, b, e, ha⟩ => ?_⟩
      cases a with
      | nil => cases e
      | cons y a =>
        simp only [List.cons_append, List.cons.injEq] at e
        have := (ha y (List.mem_cons_self ..)).1
        rw [← e.1] at this; cases this
    | false =>
      rw [begL, if_neg (by simp), List.mem_cons]
      constructor
      · rintro (rfl | h)
        · exact ⟨[], l, rfl, fun s hs => absurd hs List.not_mem_nil⟩
        · by_cases hx : nul x = true
          · rw [if_pos hx] at h
            obtain ⟨a, b, rfl, ha⟩ := ih.1 h
            refine ⟨(false, x) :: a, b, rfl, fun y hy => ?_⟩
            rcases List.mem_cons.1 hy with rfl | hy
            · exact ⟨rfl, (hn x).1 hx⟩
            · exact ha y hy
          · rw [if_neg hx] at h; exact absurd h List.not_mem_nil
      · rintro ⟨a, b, e, ha⟩
        cases a with
        | nil =>
          simp only [List.nil_append, List.cons.injEq, Prod.mk.injEq] at e
          exact Or.inl e.1.2.symm
        | cons y a =>
          simp only [List.cons_append, List.cons.injEq] at e
          have h1 := ha y (List.mem_cons_self ..)
          rw [← e.1] at h1
          have hx : nul x = true := (hn x).2 h1.2
          rw [if_pos hx]
          exact Or.inr (ih.2 ⟨a, b, e.2, fun z hz => ha z (List.mem_cons_of_mem _ hz)⟩)
theorem begT_iff (hn : ∀ n, nul n = true ↔ NullN R n) (i j : Nat) : begT nul R i j = true ↔ BegM R i j := by
  unfold begT BegM
  rw [List.any_eq_true]
  constructor
  · rintro ⟨u, hu, h⟩
    rw [Bool.and_eq_true, beq_iff_eq, List.contains_iff_mem, begL_iff hn] at h
    obtain ⟨rfl, a, b, e, ha⟩ := h
    exact ⟨a, b, by rw [← e]; exact hu, ha⟩
  · rintro ⟨a, b, h, ha⟩
    refine ⟨_, h, ?_⟩
    rw [Bool.and_eq_true, beq_iff_eq, List.contains_iff_mem, begL_iff hn]
    exact ⟨rfl, a, b, rfl, ha⟩
theorem begL_mem : ∀ {l : List Sy} {j : Nat}, j ∈ begL nul l → (false, j) ∈ l
  | [], j, h => absurd h List.not_mem_nil
  | (true, x) :: l, j, h => by rw [begL_term rfl] at h; exact absurd h List.not_mem_nil
  | (false, x) :: l, j, h => by
    rw [begL, if_neg (by simp)] at h
    rcases List.mem_cons.1 h with rfl | h
    · exact List.mem_cons_self ..
    · by_cases hx : nul x = true
      · rw [if_pos hx] at h; exact List.mem_cons_of_mem _ (begL_mem h)
      · rw [if_neg hx] at h; exact absurd h List.not_mem_nil
theorem begT_lt {g : Gr} (hg : g.Ok) (i j : Nat) (h : begT nul g.rules i j = true) : i < g.nons ∧ j < g.nons := by
  unfold begT at h
  rw [List.any_eq_true] at h
  obtain ⟨u, hu, h⟩ := h
  rw [Bool.and_eq_true, beq_iff_eq, List.contains_iff_mem] at h
  obtain ⟨rfl, h⟩ := h
  have h2 := (hg.right u hu).2 _ (begL_mem h)
  exact ⟨hg.left u hu, by simpa [Gr.okSy] using h2⟩
/-- the table while the loops stand at the p-th symbol of the k-th rule -/
def begP (nul : Nat → Bool) (R : List Ru) (k p a b : Nat) : Bool :=
  begT nul (R.take k) a b || (match R[k]? with | some u => u.1 == a && ((u.2.take p).map (·.2)).contains b | none => false)
theorem begP_start (k a b : Nat) : begP nul R k 0 a b = begT nul (R.take k) a b := by
  unfold begP; cases R[k]? <;> simp
theorem begP_step {k p : Nat} {u : Ru} {s : Sy} (hu : R[k]? = some u) (hs : u.2[p]? = some s) (a b : Nat) : begP nul R k (p + 1) a b = (if a = u.1 ∧ b = s.2 then true else begP nul R k p a b) := by
  unfold begP
  rw [hu]
  have : u.2.take (p + 1) = u.2.take p ++ [s] := by rw [List.take_add_one, hs]; rfl
  simp only [this, List.map_append, List.map_cons, List.map_nil, List.contains_eq_mem, List.mem_append, List.mem_singleton]
  by_cases h : a = u.1 ∧ b = s.2
  · rw [if_pos h, h.1, h.2]; simp
  · rw [if_neg h]
    by_cases h1 : u.1 = a
    · have : ¬ b = s.2 := fun e => h ⟨h1.symm, e⟩
      simp [this]
    · have h2 : (u.1 == a) = false := by simpa using h1
      rw [h2]; simp
theorem begP_end {k p : Nat} {u : Ru} (hu : R[k]? = some u) (hp : ∀ s ∈ u.2.take p, s.1 = false ∧ nul s.2 = true) (hl : begL nul (u.2.drop p) = []) (a b : Nat) : begP nul R k p a b = begT nul (R.take (k + 1)) a b := by
  have e : begL nul u.2 = (u.2.take p).map (·.2) := by
    conv => lhs; rw [← List.take_append_drop p u.2]
    rw [begL_at hp, hl, List.append_nil]
  unfold begP begT
  rw [hu, List.take_add_one, hu]
  simp only [Option.toList_some, List.any_append, List.any_cons, List.any_nil, Bool.or_false, e]
/-- the last symbol that counts is one that is never empty -/
theorem begP_cut {k p : Nat} {u : Ru} {s : Sy} (hu : R[k]? = some u) (hs : u.2[p]? = some s) (hp : ∀ s ∈ u.2.take p, s.1 = false ∧ nul s.2 = true) (ht : s.1 = false) (hn : nul s.2 = false) (a b : Nat) : begP nul R k (p + 1) a b = begT nul (R.take (k + 1)) a b := by
  have hd : u.2.drop p = s :: u.2.drop (p + 1) := by
    obtain ⟨h, rfl⟩ := List.getElem?_eq_some_iff.1 hs
    exact List.drop_eq_getElem_cons h
  have e : begL nul u.2 = (u.2.take (p + 1)).map (·.2) := by
    conv => lhs; rw [← List.take_append_drop p u.2]
    rw [begL_at hp, hd, begL_last ht hn, List.take_add_one, hs]
    simp
  unfold begP begT
  rw [hu, List.take_add_one, hu]
  simp only [Option.toList_some, List.any_append, List.any_cons, List.any_nil, Bool.or_false, e]
end
/-! ### going on from one with a row of work -/
section
variable {D : Nat → Nat → Bool} {n m N : Nat} {seen : Nat → Bool} {work left : List Nat}
structure Bfs (D : Nat → Nat → Bool) (n : Nat) (seen : Nat → Bool) (work : List Nat) : Prop where
  snd : ∀ k, seen k = true → Plus D n k
  shut : ∀ m, m = n ∨ seen m = true → m ∈ work ∨ ∀ k, D m k = true → seen k = true
  wk : ∀ m ∈ work, m = n ∨ seen m = true
/-- m has been taken; of those that it leads to, those of left are to come -/
structure BfsR (D : Nat → Nat → Bool) (n m : Nat) (left : List Nat) (seen : Nat → Bool) (work : List Nat) : Prop where
  snd : ∀ k, seen k = true → Plus D n k
  shut : ∀ x, x = n ∨ seen x = true → x ∈ work ∨ (∀ k, D x k = true → seen k = true) ∨ x = m
  here : ∀ k, D m k = true → seen k = true ∨ k ∈ left
  wk : ∀ m ∈ work, m = n ∨ seen m = true
  is : m = n ∨ seen m = true
theorem Bfs.start : Bfs D n (fun _ => false) [n] :=
  ⟨fun k h => absurd h (by simp), fun m h => by simp at h; simp [h], fun m h => by simp at h; exact Or.inl h⟩
theorem Bfs.pop (h : Bfs D n seen (m :: work)) (hl : ∀ k, D m k = true → k ∈ left) : BfsR D n m left seen work :=
  ⟨h.snd, fun x hx => by
    rcases h.shut x hx with h1 | h1
    · rcases List.mem_cons.1 h1 with rfl | h1
      · exact Or.inr (Or.inr rfl)
      · exact Or.inl h1
    · exact Or.inr (Or.inl h1), fun k hk => Or.inr (hl k hk), fun x hx => h.wk x (List.mem_cons_of_mem _ hx), h.wk m (List.mem_cons_self ..)⟩
theorem BfsR.old {k : Nat} {left' : List Nat} (h : BfsR D n m left seen work) (hl : ∀ x, x ∈ left → x = k ∨ x ∈ left') (hs : seen k = true) : BfsR D n m left' seen work :=
  ⟨h.snd, h.shut, fun x hx => by
    rcases h.here x hx with h1 | h1
    · exact Or.inl h1
    · rcases hl x h1 with rfl | h1
      · exact Or.inl hs
      · exact Or.inr h1, h.wk, h.is⟩
theorem BfsR.new {k : Nat} {left' : List Nat} (h : BfsR D n m left seen work) (hl : ∀ x, x ∈ left → x = k ∨ x ∈ left') (hd : D m k = true) : BfsR D n m left' (fun x => if x = k then true else seen x) (work ++ [k]) := by
  have up : ∀ x, seen x = true → (if x = k then true else seen x) = true := fun x hx => by split <;> simp [hx]
  refine ⟨fun x hx => ?_, fun x hx => ?_, fun x hx => ?_, fun x hx => ?_, h.is.imp_right (up m)⟩
  · by_cases e : x = k
    · rw [e]
      rcases h.is with rfl | hm
      · exact .one k hd
      · exact .more m k (h.snd m hm) hd
    · simp only [if_neg e] at hx; exact h.snd x hx
  · have hold : x = n ∨ seen x = true → x ∈ work ++ [k] ∨ (∀ q, D x q = true → (if q = k then true else seen q) = true) ∨ x = m := by
      intro hx
      rcases h.shut x hx with h1 | h1 | h1
      · exact Or.inl (List.mem_append_left _ h1)
      · exact Or.inr (Or.inl fun q hq => up q (h1 q hq))
      · exact Or.inr (Or.inr h1)
    rcases hx with hx | hx
    · exact hold (Or.inl hx)
    · by_cases e : x = k
      · exact Or.inl (by simp [e])
      · simp only [if_neg e] at hx; exact hold (Or.inr hx)
  · by_cases e : x = k
    · exact Or.inl (by simp [e])
    · rcases h.here x hx with h1 | h1
      · exact Or.inl (up x h1)
      · rcases hl x h1 with h1 | h1
        · exact absurd h1 e
        · exact Or.inr h1
  · rcases List.mem_append.1 hx with hx | hx
    · exact (h.wk x hx).imp_right (up x)
    · simp only [List.mem_singleton] at hx; exact Or.inr (by simp [hx])
theorem BfsR.done (h : BfsR D n m [] seen work) : Bfs D n seen work :=
  ⟨h.snd, fun x hx => by
    rcases h.shut x hx with h1 | h1 | h1
    · exact Or.inl h1
    · exact Or.inr h1
    · refine Or.inr fun k hk => ?_
      rw [h1] at hk
      exact (h.here k hk).resolve_right List.not_mem_nil, h.wk⟩
theorem Bfs.all (h : Bfs D n seen []) (k : Nat) : seen k = true ↔ Plus D n k := by
  refine ⟨h.snd k, fun hp => ?_⟩
  have shut : ∀ m, m = n ∨ seen m = true → ∀ k, D m k = true → seen k = true := fun m hm => (h.shut m hm).resolve_left List.not_mem_nil
  induction hp with
  | one j hj => exact shut n (Or.inl rfl) j hj
  | more m j _ hj ih => exact shut m (Or.inr ih) j hj
/-- how many have not been seen -/
def unS (N : Nat) (seen : Nat → Bool) : Nat := ((List.range N).filter fun k => !seen k).length
theorem unS_put {k : Nat} (hk : k < N) (hs : seen k = false) : unS N (fun x => if x = k then true else seen x) + 1 ≤ unS N seen := by
  unfold unS
  have e : (fun x => !(if x = k then true else seen x)) = fun x => decide (x ≠ k) && (!seen x) := by
    funext x
    by_cases h : x = k <;> simp [h]
  rw [e, ← List.filter_filter]
  have hm : k ∈ (List.range N).filter fun x => !seen x := by simp [hk, hs]
  exact List.length_filter_lt_length_iff_exists.2 ⟨k, hm, by simp⟩
theorem unS_le : unS N seen ≤ N := by
  unfold unS
  have := List.length_filter_le (fun k => !seen k) (List.range N)
  simpa using this
end
end Go.Proofs.YtfmnmgnhanogmaaDoor

