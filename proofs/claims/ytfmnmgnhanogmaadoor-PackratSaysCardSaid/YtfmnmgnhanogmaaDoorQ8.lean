/- Texts JF, JG, JH, JI, JK, laid together. -/
import Derived.Test.YtfmnmgnhanogmaaDoorQ7
import Derived.StillTailTactics


namespace Go.Proofs.YtfmnmgnhanogmaaDoor
open Go.RowKit

/-! ### raw and valid -/
def embS (s : Sy) : Ci := (s.1, (s.2 : Int))
def embR (r : Ru) : Ri := ((r.1 : Int), r.2.map embS)
theorem lift_sym {T N : Int} {s : Ci} (h : okSi T N s = true) : ∃ y : Sy, s = embS y ∧ (if y.1 then (y.2 : Int) < T else (y.2 : Int) < N) := by
  obtain ⟨b, k⟩ := s
  unfold okSi at h
  simp only [Bool.and_eq_true, decide_eq_true_eq, Bool.or_eq_true, Bool.not_eq_true'] at h
  refine ⟨(b, k.toNat), ?_, ?_⟩
  · simp only [embS, Prod.mk.injEq, true_and]; omega
  · cases b
    · simp at h ⊢; omega
    · simp at h ⊢; omega
theorem chkL_ok {T N : Int} : ∀ (rs done : List Ri), chkL T N done rs = 0 → (∀ r ∈ rs, (0 ≤ r.1 ∧ r.1 < N) ∧ r.2.length ≤ 4 ∧ ∀ s ∈ r.2, okSi T N s = true) ∧ rs.Nodup ∧ ∀ r ∈ rs, ¬ r ∈ done
  | [], _, _ => ⟨fun r h => (by cases h), List.nodup_nil, fun r h => (by cases h)⟩
  | r :: rs, done, h => by
    unfold chkL at h
    by_cases h1 : ¬ (0 ≤ r.1 ∧ r.1 < N)
    · rw [if_pos h1] at h; cases h
    · rw [if_neg h1] at h
      by_cases h2 : 4 < r.2.length
      · rw [if_pos h2] at h; cases h
      · rw [if_neg h2] at h
        by_cases h3 : (r.2.any fun s => !okSi T N s) = true
        · rw [if_pos h3] at h; cases h
        · rw [if_neg h3] at h
          by_cases h4 : r ∈ done
          · rw [if_pos h4] at h; cases h
          · rw [if_neg h4] at h
            obtain ⟨i1, i2, i3⟩ := chkL_ok rs (done ++ [r]) h
            refine ⟨fun x hx => ?_, List.nodup_cons.2 ⟨fun hm => i3 r hm (by simp), i2⟩, fun x hx hd => ?_⟩
            · rcases List.mem_cons.1 hx with rfl | hx
              · refine ⟨Classical.not_not.1 h1, by omega, fun s hs => ?_⟩
                cases ho : okSi T N s with
                | true => rfl
                | false => exact absurd (List.any_eq_true.2 ⟨s, hs, by rw [ho]; rfl⟩) h3
              · exact i1 x hx
            · rcases List.mem_cons.1 hx with rfl | hx
              · exact h4 hd
              · exact i3 x hx (List.mem_append_left _ hd)
theorem lift_list {α β : Type} {f : α → β} {p : α → Prop} : ∀ {l : List β}, (∀ y ∈ l, ∃ x, y = f x ∧ p x) → ∃ k : List α, l = k.map f ∧ ∀ x ∈ k, p x
  | [], _ => ⟨[], rfl, fun x h => (by cases h)⟩
  | y :: l, h => by
    obtain ⟨x, hx, hp⟩ := h y (List.mem_cons_self ..)
    obtain ⟨k, hk, hpk⟩ := lift_list (l := l) fun z hz => h z (List.mem_cons_of_mem _ hz)
    refine ⟨x :: k, by rw [hx, hk]; rfl, fun z hz => ?_⟩
    rcases List.mem_cons.1 hz with rfl | hz
    · exact hp
    · exact hpk z hz
/-- what passes the check is a valid grammar -/
theorem chkG_ok {T N S : Int} {rs : List Ri} (h : chkG T N S rs = 0) : ∃ g : Gr, GrOk g ∧ T = (g.terms : Int) ∧ N = (g.nons : Int) ∧ S = (g.start : Int) ∧ rs = g.rules.map embR := by
  unfold chkG at h
  by_cases h1 : ¬ (1 ≤ T ∧ T ≤ 8 ∧ 1 ≤ N ∧ N ≤ 10 ∧ 0 ≤ S ∧ S < N)
  · rw [if_pos h1] at h; cases h
  · rw [if_neg h1] at h
    by_cases h2 : 32 < rs.length
    · rw [if_pos h2] at h; cases h
    · rw [if_neg h2] at h
      obtain ⟨i1, i2, -⟩ := chkL_ok rs [] h
      have h1 := Classical.not_not.1 h1
      obtain ⟨k, hk, hp⟩ := lift_list (f := embR) (p := fun u => (u.1 : Int) < N ∧ u.2.length ≤ 4 ∧ ∀ y ∈ u.2, (if y.1 then (y.2 : Int) < T else (y.2 : Int) < N)) (l := rs) fun r hr => by
        obtain ⟨⟨a1, a2⟩, a3, a4⟩ := i1 r hr
        obtain ⟨l, hl, hlp⟩ := lift_list (f := embS) (p := fun y : Sy => if y.1 then (y.2 : Int) < T else (y.2 : Int) < N) (l := r.2) fun s hs => lift_sym (a4 s hs)
        refine ⟨(r.1.toNat, l), ?_, by simp only; omega, ?_, hlp⟩
        · obtain ⟨r1, r2⟩ := r
          simp only [embR, Prod.mk.injEq]
          exact ⟨by simp only at a1; omega, hl⟩
        · simp only
          rw [hl, List.length_map] at a3; exact a3
      refine ⟨⟨T.toNat, N.toNat, S.toNat, k⟩, ⟨⟨by simp only; omega, by simp only; omega, by simp only; omega, ?_, fun r hr => ?_, fun r hr => ⟨(hp r hr).2.1, fun s hs => ?_⟩⟩, ?_⟩, by simp only; omega, by simp only; omega, by simp only; omega, hk⟩
      · simp only; rw [hk, List.length_map] at h2; omega
      · have := (hp r hr).1; simp only; omega
      · have := (hp r hr).2.2 s hs
        unfold Gr.okSy
        cases hs1 : s.1 <;> rw [hs1] at this <;> simp at this ⊢ <;> omega
      · rw [hk] at i2
        exact List.Pairwise.of_map embR (fun a b h e => h (by rw [e])) i2
theorem Sl.lowS {ok : Nat → Prop} {w : World} {A : Option Addr} {n c : Nat} {l : List Sy} (h : Sl SiE ok w A n c (l.map embS)) : Sl SyE ok w A n c l := by
  obtain ⟨h1, h2, raw, h3, h4, h5⟩ := h
  rw [List.length_map] at h1
  have e : raw = l.map embS := List.ext_getElem (by rw [h3, List.length_map, h1]) fun i a b => h5 i _ _ (List.getElem?_eq_getElem a) (List.getElem?_eq_getElem b)
  have ef : ∀ l : List Sy, flat SiE (l.map embS) = flat SyE l := fun l => by
    induction l with
    | nil => rfl
    | cons x l ih => simp only [flat, List.map_cons, List.flatMap_cons] at ih ⊢; rw [ih]; rfl
  refine ⟨h1, h2, l, h1, ?_, fun i r x hr hx => by rw [hr] at hx; exact Option.some.inj hx⟩
  rw [e, ef] at h4; exact h4
theorem Sl.lowR {ok : Nat → Prop} {w : World} {A : Option Addr} {n c : Nat} {l : List Ru} (h : Sl RiE ok w A n c (l.map embR)) : Sl RuE ok w A n c l := by
  obtain ⟨h1, h2, raw, h3, h4, h5⟩ := h
  rw [List.length_map] at h1
  have key : ∀ (raw : List (Int × SlV)) (l : List Ru), raw.length = l.length → (∀ (i : Nat) r x, raw[i]? = some r → (l.map embR)[i]? = some x → RiE.rel ok w r x) →
      ∃ raw2 : List (Nat × SlV), raw2.length = l.length ∧ flat RuE raw2 = flat RiE raw ∧ ∀ (i : Nat) r x, raw2[i]? = some r → l[i]? = some x → RuE.rel ok w r x := by
    intro raw
    induction raw with
    | nil =>
      intro l hl _
      have e : l = [] := List.eq_nil_of_length_eq_zero (by simpa using hl.symm)
      subst e
      exact ⟨[], rfl, rfl, fun i r x hr => by simp at hr⟩
    | cons r raw ih =>
      intro l hl hrel
      cases l with
      | nil => simp at hl
      | cons u l =>
        obtain ⟨raw2, k1, k2, k3⟩ := ih l (by simpa using hl) fun i r' x hr hx => hrel (i + 1) r' x (by simpa using hr) (by simpa using hx)
        have h0 := hrel 0 r (embR u) rfl rfl
        obtain ⟨r1, r2⟩ := r
        obtain ⟨e1, e2⟩ := h0
        simp only [embR] at e1 e2
        refine ⟨(u.1, r2) :: raw2, by simp [k1], ?_, fun i r' x hr hx => ?_⟩
        · simp only [flat, List.flatMap_cons] at k2 ⊢
          rw [k2, e1]; rfl
        · cases i with
          | zero =>
            obtain rfl : (u.1, r2) = r' := by simpa using hr
            obtain rfl : u = x := by simpa using hx
            exact ⟨rfl, Sl.lowS e2⟩
          | succ i => exact k3 i r' x (by simpa using hr) (by simpa using hx)
  obtain ⟨raw2, k1, k2, k3⟩ := key raw l (by rw [h3, h1]) h5
  exact ⟨h1, h2, raw2, by rw [k1, h1], by rw [k2]; exact h4, k3⟩

/-! ### beginnings and continuations -/
inductive NullN (R : List Ru) : Nat → Prop
  | mk (N : Nat) (rhs : List Sy) (h : (N, rhs) ∈ R) (h1 : ∀ s ∈ rhs, s.1 = false) (h2 : ∀ s ∈ rhs, NullN R s.2) : NullN R N
def NulL (R : List Ru) (l : List Sy) : Prop := ∀ s ∈ l, s.1 = false ∧ NullN R s.2
inductive FstN (R : List Ru) : Nat → Nat → Prop
  | term (N t : Nat) (a b : List Sy) (h : (N, a ++ (true, t) :: b) ∈ R) (ha : NulL R a) : FstN R N t
  | non (N M t : Nat) (a b : List Sy) (h : (N, a ++ (false, M) :: b) ∈ R) (ha : NulL R a) (hf : FstN R M t) : FstN R N t
def FstL (R : List Ru) (l : List Sy) (t : Nat) : Prop := ∃ a y b, l = a ++ y :: b ∧ NulL R a ∧ (y = (true, t) ∨ ∃ M, y = (false, M) ∧ FstN R M t)
/-- by tables: with what a list begins -/
def ofB (es : Nat → Bool) (fs : Nat → Nat → Bool) : List Sy → Nat → Bool
  | [], _ => false
  | (true, k) :: _, t => decide (t = k)
  | (false, M) :: l, t => fs M t || (es M && ofB es fs l t)
/-- by a table: does a list become empty? -/
def ofE (es : Nat → Bool) : List Sy → Bool
  | [] => true
  | (true, _) :: _ => false
  | (false, M) :: l => es M && ofE es l
section
variable {R : List Ru} {es : Nat → Bool} {fs : Nat → Nat → Bool}
theorem FstL.cons_non {M t : Nat} {l : List Sy} (hn : NullN R M) (h : FstL R l t) : FstL R ((false, M) :: l) t := by
  obtain ⟨a, y, b, rfl, ha, hy⟩ := h
  exact ⟨(false, M) :: a, y, b, rfl, fun s hs => by rcases List.mem_cons.1 hs with rfl | hs; exact ⟨rfl, hn⟩; exact ha s hs, hy⟩
theorem ofE_null (hs : ∀ N, es N = true → NullN R N) : ∀ {l : List Sy}, ofE es l = true → NulL R l
  | [], _ => fun s h => by cases h
  | (true, _) :: _, h => by simp [ofE] at h
  | (false, M) :: l, h => by
    simp only [ofE, Bool.and_eq_true] at h
    intro s hs'
    rcases List.mem_cons.1 hs' with rfl | hs'
    · exact ⟨rfl, hs M h.1⟩
    · exact ofE_null hs h.2 s hs'
theorem ofB_fst (hs : ∀ N, es N = true → NullN R N) (hf : ∀ N t, fs N t = true → FstN R N t) : ∀ {l : List Sy} {t : Nat}, ofB es fs l t = true → FstL R l t
  | [], _, h => by simp [ofB] at h
  | (true, k) :: l, t, h => by
    simp only [ofB, decide_eq_true_eq] at h
    exact ⟨[], (true, k), l, rfl, fun s hs => (by cases hs), Or.inl (by rw [h])⟩
  | (false, M) :: l, t, h => by
    simp only [ofB, Bool.or_eq_true, Bool.and_eq_true] at h
    rcases h with h | ⟨h1, h2⟩
    · exact ⟨[], (false, M), l, rfl, fun s hs => (by cases hs), Or.inr ⟨M, rfl, hf M t h⟩⟩
    · exact (ofB_fst hs hf h2).cons_non (hs M h1)
/-- a table that is shut has all that becomes empty -/
theorem closed_null (hc : ∀ u ∈ R, ofE es u.2 = true → es u.1 = true) {N : Nat} (h : NullN R N) : es N = true := by
  induction h with
  | mk N rhs h h1 _ ih =>
    refine hc _ h ?_
    have : ∀ l : List Sy, (∀ s ∈ l, s.1 = false) → (∀ s ∈ l, es s.2 = true) → ofE es l = true := by
      intro l
      induction l with
      | nil => intro _ _; rfl
      | cons s l ihl =>
        intro k1 k2
        obtain ⟨sb, M⟩ := s
        have e1 : sb = false := k1 _ (List.mem_cons_self ..)
        subst e1
        simp only [ofE, Bool.and_eq_true]
        exact ⟨k2 _ (List.mem_cons_self ..), ihl (fun s hs => k1 s (List.mem_cons_of_mem _ hs)) (fun s hs => k2 s (List.mem_cons_of_mem _ hs))⟩
    exact this rhs h1 ih
theorem FstN.lt {B N t : Nat} (hb : ∀ u ∈ R, ∀ s ∈ u.2, s.1 = true → s.2 < B) (h : FstN R N t) : t < B := by
  induction h with
  | term N t a b h _ => exact hb _ h (true, t) (by simp) rfl
  | non N M t a b h _ _ ih => exact ih
theorem FstL.lt {B t : Nat} {l : List Sy} (hb : ∀ u ∈ R, ∀ s ∈ u.2, s.1 = true → s.2 < B) (hl : ∀ s ∈ l, s.1 = true → s.2 < B) (h : FstL R l t) : t < B := by
  obtain ⟨a, y, b, rfl, -, hy⟩ := h
  rcases hy with rfl | ⟨M, rfl, hM⟩
  · exact hl (true, t) (by simp) rfl
  · exact hM.lt hb
theorem closed_fst {B : Nat} (hb : ∀ u ∈ R, ∀ s ∈ u.2, s.1 = true → s.2 < B) (hn : ∀ N, NullN R N → es N = true) (hc : ∀ u ∈ R, ∀ t, t < B → ofB es fs u.2 t = true → fs u.1 t = true) {N t : Nat} (h : FstN R N t) : fs N t = true := by
  have ofa : ∀ (a : List Sy) (r : List Sy), NulL R a → ofB es fs r t = true → ofB es fs (a ++ r) t = true := by
    intro a r ha hr
    induction a with
    | nil => exact hr
    | cons x a ih =>
      obtain ⟨h1, h2⟩ := ha x (List.mem_cons_self ..)
      obtain ⟨xb, M⟩ := x
      simp only at h1 h2
      subst h1
      simp only [List.cons_append, ofB, ih fun s hs => ha s (List.mem_cons_of_mem _ hs), Bool.and_true, Bool.or_eq_true]
      exact Or.inr (hn M h2)
  induction h with
  | term N t a b h ha => exact hc _ h t (hb _ h (true, t) (by simp) rfl) (ofa a _ ha (by simp [ofB]))
  | non N M t a b h ha hf ih => exact hc _ h t (hf.lt hb) (ofa a _ ha (by simp [ofB, ih ofa]))
end
end Go.Proofs.YtfmnmgnhanogmaaDoor



namespace Go.Proofs.YtfmnmgnhanogmaaDoor
open Go.RowKit

/-- block b begins with the bools f 0 .. f (n-1) -/
def BRowS (w : World) (b s n : Nat) (f : Nat → Bool) : Prop := ∃ cs, Blk w b 4 cs ∧ cs.size = s ∧ ∀ j, j < n → cs[j]? = some (.bool (f j))
abbrev BRow (w : World) (b n : Nat) (f : Nat → Bool) : Prop := BRowS w b n n f
section
variable {w w' : World} {b s n : Nat} {f : Nat → Bool}
theorem BRowS.cell (h : BRowS w b s n f) {j : Nat} (hj : j < n) : w.cell? ⟨b, j, none⟩ = some (.bool (f j)) := by
  obtain ⟨cs, h1, hs, h2⟩ := h
  exact (h1.cell j).trans (h2 j hj)
theorem BRowS.frozen (h : BRowS w b s n f) (j : Nat) : w.frozen? ⟨b, j, none⟩ = false := by
  obtain ⟨cs, h1, hs, h2⟩ := h
  exact h1.frozen j
theorem BRowS.lt (h : BRowS w b s n f) : b < w.heap.size := by obtain ⟨cs, h1, hs, h2⟩ := h; exact h1.lt
theorem BRowS.via (h : BRowS w b s n f) (k : Below w.heap.size w w') : BRowS w' b s n f := by obtain ⟨cs, h1, hs, h2⟩ := h; exact ⟨cs, h1.via k, hs, h2⟩
theorem BRowS.al (h : BRowS w b s n f) (o : Obj) : BRowS (w.alloc o) b s n f := by obtain ⟨cs, h1, hs, h2⟩ := h; exact ⟨cs, h1.alloc o, hs, h2⟩
theorem BRowS.grown {row : Option Nat} (h : BRowS w b s n f) (k : w.grownBy w' row) (hr : some b ≠ row) : BRowS w' b s n f := by obtain ⟨cs, h1, hs, h2⟩ := h; exact ⟨cs, h1.grown k hr, hs, h2⟩
theorem BRowS.far (h : BRowS w b s n f) {p : Addr} (hp : b ≠ p.block) (u : Value) : BRowS (w.setCell p u) b s n f := by obtain ⟨cs, h1, hs, h2⟩ := h; exact ⟨cs, h1.far hp u, hs, h2⟩
theorem BRowS.set {i : Nat} (h : BRowS w b s n f) (hi : i < n) : BRowS (w.setCell ⟨b, i, none⟩ (.bool true)) b s n (fun j => if j = i then true else f j) := by
  obtain ⟨cs, h1, hs, h2⟩ := h
  refine ⟨_, h1.set_ i (.bool true), by simpa using hs, fun j hj => ?_⟩
  have hil : i < cs.size := by
    have := h2 i hi
    exact (Array.getElem?_eq_some_iff.1 this).1
  rw [Array.getElem?_setIfInBounds]
  by_cases e : i = j
  · subst e; simp [hil]
  · have e' : ¬ j = i := fun q => e q.symm
    simp only [if_neg e, if_neg e']; exact h2 j hj
theorem BRowS.ext {g : Nat → Bool} (h : BRowS w b s n f) (e : ∀ j, j < n → g j = f j) : BRowS w b s n g := by
  obtain ⟨cs, h1, hs, h2⟩ := h
  exact ⟨cs, h1, hs, fun j hj => by rw [h2 j hj, e j hj]⟩
end
theorem grownBySet (w : World) (b i : Nat) (v : Value) : w.grownBy (w.setCell ⟨b, i, none⟩ v) (some b) :=
  ⟨rfl, rfl, rfl, by simp, fun j _ hne => Below.heap_setCell w ⟨b, i, none⟩ v j (fun e => hne (by rw [e]))⟩
theorem grownRefl (w : World) (row : Option Nat) : w.grownBy w row := ⟨rfl, rfl, rfl, Nat.le_refl _, fun _ _ _ => rfl⟩
/-- f with the first i of g -/
def uni (f g : Nat → Bool) (i : Nat) : Nat → Bool := fun j => f j || (decide (j < i) && g j)
theorem uni_zero (f g : Nat → Bool) : uni f g 0 = f := by funext j; simp [uni]
theorem uni_hit {f g : Nat → Bool} {i : Nat} (hg : g i = true) : uni f g (i + 1) = fun j => if j = i then true else uni f g i j := by
  funext j
  by_cases e : j = i
  · subst e; simp [uni, hg]
  · rw [if_neg e]; simp only [uni]; rw [show decide (j < i + 1) = decide (j < i) from by rw [decide_eq_decide]; omega]
theorem uni_miss {f g : Nat → Bool} {i : Nat} (hg : g i = false ∨ uni f g i i = true) : uni f g (i + 1) = uni f g i := by
  funext j
  by_cases e : j = i
  · subst e
    rcases hg with hg | hg
    · simp [uni, hg]
    · simp [uni] at hg; simp [uni, hg]
  · simp only [uni]; rw [show decide (j < i + 1) = decide (j < i) from by rw [decide_eq_decide]; omega]
/-- does the union change anything? -/
def uniC (f g : Nat → Bool) : Nat → Bool
  | 0 => false
  | i + 1 => uniC f g i || (g i && !f i)
theorem uniC_iff (f g : Nat → Bool) (m : Nat) : uniC f g m = true ↔ ∃ j, j < m ∧ g j = true ∧ f j = false := by
  induction m with
  | zero => simp [uniC]
  | succ m ih =>
    simp only [uniC, Bool.or_eq_true, ih, Bool.and_eq_true, Bool.not_eq_true']
    constructor
    · rintro (⟨j, h1, h2⟩ | h)
      · exact ⟨j, by omega, h2⟩
      · exact ⟨m, by omega, h⟩
    · rintro ⟨j, h1, h2⟩
      by_cases e : j = m
      · subst e; exact Or.inr h2
      · exact Or.inl ⟨j, by omega, h2⟩
def UniP (w : World) (b s n m : Nat) (f g : Nat → Bool) (e : Ending) (w' : World) : Prop :=
  e = .returned (.bool (uniC f g m)) ∧ BRowS w' b s n (uni f g m) ∧ w.grownBy w' (some b)
set_option maxRecDepth 100000 in
set_option maxHeartbeats 2000000 in
theorem union_c {s s2 : Nat} (w : World) (b n c : Nat) (f g : Nat → Bool) (b2 m c2 : Nat) (hf : BRowS w b s n f) (hg : BRowS w b2 s2 m g) (hm : m ≤ n) (hn : n ≤ 1000) (hs : b2 = b → ∀ j, j < m → g j = f j) :
    Calls Tryd.prog 74 #[.slice (some ⟨b, 0, none⟩) n c, .slice (some ⟨b2, 0, none⟩) m c2] w (UniP w b s n m f g) := by
  have HF := Lib.hid hf
  have HG := Lib.hid hg
  have HS := Lib.hid hs
  clear hf hg hs
  go_enter Tryd.func74, Tryd.ntmps74
  go_wp2_with fail
  go_loopw [5, 10] (fun q a wr => ∃ i : Nat, a = .int .i64 i ∧ i ≤ m ∧ q = .bool (uniC f g i) ∧ Hid (BRowS wr b s n (uni f g i)) ∧ Hid (w.grownBy wr (some b))) (fun _ a _ => m - (intOf a).toNat)
  case atStart => exact ⟨0, rfl, Nat.zero_le _, rfl, Lib.hid (by rw [uni_zero]; exact HF.out), Lib.hid (grownRefl _ _)⟩
  case round =>
    obtain ⟨i, rfl, hi, rfl, HB, HW⟩ := hrel
    by_cases him : i < m
    · have i0 : (0 : Int) ≤ (i : Int) := by omega
      have i1 : (i : Int) < (m : Int) := by omega
      have i2 : (i : Int) < (n : Int) := by omega
      have ct := HB.out.cell (show i < n by omega)
      have ft := HB.out.frozen
      have cf : wr.cell? ⟨b2, i, none⟩ = some (.bool (g i)) := by
        by_cases e : b2 = b
        · subst e
          have := HS.out rfl i him
          rw [ct]
          simp [uni, this]
        · exact (HG.out.grown HW.out (fun q => e (Option.some.inj q))).cell him
      have hui : uni f g i i = f i := by simp [uni]
      rw [hui] at ct
      cases hgi : g i with
      | false =>
        rw [hgi] at cf
        go_wp2_with fail
        exact ⟨⟨i + 1, by go_num, by omega, by simp [uniC, hgi], Lib.hid (by rw [uni_miss (Or.inl hgi)]; exact HB.out), HW⟩, by simp [intOf]; omega⟩
      | true =>
        rw [hgi] at cf
        cases hfi : f i with
        | true =>
          rw [hfi] at ct
          go_wp2_with fail
          exact ⟨⟨i + 1, by go_num, by omega, by simp [uniC, hfi], Lib.hid (by rw [uni_miss (Or.inr (hui.trans hfi))]; exact HB.out), HW⟩, by simp [intOf]; omega⟩
        | false =>
          rw [hfi] at ct
          go_wp2_with fail
          exact ⟨⟨i + 1, by go_num, by omega, by simp [uniC, hfi, hgi], Lib.hid (by rw [uni_hit hgi]; exact HB.out.set (by omega)), Lib.hid (HW.out.trans (grownBySet _ _ _ _))⟩, by simp [intOf]; omega⟩
    · obtain rfl : i = m := by omega
      go_wp2_with fail
      go_ret
      exact ⟨rfl, HB.out, HW.out⟩
end Go.Proofs.YtfmnmgnhanogmaaDoor




namespace Go.Proofs.YtfmnmgnhanogmaaDoor
open Go.RowKit

/-- the first n cells of block b -/
def HRow (w : World) (b n : Nat) (t : TypeId) (v : Nat → Value) : Prop := ∃ cs, Blk w b t cs ∧ ∀ j, j < n → cs[j]? = some (v j)
section
variable {w w' : World} {b n : Nat} {t : TypeId} {v : Nat → Value}
theorem HRow.cell (h : HRow w b n t v) {j : Nat} (hj : j < n) : w.cell? ⟨b, j, none⟩ = some (v j) := by
  obtain ⟨cs, h1, h2⟩ := h
  exact (h1.cell j).trans (h2 j hj)
theorem HRow.frozen (h : HRow w b n t v) (j : Nat) : w.frozen? ⟨b, j, none⟩ = false := by
  obtain ⟨cs, h1, h2⟩ := h
  exact h1.frozen j
theorem HRow.lt (h : HRow w b n t v) : b < w.heap.size := by obtain ⟨cs, h1, h2⟩ := h; exact h1.lt
theorem HRow.via (h : HRow w b n t v) (k : Below w.heap.size w w') : HRow w' b n t v := by obtain ⟨cs, h1, h2⟩ := h; exact ⟨cs, h1.via k, h2⟩
theorem HRow.grown {row : Option Nat} (h : HRow w b n t v) (k : w.grownBy w' row) (hr : some b ≠ row) : HRow w' b n t v := by obtain ⟨cs, h1, h2⟩ := h; exact ⟨cs, h1.grown k hr, h2⟩
end
/-- where the parts of a Sets lie -/
structure FsL where
  bS : Nat
  Ag : Option Addr
  ng : Nat
  cg : Nat
  be : Nat
  hb : Nat
  hc : Nat
  bs : Nat → Nat
def FsL.cells (L : FsL) (g : Gr) : Array Value := #[.int .i64 (g.terms : Int), .int .i64 (g.nons : Int), .int .i64 (g.start : Int), .slice L.Ag L.ng L.cg, .slice (some ⟨L.be, 0, none⟩) g.nons g.nons, .slice (some ⟨L.hb, 0, none⟩) g.nons L.hc]
structure FS (w : World) (g : Gr) (L : FsL) (es : Nat → Bool) (fs : Nat → Nat → Bool) : Prop where
  hdr : Blk w L.bS 115 (L.cells g)
  em : BRow w L.be g.nons es
  hd : HRow w L.hb g.nons 59 fun i => .slice (some ⟨L.bs i, 0, none⟩) g.terms g.terms
  row : ∀ i, i < g.nons → BRow w (L.bs i) g.terms (fs i)
  ap : ∀ i j, i < g.nons → j < g.nons → i ≠ j → L.bs i ≠ L.bs j
  f1 : ∀ i, i < g.nons → L.bs i ≠ L.bS ∧ L.bs i ≠ L.be ∧ L.bs i ≠ L.hb
  f2 : L.be ≠ L.bS ∧ L.be ≠ L.hb ∧ L.hb ≠ L.bS
theorem FS.via {w w' : World} {g : Gr} {L : FsL} {es : Nat → Bool} {fs : Nat → Nat → Bool} (h : FS w g L es fs) (k : Below w.heap.size w w') : FS w' g L es fs :=
  ⟨h.hdr.via k, h.em.via k, h.hd.via k, fun i hi => (h.row i hi).via k, h.ap, h.f1, h.f2⟩
def OfP (w : World) (n : Nat) (f : Nat → Bool) (b : Bool) (e : Ending) (w' : World) : Prop :=
  ∃ o, e = .returned (.tuple #[.slice (some ⟨o, 0, none⟩) n n, .bool b]) ∧ BRow w' o n f ∧ w.heap.size ≤ o ∧ Below w.heap.size w w'
theorem bool_info : (Tryd.prog.info? 4).map (fun i => (i.zero, i.size, i.bytes)) = some (some (.bool false), 1, 1) := by kernel_rfl
theorem mk_bools (n : Nat) (hn : n ≤ 1000000) : ∀ w : World, (Instr.makeSlice 59 (.int .i64 (n : Int)) (.int .i64 (n : Int))).run Tryd.prog w = .ok (.slice (some ⟨w.heap.size, 0, none⟩) n n) (w.alloc (.cells (mkCells (.bool false) n) 4)) := by
  intro w
  obtain ⟨i, hi, hz, hs, hb⟩ := info_parts bool_info
  have := run_make (P := Tryd.prog) w 59 4 i _ Tryd.underlying59 hi hz .i64 .i64 (n : Int) (n : Int) (by omega) (by omega) (by rw [hb]; omega) (by omega)
  rw [show ((n : Int)).toNat = n from by omega, hs, Nat.mul_one] at this
  exact this
theorem made_one (z : Value) (n : Nat) : madeCells #[z] n = Array.replicate n z := by
  apply Array.ext_getElem?
  intro i
  unfold madeCells
  rw [Array.getElem?_map, Array.getElem?_range]
  by_cases h : i < n
  · rw [if_pos h]; simp [h, Nat.mod_one]
  · rw [if_neg h]; simp [h]
theorem bel_grow {B b : Nat} {a w w' : World} (h : Below B a w) (k : w.grownBy w' (some b)) (hB : B ≤ b) (hs : B ≤ w.heap.size) : Below B a w' :=
  ⟨k.os.trans h.os, k.tape.trans h.tape, k.output.trans h.output, Nat.le_trans h.size k.size, fun i hi => (k.block i (by omega) (fun e => by have := Option.some.inj e; omega)).trans (h.block i hi)⟩
theorem BRow.new (w : World) (n : Nat) : BRow (w.alloc (.cells (mkCells (.bool false) n) 4)) w.heap.size n (fun _ => false) :=
  ⟨_, Blk.new w _ _, by unfold mkCells; rw [made_one]; simp, fun j hj => by unfold mkCells; rw [made_one]; simp [hj]⟩
theorem ofB_non {es : Nat → Bool} {fs : Nat → Nat → Bool} {M t : Nat} {l : List Sy} : ofB es fs ((false, M) :: l) t = (fs M t || (es M && ofB es fs l t)) := rfl
theorem drop_at {α : Type} {l : List α} {i : Nat} (hi : i < l.length) : ∃ x, l[i]? = some x ∧ l.drop i = x :: l.drop (i + 1) :=
  ⟨l[i], List.getElem?_eq_getElem hi, List.drop_eq_getElem_cons hi⟩
set_option maxRecDepth 100000 in
set_option maxHeartbeats 4000000 in
theorem of_c (w : World) (g : Gr) (hg : GrOk g) (L : FsL) (es : Nat → Bool) (fs : Nat → Nat → Bool) (ok : Nat → Prop) (A : Option Addr) (n c : Nat) (l : List Sy) (h : FS w g L es fs) (hl : Sl SyE ok w A n c l) (hn : n ≤ 4) (hok : ∀ s ∈ l, g.okSy s) :
    Calls Tryd.prog 73 #[.pointer (some ⟨L.bS, 0, none⟩), .slice A n c] w (OfP w g.terms (ofB es fs l) (ofE es l)) := by
  have hlen := hl.len
  have ht8 := hg.ok.terms.2
  have ht1 := hg.ok.terms.1
  have hn10 := hg.ok.nons.2
  have HF := Lib.hid h
  have HL := Lib.hid hl
  have HOK := Lib.hid hok
  have cS := h.hdr.cell
  have fS := h.hdr.frozen
  simp only [FsL.cells] at cS
  have c0 := cS 0
  clear h hl hok cS
  have hmb := mk_bools g.terms (by omega)
  have BN := Lib.hid (BRow.new w g.terms)
  have HB0 := Lib.hid ((Below.refl w.heap.size w).al (.cells (mkCells (.bool false) g.terms) 4))
  go_enter Tryd.func73, Tryd.ntmps73
  go_wp2_with fail
  clear hmb c0 fS
  have hs1 : w.heap.size < (w.alloc (.cells (mkCells (.bool false) g.terms) 4)).heap.size := by simp
  generalize w.alloc (.cells (mkCells (.bool false) g.terms) 4) = W at *
  go_loopw [17] (fun a wr => ∃ (i : Nat) (f : Nat → Bool), a = .int .i64 i ∧ i ≤ n ∧ Hid (BRow wr w.heap.size g.terms f) ∧ Hid (Below w.heap.size w wr) ∧ Hid ((∀ t, t < g.terms → (f t || ofB es fs (l.drop i) t) = ofB es fs l t) ∧ ofE es (l.drop i) = ofE es l)) (fun a _ => n - (intOf a).toNat)
  case atStart => exact ⟨0, _, rfl, Nat.zero_le _, BN, HB0, Lib.hid ⟨fun t _ => by simp, rfl⟩⟩
  case round =>
    obtain ⟨i, f, rfl, hi, HB, HW, HE⟩ := hrel
    by_cases hin : i < n
    · obtain ⟨b1, o1, ⟨xb, xn⟩, x', rfl, -, hb1, hx, hxr, hc⟩ := (HL.out.via HW.out).at_ hin
      obtain rfl : (xb, xn) = x' := hxr
      have x0 := hc 0 _ rfl
      have x1 := hc 1 _ rfl
      simp only [SyE, Nat.add_zero] at x0 x1
      have hdr : l.drop i = (xb, xn) :: l.drop (i + 1) := by
        obtain ⟨y, hy, hd⟩ := drop_at (l := l) (i := i) (by omega)
        rw [hx] at hy; cases hy; exact hd
      have hoks := HOK.out _ (List.mem_of_getElem? hx)
      have i0 : (0 : Int) ≤ (i : Int) := by omega
      have i1 : (i : Int) < (n : Int) := by omega
      have HX := Lib.hid hx
      have HDR := Lib.hid hdr
      have hal := (Below.refl wr.heap.size wr).al (.cells #[.bool xb, .int .i64 (xn : Int)] 54)
      have BX := Blk.new wr 54 #[.bool xb, .int .i64 (xn : Int)]
      have HB4 := Lib.hid (HB.out.via hal)
      have hwl : w.heap.size ≤ wr.heap.size := HW.out.size
      have hwl2 : w.heap.size < wr.heap.size := HB.out.lt
      have HW4 := Lib.hid (HW.out.trans (hal.mono hwl))
      clear hc hx hdr hb1 hal
      go_upto_region 5 with fail
      clear x0 x1
      have hbx : wr.heap.size < (wr.alloc (.cells #[.bool xb, .int .i64 (xn : Int)] 54)).heap.size := by simp
      generalize wr.alloc (.cells #[.bool xb, .int .i64 (xn : Int)] 54) = W4 at *
      generalize wr.heap.size = bx at *
      cases xb with
      | true =>
        have hxt : xn < g.terms := by simpa [Gr.okSy] using hoks
        have t0 : (0 : Int) ≤ (xn : Int) := by omega
        have t1 : (xn : Int) < (g.terms : Int) := by omega
        have fB := HB4.out.frozen
        have cB := HB4.out.cell hxt
        have cBX := BX.cell
        have fBX := BX.frozen
        have lBX := BX.lt
        go_wp2_with fail
        go_ret2
        refine ⟨w.heap.size, ?_, (HB4.out.set hxt).ext fun t htt => ?_, Nat.le_refl _, HW4.out.setCell (by simp) _⟩
        · obtain ⟨-, e2⟩ := HE.out
          rw [HDR.out] at e2
          rw [← e2]; rfl
        · obtain ⟨e1, -⟩ := HE.out
          rw [← e1 t htt, HDR.out]
          by_cases e : t = xn
          · simp [ofB, e]
          · simp [ofB, e]
      | false =>
        have hxt : xn < g.nons := by simpa [Gr.okSy] using hoks
        have t0 : (0 : Int) ≤ (xn : Int) := by omega
        have t1 : (xn : Int) < (g.nons : Int) := by omega
        have HF4 := Lib.hid ((HF.out.via (HW4.out.mono (Nat.le_refl _))))
        have BH := HF4.out.hdr
        simp only [FsL.cells] at BH
        have ch := HF4.out.hd.cell hxt
        have fh := HF4.out.hd.frozen
        have hbl : L.bs xn < w.heap.size := (HF.out.row xn hxt).lt
        have cBX := BX.cell
        have fBX := BX.frozen
        have lBX := BX.lt
        have cBH := BH.cell
        have fBH := BH.frozen
        have lBH := BH.lt
        go_upto_region 8 with fail
        go_still_tail 9, (by kernel_rfl)
        clear cBX fBX lBX cBH fBH lBH
        clear BH ch fh
        have HDW := Lib.hid (Below.refl W4.heap.size W4).drew
        change wpList _ _ _ _ _ W4.drew
        generalize W4.drew = W5 at *
        have h45 : W4.heap.size ≤ W5.heap.size := HDW.out.size
        have HF5 := Lib.hid (HF4.out.via HDW.out)
        have HB5 := Lib.hid (HB4.out.via HDW.out)
        have HW5 := Lib.hid (HW4.out.trans (HDW.out.mono (by omega)))
        replace BX := BX.via HDW.out
        go_wp2_with fail
        refine (union_c W5 w.heap.size g.terms g.terms f (fs xn) (L.bs xn) g.terms g.terms HB5.out (HF5.out.row xn hxt) (Nat.le_refl _) (by omega) (fun e => by omega)).mono ?_
        rintro e w8 ⟨rfl, hb8, hgr⟩
        have HB8 := Lib.hid hb8
        have HW8 := Lib.hid (bel_grow HW5.out hgr (Nat.le_refl _) (by omega))
        have HF8 := Lib.hid (HF.out.via HW8.out)
        replace BX := BX.grown hgr (fun e => by have := Option.some.inj e; omega)
        have BH := HF8.out.hdr
        simp only [FsL.cells] at BH
        have ce := HF8.out.em.cell hxt
        have fe := HF8.out.em.frozen
        clear hb8 hgr
        have cBX := BX.cell
        have fBX := BX.frozen
        have lBX := BX.lt
        have cBH := BH.cell
        have fBH := BH.frozen
        have lBH := BH.lt
        go_upto_region 9 with fail
        go_quiet (fail)
        clear cBX fBX lBX cBH fBH lBH
        have HDN := Lib.hid (below_drewN (Below.refl w8.heap.size w8) nq)
        have HB9 := Lib.hid (HB8.out.via HDN.out)
        have HW9 := Lib.hid (HW8.out.trans (HDN.out.mono (Nat.le_of_lt HB8.out.lt)))
        clear BX BH ce fe
        generalize w8.drewN nq = W9 at *
        cases hes : es xn with
        | false =>
          go_wp2_with fail
          go_ret2
          obtain ⟨e1, e2⟩ := HE.out
          rw [HDR.out] at e1 e2
          exact ⟨w.heap.size, by rw [← e2]; simp [ofE, hes], HB9.out.ext fun t htt => by rw [← e1 t htt, ofB_non, hes]; simp [uni, htt], Nat.le_refl _, HW9.out⟩
        | true =>
          go_wp2_with fail
          obtain ⟨e1, e2⟩ := HE.out
          rw [HDR.out] at e1 e2
          exact ⟨⟨i + 1, _, by go_num, by omega, HB9, HW9, Lib.hid ⟨fun t htt => by rw [← e1 t htt, ofB_non, hes]; simp [uni, htt, Bool.or_assoc], by rw [← e2]; simp [ofE, hes]⟩⟩, by simp [intOf]; omega⟩
    · obtain rfl : i = n := by omega
      have hd : l.drop i = [] := by rw [List.drop_eq_nil_iff]; omega
      obtain ⟨e1, e2⟩ := HE.out
      rw [hd] at e1 e2
      go_wp2_with fail
      go_ret2
      exact ⟨w.heap.size, by rw [← e2]; rfl, HB.out.ext fun t htt => by rw [← e1 t htt]; simp [ofB], Nat.le_refl _, HW.out⟩
end Go.Proofs.YtfmnmgnhanogmaaDoor



namespace Go.Proofs.YtfmnmgnhanogmaaDoor
open Go.RowKit

/-- how many of f 0 .. f (n-1) are not yet set -/
def cntF (f : Nat → Bool) : Nat → Nat
  | 0 => 0
  | n + 1 => cntF f n + if f n then 0 else 1
theorem cntF_le {f f' : Nat → Bool} (h : ∀ j, f j = true → f' j = true) (n : Nat) : cntF f' n ≤ cntF f n := by
  induction n with
  | zero => exact Nat.le_refl _
  | succ n ih =>
    simp only [cntF]
    cases e : f n with
    | true => rw [h n e]; simpa using ih
    | false => cases e' : f' n <;> simp <;> omega
theorem cntF_lt {f f' : Nat → Bool} (h : ∀ j, f j = true → f' j = true) {n i : Nat} (hi : i < n) (h0 : f i = false) (h1 : f' i = true) : cntF f' n < cntF f n := by
  induction n with
  | zero => omega
  | succ n ih =>
    simp only [cntF]
    by_cases e : i = n
    · subst e
      have := cntF_le h i
      rw [h0, h1]; simp; omega
    · have := ih (by omega)
      cases e1 : f n with
      | true => rw [h n e1]; simpa using this
      | false => cases e' : f' n <;> simp <;> omega
theorem cntF_bound (f : Nat → Bool) (n : Nat) : cntF f n ≤ n := by
  induction n with
  | zero => exact Nat.le_refl _
  | succ n ih => simp only [cntF]; cases f n <;> simp <;> omega
/-- both tables as one row: nonterminal i has the cells i * (T+1) .. -/
def rowT (T : Nat) (es : Nat → Bool) (fs : Nat → Nat → Bool) : Nat → Bool := fun k => if k % (T + 1) = T then es (k / (T + 1)) else fs (k / (T + 1)) (k % (T + 1))
def muT (N T : Nat) (es : Nat → Bool) (fs : Nat → Nat → Bool) : Nat := cntF (rowT T es fs) (N * (T + 1))
theorem cell_lt {N T i t : Nat} (hi : i < N) (ht : t < T + 1) : i * (T + 1) + t < N * (T + 1) := by
  have : (i + 1) * (T + 1) ≤ N * (T + 1) := Nat.mul_le_mul_right _ (by omega)
  rw [Nat.add_mul] at this; omega
theorem cell_div {T i t : Nat} (ht : t < T + 1) : (i * (T + 1) + t) / (T + 1) = i := by
  rw [Nat.mul_comm, Nat.mul_add_div (by omega), Nat.div_eq_of_lt ht, Nat.add_zero]
theorem cell_mod {T i t : Nat} (ht : t < T + 1) : (i * (T + 1) + t) % (T + 1) = t := by
  rw [Nat.mul_comm, Nat.mul_add_mod, Nat.mod_eq_of_lt ht]
section
variable {N T : Nat} {es es' : Nat → Bool} {fs fs' : Nat → Nat → Bool}
theorem muT_first (he : ∀ i, es i = true → es' i = true) (hf : ∀ i t, fs i t = true → fs' i t = true) {i t : Nat} (hi : i < N) (ht : t < T) (h0 : fs i t = false) (h1 : fs' i t = true) : muT N T es' fs' < muT N T es fs := by
  refine cntF_lt (i := i * (T + 1) + t) (fun j => ?_) (cell_lt hi (by omega)) ?_ ?_
  · unfold rowT; split <;> first | exact he _ | exact hf _ _
  · unfold rowT; rw [cell_mod (by omega), cell_div (by omega), if_neg (by omega)]; exact h0
  · unfold rowT; rw [cell_mod (by omega), cell_div (by omega), if_neg (by omega)]; exact h1
theorem muT_empty (he : ∀ i, es i = true → es' i = true) (hf : ∀ i t, fs i t = true → fs' i t = true) {i : Nat} (hi : i < N) (h0 : es i = false) (h1 : es' i = true) : muT N T es' fs' < muT N T es fs := by
  refine cntF_lt (i := i * (T + 1) + T) (fun j => ?_) (cell_lt hi (by omega)) ?_ ?_
  · unfold rowT; split <;> first | exact he _ | exact hf _ _
  · unfold rowT; rw [cell_mod (by omega), cell_div (by omega), if_pos rfl]; exact h0
  · unfold rowT; rw [cell_mod (by omega), cell_div (by omega), if_pos rfl]; exact h1
end
/-- one row of a table replaced -/
def putR (fs : Nat → Nat → Bool) (n : Nat) (f : Nat → Bool) : Nat → Nat → Bool := fun i => if i = n then f else fs i
theorem putR_same {fs : Nat → Nat → Bool} {n : Nat} : putR fs n (fs n) = fs := by
  funext i; unfold putR; by_cases e : i = n
  · rw [if_pos e, e]
  · rw [if_neg e]
def putE (es : Nat → Bool) (n : Nat) : Nat → Bool := fun i => if i = n then true else es i
/-- the tables are the predicates -/
structure TabOk (R : List Ru) (es : Nat → Bool) (fs : Nat → Nat → Bool) : Prop where
  nul : ∀ N, es N = true ↔ NullN R N
  fst : ∀ N t, fs N t = true ↔ FstN R N t
/-- what the tables say is so -/
structure TabS (R : List Ru) (es : Nat → Bool) (fs : Nat → Nat → Bool) : Prop where
  nul : ∀ N, es N = true → NullN R N
  fst : ∀ N t, fs N t = true → FstN R N t
/-- the rule adds nothing -/
def Shut (T : Nat) (es : Nat → Bool) (fs : Nat → Nat → Bool) (u : Ru) : Prop := (∀ t, t < T → ofB es fs u.2 t = true → fs u.1 t = true) ∧ (ofE es u.2 = true → es u.1 = true)
section
variable {R : List Ru} {es : Nat → Bool} {fs : Nat → Nat → Bool} {T : Nat}
theorem TabS.start : TabS R (fun _ => false) (fun _ _ => false) := ⟨fun _ h => (by cases h), fun _ _ h => (by cases h)⟩
theorem TabS.ofL (h : TabS R es fs) {u : Ru} (hu : u ∈ R) {t : Nat} (ht : ofB es fs u.2 t = true) : FstN R u.1 t := by
  obtain ⟨a, y, b, e, ha, hy⟩ := ofB_fst h.nul h.fst ht
  have hu' : (u.1, a ++ y :: b) ∈ R := by rw [← e]; exact hu
  rcases hy with rfl | ⟨M, rfl, hM⟩
  · exact .term _ _ _ _ hu' ha
  · exact .non _ _ _ _ _ hu' ha hM
theorem TabS.first (h : TabS R es fs) {u : Ru} (hu : u ∈ R) (m : Nat) : TabS R es (putR fs u.1 (fun j => fs u.1 j || (decide (j < m) && ofB es fs u.2 j))) := by
  refine ⟨h.nul, fun N t => ?_⟩
  unfold putR
  by_cases e : N = u.1
  · rw [if_pos e]
    intro ht
    simp only [Bool.or_eq_true, Bool.and_eq_true] at ht
    rcases ht with ht | ⟨_, ht⟩
    · rw [e]; exact h.fst _ _ ht
    · rw [e]; exact h.ofL hu ht
  · rw [if_neg e]; exact h.fst N t
/-- the empty word of a rule's right side, as the tables before said it -/
theorem TabS.empty {es0 : Nat → Bool} (h : TabS R es fs) {u : Ru} (hu : u ∈ R) (h0 : ∀ N, es0 N = true → NullN R N) (he : ofE es0 u.2 = true) : TabS R (putE es u.1) fs := by
  refine ⟨fun N hN => ?_, h.fst⟩
  unfold putE at hN
  by_cases e : N = u.1
  · have := ofE_null h0 he
    rw [e]
    exact .mk _ u.2 hu (fun s hs => (this s hs).1) (fun s hs => (this s hs).2)
  · rw [if_neg e] at hN; exact h.nul N hN
theorem TabS.ok (h : TabS R es fs) (hb : ∀ u ∈ R, ∀ s ∈ u.2, s.1 = true → s.2 < T) (hs : ∀ u ∈ R, Shut T es fs u) : TabOk R es fs := by
  have hn : ∀ N, NullN R N → es N = true := fun N hN => closed_null (fun u hu he => (hs u hu).2 he) hN
  exact ⟨fun N => ⟨h.nul N, hn N⟩, fun N t => ⟨h.fst N t, fun hf => closed_fst hb hn (fun u hu t ht hB => (hs u hu).1 t ht hB) hf⟩⟩
end
/-- how far a pass over the rules has come -/
def PassT (N T : Nat) (R : List Ru) (es0 : Nat → Bool) (fs0 : Nat → Nat → Bool) (k : Nat) (es : Nat → Bool) (fs : Nat → Nat → Bool) (ag : Bool) : Prop :=
  (ag = false ∧ es = es0 ∧ fs = fs0 ∧ ∀ i u, i < k → R[i]? = some u → Shut T es fs u) ∨ (ag = true ∧ muT N T es fs < muT N T es0 fs0)
end Go.Proofs.YtfmnmgnhanogmaaDoor




namespace Go.Proofs.YtfmnmgnhanogmaaDoor
open Go.RowKit

def SlE : Elem SlV SlV where
  k := 1
  cells s := [.slice s.1 s.2.1 s.2.2]
  rel _ _ r x := r = x
  pos := by omega
  len _ := rfl
  one r u hu := by simp at hu; subst hu; rfl
  agr h _ := h
  mono h _ := h
def slV (h : SlV) : Value := .slice h.1 h.2.1 h.2.2
theorem slE_raw {w : World} {ok : Nat → Prop} {raw l : List SlV} (hl : l.length = raw.length) (h : ∀ (i : Nat) (r x : SlV), raw[i]? = some r → l[i]? = some x → SlE.rel ok w r x) : raw = l := by
  refine List.ext_getElem (by omega) fun i h1 h2 => ?_
  exact h i _ _ (List.getElem?_eq_getElem h1) (List.getElem?_eq_getElem h2)
theorem flatSl (l : List SlV) : flat SlE l = l.map slV := by
  induction l with
  | nil => rfl
  | cons x l ih => simp only [flat, List.flatMap_cons, List.map_cons] at ih ⊢; rw [ih]; rfl
theorem step_append_brow {ops : Array Oper} {o : Oper} {a : Act} {K : Act → World → Prop} {Q : Exit → Act → World → Prop} {F : Prop} (w : World) (hgd : o.guard = none) (s y : Operand)
    (ho : o.op = .call { callee := .builtin .append, args := #[s, y], argTypes := #[57, 57] })
    (base : Nat) (v : Value) (n : Nat) (l : List SlV) (hv : a.eval s = v) (hown : Own SlE 59 (fun _ => False) w base v n l)
    (b : Nat) (x : SlV) (hy : a.eval y = .slice (some ⟨b, 0, none⟩) 1 1) (hcell : Blk w b 59 #[slV x])
    (h63 : n + 1 ≤ 1000000) (hbase : base ≤ w.heap.size)
    (h : ∀ A' c' w', Own SlE 59 (fun _ => False) w' base (.slice A' (n + 1) c') (n + 1) (l ++ [x]) → w.grownBy w' v.ownBlock → ((Value.slice A' (n + 1) c').ownBlock = v.ownBlock ∨ (Value.slice A' (n + 1) c').ownBlock = some w.heap.size) → K (a.put o.dst (.slice A' (n + 1) c')) w') :
    if Region.wanted o (yielded ops a.tmps) = true then Oper.wp Tryd.prog o a w K Q else F := by
  have hinf : (Tryd.prog.info? 59).map (fun i => (i.zero, i.size, i.bytes)) = some (some (.slice none 0 0), 1, 24) := by kernel_rfl
  obtain ⟨i, hi, hz⟩ := Option.map_eq_some_iff.1 hinf
  simp only [Prod.mk.injEq] at hz
  refine step_append_E (E := SlE) w hgd s y 57 59 ho i (.slice none 0 0) 24 (by kernel_rfl) hi hz.1 hz.2.1 hz.2.2 rfl (fun _ => False) base v n l hv hown b x x hy (fun j u hu => ?_) rfl (by simp [maxLen]; omega) (by omega) hbase h
  rw [hcell.cell j]
  rw [List.getElem?_toArray]; exact hu
def rowsL (m k : Nat) (bs : Nat → Nat) : List SlV := (List.range k).map fun i => (some ⟨bs i, 0, none⟩, m, m)
structure BT (w : World) (base : Nat) (v : Value) (m k : Nat) (bs : Nat → Nat) : Prop where
  own : Own SlE 59 (fun _ => False) w base v k (rowsL m k bs)
  row : ∀ i, i < k → BRow w (bs i) m (fun _ => false)
  lo : ∀ i, i < k → base ≤ bs i
  ap : ∀ i j, i < k → j < k → i ≠ j → bs i ≠ bs j
  far : ∀ i, i < k → v.ownBlock ≠ some (bs i)
section
variable {w w' w2 : World} {base m k r : Nat} {v v' : Value} {bs : Nat → Nat}
theorem BT.nil (w : World) (base m : Nat) (bs : Nat → Nat) : BT w base (.slice none 0 0) m 0 bs :=
  ⟨Own.nil w base, fun _ h => absurd h (Nat.not_lt_zero _), fun _ h => absurd h (Nat.not_lt_zero _), fun _ _ h => absurd h (Nat.not_lt_zero _), fun _ h => absurd h (Nat.not_lt_zero _)⟩
theorem BT.via (h : BT w base v m k bs) (hb : Below w.heap.size w w') : BT w' base v m k bs := ⟨h.own.via hb, fun i hi => (h.row i hi).via hb, h.lo, h.ap, h.far⟩
theorem BT.far_ (h : BT w base v m k bs) {p : Addr} (hp : p.block < base) (u : Value) : BT (w.setCell p u) base v m k bs :=
  ⟨h.own.setCell u (fun b hb => hb.elim) hp, fun i hi => (h.row i hi).far (by have := h.lo i hi; omega) u, h.lo, h.ap, h.far⟩
theorem rowsL_push : rowsL m (k + 1) (fun i => if i = k then r else bs i) = rowsL m k bs ++ [(some ⟨r, 0, none⟩, m, m)] := by
  unfold rowsL
  rw [List.range_succ, List.map_append, List.map_singleton]
  dsimp only
  rw [if_pos rfl]
  congr 1
  refine List.map_congr_left fun i hi => ?_
  rw [if_neg (by have := List.mem_range.1 hi; omega)]
theorem BT.push (h : BT w base v m k bs) (hb : Below w.heap.size w w2) (hr : BRow w2 r m (fun _ => false)) (hr1 : w.heap.size ≤ r) (hbase : base ≤ w.heap.size)
    (ho : Own SlE 59 (fun _ => False) w' base v' (k + 1) (rowsL m k bs ++ [(some ⟨r, 0, none⟩, m, m)])) (hg : w2.grownBy w' v.ownBlock) (hv : v'.ownBlock = v.ownBlock ∨ v'.ownBlock = some w2.heap.size) :
    BT w' base v' m (k + 1) (fun i => if i = k then r else bs i) := by
  have hrl := hr.lt
  have hbl : ∀ i, i < k → bs i < w.heap.size := fun i hi => (h.row i hi).lt
  have hvr : v.ownBlock ≠ some r := fun e => by have := (h.own.lt _ e).2; omega
  refine ⟨by rw [rowsL_push]; exact ho, fun i hi => ?_, fun i hi => ?_, fun i j hi hj hij => ?_, fun i hi => ?_⟩
  · split
    · exact hr.grown hg (fun e => hvr e.symm)
    · exact ((h.row i (by omega)).via hb).grown hg (fun e => h.far i (by omega) e.symm)
  · split
    · omega
    · exact h.lo i (by omega)
  · by_cases e1 : i = k
    · rw [if_pos e1, if_neg (by omega)]
      have := hbl j (by omega); omega
    · rw [if_neg e1]
      by_cases e2 : j = k
      · rw [if_pos e2]; have := hbl i (by omega); omega
      · rw [if_neg e2]; exact h.ap i j (by omega) (by omega) hij
  · have hs := hb.size
    rcases hv with hv | hv <;> rw [hv]
    · split
      · exact hvr
      · exact h.far i (by omega)
    · split
      · exact fun e => by have := Option.some.inj e; omega
      · exact fun e => by have := Option.some.inj e; have := hbl i (by omega); omega
/-- the headers lie in a block -/
theorem BT.done (h : BT w base v m k bs) (hk : 0 < k) : ∃ hb hc, v = .slice (some ⟨hb, 0, none⟩) k hc ∧ base ≤ hb ∧ HRow w hb k 59 (fun i => .slice (some ⟨bs i, 0, none⟩) m m) ∧ ∀ i, i < k → bs i ≠ hb := by
  obtain ⟨h1, raw, h2, h3, h4⟩ := h.own
  have er := slE_raw (by omega) h4
  subst er
  rcases h3.2 with ⟨_, h0⟩ | ⟨g, cap, cur, hv, hb, hh, hc1, hc2, hc3, htk⟩
  · omega
  · have hl : (rowsL m k bs).length = k := h1
    refine ⟨g, cap, hv, hb, ⟨cur, hh, fun j hj => ?_⟩, fun i hi e => h.far i hi (by rw [hv, e]; rfl)⟩
    have e1 : (cur.toList.take (k * SlE.k))[j]? = some (.slice (some ⟨bs j, 0, none⟩) m m) := by
      rw [htk, flatSl]
      simp [rowsL, hj, slV]
    rw [List.getElem?_take, if_pos (by simp [SlE]; omega)] at e1
    simpa using e1
end
end Go.Proofs.YtfmnmgnhanogmaaDoor

