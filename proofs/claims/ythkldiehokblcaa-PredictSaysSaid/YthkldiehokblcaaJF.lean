/- Texts JF, laid together. -/
import Derived.Test.YthkldiehokblcaaJD


namespace Go.Proofs.Ythkldiehokblcaa
open Go.RowKit

/-! ### raw and valid -/
def embS (s : Sy) : Ci := (s.1, (s.2 : Int))
def embR (r : Ru) : Ri := ((r.1 : Int), r.2.map embS)
theorem embS_inj {a b : Sy} (h : embS a = embS b) : a = b := by
  obtain ⟨x, m⟩ := a
  obtain ⟨y, n⟩ := b
  simp only [embS, Prod.mk.injEq] at h
  simp only [Prod.mk.injEq]
  exact ⟨h.1, by omega⟩
theorem embR_inj {a b : Ru} (h : embR a = embR b) : a = b := by
  obtain ⟨x, l⟩ := a
  obtain ⟨y, m⟩ := b
  simp only [embR, Prod.mk.injEq] at h
  have h2 : l = m := (List.map_inj_right (fun _ _ => embS_inj)).1 h.2
  rw [h2, show x = y by omega]
theorem lift_sym {T N : Int} {s : Ci} (h : okSi T N s = true) : ∃ y : Sy, s = embS y ∧ (if y.1 then (y.2 : Int) < T else (y.2 : Int) < N) := by
  obtain ⟨b, k⟩ := s
  unfold okSi at h
  simp only [Bool.and_eq_true, decide_eq_true_eq, Bool.or_eq_true, Bool.not_eq_true'] at h
  refine ⟨(b, k.toNat), ?_, ?_⟩
  · simp only [embS, Prod.mk.injEq, true_and]; omega
  · cases b
    · simp at h ⊢; omega
    · simp at h ⊢; omega
theorem chkL_ok {T N : Int} : ∀ (rs done : List Ri), chkL T N done rs = 0 → (∀ r ∈ rs, (0 ≤ r.1 ∧ r.1 < N) ∧ r.2.length ≤ 4 ∧ ∀ s ∈ r.2, okSi T N s = true) ∧ rs.Nodup ∧ ∀ r ∈ rs, ¬ r ∈ done
  | [], _, _ => ⟨fun r h => (by cases h), List.nodup_nil, fun r h => (by cases h)⟩
  | r :: rs, done, h => by
    unfold chkL at h
    by_cases h1 : ¬ (0 ≤ r.1 ∧ r.1 < N)
    · rw [if_pos h1] at h; cases h
    · rw [if_neg h1] at h
      by_cases h2 : 4 < r.2.length
      · rw [if_pos h2] at h; cases h
      · rw [if_neg h2] at h
        by_cases h3 : (r.2.any fun s => !okSi T N s) = true
        · rw [if_pos h3] at h; cases h
        · rw [if_neg h3] at h
          by_cases h4 : r ∈ done
          · rw [if_pos h4] at h; cases h
          · rw [if_neg h4] at h
            obtain ⟨i1, i2, i3⟩ := chkL_ok rs (done ++ [r]) h
            refine ⟨fun x hx => ?_, List.nodup_cons.2 ⟨fun hm => i3 r hm (by simp), i2⟩, fun x hx hd => ?_⟩
            · rcases List.mem_cons.1 hx with rfl | hx
              · refine ⟨Classical.not_not.1 h1, by omega, fun s hs => ?_⟩
                cases ho : okSi T N s with
                | true => rfl
                | false => exact absurd (List.any_eq_true.2 ⟨s, hs, by rw [ho]; rfl⟩) h3
              · exact i1 x hx
            · rcases List.mem_cons.1 hx with rfl | hx
              · exact h4 hd
              · exact i3 x hx (List.mem_append_left _ hd)
theorem lift_list {α β : Type} {f : α → β} {p : α → Prop} : ∀ {l : List β}, (∀ y ∈ l, ∃ x, y = f x ∧ p x) → ∃ k : List α, l = k.map f ∧ ∀ x ∈ k, p x
  | [], _ => ⟨[], rfl, fun x h => (by cases h)⟩
  | y :: l, h => by
    obtain ⟨x, hx, hp⟩ := h y (List.mem_cons_self ..)
    obtain ⟨k, hk, hpk⟩ := lift_list (l := l) fun z hz => h z (List.mem_cons_of_mem _ hz)
    refine ⟨x :: k, by rw [hx, hk]; rfl, fun z hz => ?_⟩
    rcases List.mem_cons.1 hz with rfl | hz
    · exact hp
    · exact hpk z hz
/-- what passes the check is a valid grammar -/
theorem chkG_ok {T N S : Int} {rs : List Ri} (h : chkG T N S rs = 0) : ∃ g : Gr, GrOk g ∧ T = (g.terms : Int) ∧ N = (g.nons : Int) ∧ S = (g.start : Int) ∧ rs = g.rules.map embR := by
  unfold chkG at h
  by_cases h1 : ¬ (1 ≤ T ∧ T ≤ 8 ∧ 1 ≤ N ∧ N ≤ 10 ∧ 0 ≤ S ∧ S < N)
  · rw [if_pos h1] at h; cases h
  · rw [if_neg h1] at h
    by_cases h2 : 32 < rs.length
    · rw [if_pos h2] at h; cases h
    · rw [if_neg h2] at h
      obtain ⟨i1, i2, -⟩ := chkL_ok rs [] h
      have h1 := Classical.not_not.1 h1
      obtain ⟨k, hk, hp⟩ := lift_list (f := embR) (p := fun u => (u.1 : Int) < N ∧ u.2.length ≤ 4 ∧ ∀ y ∈ u.2, (if y.1 then (y.2 : Int) < T else (y.2 : Int) < N)) (l := rs) fun r hr => by
        obtain ⟨⟨a1, a2⟩, a3, a4⟩ := i1 r hr
        obtain ⟨l, hl, hlp⟩ := lift_list (f := embS) (p := fun y : Sy => if y.1 then (y.2 : Int) < T else (y.2 : Int) < N) (l := r.2) fun s hs => lift_sym (a4 s hs)
        refine ⟨(r.1.toNat, l), ?_, by simp only; omega, ?_, hlp⟩
        · obtain ⟨r1, r2⟩ := r
          simp only [embR, Prod.mk.injEq]
          exact ⟨by simp only at a1; omega, hl⟩
        · simp only
          rw [hl, List.length_map] at a3; exact a3
      refine ⟨⟨T.toNat, N.toNat, S.toNat, k⟩, ⟨⟨by simp only; omega, by simp only; omega, by simp only; omega, ?_, fun r hr => ?_, fun r hr => ⟨(hp r hr).2.1, fun s hs => ?_⟩⟩, ?_⟩, by simp only; omega, by simp only; omega, by simp only; omega, hk⟩
      · simp only; rw [hk, List.length_map] at h2; omega
      · have := (hp r hr).1; simp only; omega
      · have := (hp r hr).2.2 s hs
        unfold Gr.okSy
        cases hs1 : s.1 <;> rw [hs1] at this <;> simp at this ⊢ <;> omega
      · rw [hk] at i2
        exact List.Pairwise.of_map embR (fun a b h e => h (by rw [e])) i2
theorem Sl.lowS {ok : Nat → Prop} {w : World} {A : Option Addr} {n c : Nat} {l : List Sy} (h : Sl SiE ok w A n c (l.map embS)) : Sl SyE ok w A n c l := by
  obtain ⟨h1, h2, raw, h3, h4, h5⟩ := h
  rw [List.length_map] at h1
  have e : raw = l.map embS := List.ext_getElem (by rw [h3, List.length_map, h1]) fun i a b => h5 i _ _ (List.getElem?_eq_getElem a) (List.getElem?_eq_getElem b)
  have ef : ∀ l : List Sy, flat SiE (l.map embS) = flat SyE l := fun l => by
    induction l with
    | nil => rfl
    | cons x l ih => simp only [flat, List.map_cons, List.flatMap_cons] at ih ⊢; rw [ih]; rfl
  refine ⟨h1, h2, l, h1, ?_, fun i r x hr hx => by rw [hr] at hx; exact Option.some.inj hx⟩
  rw [e, ef] at h4; exact h4
theorem Sl.lowR {ok : Nat → Prop} {w : World} {A : Option Addr} {n c : Nat} {l : List Ru} (h : Sl RiE ok w A n c (l.map embR)) : Sl RuE ok w A n c l := by
  obtain ⟨h1, h2, raw, h3, h4, h5⟩ := h
  rw [List.length_map] at h1
  have key : ∀ (raw : List (Int × SlV)) (l : List Ru), raw.length = l.length → (∀ (i : Nat) r x, raw[i]? = some r → (l.map embR)[i]? = some x → RiE.rel ok w r x) →
      ∃ raw2 : List (Nat × SlV), raw2.length = l.length ∧ flat RuE raw2 = flat RiE raw ∧ ∀ (i : Nat) r x, raw2[i]? = some r → l[i]? = some x → RuE.rel ok w r x := by
    intro raw
    induction raw with
    | nil =>
      intro l hl _
      have e : l = [] := List.eq_nil_of_length_eq_zero (by simpa using hl.symm)
      subst e
      exact ⟨[], rfl, rfl, fun i r x hr => by simp at hr⟩
    | cons r raw ih =>
      intro l hl hrel
      cases l with
      | nil => simp at hl
      | cons u l =>
        obtain ⟨raw2, k1, k2, k3⟩ := ih l (by simpa using hl) fun i r' x hr hx => hrel (i + 1) r' x (by simpa using hr) (by simpa using hx)
        have h0 := hrel 0 r (embR u) rfl rfl
        obtain ⟨r1, r2⟩ := r
        obtain ⟨e1, e2⟩ := h0
        simp only [embR] at e1 e2
        refine ⟨(u.1, r2) :: raw2, by simp [k1], ?_, fun i r' x hr hx => ?_⟩
        · simp only [flat, List.flatMap_cons] at k2 ⊢
          rw [k2, e1]; rfl
        · cases i with
          | zero =>
            obtain rfl : (u.1, r2) = r' := by simpa using hr
            obtain rfl : u = x := by simpa using hx
            exact ⟨rfl, Sl.lowS e2⟩
          | succ i => exact k3 i r' x (by simpa using hr) (by simpa using hx)
  obtain ⟨raw2, k1, k2, k3⟩ := key raw l (by rw [h3, h1]) h5
  exact ⟨h1, h2, raw2, by rw [k1, h1], by rw [k2]; exact h4, k3⟩

/-! ### beginnings and continuations -/
inductive NullN (R : List Ru) : Nat → Prop
  | mk (N : Nat) (rhs : List Sy) (h : (N, rhs) ∈ R) (h1 : ∀ s ∈ rhs, s.1 = false) (h2 : ∀ s ∈ rhs, NullN R s.2) : NullN R N
def NulL (R : List Ru) (l : List Sy) : Prop := ∀ s ∈ l, s.1 = false ∧ NullN R s.2
inductive FstN (R : List Ru) : Nat → Nat → Prop
  | term (N t : Nat) (a b : List Sy) (h : (N, a ++ (true, t) :: b) ∈ R) (ha : NulL R a) : FstN R N t
  | non (N M t : Nat) (a b : List Sy) (h : (N, a ++ (false, M) :: b) ∈ R) (ha : NulL R a) (hf : FstN R M t) : FstN R N t
def FstL (R : List Ru) (l : List Sy) (t : Nat) : Prop := ∃ a y b, l = a ++ y :: b ∧ NulL R a ∧ (y = (true, t) ∨ ∃ M, y = (false, M) ∧ FstN R M t)
inductive RchN (R : List Ru) (s : Nat) : Nat → Prop
  | start : RchN R s s
  | step (N M : Nat) (rhs : List Sy) (h : RchN R s N) (hr : (N, rhs) ∈ R) (hm : (false, M) ∈ rhs) : RchN R s M
inductive FolN (R : List Ru) (s e : Nat) : Nat → Nat → Prop
  | start : FolN R s e s e
  | fst (N M t : Nat) (a b : List Sy) (hr : RchN R s N) (h : (N, a ++ (false, M) :: b) ∈ R) (hf : FstL R b t) : FolN R s e M t
  | fol (N M t : Nat) (a b : List Sy) (hr : RchN R s N) (h : (N, a ++ (false, M) :: b) ∈ R) (hn : NulL R b) (hf : FolN R s e N t) : FolN R s e M t
/-- by tables: with what a list begins -/
def ofB (es : Nat → Bool) (fs : Nat → Nat → Bool) : List Sy → Nat → Bool
  | [], _ => false
  | (true, k) :: _, t => decide (t = k)
  | (false, M) :: l, t => fs M t || (es M && ofB es fs l t)
/-- by a table: does a list become empty? -/
def ofE (es : Nat → Bool) : List Sy → Bool
  | [] => true
  | (true, _) :: _ => false
  | (false, M) :: l => es M && ofE es l
section
variable {R : List Ru} {es : Nat → Bool} {fs : Nat → Nat → Bool}
theorem FstL.cons_non {M t : Nat} {l : List Sy} (hn : NullN R M) (h : FstL R l t) : FstL R ((false, M) :: l) t := by
  obtain ⟨a, y, b, rfl, ha, hy⟩ := h
  exact ⟨(false, M) :: a, y, b, rfl, fun s hs => by rcases List.mem_cons.1 hs with rfl | hs; exact ⟨rfl, hn⟩; exact ha s hs, hy⟩
theorem ofE_null (hs : ∀ N, es N = true → NullN R N) : ∀ {l : List Sy}, ofE es l = true → NulL R l
  | [], _ => fun s h => by cases h
  | (true, _) :: _, h => by simp [ofE] at h
  | (false, M) :: l, h => by
    simp only [ofE, Bool.and_eq_true] at h
    intro s hs'
    rcases List.mem_cons.1 hs' with rfl | hs'
    · exact ⟨rfl, hs M h.1⟩
    · exact ofE_null hs h.2 s hs'
theorem null_ofE (hc : ∀ N, NullN R N → es N = true) : ∀ {l : List Sy}, NulL R l → ofE es l = true
  | [], _ => rfl
  | (true, k) :: l, h => by have := (h (true, k) (List.mem_cons_self ..)).1; cases this
  | (false, M) :: l, h => by
    simp only [ofE, Bool.and_eq_true]
    exact ⟨hc M (h (false, M) (List.mem_cons_self ..)).2, null_ofE hc fun s hs => h s (List.mem_cons_of_mem _ hs)⟩
theorem ofB_fst (hs : ∀ N, es N = true → NullN R N) (hf : ∀ N t, fs N t = true → FstN R N t) : ∀ {l : List Sy} {t : Nat}, ofB es fs l t = true → FstL R l t
  | [], _, h => by simp [ofB] at h
  | (true, k) :: l, t, h => by
    simp only [ofB, decide_eq_true_eq] at h
    exact ⟨[], (true, k), l, rfl, fun s hs => (by cases hs), Or.inl (by rw [h])⟩
  | (false, M) :: l, t, h => by
    simp only [ofB, Bool.or_eq_true, Bool.and_eq_true] at h
    rcases h with h | ⟨h1, h2⟩
    · exact ⟨[], (false, M), l, rfl, fun s hs => (by cases hs), Or.inr ⟨M, rfl, hf M t h⟩⟩
    · exact (ofB_fst hs hf h2).cons_non (hs M h1)
theorem fst_ofB (hc : ∀ N, NullN R N → es N = true) (hf : ∀ N t, FstN R N t → fs N t = true) : ∀ {l : List Sy} {t : Nat}, FstL R l t → ofB es fs l t = true := by
  rintro l t ⟨a, y, b, rfl, ha, hy⟩
  induction a with
  | nil =>
    rcases hy with rfl | ⟨M, rfl, hM⟩
    · simp [ofB]
    · simp [ofB, hf M t hM]
  | cons x a ih =>
    obtain ⟨h1, h2⟩ := ha x (List.mem_cons_self ..)
    obtain ⟨xb, M⟩ := x
    simp only at h1 h2
    subst h1
    have := ih fun s hs => ha s (List.mem_cons_of_mem _ hs)
    simp only [List.cons_append, ofB, this, Bool.and_true, Bool.or_eq_true]
    exact Or.inr (hc M h2)
/-- a table that is shut has all that becomes empty -/
theorem closed_null (hc : ∀ u ∈ R, ofE es u.2 = true → es u.1 = true) {N : Nat} (h : NullN R N) : es N = true := by
  induction h with
  | mk N rhs h h1 _ ih =>
    refine hc _ h ?_
    have : ∀ l : List Sy, (∀ s ∈ l, s.1 = false) → (∀ s ∈ l, es s.2 = true) → ofE es l = true := by
      intro l
      induction l with
      | nil => intro _ _; rfl
      | cons s l ihl =>
        intro k1 k2
        obtain ⟨sb, M⟩ := s
        have e1 : sb = false := k1 _ (List.mem_cons_self ..)
        subst e1
        simp only [ofE, Bool.and_eq_true]
        exact ⟨k2 _ (List.mem_cons_self ..), ihl (fun s hs => k1 s (List.mem_cons_of_mem _ hs)) (fun s hs => k2 s (List.mem_cons_of_mem _ hs))⟩
    exact this rhs h1 ih
theorem FstN.lt {B N t : Nat} (hb : ∀ u ∈ R, ∀ s ∈ u.2, s.1 = true → s.2 < B) (h : FstN R N t) : t < B := by
  induction h with
  | term N t a b h _ => exact hb _ h (true, t) (by simp) rfl
  | non N M t a b h _ _ ih => exact ih
theorem FstL.lt {B t : Nat} {l : List Sy} (hb : ∀ u ∈ R, ∀ s ∈ u.2, s.1 = true → s.2 < B) (hl : ∀ s ∈ l, s.1 = true → s.2 < B) (h : FstL R l t) : t < B := by
  obtain ⟨a, y, b, rfl, -, hy⟩ := h
  rcases hy with rfl | ⟨M, rfl, hM⟩
  · exact hl (true, t) (by simp) rfl
  · exact hM.lt hb
theorem closed_fst {B : Nat} (hb : ∀ u ∈ R, ∀ s ∈ u.2, s.1 = true → s.2 < B) (hn : ∀ N, NullN R N → es N = true) (hc : ∀ u ∈ R, ∀ t, t < B → ofB es fs u.2 t = true → fs u.1 t = true) {N t : Nat} (h : FstN R N t) : fs N t = true := by
  have ofa : ∀ (a : List Sy) (r : List Sy), NulL R a → ofB es fs r t = true → ofB es fs (a ++ r) t = true := by
    intro a r ha hr
    induction a with
    | nil => exact hr
    | cons x a ih =>
      obtain ⟨h1, h2⟩ := ha x (List.mem_cons_self ..)
      obtain ⟨xb, M⟩ := x
      simp only at h1 h2
      subst h1
      simp only [List.cons_append, ofB, ih fun s hs => ha s (List.mem_cons_of_mem _ hs), Bool.and_true, Bool.or_eq_true]
      exact Or.inr (hn M h2)
  induction h with
  | term N t a b h ha => exact hc _ h t (hb _ h (true, t) (by simp) rfl) (ofa a _ ha (by simp [ofB]))
  | non N M t a b h ha hf ih => exact hc _ h t (hf.lt hb) (ofa a _ ha (by simp [ofB, ih ofa]))
theorem closed_fol {s e B : Nat} {fo : Nat → Nat → Bool} (hb : ∀ u ∈ R, ∀ y ∈ u.2, y.1 = true → y.2 < B) (heB : e ≤ B) (h0 : fo s e = true) (hf : ∀ u ∈ R, RchN R s u.1 → ∀ a M b, u.2 = a ++ (false, M) :: b → ∀ t, t < B → FstL R b t → fo M t = true)
    (hl : ∀ u ∈ R, RchN R s u.1 → ∀ a M b, u.2 = a ++ (false, M) :: b → NulL R b → ∀ t, t ≤ B → fo u.1 t = true → fo M t = true) {N t : Nat} (h : FolN R s e N t) : fo N t = true ∧ t ≤ B := by
  induction h with
  | start => exact ⟨h0, heB⟩
  | fst N M t a b hr h hfst =>
    have := hfst.lt hb (fun y hy hy1 => hb _ h y (by simp [hy]) hy1)
    exact ⟨hf _ h hr a M b rfl t this hfst, by omega⟩
  | fol N M t a b hr h hn _ ih => exact ⟨hl _ h hr a M b rfl hn t ih.2 ih.1, ih.2⟩
end
end Go.Proofs.Ythkldiehokblcaa

