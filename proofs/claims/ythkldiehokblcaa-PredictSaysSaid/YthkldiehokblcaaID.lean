/- Texts ID, laid together. -/
import Derived.Test.YthkldiehokblcaaIA


namespace Go.Proofs.Ythkldiehokblcaa
open Go.RowKit

theorem prsL_mono {f f' : Sy → Nat → Option (Option Tr × Nat)} (h : ∀ s k r, f s k = some r → f' s k = some r) : ∀ {l : List Sy} {k : Nat} {r : Option (List Tr) × Nat}, prsL f l k = some r → prsL f' l k = some r
  | [], _, _, e => e
  | s :: l, k, r, e => by
    simp only [prsL] at e ⊢
    cases hf : f s k with
    | none => rw [hf] at e; cases e
    | some p =>
      rw [h _ _ _ hf]
      rw [hf] at e
      obtain ⟨o, k1⟩ := p
      cases o with
      | none => exact e
      | some t =>
        simp only at e ⊢
        cases hl : prsL f l k1 with
        | none => rw [hl] at e; cases e
        | some p => rw [prsL_mono h hl]; rw [hl] at e; exact e
theorem prs_next {g : Gr} {W : List Nat} (d : Nat) : ∀ s k r, prs g W d s k = some r → prs g W (d + 1) s k = some r := by
  induction d with
  | zero => intro s k r h; simp [prs] at h
  | succ d ih =>
    intro s k r h
    obtain ⟨b, a⟩ := s
    cases b with
    | true =>
      rw [prs] at h ⊢
      simp only [if_true] at h ⊢
      exact h
    | false =>
      rw [prs] at h ⊢
      simp only [Bool.false_eq_true, if_false] at h ⊢
      cases hp : posL g a (laP g W k) with
      | nil => rw [hp] at h; exact h
      | cons i is =>
        rw [hp] at h
        simp only at h ⊢
        cases hu : g.rules[i]? with
        | none => rw [hu] at h; cases h
        | some u =>
          rw [hu] at h
          simp only at h ⊢
          cases hl : prsL (prs g W d) u.2 k with
          | none => rw [hl] at h; cases h
          | some p => rw [prsL_mono ih hl]; rw [hl] at h; exact h
theorem prs_mono {g : Gr} {W : List Nat} {d d' : Nat} (hd : d ≤ d') {s : Sy} {k : Nat} {r : Option Tr × Nat} (h : prs g W d s k = some r) : prs g W d' s k = some r := by
  induction hd with
  | refl => exact h
  | step _ ih => exact prs_next _ _ _ _ ih
theorem prsL_up {g : Gr} {W : List Nat} {d d' : Nat} (hd : d ≤ d') {l : List Sy} {k : Nat} {r : Option (List Tr) × Nat} (h : prsL (prs g W d) l k = some r) : prsL (prs g W d') l k = some r :=
  prsL_mono (fun _ _ _ e => prs_mono hd e) h
theorem prsL_ge {f : Sy → Nat → Option (Option Tr × Nat)} {l : List Sy} (hf : ∀ s ∈ l, ∀ k r k', f s k = some (r, k') → k ≤ k') : ∀ k r k', prsL f l k = some (r, k') → k ≤ k' := by
  induction l with
  | nil => intro k r k' h; simp only [prsL, Option.some.injEq, Prod.mk.injEq] at h; omega
  | cons a l ih =>
    intro k r k' h
    simp only [prsL] at h
    cases ha : f a k with
    | none => rw [ha] at h; cases h
    | some p =>
      obtain ⟨o, k1⟩ := p
      have h1 := hf a (by simp) k o k1 ha
      cases o with
      | none => rw [ha] at h; simp only [Option.some.injEq, Prod.mk.injEq] at h; omega
      | some t =>
        rw [ha] at h
        simp only at h
        cases hl : prsL f l k1 with
        | none => rw [hl] at h; cases h
        | some p =>
          obtain ⟨o, k2⟩ := p
          have h2 := ih (fun s hs => hf s (by simp [hs])) k1 o k2 hl
          rw [hl] at h
          cases o <;> simp only [Option.some.injEq, Prod.mk.injEq] at h <;> omega
theorem prs_ge {g : Gr} {W : List Nat} (d : Nat) : ∀ s k r k', prs g W d s k = some (r, k') → k ≤ k' := by
  induction d with
  | zero => intro s k r k' h; simp [prs] at h
  | succ d ih =>
    intro s k r k' h
    obtain ⟨b, a⟩ := s
    cases b with
    | true =>
      simp only [prs, if_true] at h
      split at h <;> simp only [Option.some.injEq, Prod.mk.injEq] at h <;> omega
    | false =>
      simp only [prs, Bool.false_eq_true, if_false] at h
      cases hp : posL g a (laP g W k) with
      | nil => rw [hp] at h; simp only [Option.some.injEq, Prod.mk.injEq] at h; omega
      | cons i is =>
        rw [hp] at h
        simp only at h
        cases hu : g.rules[i]? with
        | none => rw [hu] at h; cases h
        | some u =>
          rw [hu] at h
          simp only at h
          cases hl : prsL (prs g W d) u.2 k with
          | none => rw [hl] at h; cases h
          | some p =>
            obtain ⟨o, k2⟩ := p
            have h2 := prsL_ge (fun s _ => ih s) k o k2 hl
            rw [hl] at h
            cases o <;> simp only [Option.some.injEq, Prod.mk.injEq] at h <;> omega
section
variable {g : Gr} {W : List Nat}
/-- at most one rule may be used -/
def OneR (g : Gr) : Prop := ∀ n t, n < g.nons → t ≤ g.terms → (posL g n t).length ≤ 1
/-- the only rule that may be used is used -/
theorem prs_rule (ho : OneR g) (hW : ∀ x ∈ W, x < g.terms) {n k : Nat} (hn : n < g.nons) {rhs : List Sy} (hr : (n, rhs) ∈ g.rules) (hp : Pos g (n, rhs) (laP g W k)) : ∃ i, ∀ d, prs g W (d + 1) (false, n) k = match prsL (prs g W d) rhs k with
    | none => none
    | some (none, k') => some (none, k')
    | some (some ts, k') => some (some (.node i ts), k') := by
  obtain ⟨i, hi⟩ := List.getElem?_of_mem hr
  have hm := posL_mem.2 ⟨_, hi, rfl, hp⟩
  have h1 := ho n (laP g W k) hn (laP_le hW k)
  have e : posL g n (laP g W k) = [i] := by
    cases hq : posL g n (laP g W k) with
    | nil => rw [hq] at hm; cases hm
    | cons a l =>
      rw [hq] at h1 hm
      cases l with
      | nil => rw [List.mem_singleton.1 hm]
      | cons b l => simp at h1
  refine ⟨i, fun d => ?_⟩
  rw [prs]
  simp only [Bool.false_eq_true, if_false, e, hi]
  rcases prsL (prs g W d) rhs k with _ | ⟨_ | ts, k'⟩ <;> rfl
/-- what derives nothing is passed over -/
theorem prs_null (hg : g.Ok) (ho : OneR g) (hW : ∀ x ∈ W, x < g.terms) {n : Nat} (h : NullN g.rules n) {k : Nat} : RchN g.rules g.start n → n < g.nons → FolN g.rules g.start g.terms n (laP g W k) → ∃ d t, prs g W d (false, n) k = some (some t, k) := by
  induction h with
  | mk n rhs hm h1 h2 ih =>
    intro hr hn hf
    obtain ⟨i, hi⟩ := prs_rule ho hW hn hm (Or.inr ⟨fun s hs => ⟨h1 s hs, h2 s hs⟩, hf⟩) (k := k)
    have key : ∀ l a : List Sy, rhs = a ++ l → ∃ d ts, prsL (prs g W d) l k = some (some ts, k) := by
      intro l
      induction l with
      | nil => intro a _; exact ⟨0, [], rfl⟩
      | cons s l ih2 =>
        intro a e
        obtain ⟨d1, ts, e1⟩ := ih2 (a ++ [s]) (by simp [e])
        have hs : s ∈ rhs := by rw [e]; simp
        obtain ⟨b, m⟩ := s
        have hb : b = false := h1 _ hs
        subst hb
        have hok := (hg.right _ hm).2 _ hs
        simp only [Gr.okSy, Bool.false_eq_true, if_false] at hok
        obtain ⟨d2, t, e2⟩ := ih (false, m) hs (.step n m rhs hr hm hs) hok (.fol n m _ a l hr (by rw [← e]; exact hm) (fun s hs' => by
          have : s ∈ rhs := by rw [e]; simp [hs']
          exact ⟨h1 _ this, h2 _ this⟩) hf)
        refine ⟨max d1 d2, t :: ts, ?_⟩
        rw [prsL, prs_mono (Nat.le_max_right d1 d2) e2]
        simp only [prsL_up (Nat.le_max_left d1 d2) e1]
    obtain ⟨d, ts, e⟩ := key rhs [] rfl
    exact ⟨d + 1, .node i ts, by rw [hi d, e]⟩
/-- a row that derives nothing is passed over -/
theorem prsL_null (hg : g.Ok) (ho : OneR g) (hW : ∀ x ∈ W, x < g.terms) {n k : Nat} {rhs : List Sy} (hr : RchN g.rules g.start n) (hm : (n, rhs) ∈ g.rules) : ∀ l a b : List Sy, rhs = a ++ l ++ b → NulL g.rules l → FstL g.rules b (laP g W k) → ∃ d ts, prsL (prs g W d) l k = some (some ts, k) := by
  intro l
  induction l with
  | nil => intro a b _ _ _; exact ⟨0, [], rfl⟩
  | cons s l ih =>
    intro a b e hn hb
    obtain ⟨d1, ts, e1⟩ := ih (a ++ [s]) b (by simp [e]) (fun s hs => hn s (by simp [hs])) hb
    have hs : s ∈ rhs := by rw [e]; simp
    obtain ⟨h1, h2⟩ := hn s (by simp)
    obtain ⟨c, m⟩ := s
    simp only at h1 h2
    subst h1
    have hok := (hg.right _ hm).2 _ hs
    simp only [Gr.okSy, Bool.false_eq_true, if_false] at hok
    have hfl : FstL g.rules (l ++ b) (laP g W k) := by
      obtain ⟨x, y, z, e2, e3, e4⟩ := hb
      exact ⟨l ++ x, y, z, by simp [e2], fun s hs => by
        rcases List.mem_append.1 hs with h | h
        · exact hn s (by simp [h])
        · exact e3 s h, e4⟩
    obtain ⟨d2, t, e2⟩ := prs_null hg ho hW h2 (.step n m rhs hr hm hs) hok (.fst n m _ a (l ++ b) hr (by rw [show a ++ (false, m) :: (l ++ b) = rhs by simp [e]]; exact hm) hfl) (k := k)
    refine ⟨max d1 d2, t :: ts, ?_⟩
    rw [prsL, prs_mono (Nat.le_max_right d1 d2) e2]
    simp only [prsL_up (Nat.le_max_left d1 d2) e1]
/-- a row, all of whose symbols come to an end -/
theorem prsL_some {k m : Nat} : ∀ l : List Sy, (∀ s ∈ l, ∀ k', k ≤ k' → k' ≤ m → ∃ d r, prs g W d s k' = some r) → (∀ s ∈ l, ∀ d k' r k'', k' ≤ m → prs g W d s k' = some (r, k'') → k'' ≤ m) → ∀ k', k ≤ k' → k' ≤ m → ∃ d r, prsL (prs g W d) l k' = some r := by
  intro l
  induction l with
  | nil => intro _ _ k' _ _; exact ⟨0, _, rfl⟩
  | cons s l ih =>
    intro h hle k' h1 h2
    obtain ⟨d1, ⟨o, k1⟩, e1⟩ := h s (by simp) k' h1 h2
    cases o with
    | none => exact ⟨d1, (none, k1), by rw [prsL, e1]⟩
    | some t =>
      have h3 := prs_ge d1 s k' _ k1 e1
      have h4 := hle s (by simp) d1 k' _ k1 h2 e1
      obtain ⟨d2, ⟨o, k2⟩, e2⟩ := ih (fun s hs => h s (by simp [hs])) (fun s hs => hle s (by simp [hs])) k1 (by omega) h4
      have e3 := prsL_up (Nat.le_max_right d1 d2) e2
      have e4 := prs_mono (Nat.le_max_left d1 d2) e1
      cases o with
      | none => exact ⟨max d1 d2, (none, k2), by rw [prsL, e4]; simp only [e3]⟩
      | some ts => exact ⟨max d1 d2, (some (t :: ts), k2), by rw [prsL, e4]; simp only [e3]⟩
theorem FstL.fstN {R : List Ru} {n t : Nat} {rhs : List Sy} (hm : (n, rhs) ∈ R) (h : FstL R rhs t) : FstN R n t := by
  obtain ⟨a, y, b, e, ha, hy⟩ := h
  rcases hy with rfl | ⟨M, rfl, hf⟩
  · exact .term n t a b (by rw [← e]; exact hm) ha
  · exact .non n M t a b (by rw [← e]; exact hm) ha hf
/-- what begins with the next terminal comes to an end and reads it, if whatever is read behind it comes to an end -/
theorem prs_fst (hg : g.Ok) (ho : OneR g) (hW : ∀ x ∈ W, x < g.terms) {k : Nat} (hk : k < W.length) (hout : ∀ k', k < k' → k' ≤ W.length → ∀ n, n < g.nons → RchN g.rules g.start n → ∃ d r, prs g W d (false, n) k' = some r) {n t : Nat} (h : FstN g.rules n t) : t = laP g W k → RchN g.rules g.start n → n < g.nons →
    ∃ d r k', prs g W d (false, n) k = some (r, k') ∧ (r.isSome = true → k < k') := by
  have hrest : ∀ {n : Nat} {rhs b : List Sy}, RchN g.rules g.start n → (n, rhs) ∈ g.rules → (∀ s ∈ b, s ∈ rhs) → ∀ k', k < k' → k' ≤ W.length → ∃ d r, prsL (prs g W d) b k' = some r := by
    intro n rhs b hr hm hb k' h1 h2
    refine prsL_some (k := k + 1) (m := W.length) b (fun s hs k2 h3 h4 => ?_) (fun s hs d k2 r k3 h3 h4 => prs_le hg d s ((hg.right _ hm).2 s (hb s hs)) k2 r k3 h3 h4) k' h1 h2
    obtain ⟨c, m⟩ := s
    cases c with
    | true =>
      by_cases e : laP g W k2 = m
      · exact ⟨1, _, by rw [prs]; simp only [if_true]; rw [if_pos e]⟩
      · exact ⟨1, _, by rw [prs]; simp only [if_true]; rw [if_neg e]⟩
    | false =>
      have hok := (hg.right _ hm).2 _ (hb _ hs)
      simp only [Gr.okSy, Bool.false_eq_true, if_false] at hok
      exact hout k2 (by omega) h4 m hok (.step n m rhs hr hm (hb _ hs))
  induction h with
  | term n t a b hm ha =>
    intro ht hr hn
    subst ht
    obtain ⟨i, hi⟩ := prs_rule ho hW hn hm (Or.inl ⟨a, (true, laP g W k), b, rfl, ha, Or.inl rfl⟩) (k := k)
    obtain ⟨d1, ts, e1⟩ := prsL_null hg ho hW hr hm a [] ((true, laP g W k) :: b) (by simp) ha ⟨[], (true, laP g W k), b, rfl, (fun _ h => nomatch h), Or.inl rfl⟩ (k := k)
    obtain ⟨d2, ⟨o, k2⟩, e2⟩ := hrest (b := b) hr hm (fun s hs => by simp [hs]) (k + 1) (by omega) (by omega)
    have e3 : prs g W (max d1 d2 + 1) (true, laP g W k) k = some (some (.leaf (laP g W k)), k + 1) := by rw [prs]; simp only [if_true]
    have e4 : prsL (prs g W (max d1 d2 + 1)) (a ++ (true, laP g W k) :: b) k = match o with
        | none => some (none, k2)
        | some us => some (some (ts ++ Tr.leaf (laP g W k) :: us), k2) := by
      rw [prsL_app (prsL_up (Nat.le_trans (Nat.le_max_left d1 d2) (Nat.le_succ _)) e1), prsL, e3]
      simp only [prsL_up (Nat.le_trans (Nat.le_max_right d1 d2) (Nat.le_succ _)) e2]
      cases o <;> rfl
    have h5 := prsL_ge (fun s _ => prs_ge d2 s) (k + 1) o k2 e2
    cases o with
    | none => exact ⟨max d1 d2 + 1 + 1, none, k2, by rw [hi, e4], fun h => by cases h⟩
    | some us => exact ⟨max d1 d2 + 1 + 1, _, k2, by rw [hi, e4], fun _ => by omega⟩
  | non n M t a b hm ha hf ih =>
    intro ht hr hn
    have hMr : RchN g.rules g.start M := .step n M _ hr hm (by simp)
    have hok := (hg.right _ hm).2 (false, M) (by simp)
    simp only [Gr.okSy, Bool.false_eq_true, if_false] at hok
    subst ht
    obtain ⟨i, hi⟩ := prs_rule ho hW hn hm (Or.inl ⟨a, (false, M), b, rfl, ha, Or.inr ⟨M, rfl, hf⟩⟩) (k := k)
    obtain ⟨d1, ts, e1⟩ := prsL_null hg ho hW hr hm a [] ((false, M) :: b) (by simp) ha ⟨[], (false, M), b, rfl, (fun _ h => nomatch h), Or.inr ⟨M, rfl, hf⟩⟩ (k := k)
    obtain ⟨d2, r2, k2, e2, h2⟩ := ih rfl hMr hok
    cases r2 with
    | none =>
      refine ⟨max d1 d2 + 1, none, k2, ?_, fun h => by cases h⟩
      rw [hi, prsL_stop (prsL_up (Nat.le_max_left d1 d2) e1) (prs_mono (Nat.le_max_right d1 d2) e2)]
    | some t2 =>
      have hk2 := h2 rfl
      have hk3 := prs_le hg d2 (false, M) (by simpa [Gr.okSy] using hok) k _ k2 (by omega) e2
      obtain ⟨d3, ⟨o, k3⟩, e3⟩ := hrest (b := b) hr hm (fun s hs => by simp [hs]) k2 hk2 hk3
      have h5 := prsL_ge (fun s _ => prs_ge d3 s) k2 o k3 e3
      have e4 : prsL (prs g W (max d1 (max d2 d3))) (a ++ (false, M) :: b) k = match o with
          | none => some (none, k3)
          | some us => some (some (ts ++ t2 :: us), k3) := by
        rw [prsL_app (prsL_up (by omega : d1 ≤ max d1 (max d2 d3)) e1), prsL, prs_mono (by omega : d2 ≤ max d1 (max d2 d3)) e2]
        simp only [prsL_up (by omega : d3 ≤ max d1 (max d2 d3)) e3]
        cases o <;> rfl
      cases o with
      | none => exact ⟨max d1 (max d2 d3) + 1, none, k3, by rw [hi, e4], fun h => by cases h⟩
      | some us => exact ⟨max d1 (max d2 d3) + 1, _, k3, by rw [hi, e4], fun _ => by omega⟩
/-- the parse of each nonterminal that is reached comes to an end -/
theorem prs_total (hg : g.Ok) (ho : OneR g) (hW : ∀ x ∈ W, x < g.terms) (m : Nat) : ∀ k, W.length - k = m → k ≤ W.length → ∀ n, n < g.nons → RchN g.rules g.start n → ∃ d r, prs g W d (false, n) k = some r := by
  induction m using Nat.strongRecOn with
  | ind m ih =>
    intro k hm hk n hn hr
    cases hp : posL g n (laP g W k) with
    | nil => exact ⟨1, (none, k), by rw [prs]; simp only [Bool.false_eq_true, if_false, hp]⟩
    | cons i is =>
      obtain ⟨u, hu, hul, hup⟩ := posL_mem.1 (show i ∈ posL g n (laP g W k) by rw [hp]; simp)
      obtain ⟨ul, rhs⟩ := u
      simp only at hul
      subst hul
      have hmem := List.mem_of_getElem? hu
      rcases hup with hf | ⟨hnl, hfo⟩
      · have hfn := FstL.fstN hmem hf
        have hlt : laP g W k < g.terms := hfn.lt fun u hu s hs hb => by
          have := (hg.right u hu).2 s hs
          simp only [Gr.okSy, hb, if_true] at this
          exact this
        have hkl : k < W.length := by
          refine Nat.lt_of_le_of_ne hk fun e => ?_
          subst e
          rw [laP_end] at hlt; omega
        obtain ⟨d, r, k', e, -⟩ := prs_fst hg ho hW hkl (fun k' h1 h2 n hn hr => ih (W.length - k') (by omega) k' rfl h2 n hn hr) hfn rfl hr hn
        exact ⟨d, _, e⟩
      · obtain ⟨d, t, e⟩ := prs_null hg ho hW (.mk ul rhs hmem (fun s hs => (hnl s hs).1) (fun s hs => (hnl s hs).2)) hr hn hfo (k := k)
        exact ⟨d, _, e⟩
/-- the whole parse -/
theorem prs_all (hg : g.Ok) (hc : clN g g.nons = []) (hW : ∀ x ∈ W, x < g.terms) : ∃ d r k, prs g W d (false, g.start) 0 = some (r, k) ∧ k ≤ W.length := by
  obtain ⟨d, ⟨r, k⟩, e⟩ := prs_total hg (fun n t hn ht => clN_none hc hn ht) hW _ 0 rfl (Nat.zero_le _) g.start hg.start .start
  exact ⟨d, r, k, e, prs_le hg d (false, g.start) (by simpa [Gr.okSy] using hg.start) 0 r k (Nat.zero_le _) e⟩
end
end Go.Proofs.Ythkldiehokblcaa

