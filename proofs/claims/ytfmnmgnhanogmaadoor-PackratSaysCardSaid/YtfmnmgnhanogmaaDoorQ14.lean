/- Texts LE, LN, laid together. -/
import Derived.Test.YtfmnmgnhanogmaaDoorQ11


namespace Go.Proofs.YtfmnmgnhanogmaaDoor
open Go.RowKit

/-- rows of trees for a row of symbols between two places -/
inductive DrL (R : List Ru) (W : List Nat) : List Sy → Nat → Nat → List Tr → Prop
  | nil (k : Nat) : DrL R W [] k k []
  | leaf (a k j : Nat) (l : List Sy) (ts : List Tr) (h : W[k]? = some a) (h2 : DrL R W l (k + 1) j ts) : DrL R W ((true, a) :: l) k j (.leaf a :: ts)
  | node (n r k m j : Nat) (rhs l : List Sy) (ks ts : List Tr) (hr : R[r]? = some (n, rhs)) (h1 : DrL R W rhs k m ks) (h2 : DrL R W l m j ts) : DrL R W ((false, n) :: l) k j (.node r ks :: ts)
/-- the order by the rules in preorder -/
inductive LtF : List Tr → List Tr → Prop
  | head (r q : Nat) (ks ls ts us : List Tr) (h : r < q) : LtF (.node r ks :: ts) (.node q ls :: us)
  | inner (r : Nat) (ks ls ts us : List Tr) (h : LtF ks ls) : LtF (.node r ks :: ts) (.node r ls :: us)
  | tail (t : Tr) (ts us : List Tr) (h : LtF ts us) : LtF (t :: ts) (t :: us)
section
variable {R : List Ru} {W : List Nat}
theorem LtF.wide {t t' : Tr} (h : LtF [t] [t']) (ts us : List Tr) : LtF (t :: ts) (t' :: us) := by
  cases h with
  | head r q ks ls _ _ h => exact .head r q ks ls ts us h
  | inner r ks ls _ _ h => exact .inner r ks ls ts us h
  | tail t _ _ h => cases h
theorem LtF.irr : ∀ {a b : List Tr}, LtF a b → a = b → False := by
  intro a b h
  induction h with
  | head r q ks ls ts us h => intro e; simp only [List.cons.injEq, Tr.node.injEq] at e; omega
  | inner r ks ls ts us h ih => intro e; simp only [List.cons.injEq, Tr.node.injEq] at e; exact ih e.1.2
  | tail t ts us h ih => intro e; simp only [List.cons.injEq] at e; exact ih e.2
theorem LtF.asym : ∀ {a b : List Tr}, LtF a b → LtF b a → False := by
  intro a b h
  induction h with
  | head r q ks ls ts us h =>
    intro e
    cases e with
    | head _ _ _ _ _ _ h2 => omega
    | inner _ _ _ _ _ h2 => omega
    | tail _ _ _ h2 => omega
  | inner r ks ls ts us h ih =>
    intro e
    cases e with
    | head _ _ _ _ _ _ h2 => omega
    | inner _ _ _ _ _ h2 => exact ih h2
    | tail _ _ _ h2 => exact h.irr rfl
  | tail t ts us h ih =>
    intro e
    cases e with
    | head _ _ _ _ _ _ h2 => omega
    | inner _ _ _ _ _ h2 => exact h2.irr rfl
    | tail _ _ _ h2 => exact ih h2
/-- two rows for the same symbols from the same place: one is the lesser, or they are the same -/
theorem DrL.tri : ∀ {l : List Sy} {k j j' : Nat} {ts us : List Tr}, DrL R W l k j ts → DrL R W l k j' us → LtF ts us ∨ LtF us ts ∨ (ts = us ∧ j = j') := by
  intro l k j j' ts us h
  induction h generalizing j' us with
  | nil k => intro h; cases h; exact Or.inr (Or.inr ⟨rfl, rfl⟩)
  | leaf a k j l ts hw h2 ih =>
    intro h
    cases h with
    | leaf _ _ _ _ us hw' h2' =>
      rcases ih h2' with h | h | ⟨rfl, rfl⟩
      · exact Or.inl (.tail _ _ _ h)
      · exact Or.inr (Or.inl (.tail _ _ _ h))
      · exact Or.inr (Or.inr ⟨rfl, rfl⟩)
  | node n r k m j rhs l ks ts hr h1 h2 ih1 ih2 =>
    intro h
    cases h with
    | node _ r' _ m' _ rhs' _ ks' us hr' h1' h2' =>
      rcases Nat.lt_trichotomy r r' with hlt | rfl | hlt
      · exact Or.inl (.head _ _ _ _ _ _ hlt)
      · rw [hr] at hr'
        simp only [Option.some.injEq, Prod.mk.injEq, true_and] at hr'
        subst hr'
        rcases ih1 h1' with h | h | ⟨rfl, rfl⟩
        · exact Or.inl (.inner _ _ _ _ _ h)
        · exact Or.inr (Or.inl (.inner _ _ _ _ _ h))
        · rcases ih2 h2' with h | h | ⟨rfl, rfl⟩
          · exact Or.inl (.tail _ _ _ h)
          · exact Or.inr (Or.inl (.tail _ _ _ h))
          · exact Or.inr (Or.inr ⟨rfl, rfl⟩)
      · exact Or.inr (Or.inl (.head _ _ _ _ _ _ hlt))
theorem DrL.cons {s : Sy} {l : List Sy} {k j : Nat} {vs : List Tr} : DrL R W (s :: l) k j vs ↔ ∃ t ts m, vs = t :: ts ∧ DrL R W [s] k m [t] ∧ DrL R W l m j ts := by
  constructor
  · intro h
    cases h with
    | leaf a _ _ _ ts hw h2 => exact ⟨_, _, _, rfl, .leaf a k _ [] [] hw (.nil _), h2⟩
    | node n r _ m _ rhs _ ks ts hr h1 h2 => exact ⟨_, _, _, rfl, .node n r k m m rhs [] ks [] hr h1 (.nil _), h2⟩
  · rintro ⟨t, ts, m, rfl, h1, h2⟩
    cases h1 with
    | leaf a _ _ _ _ hw h3 => cases h3; exact .leaf a k j l ts hw h2
    | node n r _ m' _ rhs _ ks _ hr h3 h4 => cases h4; exact .node n r k _ j rhs l ks ts hr h3 h2
/-! ### in the order in which they are found -/
def bindO {α β : Type} (g : α → Option (List β)) : List α → Option (List β)
  | [] => some []
  | a :: l => match g a, bindO g l with
    | some x, some y => some (x ++ y)
    | _, _ => none
theorem bindO_cons {α β : Type} {g : α → Option (List β)} {a : α} {l : List α} {r : List β} (h : bindO g (a :: l) = some r) : ∃ x y, g a = some x ∧ bindO g l = some y ∧ r = x ++ y := by
  simp only [bindO] at h
  cases hg : g a with
  | none => rw [hg] at h; cases h
  | some x =>
    cases hb : bindO g l with
    | none => rw [hg, hb] at h; cases h
    | some y => rw [hg, hb] at h; exact ⟨x, y, rfl, rfl, (Option.some.inj h).symm⟩
theorem bindO_mem {α β : Type} {g : α → Option (List β)} : ∀ {l : List α} {r : List β}, bindO g l = some r → ∀ x, x ∈ r ↔ ∃ a ∈ l, ∃ y, g a = some y ∧ x ∈ y
  | [], r, h, x => by
    simp only [bindO, Option.some.injEq] at h
    subst h; simp
  | a :: l, r, h, x => by
    obtain ⟨u, v, hu, hv, rfl⟩ := bindO_cons h
    rw [List.mem_append, bindO_mem hv x]
    constructor
    · rintro (h | ⟨b, hb, y, h1, h2⟩)
      · exact ⟨a, List.mem_cons_self .., u, hu, h⟩
      · exact ⟨b, List.mem_cons_of_mem _ hb, y, h1, h2⟩
    · rintro ⟨b, hb, y, h1, h2⟩
      rcases List.mem_cons.1 hb with rfl | hb
      · rw [hu] at h1; cases h1; exact Or.inl h2
      · exact Or.inr ⟨b, hb, y, h1, h2⟩
theorem bindO_all {α β : Type} {g : α → Option (List β)} : ∀ {l : List α} {r : List β}, bindO g l = some r → ∀ a ∈ l, ∃ y, g a = some y
  | [], _, _, a, ha => absurd ha List.not_mem_nil
  | b :: l, r, h, a, ha => by
    obtain ⟨u, v, hu, hv, rfl⟩ := bindO_cons h
    rcases List.mem_cons.1 ha with rfl | ha
    · exact ⟨u, hu⟩
    · exact bindO_all hv a ha
theorem bindO_ex {α β : Type} {g : α → Option (List β)} : ∀ {l : List α}, (∀ a ∈ l, ∃ y, g a = some y) → ∃ r, bindO g l = some r
  | [], _ => ⟨[], rfl⟩
  | a :: l, h => by
    obtain ⟨x, hx⟩ := h a (List.mem_cons_self ..)
    obtain ⟨y, hy⟩ := bindO_ex fun b hb => h b (List.mem_cons_of_mem _ hb)
    exact ⟨x ++ y, by simp only [bindO, hx, hy]⟩
theorem bindO_mono {α β : Type} {g g' : α → Option (List β)} (h : ∀ a x, g a = some x → g' a = some x) : ∀ {l : List α} {r : List β}, bindO g l = some r → bindO g' l = some r
  | [], r, e => e
  | a :: l, r, e => by
    obtain ⟨u, v, hu, hv, rfl⟩ := bindO_cons e
    simp only [bindO, h a u hu, bindO_mono h hv]
def enL (f : Sy → Nat → Option (List (Tr × Nat))) : List Sy → Nat → Option (List (List Tr × Nat))
  | [], k => some [([], k)]
  | s :: l, k => match f s k with
    | none => none
    | some L => bindO (fun p => (enL f l p.2).map (List.map fun q => (p.1 :: q.1, q.2))) L
def enC (f : Sy → Nat → Option (List (Tr × Nat))) (n k : Nat) : Nat → List Ru → Option (List (Tr × Nat))
  | _, [] => some []
  | i, u :: rs => if u.1 = n then (match enL f u.2 k, enC f n k (i + 1) rs with
      | some x, some y => some (x.map (fun q => (.node i q.1, q.2)) ++ y)
      | _, _ => none) else enC f n k (i + 1) rs
def en (R : List Ru) (W : List Nat) : Nat → Sy → Nat → Option (List (Tr × Nat))
  | 0, _, _ => none
  | d + 1, s, k => if s.1 then some (if W[k]? = some s.2 then [(.leaf s.2, k + 1)] else []) else enC (en R W d) s.2 k 0 R
variable {f f' : Sy → Nat → Option (List (Tr × Nat))}
theorem enL_iff (hf : ∀ s k L, f s k = some L → ∀ t j, (t, j) ∈ L ↔ DrL R W [s] k j [t]) : ∀ (l : List Sy) (k : Nat) (M : List (List Tr × Nat)), enL f l k = some M → ∀ ts j, (ts, j) ∈ M ↔ DrL R W l k j ts
  | [], k, M, h, ts, j => by
    simp only [enL, Option.some.injEq] at h
    subst h
    simp only [List.mem_singleton, Prod.mk.injEq]
    constructor
    · rintro ⟨rfl, rfl⟩; exact .nil _
    · intro h; cases h; exact ⟨rfl, rfl⟩
  | s :: l, k, M, h, ts, j => by
    simp only [enL] at h
    cases hs : f s k with
    | none => rw [hs] at h; cases h
    | some L =>
      rw [hs] at h
      rw [bindO_mem h, DrL.cons]
      constructor
      · rintro ⟨⟨t, m⟩, hp, y, hy, hm⟩
        simp only [Option.map_eq_some_iff] at hy
        obtain ⟨Q, hQ, rfl⟩ := hy
        obtain ⟨⟨us, j'⟩, hq, he⟩ := List.mem_map.1 hm
        simp only [Prod.mk.injEq] at he
        obtain ⟨rfl, rfl⟩ := he
        exact ⟨t, us, m, rfl, (hf s k L hs t m).1 hp, (enL_iff hf l m Q hQ us j').1 hq⟩
      · rintro ⟨t, us, m, rfl, h1, h2⟩
        have hp := (hf s k L hs t m).2 h1
        obtain ⟨y, hy⟩ := bindO_all h (t, m) hp
        refine ⟨(t, m), hp, y, hy, ?_⟩
        simp only [Option.map_eq_some_iff] at hy
        obtain ⟨Q, hQ, rfl⟩ := hy
        exact List.mem_map.2 ⟨(us, j), (enL_iff hf l m Q hQ us j).2 h2, rfl⟩
theorem enC_iff {n k : Nat} (hf : ∀ s k L, f s k = some L → ∀ t j, (t, j) ∈ L ↔ DrL R W [s] k j [t]) : ∀ (rs : List Ru) (i : Nat) (M : List (Tr × Nat)), enC f n k i rs = some M → ∀ t j, (t, j) ∈ M ↔ ∃ q rhs ks, rs[q]? = some (n, rhs) ∧ t = .node (i + q) ks ∧ DrL R W rhs k j ks
  | [], i, M, h, t, j => by
    simp only [enC, Option.some.injEq] at h
    subst h; simp
  | u :: rs, i, M, h, t, j => by
    simp only [enC] at h
    have shift : ∀ q, (u :: rs)[q + 1]? = rs[q]? := fun q => List.getElem?_cons_succ
    by_cases hn : u.1 = n
    · rw [if_pos hn] at h
      cases hl : enL f u.2 k with
      | none => rw [hl] at h; cases h
      | some x =>
        cases hc : enC f n k (i + 1) rs with
        | none => rw [hl, hc] at h; cases h
        | some y =>
          rw [hl, hc] at h
          simp only [Option.some.injEq] at h
          subst h
          rw [List.mem_append, enC_iff hf rs (i + 1) y hc t j]
          constructor
          · rintro (h | ⟨q, rhs, ks, h1, h2, h3⟩)
            · obtain ⟨⟨ks, j'⟩, hq, he⟩ := List.mem_map.1 h
              simp only [Prod.mk.injEq] at he
              obtain ⟨rfl, rfl⟩ := he
              exact ⟨0, u.2, ks, by rw [List.getElem?_cons_zero, ← hn], rfl, (enL_iff hf u.2 k x hl ks j').1 hq⟩
            · exact ⟨q + 1, rhs, ks, by rw [shift]; exact h1, by rw [h2]; congr 1; omega, h3⟩
          · rintro ⟨q, rhs, ks, h1, h2, h3⟩
            cases q with
            | zero =>
              rw [List.getElem?_cons_zero, Option.some.injEq] at h1
              subst h1
              exact Or.inl (List.mem_map.2 ⟨(ks, j), (enL_iff hf rhs k x hl ks j).2 h3, by rw [h2]; rfl⟩)
            | succ q => exact Or.inr ⟨q, rhs, ks, by rw [← shift]; exact h1, by rw [h2]; congr 1; omega, h3⟩
    · rw [if_neg hn] at h
      rw [enC_iff hf rs (i + 1) M h t j]
      constructor
      · rintro ⟨q, rhs, ks, h1, h2, h3⟩
        exact ⟨q + 1, rhs, ks, by rw [shift]; exact h1, by rw [h2]; congr 1; omega, h3⟩
      · rintro ⟨q, rhs, ks, h1, h2, h3⟩
        cases q with
        | zero =>
          rw [List.getElem?_cons_zero, Option.some.injEq] at h1
          exact absurd (by rw [h1]) hn
        | succ q => exact ⟨q, rhs, ks, by rw [← shift]; exact h1, by rw [h2]; congr 1; omega, h3⟩
/-- all trees are found, and no others -/
theorem en_iff (d : Nat) : ∀ (s : Sy) (k : Nat) (L : List (Tr × Nat)), en R W d s k = some L → ∀ t j, (t, j) ∈ L ↔ DrL R W [s] k j [t] := by
  induction d with
  | zero => intro s k L h; simp [en] at h
  | succ d ih =>
    intro s k L h t j
    obtain ⟨b, a⟩ := s
    rw [en] at h
    cases b with
    | true =>
      rw [if_pos rfl, Option.some.injEq] at h
      subst h
      by_cases hw : W[k]? = some a
      · rw [if_pos hw]
        simp only [List.mem_singleton, Prod.mk.injEq]
        constructor
        · rintro ⟨rfl, rfl⟩; exact .leaf a k _ [] [] hw (.nil _)
        · intro h; cases h with
          | leaf _ _ _ _ _ _ h2 => cases h2; exact ⟨rfl, rfl⟩
      · rw [if_neg hw]
        refine ⟨fun h => absurd h List.not_mem_nil, fun h => ?_⟩
        cases h with
        | leaf _ _ _ _ _ h1 _ => exact absurd h1 hw
    | false =>
      rw [if_neg (by simp)] at h
      rw [enC_iff ih R 0 L h t j]
      constructor
      · rintro ⟨q, rhs, ks, h1, rfl, h3⟩
        rw [Nat.zero_add]
        exact .node a q k j j rhs [] ks [] h1 h3 (.nil _)
      · intro h
        cases h with
        | node _ r _ m _ rhs _ ks _ hr h1 h2 => cases h2; exact ⟨r, rhs, ks, hr, by rw [Nat.zero_add], h1⟩
/-! ### the first found is the least -/
abbrev SrtF (M : List (List Tr × Nat)) : Prop := M.Pairwise fun p q => LtF p.1 q.1
theorem enL_srt (hf : ∀ s k L, f s k = some L → L.Pairwise fun p q => LtF [p.1] [q.1]) : ∀ (l : List Sy) (k : Nat) (M : List (List Tr × Nat)), enL f l k = some M → SrtF M
  | [], k, M, h => by
    simp only [enL, Option.some.injEq] at h
    subst h; exact List.pairwise_singleton _ _
  | s :: l, k, M, h => by
    simp only [enL] at h
    cases hs : f s k with
    | none => rw [hs] at h; cases h
    | some L =>
      rw [hs] at h
      have hL := hf s k L hs
      clear hs
      simp only at h
      induction L generalizing M with
      | nil => simp only [bindO, Option.some.injEq] at h; subst h; exact List.Pairwise.nil
      | cons a L ih =>
        obtain ⟨x, y, hx, hy, rfl⟩ := bindO_cons h
        rw [List.pairwise_cons] at hL
        simp only [Option.map_eq_some_iff] at hx
        obtain ⟨Q, hQ, rfl⟩ := hx
        refine List.pairwise_append.2 ⟨?_, ih y hy hL.2, ?_⟩
        · rw [List.pairwise_map]
          exact (enL_srt hf l a.2 Q hQ).imp fun h => .tail _ _ _ h
        · intro p hp q hq
          obtain ⟨p', _, rfl⟩ := List.mem_map.1 hp
          obtain ⟨b, hb, z, hz, hqz⟩ := (bindO_mem hy q).1 hq
          simp only [Option.map_eq_some_iff] at hz
          obtain ⟨Q', _, rfl⟩ := hz
          obtain ⟨q', _, rfl⟩ := List.mem_map.1 hqz
          exact (hL.1 b hb).wide _ _
theorem enC_ge {n k : Nat} : ∀ (rs : List Ru) (i : Nat) (M : List (Tr × Nat)), enC f n k i rs = some M → ∀ p ∈ M, ∃ q ks, i ≤ q ∧ p.1 = .node q ks
  | [], i, M, h, p, hp => by
    simp only [enC, Option.some.injEq] at h
    subst h; exact absurd hp List.not_mem_nil
  | u :: rs, i, M, h, p, hp => by
    simp only [enC] at h
    by_cases hn : u.1 = n
    · rw [if_pos hn] at h
      cases hl : enL f u.2 k with
      | none => rw [hl] at h; cases h
      | some x =>
        cases hc : enC f n k (i + 1) rs with
        | none => rw [hl, hc] at h; cases h
        | some y =>
          rw [hl, hc] at h
          simp only [Option.some.injEq] at h
          subst h
          rcases List.mem_append.1 hp with hp | hp
          · obtain ⟨q, _, rfl⟩ := List.mem_map.1 hp
            exact ⟨i, q.1, Nat.le_refl _, rfl⟩
          · obtain ⟨q, ks, h1, h2⟩ := enC_ge rs (i + 1) y hc p hp
            exact ⟨q, ks, by omega, h2⟩
    · rw [if_neg hn] at h
      obtain ⟨q, ks, h1, h2⟩ := enC_ge rs (i + 1) M h p hp
      exact ⟨q, ks, by omega, h2⟩
theorem enC_srt {n k : Nat} (hf : ∀ s k L, f s k = some L → L.Pairwise fun p q => LtF [p.1] [q.1]) : ∀ (rs : List Ru) (i : Nat) (M : List (Tr × Nat)), enC f n k i rs = some M → M.Pairwise fun p q => LtF [p.1] [q.1]
  | [], i, M, h => by
    simp only [enC, Option.some.injEq] at h
    subst h; exact List.Pairwise.nil
  | u :: rs, i, M, h => by
    simp only [enC] at h
    by_cases hn : u.1 = n
    · rw [if_pos hn] at h
      cases hl : enL f u.2 k with
      | none => rw [hl] at h; cases h
      | some x =>
        cases hc : enC f n k (i + 1) rs with
        | none => rw [hl, hc] at h; cases h
        | some y =>
          rw [hl, hc] at h
          simp only [Option.some.injEq] at h
          subst h
          refine List.pairwise_append.2 ⟨?_, enC_srt hf rs (i + 1) y hc, ?_⟩
          · rw [List.pairwise_map]
            exact (enL_srt hf u.2 k x hl).imp fun h => .inner _ _ _ _ _ h
          · intro p hp q hq
            obtain ⟨p', _, rfl⟩ := List.mem_map.1 hp
            obtain ⟨q', ks, h1, h2⟩ := enC_ge rs (i + 1) y hc q hq
            rw [h2]
            exact .head _ _ _ _ _ _ (by omega)
    · rw [if_neg hn] at h; exact enC_srt hf rs (i + 1) M h
theorem en_srt (d : Nat) : ∀ (s : Sy) (k : Nat) (L : List (Tr × Nat)), en R W d s k = some L → L.Pairwise fun p q => LtF [p.1] [q.1] := by
  induction d with
  | zero => intro s k L h; simp [en] at h
  | succ d ih =>
    intro s k L h
    rw [en] at h
    by_cases hs : s.1 = true
    · rw [if_pos hs, Option.some.injEq] at h
      subst h
      by_cases hw : W[k]? = some s.2
      · rw [if_pos hw]; exact List.pairwise_singleton _ _
      · rw [if_neg hw]; exact List.Pairwise.nil
    · rw [if_neg hs] at h; exact enC_srt ih R 0 L h
/-- the first that ends at j is the least of those that end there -/
theorem en_first {d : Nat} {s : Sy} {k j : Nat} {L : List (Tr × Nat)} (h : en R W d s k = some L) {p : Tr × Nat} (hp : L.find? (fun p => p.2 == j) = some p) : DrL R W [s] k j [p.1] ∧ ∀ t, DrL R W [s] k j [t] → t = p.1 ∨ LtF [p.1] [t] := by
  obtain ⟨h1, a, b, rfl, h2⟩ := List.find?_eq_some_iff_append.1 hp
  have hj : p.2 = j := by simpa using h1
  refine ⟨(en_iff d s k _ h p.1 j).1 (by rw [← hj]; simp), fun t ht => ?_⟩
  have hm := (en_iff d s k _ h t j).2 ht
  rcases List.mem_append.1 hm with hm | hm
  · have := h2 _ hm; simp at this
  · rcases List.mem_cons.1 hm with e | hm
    · exact Or.inl (by rw [← e])
    · have := (List.pairwise_append.1 (en_srt d s k _ h)).2.1
      exact Or.inr ((List.pairwise_cons.1 this).1 _ hm)
/-- none ends at j -/
theorem en_none {d : Nat} {s : Sy} {k j : Nat} {L : List (Tr × Nat)} (h : en R W d s k = some L) (hp : L.find? (fun p => p.2 == j) = none) (t : Tr) : ¬ DrL R W [s] k j [t] := fun ht => by
  have := List.find?_eq_none.1 hp (t, j) ((en_iff d s k _ h t j).2 ht)
  simp at this
/-! ### a depth that suffices -/
theorem enL_mono (h : ∀ s k r, f s k = some r → f' s k = some r) : ∀ (l : List Sy) (k : Nat) (M : List (List Tr × Nat)), enL f l k = some M → enL f' l k = some M
  | [], k, M, e => e
  | s :: l, k, M, e => by
    simp only [enL] at e ⊢
    cases hf : f s k with
    | none => rw [hf] at e; cases e
    | some L =>
      rw [hf] at e; rw [h s k L hf]
      refine bindO_mono (fun a x hx => ?_) e
      simp only [Option.map_eq_some_iff] at hx ⊢
      obtain ⟨Q, hQ, rfl⟩ := hx
      exact ⟨Q, enL_mono h l a.2 Q hQ, rfl⟩
theorem enC_mono (h : ∀ s k r, f s k = some r → f' s k = some r) (n k : Nat) : ∀ (rs : List Ru) (i : Nat) (M : List (Tr × Nat)), enC f n k i rs = some M → enC f' n k i rs = some M
  | [], i, M, e => e
  | u :: rs, i, M, e => by
    simp only [enC] at e ⊢
    by_cases hn : u.1 = n
    · rw [if_pos hn] at e ⊢
      cases hl : enL f u.2 k with
      | none => rw [hl] at e; cases e
      | some x =>
        cases hc : enC f n k (i + 1) rs with
        | none => rw [hl, hc] at e; cases e
        | some y => rw [hl, hc] at e; rw [enL_mono h u.2 k x hl, enC_mono h n k rs (i + 1) y hc]; exact e
    · rw [if_neg hn] at e ⊢; exact enC_mono h n k rs (i + 1) M e
theorem en_succ : ∀ (d : Nat) (s : Sy) (k : Nat) (L : List (Tr × Nat)), en R W d s k = some L → en R W (d + 1) s k = some L
  | 0, s, k, L, e => by simp [en] at e
  | d + 1, s, k, L, e => by
    rw [en] at e ⊢
    by_cases hs : s.1 = true
    · rw [if_pos hs] at e ⊢; exact e
    · rw [if_neg hs] at e ⊢; exact enC_mono (en_succ d) s.2 k R 0 L e
theorem en_mono {d : Nat} : ∀ {d' : Nat}, d ≤ d' → ∀ (s : Sy) (k : Nat) (L : List (Tr × Nat)), en R W d s k = some L → en R W d' s k = some L
  | 0, h, s, k, L, e => by obtain rfl : d = 0 := by omega
                           exact e
  | d' + 1, h, s, k, L, e => by
    rcases Nat.lt_or_ge d (d' + 1) with h1 | h1
    · exact en_succ d' s k L (en_mono (by omega) s k L e)
    · obtain rfl : d = d' + 1 := by omega
      exact e
/-- what is read -/
theorem DrL.end : ∀ {l : List Sy} {k j : Nat} {ts : List Tr}, DrL R W l k j ts → k ≤ W.length → k ≤ j ∧ j ≤ W.length ∧ (j = k → NulL R l) := by
  intro l k j ts h
  induction h with
  | nil k => exact fun hk => ⟨Nat.le_refl _, hk, fun _ s hs => absurd hs List.not_mem_nil⟩
  | leaf a k j l ts hw h2 ih =>
    intro hk
    obtain ⟨hlt, _⟩ := List.getElem?_eq_some_iff.1 hw
    have := ih (by omega)
    omega
  | node n r k m j rhs l ks ts hr h1 h2 ih1 ih2 =>
    intro hk
    obtain ⟨a1, a2, a3⟩ := ih1 hk
    obtain ⟨b1, b2, b3⟩ := ih2 a2
    refine ⟨by omega, b2, fun he y hy => ?_⟩
    rcases List.mem_cons.1 hy with rfl | hy
    · have := a3 (by omega)
      exact ⟨rfl, .mk n rhs (List.mem_of_getElem? hr) (fun s hs => (this s hs).1) (fun s hs => (this s hs).2)⟩
    · exact b3 (by omega) y hy
/-- one depth for all of a row -/
theorem deep_all {α : Type} {P : Nat → α → Prop} (hm : ∀ d d' a, d ≤ d' → P d a → P d' a) : ∀ (L : List α), (∀ a ∈ L, ∃ d, P d a) → ∃ d, ∀ a ∈ L, P d a
  | [], _ => ⟨0, fun a ha => absurd ha List.not_mem_nil⟩
  | b :: L, h => by
    obtain ⟨d, hd⟩ := h b (List.mem_cons_self ..)
    obtain ⟨e, he⟩ := deep_all hm L fun a ha => h a (List.mem_cons_of_mem _ ha)
    refine ⟨max d e, fun a ha => ?_⟩
    rcases List.mem_cons.1 ha with rfl | ha
    · exact hm d _ _ (Nat.le_max_left ..) hd
    · exact hm e _ a (Nat.le_max_right ..) (he a ha)
theorem enL_up {d d' : Nat} (hd : d ≤ d') {l : List Sy} {k : Nat} (h : ∃ M, enL (en R W d) l k = some M) : ∃ M, enL (en R W d') l k = some M := by
  obtain ⟨M, hM⟩ := h
  exact ⟨M, enL_mono (en_mono hd) l k M hM⟩
theorem enL_join {s : Sy} {l : List Sy} {k d0 : Nat} {L : List (Tr × Nat)} (hs : en R W d0 s k = some L) (h : ∀ p ∈ L, ∃ d M, enL (en R W d) l p.2 = some M) : ∃ d M, enL (en R W d) (s :: l) k = some M := by
  obtain ⟨d, hd⟩ := deep_all (P := fun d (p : Tr × Nat) => ∃ M, enL (en R W d) l p.2 = some M) (fun _ _ _ hle hp => enL_up hle hp) L h
  refine ⟨max d0 d, ?_⟩
  simp only [enL, en_mono (Nat.le_max_left d0 d) s k L hs]
  refine bindO_ex fun p hp => ?_
  obtain ⟨M, hM⟩ := enL_up (Nat.le_max_right d0 d) (hd p hp)
  exact ⟨_, by rw [hM]; rfl⟩
theorem enL_ex1 : ∀ (l : List Sy) (k : Nat), k ≤ W.length → (∀ k', k ≤ k' → k' ≤ W.length → ∀ s, ∃ d L, en R W d s k' = some L) → ∃ d M, enL (en R W d) l k = some M
  | [], k, _, _ => ⟨0, _, rfl⟩
  | s :: l, k, hk, H => by
    obtain ⟨d, L, hL⟩ := H k (Nat.le_refl _) hk s
    refine enL_join hL fun p hp => ?_
    obtain ⟨a1, a2, _⟩ := ((en_iff d s k L hL p.1 p.2).1 hp).end hk
    exact enL_ex1 l p.2 a2 fun k' h h' => H k' (by omega) h'
theorem enL_ex2 : ∀ (l : List Sy) (k : Nat), k ≤ W.length → (∀ k', k < k' → k' ≤ W.length → ∀ s, ∃ d L, en R W d s k' = some L) → (∀ a s b, l = a ++ s :: b → NulL R a → ∃ d L, en R W d s k = some L) → ∃ d M, enL (en R W d) l k = some M
  | [], k, _, _, _ => ⟨0, _, rfl⟩
  | s :: l, k, hk, H, H2 => by
    obtain ⟨d, L, hL⟩ := H2 [] s l rfl (fun x hx => absurd hx List.not_mem_nil)
    refine enL_join hL fun p hp => ?_
    obtain ⟨a1, a2, a3⟩ := ((en_iff d s k L hL p.1 p.2).1 hp).end hk
    by_cases he : p.2 = k
    · rw [he]
      refine enL_ex2 l k hk H fun a x b e ha => H2 (s :: a) x b (by rw [e]; rfl) fun y hy => ?_
      rcases List.mem_cons.1 hy with rfl | hy
      · exact a3 he _ (List.mem_cons_self ..)
      · exact ha y hy
    · exact enL_ex1 l p.2 a2 fun k' h h' => H k' (by omega) h'
theorem enC_ex (n k : Nat) : ∀ (rs : List Ru) (i : Nat), (∀ u ∈ rs, u.1 = n → ∃ d M, enL (en R W d) u.2 k = some M) → ∃ d M, enC (en R W d) n k i rs = some M
  | [], i, _ => ⟨0, _, rfl⟩
  | u :: rs, i, H => by
    obtain ⟨d2, M2, h2⟩ := enC_ex n k rs (i + 1) fun v hv => H v (List.mem_cons_of_mem _ hv)
    by_cases hn : u.1 = n
    · obtain ⟨d, M, hM⟩ := H u (List.mem_cons_self ..) hn
      have e1 := enL_mono (en_mono (Nat.le_max_left d d2)) u.2 k M hM
      have e2 := enC_mono (en_mono (Nat.le_max_right d d2)) n k rs (i + 1) M2 h2
      exact ⟨max d d2, by simp only [enC, if_pos hn, e1, e2]; exact ⟨_, rfl⟩⟩
    · exact ⟨d2, M2, by simp only [enC, if_neg hn]; exact h2⟩
theorem en_ex {D : Nat → Nat → Bool} {N : Nat} (hD : ∀ i j, D i j = true → i < N ∧ j < N) (hB : ∀ i j, BegM R i j → D i j = true) (hno : ∀ i, ¬ Plus D i i) : ∀ (m k : Nat), k ≤ W.length → W.length - k ≤ m → ∀ s, ∃ d L, en R W d s k = some L := by
  intro m
  induction m using Nat.strongRecOn with
  | ind m ihm =>
    intro k hk hm
    have later : ∀ k', k < k' → k' ≤ W.length → ∀ s, ∃ d L, en R W d s k' = some L := fun k' h1 h2 s => ihm (W.length - k') (by omega) k' h2 (Nat.le_refl _) s
    have term : ∀ x, ∃ d L, en R W d (true, x) k = some L := fun x => ⟨1, _, by rw [en, if_pos rfl]⟩
    have here : ∀ q n, begN D N n ≤ q → ∃ d L, en R W d (false, n) k = some L := by
      intro q
      induction q using Nat.strongRecOn with
      | ind q ihq =>
        intro n hq
        have : ∃ d L, enC (en R W d) n k 0 R = some L := by
          refine enC_ex n k R 0 fun u hu hn => enL_ex2 u.2 k hk later fun a s b e ha => ?_
          obtain ⟨t, x⟩ := s
          cases t with
          | true => exact term x
          | false =>
            have hb : D n x = true := hB n x ⟨a, b, by rw [← e, ← hn]; exact hu, ha⟩
            have := begN_lt hD hno (.one x hb)
            exact ihq (begN D N x) (by omega) x (Nat.le_refl _)
        obtain ⟨d, L, h⟩ := this
        exact ⟨d + 1, L, by rw [en, if_neg (by simp)]; exact h⟩
    intro s
    obtain ⟨t, x⟩ := s
    cases t with
    | true => exact term x
    | false => exact here _ x (Nat.le_refl _)
end
end Go.Proofs.YtfmnmgnhanogmaaDoor



namespace Go.Proofs.YtfmnmgnhanogmaaDoor
open Go.RowKit

section
variable {R : List Ru} {W : List Nat}
theorem DrL.len {l : List Sy} {i j : Nat} {ts : List Tr} (h : DrL R W l i j ts) : ts.length = l.length := by
  induction h with
  | nil k => rfl
  | leaf a k j l ts hw h2 ih => simp [ih]
  | node n r k m j rhs l ks ts hr h1 h2 ih1 ih2 => simp [ih2]
/-- the q-th kids of two rows whose kids ahead are the same: trees of one symbol from one place; the order of the q-th kids is that of the rows -/
theorem DrL.at2 : ∀ {l : List Sy} {i j j' : Nat} {ts us : List Tr} {q : Nat}, DrL R W l i j ts → DrL R W l i j' us → (∀ x, x < q → ts[x]? = us[x]?) → q < l.length →
    ∃ s p m m' t u, ts[q]? = some t ∧ us[q]? = some u ∧ l[q]? = some s ∧ DrL R W [s] p m [t] ∧ DrL R W [s] p m' [u] ∧ (LtF [t] [u] → LtF ts us) ∧ (LtF [u] [t] → LtF us ts) := by
  intro l
  induction l with
  | nil => intro i j j' ts us q _ _ _ hq; exact absurd hq (Nat.not_lt_zero _)
  | cons s l ih =>
    intro i j j' ts us q h h' he hq
    obtain ⟨t, ts, m, rfl, h1, h2⟩ := DrL.cons.1 h
    obtain ⟨u, us, m', rfl, h1', h2'⟩ := DrL.cons.1 h'
    cases q with
    | zero => exact ⟨s, i, m, m', t, u, rfl, rfl, rfl, h1, h1', fun x => x.wide _ _, fun x => x.wide _ _⟩
    | succ q =>
      have e0 := he 0 (by omega)
      simp only [List.getElem?_cons_zero, Option.some.injEq] at e0
      subst e0
      have em : m = m' := by
        rcases h1.tri h1' with a | a | a
        · exact (a.irr rfl).elim
        · exact (a.irr rfl).elim
        · exact a.2
      subst em
      obtain ⟨s2, p, x, x', t2, u2, g1, g2, g3, g4, g5, g6, g7⟩ := ih (q := q) h2 h2' (fun x hx => by simpa using he (x + 1) (by omega)) (by simpa using hq)
      exact ⟨s2, p, x, x', t2, u2, by simpa using g1, by simpa using g2, by simpa using g3, g4, g5, fun y => .tail _ _ _ (g6 y), fun y => .tail _ _ _ (g7 y)⟩
/-- all kids the same -/
theorem DrL.same {l : List Sy} {i j j' : Nat} {ts us : List Tr} (h : DrL R W l i j ts) (h' : DrL R W l i j' us) (he : ∀ x, x < l.length → ts[x]? = us[x]?) : ts = us := by
  refine List.ext_getElem? fun x => ?_
  by_cases hx : x < l.length
  · exact he x hx
  · rw [List.getElem?_eq_none (by rw [h.len]; omega), List.getElem?_eq_none (by rw [h'.len]; omega)]
/-- trees of one nonterminal: their rules -/
theorem DrL.rules {n i j j' r r' : Nat} {ks ls : List Tr} (h : DrL R W [(false, n)] i j [.node r ks]) (h' : DrL R W [(false, n)] i j' [.node r' ls]) : (r < r' → LtF [.node r ks] [.node r' ls]) ∧ (r = r' → ∃ rhs, R[r]? = some (n, rhs) ∧ DrL R W rhs i j ks ∧ DrL R W rhs i j' ls) := by
  refine ⟨fun hlt => .head _ _ _ _ _ _ hlt, fun e => ?_⟩
  subst e
  cases h with
  | node _ _ _ m _ rhs _ _ _ hr h1 h2 =>
    cases h2
    cases h' with
    | node _ _ _ m' _ rhs' _ _ _ hr' h1' h2' =>
      cases h2'
      rw [hr] at hr'
      simp only [Option.some.injEq, Prod.mk.injEq, true_and] at hr'
      subst hr'
      exact ⟨rhs, hr, h1, h1'⟩
/-- what a comparison answers -/
def CmpT (a b : Tr) (c : Int) : Prop := (c < 0 → LtF [a] [b]) ∧ (c = 0 → a = b) ∧ (0 < c → LtF [b] [a])
theorem CmpT.lt {a b : Tr} {c : Int} (h : CmpT a b c) : c < 0 ↔ LtF [a] [b] := by
  refine ⟨h.1, fun hl => ?_⟩
  rcases Int.lt_trichotomy c 0 with h1 | h1 | h1
  · exact h1
  · exact (hl.irr (by rw [h.2.1 h1])).elim
  · exact (hl.asym (h.2.2 h1)).elim
end
end Go.Proofs.YtfmnmgnhanogmaaDoor

