/- Texts LE, LF, LJ, laid together. -/
import Derived.Test.YtfmnmgnhanogmaaDoorQ10
import Derived.Test.YtfmnmgnhanogmaaDoorQ3


namespace Go.Proofs.YtfmnmgnhanogmaaDoor
open Go.RowKit

/-- rows of trees for a row of symbols between two places -/
inductive DrL (R : List Ru) (W : List Nat) : List Sy → Nat → Nat → List Tr → Prop
  | nil (k : Nat) : DrL R W [] k k []
  | leaf (a k j : Nat) (l : List Sy) (ts : List Tr) (h : W[k]? = some a) (h2 : DrL R W l (k + 1) j ts) : DrL R W ((true, a) :: l) k j (.leaf a :: ts)
  | node (n r k m j : Nat) (rhs l : List Sy) (ks ts : List Tr) (hr : R[r]? = some (n, rhs)) (h1 : DrL R W rhs k m ks) (h2 : DrL R W l m j ts) : DrL R W ((false, n) :: l) k j (.node r ks :: ts)
/-- the order by the rules in preorder -/
inductive LtF : List Tr → List Tr → Prop
  | head (r q : Nat) (ks ls ts us : List Tr) (h : r < q) : LtF (.node r ks :: ts) (.node q ls :: us)
  | inner (r : Nat) (ks ls ts us : List Tr) (h : LtF ks ls) : LtF (.node r ks :: ts) (.node r ls :: us)
  | tail (t : Tr) (ts us : List Tr) (h : LtF ts us) : LtF (t :: ts) (t :: us)
section
variable {R : List Ru} {W : List Nat}
theorem LtF.wide {t t' : Tr} (h : LtF [t] [t']) (ts us : List Tr) : LtF (t :: ts) (t' :: us) := by
  cases h with
  | head r q ks ls _ _ h => exact .head r q ks ls ts us h
  | inner r ks ls _ _ h => exact .inner r ks ls ts us h
  | tail t _ _ h => cases h
theorem LtF.irr : ∀ {a b : List Tr}, LtF a b → a = b → False := by
  intro a b h
  induction h with
  | head r q ks ls ts us h => intro e; simp only [List.cons.injEq, Tr.node.injEq] at e; omega
  | inner r ks ls ts us h ih => intro e; simp only [List.cons.injEq, Tr.node.injEq] at e; exact ih e.1.2
  | tail t ts us h ih => intro e; simp only [List.cons.injEq] at e; exact ih e.2
theorem LtF.asym : ∀ {a b : List Tr}, LtF a b → LtF b a → False := by
  intro a b h
  induction h with
  | head r q ks ls ts us h =>
    intro e
    cases e with
    | head _ _ _ _ _ _ h2 => omega
    | inner _ _ _ _ _ h2 => omega
    | tail _ _ _ h2 => omega
  | inner r ks ls ts us h ih =>
    intro e
    cases e with
    | head _ _ _ _ _ _ h2 => omega
    | inner _ _ _ _ _ h2 => exact ih h2
    | tail _ _ _ h2 => exact h.irr rfl
  | tail t ts us h ih =>
    intro e
    cases e with
    | head _ _ _ _ _ _ h2 => omega
    | inner _ _ _ _ _ h2 => exact h2.irr rfl
    | tail _ _ _ h2 => exact ih h2
/-- two rows for the same symbols from the same place: one is the lesser, or they are the same -/
theorem DrL.tri : ∀ {l : List Sy} {k j j' : Nat} {ts us : List Tr}, DrL R W l k j ts → DrL R W l k j' us → LtF ts us ∨ LtF us ts ∨ (ts = us ∧ j = j') := by
  intro l k j j' ts us h
  induction h generalizing j' us with
  | nil k => intro h; cases h; exact Or.inr (Or.inr ⟨rfl, rfl⟩)
  | leaf a k j l ts hw h2 ih =>
    intro h
    cases h with
    | leaf _ _ _ _ us hw' h2' =>
      rcases ih h2' with h | h | ⟨rfl, rfl⟩
      · exact Or.inl (.tail _ _ _ h)
      · exact Or.inr (Or.inl (.tail _ _ _ h))
      · exact Or.inr (Or.inr ⟨rfl, rfl⟩)
  | node n r k m j rhs l ks ts hr h1 h2 ih1 ih2 =>
    intro h
    cases h with
    | node _ r' _ m' _ rhs' _ ks' us hr' h1' h2' =>
      rcases Nat.lt_trichotomy r r' with hlt | rfl | hlt
      · exact Or.inl (.head _ _ _ _ _ _ hlt)
      · rw [hr] at hr'
        simp only [Option.some.injEq, Prod.mk.injEq, true_and] at hr'
        subst hr'
        rcases ih1 h1' with h | h | ⟨rfl, rfl⟩
        · exact Or.inl (.inner _ _ _ _ _ h)
        · exact Or.inr (Or.inl (.inner _ _ _ _ _ h))
        · rcases ih2 h2' with h | h | ⟨rfl, rfl⟩
          · exact Or.inl (.tail _ _ _ h)
          · exact Or.inr (Or.inl (.tail _ _ _ h))
          · exact Or.inr (Or.inr ⟨rfl, rfl⟩)
      · exact Or.inr (Or.inl (.head _ _ _ _ _ _ hlt))
theorem DrL.cons {s : Sy} {l : List Sy} {k j : Nat} {vs : List Tr} : DrL R W (s :: l) k j vs ↔ ∃ t ts m, vs = t :: ts ∧ DrL R W [s] k m [t] ∧ DrL R W l m j ts := by
  constructor
  · intro h
    cases h with
    | leaf a _ _ _ ts hw h2 => exact ⟨_, _, _, rfl, .leaf a k _ [] [] hw (.nil _), h2⟩
    | node n r _ m _ rhs _ ks ts hr h1 h2 => exact ⟨_, _, _, rfl, .node n r k m m rhs [] ks [] hr h1 (.nil _), h2⟩
  · rintro ⟨t, ts, m, rfl, h1, h2⟩
    cases h1 with
    | leaf a _ _ _ _ hw h3 => cases h3; exact .leaf a k j l ts hw h2
    | node n r _ m' _ rhs _ ks _ hr h3 h4 => cases h4; exact .node n r k _ j rhs l ks ts hr h3 h2
/-! ### in the order in which they are found -/
def bindO {α β : Type} (g : α → Option (List β)) : List α → Option (List β)
  | [] => some []
  | a :: l => match g a, bindO g l with
    | some x, some y => some (x ++ y)
    | _, _ => none
theorem bindO_cons {α β : Type} {g : α → Option (List β)} {a : α} {l : List α} {r : List β} (h : bindO g (a :: l) = some r) : ∃ x y, g a = some x ∧ bindO g l = some y ∧ r = x ++ y := by
  simp only [bindO] at h
  cases hg : g a with
  | none => rw [hg] at h; cases h
  | some x =>
    cases hb : bindO g l with
    | none => rw [hg, hb] at h; cases h
    | some y => rw [hg, hb] at h; exact ⟨x, y, rfl, rfl, (Option.some.inj h).symm⟩
theorem bindO_mem {α β : Type} {g : α → Option (List β)} : ∀ {l : List α} {r : List β}, bindO g l = some r → ∀ x, x ∈ r ↔ ∃ a ∈ l, ∃ y, g a = some y ∧ x ∈ y
  | [], r, h, x => by
    simp only [bindO, Option.some.injEq] at h
    subst h; simp
  | a :: l, r, h, x => by
    obtain ⟨u, v, hu, hv, rfl⟩ := bindO_cons h
    rw [List.mem_append, bindO_mem hv x]
    constructor
    · rintro (h | ⟨b, hb, y, h1, h2⟩)
      · exact ⟨a, List.mem_cons_self .., u, hu, h⟩
      · exact ⟨b, List.mem_cons_of_mem _ hb, y, h1, h2⟩
    · rintro ⟨b, hb, y, h1, h2⟩
      rcases List.mem_cons.1 hb with rfl | hb
      · rw [hu] at h1; cases h1; exact Or.inl h2
      · exact Or.inr ⟨b, hb, y, h1, h2⟩
theorem bindO_all {α β : Type} {g : α → Option (List β)} : ∀ {l : List α} {r : List β}, bindO g l = some r → ∀ a ∈ l, ∃ y, g a = some y
  | [], _, _, a, ha => absurd ha List.not_mem_nil
  | b :: l, r, h, a, ha => by
    obtain ⟨u, v, hu, hv, rfl⟩ := bindO_cons h
    rcases List.mem_cons.1 ha with rfl | ha
    · exact ⟨u, hu⟩
    · exact bindO_all hv a ha
theorem bindO_ex {α β : Type} {g : α → Option (List β)} : ∀ {l : List α}, (∀ a ∈ l, ∃ y, g a = some y) → ∃ r, bindO g l = some r
  | [], _ => ⟨[], rfl⟩
  | a :: l, h => by
    obtain ⟨x, hx⟩ := h a (List.mem_cons_self ..)
    obtain ⟨y, hy⟩ := bindO_ex fun b hb => h b (List.mem_cons_of_mem _ hb)
    exact ⟨x ++ y, by simp only [bindO, hx, hy]⟩
theorem bindO_mono {α β : Type} {g g' : α → Option (List β)} (h : ∀ a x, g a = some x → g' a = some x) : ∀ {l : List α} {r : List β}, bindO g l = some r → bindO g' l = some r
  | [], r, e => e
  | a :: l, r, e => by
    obtain ⟨u, v, hu, hv, rfl⟩ := bindO_cons e
    simp only [bindO, h a u hu, bindO_mono h hv]
def enL (f : Sy → Nat → Option (List (Tr × Nat))) : List Sy → Nat → Option (List (List Tr × Nat))
  | [], k => some [([], k)]
  | s :: l, k => match f s k with
    | none => none
    | some L => bindO (fun p => (enL f l p.2).map (List.map fun q => (p.1 :: q.1, q.2))) L
def enC (f : Sy → Nat → Option (List (Tr × Nat))) (n k : Nat) : Nat → List Ru → Option (List (Tr × Nat))
  | _, [] => some []
  | i, u :: rs => if u.1 = n then (match enL f u.2 k, enC f n k (i + 1) rs with
      | some x, some y => some (x.map (fun q => (.node i q.1, q.2)) ++ y)
      | _, _ => none) else enC f n k (i + 1) rs
def en (R : List Ru) (W : List Nat) : Nat → Sy → Nat → Option (List (Tr × Nat))
  | 0, _, _ => none
  | d + 1, s, k => if s.1 then some (if W[k]? = some s.2 then [(.leaf s.2, k + 1)] else []) else enC (en R W d) s.2 k 0 R
variable {f f' : Sy → Nat → Option (List (Tr × Nat))}
theorem enL_iff (hf : ∀ s k L, f s k = some L → ∀ t j, (t, j) ∈ L ↔ DrL R W [s] k j [t]) : ∀ (l : List Sy) (k : Nat) (M : List (List Tr × Nat)), enL f l k = some M → ∀ ts j, (ts, j) ∈ M ↔ DrL R W l k j ts
  | [], k, M, h, ts, j => by
    simp only [enL, Option.some.injEq] at h
    subst h
    simp only [List.mem_singleton, Prod.mk.injEq]
    constructor
    · rintro ⟨rfl, rfl⟩; exact .nil _
    · intro h; cases h; exact ⟨rfl, rfl⟩
  | s :: l, k, M, h, ts, j => by
    simp only [enL] at h
    cases hs : f s k with
    | none => rw [hs] at h; cases h
    | some L =>
      rw [hs] at h
      rw [bindO_mem h, DrL.cons]
      constructor
      · rintro ⟨⟨t, m⟩, hp, y, hy, hm⟩
        simp only [Option.map_eq_some_iff] at hy
        obtain ⟨Q, hQ, rfl⟩ := hy
        obtain ⟨⟨us, j'⟩, hq, he⟩ := List.mem_map.1 hm
        simp only [Prod.mk.injEq] at he
        obtain ⟨rfl, rfl⟩ := he
        exact ⟨t, us, m, rfl, (hf s k L hs t m).1 hp, (enL_iff hf l m Q hQ us j').1 hq⟩
      · rintro ⟨t, us, m, rfl, h1, h2⟩
        have hp := (hf s k L hs t m).2 h1
        obtain ⟨y, hy⟩ := bindO_all h (t, m) hp
        refine ⟨(t, m), hp, y, hy, ?_⟩
        simp only [Option.map_eq_some_iff] at hy
        obtain ⟨Q, hQ, rfl⟩ := hy
        exact List.mem_map.2 ⟨(us, j), (enL_iff hf l m Q hQ us j).2 h2, rfl⟩
theorem enC_iff {n k : Nat} (hf : ∀ s k L, f s k = some L → ∀ t j, (t, j) ∈ L ↔ DrL R W [s] k j [t]) : ∀ (rs : List Ru) (i : Nat) (M : List (Tr × Nat)), enC f n k i rs = some M → ∀ t j, (t, j) ∈ M ↔ ∃ q rhs ks, rs[q]? = some (n, rhs) ∧ t = .node (i + q) ks ∧ DrL R W rhs k j ks
  | [], i, M, h, t, j => by
    simp only [enC, Option.some.injEq] at h
    subst h; simp
  | u :: rs, i, M, h, t, j => by
    simp only [enC] at h
    have shift : ∀ q, (u :: rs)[q + 1]? = rs[q]? := fun q => List.getElem?_cons_succ
    by_cases hn : u.1 = n
    · rw [if_pos hn] at h
      cases hl : enL f u.2 k with
      | none => rw [hl] at h; cases h
      | some x =>
        cases hc : enC f n k (i + 1) rs with
        | none => rw [hl, hc] at h; cases h
        | some y =>
          rw [hl, hc] at h
          simp only [Option.some.injEq] at h
          subst h
          rw [List.mem_append, enC_iff hf rs (i + 1) y hc t j]
          constructor
          · rintro (h | ⟨q, rhs, ks, h1, h2, h3⟩)
            · obtain ⟨⟨ks, j'⟩, hq, he⟩ := List.mem_map.1 h
              simp only [Prod.mk.injEq] at he
              obtain ⟨rfl, rfl⟩ := he
              exact ⟨0, u.2, ks, by rw [List.getElem?_cons_zero, ← hn], rfl, (enL_iff hf u.2 k x hl ks j').1 hq⟩
            · exact ⟨q + 1, rhs, ks, by rw [shift]; exact h1, by rw [h2]; congr 1; omega, h3⟩
          · rintro ⟨q, rhs, ks, h1, h2, h3⟩
            cases q with
            | zero =>
              rw [List.getElem?_cons_zero, Option.some.injEq] at h1
              subst h1
              exact Or.inl (List.mem_map.2 ⟨(ks, j), (enL_iff hf rhs k x hl ks j).2 h3, by rw [h2]; rfl⟩)
            | succ q => exact Or.inr ⟨q, rhs, ks, by rw [← shift]; exact h1, by rw [h2]; congr 1; omega, h3⟩
    · rw [if_neg hn] at h
      rw [enC_iff hf rs (i + 1) M h t j]
      constructor
      · rintro ⟨q, rhs, ks, h1, h2, h3⟩
        exact ⟨q + 1, rhs, ks, by rw [shift]; exact h1, by rw [h2]; congr 1; omega, h3⟩
      · rintro ⟨q, rhs, ks, h1, h2, h3⟩
        cases q with
        | zero =>
          rw [List.getElem?_cons_zero, Option.some.injEq] at h1
          exact absurd (by rw [h1]) hn
        | succ q => exact ⟨q, rhs, ks, by rw [← shift]; exact h1, by rw [h2]; congr 1; omega, h3⟩
/-- all trees are found, and no others -/
theorem en_iff (d : Nat) : ∀ (s : Sy) (k : Nat) (L : List (Tr × Nat)), en R W d s k = some L → ∀ t j, (t, j) ∈ L ↔ DrL R W [s] k j [t] := by
  induction d with
  | zero => intro s k L h; simp [en] at h
  | succ d ih =>
    intro s k L h t j
    obtain ⟨b, a⟩ := s
    rw [en] at h
    cases b with
    | true =>
      rw [if_pos rfl, Option.some.injEq] at h
      subst h
      by_cases hw : W[k]? = some a
      · rw [if_pos hw]
        simp only [List.mem_singleton, Prod.mk.injEq]
        constructor
        · rintro ⟨rfl, rfl⟩; exact .leaf a k _ [] [] hw (.nil _)
        · intro h; cases h with
          | leaf _ _ _ _ _ _ h2 => cases h2; exact ⟨rfl, rfl⟩
      · rw [if_neg hw]
        refine ⟨fun h => absurd h List.not_mem_nil, fun h => ?_⟩
        cases h with
        | leaf _ _ _ _ _ h1 _ => exact absurd h1 hw
    | false =>
      rw [if_neg (by simp)] at h
      rw [enC_iff ih R 0 L h t j]
      constructor
      · rintro ⟨q, rhs, ks, h1, rfl, h3⟩
        rw [Nat.zero_add]
        exact .node a q k j j rhs [] ks [] h1 h3 (.nil _)
      · intro h
        cases h with
        | node _ r _ m _ rhs _ ks _ hr h1 h2 => cases h2; exact ⟨r, rhs, ks, hr, by rw [Nat.zero_add], h1⟩
/-! ### the first found is the least -/
abbrev SrtF (M : List (List Tr × Nat)) : Prop := M.Pairwise fun p q => LtF p.1 q.1
theorem enL_srt (hf : ∀ s k L, f s k = some L → L.Pairwise fun p q => LtF [p.1] [q.1]) : ∀ (l : List Sy) (k : Nat) (M : List (List Tr × Nat)), enL f l k = some M → SrtF M
  | [], k, M, h => by
    simp only [enL, Option.some.injEq] at h
    subst h; exact List.pairwise_singleton _ _
  | s :: l, k, M, h => by
    simp only [enL] at h
    cases hs : f s k with
    | none => rw [hs] at h; cases h
    | some L =>
      rw [hs] at h
      have hL := hf s k L hs
      clear hs
      simp only at h
      induction L generalizing M with
      | nil => simp only [bindO, Option.some.injEq] at h; subst h; exact List.Pairwise.nil
      | cons a L ih =>
        obtain ⟨x, y, hx, hy, rfl⟩ := bindO_cons h
        rw [List.pairwise_cons] at hL
        simp only [Option.map_eq_some_iff] at hx
        obtain ⟨Q, hQ, rfl⟩ := hx
        refine List.pairwise_append.2 ⟨?_, ih y hy hL.2, ?_⟩
        · rw [List.pairwise_map]
          exact (enL_srt hf l a.2 Q hQ).imp fun h => .tail _ _ _ h
        · intro p hp q hq
          obtain ⟨p', _, rfl⟩ := List.mem_map.1 hp
          obtain ⟨b, hb, z, hz, hqz⟩ := (bindO_mem hy q).1 hq
          simp only [Option.map_eq_some_iff] at hz
          obtain ⟨Q', _, rfl⟩ := hz
          obtain ⟨q', _, rfl⟩ := List.mem_map.1 hqz
          exact (hL.1 b hb).wide _ _
theorem enC_ge {n k : Nat} : ∀ (rs : List Ru) (i : Nat) (M : List (Tr × Nat)), enC f n k i rs = some M → ∀ p ∈ M, ∃ q ks, i ≤ q ∧ p.1 = .node q ks
  | [], i, M, h, p, hp => by
    simp only [enC, Option.some.injEq] at h
    subst h; exact absurd hp List.not_mem_nil
  | u :: rs, i, M, h, p, hp => by
    simp only [enC] at h
    by_cases hn : u.1 = n
    · rw [if_pos hn] at h
      cases hl : enL f u.2 k with
      | none => rw [hl] at h; cases h
      | some x =>
        cases hc : enC f n k (i + 1) rs with
        | none => rw [hl, hc] at h; cases h
        | some y =>
          rw [hl, hc] at h
          simp only [Option.some.injEq] at h
          subst h
          rcases List.mem_append.1 hp with hp | hp
          · obtain ⟨q, _, rfl⟩ := List.mem_map.1 hp
            exact ⟨i, q.1, Nat.le_refl _, rfl⟩
          · obtain ⟨q, ks, h1, h2⟩ := enC_ge rs (i + 1) y hc p hp
            exact ⟨q, ks, by omega, h2⟩
    · rw [if_neg hn] at h
      obtain ⟨q, ks, h1, h2⟩ := enC_ge rs (i + 1) M h p hp
      exact ⟨q, ks, by omega, h2⟩
theorem enC_srt {n k : Nat} (hf : ∀ s k L, f s k = some L → L.Pairwise fun p q => LtF [p.1] [q.1]) : ∀ (rs : List Ru) (i : Nat) (M : List (Tr × Nat)), enC f n k i rs = some M → M.Pairwise fun p q => LtF [p.1] [q.1]
  | [], i, M, h => by
    simp only [enC, Option.some.injEq] at h
    subst h; exact List.Pairwise.nil
  | u :: rs, i, M, h => by
    simp only [enC] at h
    by_cases hn : u.1 = n
    · rw [if_pos hn] at h
      cases hl : enL f u.2 k with
      | none => rw [hl] at h; cases h
      | some x =>
        cases hc : enC f n k (i + 1) rs with
        | none => rw [hl, hc] at h; cases h
        | some y =>
          rw [hl, hc] at h
          simp only [Option.some.injEq] at h
          subst h
          refine List.pairwise_append.2 ⟨?_, enC_srt hf rs (i + 1) y hc, ?_⟩
          · rw [List.pairwise_map]
            exact (enL_srt hf u.2 k x hl).imp fun h => .inner _ _ _ _ _ h
          · intro p hp q hq
            obtain ⟨p', _, rfl⟩ := List.mem_map.1 hp
            obtain ⟨q', ks, h1, h2⟩ := enC_ge rs (i + 1) y hc q hq
            rw [h2]
            exact .head _ _ _ _ _ _ (by omega)
    · rw [if_neg hn] at h; exact enC_srt hf rs (i + 1) M h
theorem en_srt (d : Nat) : ∀ (s : Sy) (k : Nat) (L : List (Tr × Nat)), en R W d s k = some L → L.Pairwise fun p q => LtF [p.1] [q.1] := by
  induction d with
  | zero => intro s k L h; simp [en] at h
  | succ d ih =>
    intro s k L h
    rw [en] at h
    by_cases hs : s.1 = true
    · rw [if_pos hs, Option.some.injEq] at h
      subst h
      by_cases hw : W[k]? = some s.2
      · rw [if_pos hw]; exact List.pairwise_singleton _ _
      · rw [if_neg hw]; exact List.Pairwise.nil
    · rw [if_neg hs] at h; exact enC_srt ih R 0 L h
/-- the first that ends at j is the least of those that end there -/
theorem en_first {d : Nat} {s : Sy} {k j : Nat} {L : List (Tr × Nat)} (h : en R W d s k = some L) {p : Tr × Nat} (hp : L.find? (fun p => p.2 == j) = some p) : DrL R W [s] k j [p.1] ∧ ∀ t, DrL R W [s] k j [t] → t = p.1 ∨ LtF [p.1] [t] := by
  obtain ⟨h1, a, b, rfl, h2⟩ := List.find?_eq_some_iff_append.1 hp
  have hj : p.2 = j := by simpa using h1
  refine ⟨(en_iff d s k _ h p.1 j).1 (by rw [← hj]; simp), fun t ht => ?_⟩
  have hm := (en_iff d s k _ h t j).2 ht
  rcases List.mem_append.1 hm with hm | hm
  · have := h2 _ hm; simp at this
  · rcases List.mem_cons.1 hm with e | hm
    · exact Or.inl (by rw [← e])
    · have := (List.pairwise_append.1 (en_srt d s k _ h)).2.1
      exact Or.inr ((List.pairwise_cons.1 this).1 _ hm)
/-- none ends at j -/
theorem en_none {d : Nat} {s : Sy} {k j : Nat} {L : List (Tr × Nat)} (h : en R W d s k = some L) (hp : L.find? (fun p => p.2 == j) = none) (t : Tr) : ¬ DrL R W [s] k j [t] := fun ht => by
  have := List.find?_eq_none.1 hp (t, j) ((en_iff d s k _ h t j).2 ht)
  simp at this
/-! ### a depth that suffices -/
theorem enL_mono (h : ∀ s k r, f s k = some r → f' s k = some r) : ∀ (l : List Sy) (k : Nat) (M : List (List Tr × Nat)), enL f l k = some M → enL f' l k = some M
  | [], k, M, e => e
  | s :: l, k, M, e => by
    simp only [enL] at e ⊢
    cases hf : f s k with
    | none => rw [hf] at e; cases e
    | some L =>
      rw [hf] at e; rw [h s k L hf]
      refine bindO_mono (fun a x hx => ?_) e
      simp only [Option.map_eq_some_iff] at hx ⊢
      obtain ⟨Q, hQ, rfl⟩ := hx
      exact ⟨Q, enL_mono h l a.2 Q hQ, rfl⟩
theorem enC_mono (h : ∀ s k r, f s k = some r → f' s k = some r) (n k : Nat) : ∀ (rs : List Ru) (i : Nat) (M : List (Tr × Nat)), enC f n k i rs = some M → enC f' n k i rs = some M
  | [], i, M, e => e
  | u :: rs, i, M, e => by
    simp only [enC] at e ⊢
    by_cases hn : u.1 = n
    · rw [if_pos hn] at e ⊢
      cases hl : enL f u.2 k with
      | none => rw [hl] at e; cases e
      | some x =>
        cases hc : enC f n k (i + 1) rs with
        | none => rw [hl, hc] at e; cases e
        | some y => rw [hl, hc] at e; rw [enL_mono h u.2 k x hl, enC_mono h n k rs (i + 1) y hc]; exact e
    · rw [if_neg hn] at e ⊢; exact enC_mono h n k rs (i + 1) M e
theorem en_succ : ∀ (d : Nat) (s : Sy) (k : Nat) (L : List (Tr × Nat)), en R W d s k = some L → en R W (d + 1) s k = some L
  | 0, s, k, L, e => by simp [en] at e
  | d + 1, s, k, L, e => by
    rw [en] at e ⊢
    by_cases hs : s.1 = true
    · rw [if_pos hs] at e ⊢; exact e
    · rw [if_neg hs] at e ⊢; exact enC_mono (en_succ d) s.2 k R 0 L e
theorem en_mono {d : Nat} : ∀ {d' : Nat}, d ≤ d' → ∀ (s : Sy) (k : Nat) (L : List (Tr × Nat)), en R W d s k = some L → en R W d' s k = some L
  | 0, h, s, k, L, e => by obtain rfl : d = 0 := by omega
                           exact e
  | d' + 1, h, s, k, L, e => by
    rcases Nat.lt_or_ge d (d' + 1) with h1 | h1
    · exact en_succ d' s k L (en_mono (by omega) s k L e)
    · obtain rfl : d = d' + 1 := by omega
      exact e
/-- what is read -/
theorem DrL.end : ∀ {l : List Sy} {k j : Nat} {ts : List Tr}, DrL R W l k j ts → k ≤ W.length → k ≤ j ∧ j ≤ W.length ∧ (j = k → NulL R l) := by
  intro l k j ts h
  induction h with
  | nil k => exact fun hk => ⟨Nat.le_refl _, hk, fun _ s hs => absurd hs List.not_mem_nil⟩
  | leaf a k j l ts hw h2 ih =>
    intro hk
    obtain ⟨hlt, _⟩ := List.getElem?_eq_some_iff.1 hw
    have := ih (by omega)
    omega
  | node n r k m j rhs l ks ts hr h1 h2 ih1 ih2 =>
    intro hk
    obtain ⟨a1, a2, a3⟩ := ih1 hk
    obtain ⟨b1, b2, b3⟩ := ih2 a2
    refine ⟨by omega, b2, fun he y hy => ?_⟩
    rcases List.mem_cons.1 hy with rfl | hy
    · have := a3 (by omega)
      exact ⟨rfl, .mk n rhs (List.mem_of_getElem? hr) (fun s hs => (this s hs).1) (fun s hs => (this s hs).2)⟩
    · exact b3 (by omega) y hy
/-- one depth for all of a row -/
theorem deep_all {α : Type} {P : Nat → α → Prop} (hm : ∀ d d' a, d ≤ d' → P d a → P d' a) : ∀ (L : List α), (∀ a ∈ L, ∃ d, P d a) → ∃ d, ∀ a ∈ L, P d a
  | [], _ => ⟨0, fun a ha => absurd ha List.not_mem_nil⟩
  | b :: L, h => by
    obtain ⟨d, hd⟩ := h b (List.mem_cons_self ..)
    obtain ⟨e, he⟩ := deep_all hm L fun a ha => h a (List.mem_cons_of_mem _ ha)
    refine ⟨max d e, fun a ha => ?_⟩
    rcases List.mem_cons.1 ha with rfl | ha
    · exact hm d _ _ (Nat.le_max_left ..) hd
    · exact hm e _ a (Nat.le_max_right ..) (he a ha)
theorem enL_up {d d' : Nat} (hd : d ≤ d') {l : List Sy} {k : Nat} (h : ∃ M, enL (en R W d) l k = some M) : ∃ M, enL (en R W d') l k = some M := by
  obtain ⟨M, hM⟩ := h
  exact ⟨M, enL_mono (en_mono hd) l k M hM⟩
theorem enL_join {s : Sy} {l : List Sy} {k d0 : Nat} {L : List (Tr × Nat)} (hs : en R W d0 s k = some L) (h : ∀ p ∈ L, ∃ d M, enL (en R W d) l p.2 = some M) : ∃ d M, enL (en R W d) (s :: l) k = some M := by
  obtain ⟨d, hd⟩ := deep_all (P := fun d (p : Tr × Nat) => ∃ M, enL (en R W d) l p.2 = some M) (fun _ _ _ hle hp => enL_up hle hp) L h
  refine ⟨max d0 d, ?_⟩
  simp only [enL, en_mono (Nat.le_max_left d0 d) s k L hs]
  refine bindO_ex fun p hp => ?_
  obtain ⟨M, hM⟩ := enL_up (Nat.le_max_right d0 d) (hd p hp)
  exact ⟨_, by rw [hM]; rfl⟩
theorem enL_ex1 : ∀ (l : List Sy) (k : Nat), k ≤ W.length → (∀ k', k ≤ k' → k' ≤ W.length → ∀ s, ∃ d L, en R W d s k' = some L) → ∃ d M, enL (en R W d) l k = some M
  | [], k, _, _ => ⟨0, _, rfl⟩
  | s :: l, k, hk, H => by
    obtain ⟨d, L, hL⟩ := H k (Nat.le_refl _) hk s
    refine enL_join hL fun p hp => ?_
    obtain ⟨a1, a2, _⟩ := ((en_iff d s k L hL p.1 p.2).1 hp).end hk
    exact enL_ex1 l p.2 a2 fun k' h h' => H k' (by omega) h'
theorem enL_ex2 : ∀ (l : List Sy) (k : Nat), k ≤ W.length → (∀ k', k < k' → k' ≤ W.length → ∀ s, ∃ d L, en R W d s k' = some L) → (∀ a s b, l = a ++ s :: b → NulL R a → ∃ d L, en R W d s k = some L) → ∃ d M, enL (en R W d) l k = some M
  | [], k, _, _, _ => ⟨0, _, rfl⟩
  | s :: l, k, hk, H, H2 => by
    obtain ⟨d, L, hL⟩ := H2 [] s l rfl (fun x hx => absurd hx List.not_mem_nil)
    refine enL_join hL fun p hp => ?_
    obtain ⟨a1, a2, a3⟩ := ((en_iff d s k L hL p.1 p.2).1 hp).end hk
    by_cases he : p.2 = k
    · rw [he]
      refine enL_ex2 l k hk H fun a x b e ha => H2 (s :: a) x b (by rw [e]; rfl) fun y hy => ?_
      rcases List.mem_cons.1 hy with rfl | hy
      · exact a3 he _ (List.mem_cons_self ..)
      · exact ha y hy
    · exact enL_ex1 l p.2 a2 fun k' h h' => H k' (by omega) h'
theorem enC_ex (n k : Nat) : ∀ (rs : List Ru) (i : Nat), (∀ u ∈ rs, u.1 = n → ∃ d M, enL (en R W d) u.2 k = some M) → ∃ d M, enC (en R W d) n k i rs = some M
  | [], i, _ => ⟨0, _, rfl⟩
  | u :: rs, i, H => by
    obtain ⟨d2, M2, h2⟩ := enC_ex n k rs (i + 1) fun v hv => H v (List.mem_cons_of_mem _ hv)
    by_cases hn : u.1 = n
    · obtain ⟨d, M, hM⟩ := H u (List.mem_cons_self ..) hn
      have e1 := enL_mono (en_mono (Nat.le_max_left d d2)) u.2 k M hM
      have e2 := enC_mono (en_mono (Nat.le_max_right d d2)) n k rs (i + 1) M2 h2
      exact ⟨max d d2, by simp only [enC, if_pos hn, e1, e2]; exact ⟨_, rfl⟩⟩
    · exact ⟨d2, M2, by simp only [enC, if_neg hn]; exact h2⟩
theorem en_ex {D : Nat → Nat → Bool} {N : Nat} (hD : ∀ i j, D i j = true → i < N ∧ j < N) (hB : ∀ i j, BegM R i j → D i j = true) (hno : ∀ i, ¬ Plus D i i) : ∀ (m k : Nat), k ≤ W.length → W.length - k ≤ m → ∀ s, ∃ d L, en R W d s k = some L := by
  intro m
  induction m using Nat.strongRecOn with
  | ind m ihm =>
    intro k hk hm
    have later : ∀ k', k < k' → k' ≤ W.length → ∀ s, ∃ d L, en R W d s k' = some L := fun k' h1 h2 s => ihm (W.length - k') (by omega) k' h2 (Nat.le_refl _) s
    have term : ∀ x, ∃ d L, en R W d (true, x) k = some L := fun x => ⟨1, _, by rw [en, if_pos rfl]⟩
    have here : ∀ q n, begN D N n ≤ q → ∃ d L, en R W d (false, n) k = some L := by
      intro q
      induction q using Nat.strongRecOn with
      | ind q ihq =>
        intro n hq
        have : ∃ d L, enC (en R W d) n k 0 R = some L := by
          refine enC_ex n k R 0 fun u hu hn => enL_ex2 u.2 k hk later fun a s b e ha => ?_
          obtain ⟨t, x⟩ := s
          cases t with
          | true => exact term x
          | false =>
            have hb : D n x = true := hB n x ⟨a, b, by rw [← e, ← hn]; exact hu, ha⟩
            have := begN_lt hD hno (.one x hb)
            exact ihq (begN D N x) (by omega) x (Nat.le_refl _)
        obtain ⟨d, L, h⟩ := this
        exact ⟨d + 1, L, by rw [en, if_neg (by simp)]; exact h⟩
    intro s
    obtain ⟨t, x⟩ := s
    cases t with
    | true => exact term x
    | false => exact here _ x (Nat.le_refl _)
end
end Go.Proofs.YtfmnmgnhanogmaaDoor




namespace Go.Proofs.YtfmnmgnhanogmaaDoor
open Go.RowKit

/-- of the trees of a part, the one that comes first -/
def IsBest (R : List Ru) (W : List Nat) (k : Ky) (t : Tr) : Prop := DrL R W [k.1] k.2.1 k.2.2 [t] ∧ ∀ u, DrL R W [k.1] k.2.1 k.2.2 [u] → u = t ∨ LtF [t] [u]
/-- a tree for each part of a way -/
inductive AlgW (R : List Ru) (W : List Nat) : List Ky → List Tr → Prop
  | nil : AlgW R W [] []
  | cons (k : Ky) (ks : List Ky) (t : Tr) (ts : List Tr) (h : DrL R W [k.1] k.2.1 k.2.2 [t]) (h2 : AlgW R W ks ts) : AlgW R W (k :: ks) (t :: ts)
section
variable {R : List Ru} {W : List Nat} {D : Ky → Bool}
theorem LtF.trans : ∀ {a b c : List Tr}, LtF a b → LtF b c → LtF a c := by
  intro a b c h
  induction h generalizing c with
  | head r q ks ls ts us h =>
    intro e
    cases e with
    | head _ q' _ ls' _ us' h2 => exact .head r q' _ _ _ _ (by omega)
    | inner _ _ ls' _ us' h2 => exact .head r q _ _ _ _ h
    | tail _ _ us' h2 => exact .head r q _ _ _ _ h
  | inner r ks ls ts us h ih =>
    intro e
    cases e with
    | head _ q' _ ls' _ us' h2 => exact .head r q' _ _ _ _ h2
    | inner _ _ ls' _ us' h2 => exact .inner r _ _ _ _ (ih h2)
    | tail _ _ us' h2 => exact .inner r _ _ _ _ h
  | tail t ts us h ih =>
    intro e
    cases e with
    | head _ q' _ ls' _ us' h2 => exact .head _ q' _ _ _ _ h2
    | inner _ _ ls' _ us' h2 => exact .inner _ _ _ _ _ h2
    | tail _ _ us' h2 => exact .tail _ _ _ (ih h2)
theorem IsBest.uniq {k : Ky} {t u : Tr} (h : IsBest R W k t) (h' : IsBest R W k u) : t = u := by
  rcases h.2 u h'.1 with e | h1
  · exact e.symm
  · rcases h'.2 t h.1 with e | h2
    · exact e
    · exact (h1.asym h2).elim
/-- a row of trees goes along a way -/
theorem way_of (hD : ∀ k t, k.2.1 ≤ W.length → DrL R W [k.1] k.2.1 k.2.2 [t] → D k = true) : ∀ {l : List Sy} {i j : Nat} {ts : List Tr}, i ≤ W.length → DrL R W l i j ts → ∃ w, IsWay D l i j w ∧ AlgW R W w ts
  | [], i, j, ts, hi, h => by cases h; exact ⟨[], .nil i, .nil⟩
  | s :: l, i, j, ts, hi, h => by
    obtain ⟨t, us, m, rfl, h1, h2⟩ := DrL.cons.1 h
    obtain ⟨a1, a2, _⟩ := h1.end hi
    obtain ⟨b1, b2, _⟩ := h2.end a2
    obtain ⟨w, hw, ha⟩ := way_of hD a2 h2
    exact ⟨(s, i, m) :: w, .cons a1 b1 (hD (s, i, m) t hi h1) hw, .cons (s, i, m) w t us h1 ha⟩
theorem row_of {l : List Sy} {i j : Nat} {w : List Ky} (h : IsWay D l i j w) : ∀ {ts : List Tr}, AlgW R W w ts → DrL R W l i j ts := by
  induction h with
  | nil i => intro ts h; cases h; exact .nil i
  | cons h1 h2 h3 h4 ih => intro ts h; cases h with
    | cons _ _ t ts ht hr => exact DrL.cons.2 ⟨t, ts, _, rfl, ht, ih hr⟩
/-- along one way the first trees of the parts come first -/
theorem best_row {b : Ky → Tr} : ∀ {w : List Ky} {ts : List Tr}, (∀ k ∈ w, IsBest R W k (b k)) → AlgW R W w ts → ts = w.map b ∨ LtF (w.map b) ts
  | [], ts, _, h => by cases h; exact Or.inl rfl
  | k :: w, ts, hb, h => by
    cases h with
    | cons _ _ t ts ht hr =>
      rcases (hb k (List.mem_cons_self ..)).2 t ht with rfl | h1
      · rcases best_row (fun q hq => hb q (List.mem_cons_of_mem _ hq)) hr with rfl | h2
        · exact Or.inl rfl
        · exact Or.inr (.tail _ _ _ h2)
      · exact Or.inr (h1.wide _ _)
theorem alg_best {b : Ky → Tr} : ∀ {w : List Ky}, (∀ k ∈ w, IsBest R W k (b k)) → AlgW R W w (w.map b)
  | [], _ => .nil
  | k :: w, hb => .cons k w (b k) (w.map b) (hb k (List.mem_cons_self ..)).1 (alg_best fun q hq => hb q (List.mem_cons_of_mem _ hq))
/-- a pack's tree is a tree of the part -/
theorem pack_tree {b : Ky → Tr} {k : Ky} {p : Nat × List Ky} (hp : p ∈ packsF D R k) (hb : ∀ q ∈ p.2, IsBest R W q (b q)) : DrL R W [k.1] k.2.1 k.2.2 [.node p.1 (p.2.map b)] := by
  obtain ⟨h1, u, h2, h3, h4⟩ := packs_mem hp
  obtain ⟨⟨t, n⟩, i, j⟩ := k
  simp only at h1 h3 h4
  subst h1; subst h3
  exact .node u.1 p.1 i j j u.2 [] _ [] h2 (row_of h4 (alg_best hb)) (.nil j)
/-- the first of the packs' trees is the first of all -/
theorem best_packs (hD : ∀ k t, k.2.1 ≤ W.length → DrL R W [k.1] k.2.1 k.2.2 [t] → D k = true) {b : Ky → Tr} {k : Ky} (hk : k.1.1 = false) (hi : k.2.1 ≤ W.length) {t : Tr} (hb : ∀ p ∈ packsF D R k, ∀ q ∈ p.2, IsBest R W q (b q))
    (h1 : ∃ p ∈ packsF D R k, t = .node p.1 (p.2.map b)) (h2 : ∀ p ∈ packsF D R k, Tr.node p.1 (p.2.map b) = t ∨ LtF [t] [.node p.1 (p.2.map b)]) : IsBest R W k t := by
  obtain ⟨p, hp, rfl⟩ := h1
  refine ⟨pack_tree hp (hb p hp), fun u hu => ?_⟩
  obtain ⟨⟨t, n⟩, i, j⟩ := k
  simp only at hk hi hu
  subst hk
  cases hu with
  | node _ r _ m _ rhs _ ks _ hr h3 h4 =>
    cases h4
    obtain ⟨w, hw, ha⟩ := way_of hD hi h3
    have hm : (r, w) ∈ packsF D R ((false, n), i, j) := packs_mem2 rfl hr rfl hw
    have hle : Tr.node r ks = .node r (w.map b) ∨ LtF [.node r (w.map b)] [.node r ks] := by
      rcases best_row (hb _ hm) ha with rfl | h
      · exact Or.inl rfl
      · exact Or.inr (.inner _ _ _ _ _ h)
    rcases hle with e | h
    · rw [e]; exact h2 _ hm
    · rcases h2 _ hm with e | h5
      · rw [← e]; exact Or.inr h
      · exact Or.inr (h5.trans h)
/-- a tree of a terminal's part is its leaf -/
theorem best_leaf {a i j : Nat} {t : Tr} (h : DrL R W [(true, a)] i j [t]) : t = .leaf a ∧ IsBest R W ((true, a), i, j) (.leaf a) := by
  cases h with
  | leaf _ _ _ _ _ h1 h2 =>
    cases h2
    refine ⟨rfl, .leaf a i _ [] [] h1 (.nil _), fun u hu => ?_⟩
    cases hu with
    | leaf _ _ _ _ _ _ h2 => exact Or.inl rfl
/-- the rules of the packs rise -/
theorem packs_rise {k : Ky} : (packsF D R k).Pairwise fun p q => p.1 ≤ q.1 := by
  unfold packsF packT
  rw [List.pairwise_flatMap]
  refine ⟨fun n _ => ?_, ?_⟩
  · refine List.Pairwise.imp_of_mem (R := fun _ _ => True) (fun ha hb _ => ?_) (List.pairwise_of_forall fun _ _ => trivial)
    rw [(packN_mem ha).1, (packN_mem hb).1]; exact Nat.le_refl _
  · refine List.pairwise_lt_range.imp fun hlt p hp q hq => ?_
    rw [(packN_mem hp).1, (packN_mem hq).1]; exact Nat.le_of_lt hlt
/-- a part of a way is shorter, or it is the whole and all ahead of it is empty -/
theorem way_fall (h0 : ∀ k, D k = true → k.2.1 = k.2.2 → NulL R [k.1]) {l : List Sy} {i j : Nat} {w : List Ky} (h : IsWay D l i j w) : ∀ q ∈ w, q.2.2 - q.2.1 < j - i ∨ (q.2 = (i, j) ∧ ∃ a b, l = a ++ q.1 :: b ∧ NulL R a) := by
  induction h with
  | nil i => intro q hq; exact absurd hq List.not_mem_nil
  | @cons s l i p j w h1 h2 h3 h4 ih =>
    intro q hq
    rcases List.mem_cons.1 hq with rfl | hq2
    · by_cases he : p = j
      · exact Or.inr ⟨by rw [he], [], l, rfl, fun x hx => absurd hx List.not_mem_nil⟩
      · exact Or.inl (by simp only; omega)
    · obtain ⟨k1, k2, k3, k4, k5⟩ := h4.mem q hq2
      by_cases he : i = p
      · subst he
        rcases ih q hq2 with h | ⟨h, a, b, rfl, ha⟩
        · exact Or.inl h
        · refine Or.inr ⟨h, s :: a, b, rfl, fun x hx => ?_⟩
          rcases List.mem_cons.1 hx with rfl | hx
          · exact h0 _ h3 rfl x (List.mem_cons_self ..)
          · exact ha x hx
      · exact Or.inl (by omega)
/-- where no nonterminal begins with itself, each part that has a tree has a first one -/
theorem best_ex {E : Nat → Nat → Bool} {N : Nat} (hD : ∀ i j, E i j = true → i < N ∧ j < N) (hB : ∀ i j, BegM R i j → E i j = true) (hno : ∀ i, ¬ Plus E i i) {k : Ky} (hk : k.2.1 ≤ W.length) (h : ∃ t, DrL R W [k.1] k.2.1 k.2.2 [t]) : ∃ t, IsBest R W k t := by
  obtain ⟨d, L, hL⟩ := en_ex (W := W) hD hB hno (W.length - k.2.1) k.2.1 hk (Nat.le_refl _) k.1
  cases hf : L.find? (fun p => p.2 == k.2.2) with
  | none => obtain ⟨t, ht⟩ := h; exact (en_none hL hf t ht).elim
  | some p => exact ⟨p.1, (en_first hL hf).1, (en_first hL hf).2⟩
end
end Go.Proofs.YtfmnmgnhanogmaaDoor



namespace Go.Proofs.YtfmnmgnhanogmaaDoor
open Go.RowKit

/-- the first of a list for which the continuation gives a tree -/
abbrev fndT {α : Type} (F : α → Nat → Option Tr) (L : List (α × Nat)) : Option Tr := L.findSome? fun p => F p.1 p.2
section
variable {R : List Ru} {W : List Nat} {f : Sy → Nat → Option (List (Tr × Nat))}
/-- a row behind a first symbol -/
theorem fndT_cons {s : Sy} {l : List Sy} {k : Nat} {L : List (Tr × Nat)} {M : List (List Tr × Nat)} (hs : f s k = some L) (h : enL f (s :: l) k = some M) (F : List Tr → Nat → Option Tr) :
    (∀ p ∈ L, ∃ Q, enL f l p.2 = some Q) ∧ fndT F M = fndT (fun t m => match enL f l m with | some Q => fndT (fun ts j => F (t :: ts) j) Q | none => none) L := by
  simp only [enL, hs] at h
  constructor
  · intro p hp
    obtain ⟨y, hy⟩ := bindO_all h p hp
    simp only [Option.map_eq_some_iff] at hy
    obtain ⟨Q, hQ, _⟩ := hy
    exact ⟨Q, hQ⟩
  · clear hs
    induction L generalizing M with
    | nil => simp only [bindO, Option.some.injEq] at h; subst h; rfl
    | cons a L ih =>
      obtain ⟨x, y, hx, hy, rfl⟩ := bindO_cons h
      simp only [Option.map_eq_some_iff] at hx
      obtain ⟨Q, hQ, rfl⟩ := hx
      have e := ih hy
      unfold fndT at e ⊢
      rw [List.findSome?_append, e, List.findSome?_cons]
      simp only [hQ, List.findSome?_map, Function.comp_def]
      cases List.findSome? (fun q : List Tr × Nat => F (a.1 :: q.1) q.2) Q <;> rfl
theorem fndT_skip {n k i : Nat} {u : Ru} {rs : List Ru} (hn : ¬ u.1 = n) : enC f n k i (u :: rs) = enC f n k (i + 1) rs := by
  simp only [enC, if_neg hn]
/-- the continuation at the end of all: the word has been read -/
theorem fndT_end (L : List (Tr × Nat)) (n : Nat) : fndT (fun t j => if j = n then some t else none) L = (L.find? fun p => p.2 == n).map (·.1) := by
  unfold fndT
  induction L with
  | nil => rfl
  | cons a L ih =>
    rw [List.findSome?_cons, List.find?_cons]
    by_cases h : a.2 = n
    · have e : (a.2 == n) = true := by simpa using h
      dsimp only; rw [if_pos h, e]; rfl
    · have e : (a.2 == n) = false := by simpa using h
      dsimp only at ih ⊢; rw [if_neg h, e]; exact ih
end
/-! ### the grammar of goesBack() -/
def gbR : List Ru := [(0, [(false, 1), (false, 1)]), (1, [(true, 0)]), (1, [(true, 0), (true, 0)])]
theorem gb_pg : pg gbR [0, 0, 0] 4 (false, 0) 0 = some (some (.node 0 [.node 1 [.leaf 0], .node 1 [.leaf 0]], 2)) := rfl
theorem gb_en : ∃ L, en gbR [0, 0, 0] 4 (false, 0) 0 = some L ∧ L.find? (fun p => p.2 == 3) = some (.node 0 [.node 1 [.leaf 0], .node 2 [.leaf 0, .leaf 0]], 3) := ⟨_, rfl, rfl⟩
theorem gb_null (n : Nat) : ¬ NullN gbR n := by
  intro h
  induction h with
  | mk N rhs h h1 h2 ih =>
    simp only [gbR, List.mem_cons, Prod.mk.injEq, List.not_mem_nil, or_false] at h
    rcases h with ⟨_, rfl⟩ | ⟨_, rfl⟩ | ⟨_, rfl⟩
    · exact ih (false, 1) (by simp)
    · have := h1 (true, 0) (by simp); simp at this
    · have := h1 (true, 0) (by simp); simp at this
theorem gb_beg (i j : Nat) : BegM gbR i j ↔ i = 0 ∧ j = 1 := by
  rw [← begT_iff (nul := fun _ => false) (fun n => ⟨fun h => (by cases h), fun h => (gb_null n h).elim⟩)]
  simp only [begT, gbR, List.any_cons, List.any_nil, begL, Bool.or_false, List.contains_eq_mem]
  simp
  omega
end Go.Proofs.YtfmnmgnhanogmaaDoor

