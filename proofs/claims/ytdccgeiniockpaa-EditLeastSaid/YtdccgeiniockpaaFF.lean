/- The order of trees: plain laws. -/
import Derived.Test.YtdccgeiniockpaaEE
namespace Go.Proofs.Ytdccgeiniockpaa
open Go.RowKit

theorem cmpI_anti (x y : Int) : cmpI x y = - cmpI y x := by
  unfold cmpI; split <;> split <;> first | rfl | omega
theorem cmpI_zero {x y : Int} : cmpI x y = 0 ↔ x = y := by
  unfold cmpI; constructor
  · intro h; split at h
    · omega
    · split at h <;> omega
  · rintro rfl; simp
theorem cmpI_self (x : Int) : cmpI x x = 0 := cmpI_zero.2 rfl
theorem cmpI_le {x y : Int} : cmpI x y ≤ 0 ↔ x ≤ y := by
  unfold cmpI; constructor
  · intro h; split at h
    · omega
    · split at h <;> omega
  · intro h; split
    · omega
    · rw [if_neg (by omega)]; omega
theorem cmpL_anti : ∀ xs ys : List Int, cmpL xs ys = - cmpL ys xs
  | [], [] => rfl
  | [], _ :: _ => rfl
  | _ :: _, [] => rfl
  | x :: xs, y :: ys => by
    rw [cmpL, cmpL, cmpI_anti x y, cmpL_anti xs ys]
    by_cases h : cmpI y x = 0
    · rw [h]; simp
    · rw [if_neg (by omega), if_neg h]
theorem cmpL_zero : ∀ {xs ys : List Int}, cmpL xs ys = 0 ↔ xs = ys
  | [], [] => by simp [cmpL]
  | [], _ :: _ => by simp [cmpL]
  | _ :: _, [] => by simp [cmpL]
  | x :: xs, y :: ys => by
    rw [cmpL]
    by_cases h : cmpI x y = 0
    · rw [if_pos h, cmpL_zero, cmpI_zero.1 h]; simp
    · rw [if_neg h]
      constructor
      · intro e; exact absurd e h
      · intro e; cases e; exact absurd (cmpI_self x) h
theorem cmpL_trans : ∀ {xs ys zs : List Int}, cmpL xs ys ≤ 0 → cmpL ys zs ≤ 0 → cmpL xs zs ≤ 0
  | [], _, [] => by simp [cmpL]
  | [], _, _ :: _ => by simp [cmpL]
  | _ :: _, [], _ => by intro h; simp [cmpL] at h
  | _ :: _, _ :: _, [] => by intro _ h; simp [cmpL] at h
  | x :: xs, y :: ys, z :: zs => by
    rw [cmpL, cmpL, cmpL]
    intro h1 h2
    by_cases e1 : cmpI x y = 0
    · rw [if_pos e1] at h1
      have := cmpI_zero.1 e1; subst this
      by_cases e2 : cmpI x z = 0
      · rw [if_pos e2] at h2 ⊢
        exact cmpL_trans h1 h2
      · rw [if_neg e2] at h2 ⊢; exact h2
    · rw [if_neg e1] at h1
      have n1 := cmpI_le.1 h1
      by_cases e2 : cmpI y z = 0
      · have := cmpI_zero.1 e2; subst this
        rw [if_neg e1]; exact h1
      · rw [if_neg e2] at h2
        have n2 := cmpI_le.1 h2
        have m1 : x ≠ y := fun e => e1 (cmpI_zero.2 e)
        rw [if_neg (fun e => by have := cmpI_zero.1 e; omega)]
        exact cmpI_le.2 (by omega)
theorem cmpL_append : ∀ {xs ys us vs : List Int}, xs.length = ys.length → cmpL (xs ++ us) (ys ++ vs) = if cmpL xs ys = 0 then cmpL us vs else cmpL xs ys
  | [], [], us, vs, _ => by simp [cmpL]
  | [], _ :: _, _, _, h => by simp at h
  | _ :: _, [], _, _, h => by simp at h
  | x :: xs, y :: ys, us, vs, h => by
    have ih := cmpL_append (xs := xs) (ys := ys) (us := us) (vs := vs) (by simpa using h)
    by_cases e : cmpI x y = 0
    · simp only [List.cons_append, cmpL, e, if_true]; exact ih
    · simp [cmpL, e]

/-- one list that decides the order -/
def Tr.key (t : Tr) : List Int := (t.rls.length : Int) :: (t.rls ++ t.wds)
theorem Tr.cmp_key (a b : Tr) : Tr.cmp a b = cmpL a.key b.key := by
  unfold Tr.cmp Tr.key
  rw [cmpL]
  simp only [orL]
  by_cases h : cmpI (a.rls.length : Int) (b.rls.length : Int) = 0
  · rw [if_pos h, if_pos h, cmpL_append (by have := cmpI_zero.1 h; omega)]
    by_cases h2 : cmpL a.wds b.wds = 0
    · rw [if_pos h2, h2]
    · rw [if_neg h2]
  · rw [if_neg h, if_neg h]
theorem Tr.cmp_anti (a b : Tr) : Tr.cmp a b = - Tr.cmp b a := by rw [Tr.cmp_key, Tr.cmp_key, cmpL_anti]
theorem Tr.cmp_trans {a b c : Tr} (h1 : Tr.cmp a b ≤ 0) (h2 : Tr.cmp b c ≤ 0) : Tr.cmp a c ≤ 0 := by
  rw [Tr.cmp_key] at *; exact cmpL_trans h1 h2
theorem cmpI_bound (x y : Int) : -1 ≤ cmpI x y ∧ cmpI x y ≤ 1 := by
  unfold cmpI; split
  · omega
  · split <;> omega
theorem cmpL_bound : ∀ xs ys : List Int, -1 ≤ cmpL xs ys ∧ cmpL xs ys ≤ 1
  | [], [] => by simp [cmpL]
  | [], _ :: _ => by simp [cmpL]
  | _ :: _, [] => by simp [cmpL]
  | x :: xs, y :: ys => by
    rw [cmpL]; split
    · exact cmpL_bound xs ys
    · exact cmpI_bound x y

theorem Tr.rls_leaf (k : Nat) : (Tr.leaf k).rls = [-1] := by simp [Tr.rls, Tr.pre, Tr.rl]
theorem Tr.wds_leaf (k : Nat) : (Tr.leaf k).wds = [(k : Int)] := by simp [Tr.wds, Tr.pre, Tr.term]
def rlsL (ks : List Tr) : List Int := ks.flatMap Tr.rls
def wdsL (ks : List Tr) : List Int := ks.flatMap Tr.wds
theorem pres_rls (ks : List Tr) : (Tr.pres ks).flatMap (fun x => [x.rl]) = rlsL ks := by
  induction ks with
  | nil => simp [Tr.pres, rlsL]
  | cons t ts ih => simp only [Tr.pres, List.flatMap_append, ih, rlsL, List.flatMap_cons, Tr.rls]
theorem pres_wds (ks : List Tr) : (Tr.pres ks).flatMap Tr.term = wdsL ks := by
  induction ks with
  | nil => simp [Tr.pres, wdsL]
  | cons t ts ih => simp only [Tr.pres, List.flatMap_append, ih, wdsL, List.flatMap_cons, Tr.wds]
theorem Tr.rls_node (r : Nat) (ks : List Tr) : (Tr.node r ks).rls = (r : Int) :: rlsL ks := by
  rw [Tr.rls, Tr.pre, List.flatMap_cons, pres_rls]; rfl
theorem Tr.wds_node (r : Nat) (ks : List Tr) : (Tr.node r ks).wds = wdsL ks := by
  rw [Tr.wds, Tr.pre, List.flatMap_cons, pres_wds]; rfl

/-- the rules in preorder and the word determine a tree -/
def DetP (g : Gr) (s : Sy) (a : Tr) : Prop := ∀ (b : Tr) (u v u' v' : List Int), Der g s b → a.rls ++ u = b.rls ++ v → a.wds ++ u' = b.wds ++ v' → a = b ∧ u = v ∧ u' = v'
theorem det_list (g : Gr) : ∀ (rhs : List Sy) (ks ks' : List Tr) (u v u' v' : List Int), ks.length = rhs.length → ks'.length = rhs.length →
    (∀ (j : Nat) (s : Sy) (t : Tr), rhs[j]? = some s → ks[j]? = some t → DetP g s t) → (∀ (j : Nat) (s : Sy) (t : Tr), rhs[j]? = some s → ks'[j]? = some t → Der g s t) →
    rlsL ks ++ u = rlsL ks' ++ v → wdsL ks ++ u' = wdsL ks' ++ v' → ks = ks' ∧ u = v ∧ u' = v'
  | [], [], [], u, v, u', v', _, _, _, _, h1, h2 => ⟨rfl, by simpa [rlsL] using h1, by simpa [wdsL] using h2⟩
  | s :: rhs, k :: ks, k' :: ks', u, v, u', v', l1, l2, d1, d2, h1, h2 => by
    simp only [rlsL, wdsL, List.flatMap_cons, List.append_assoc] at h1 h2
    obtain ⟨e1, e2, e3⟩ := d1 0 s k rfl rfl k' _ _ _ _ (d2 0 s k' rfl rfl) h1 h2
    obtain ⟨e4, e5, e6⟩ := det_list g rhs ks ks' u v u' v' (by simpa using l1) (by simpa using l2) (fun j s t hs ht => d1 (j + 1) s t hs ht) (fun j s t hs ht => d2 (j + 1) s t hs ht) e2 e3
    exact ⟨by rw [e1, e4], e5, e6⟩
  | [], [], _ :: _, _, _, _, _, _, h, _, _, _, _ => by simp at h
  | [], _ :: _, _, _, _, _, _, h, _, _, _, _, _ => by simp at h
  | _ :: _, [], _, _, _, _, _, h, _, _, _, _, _ => by simp at h
  | _ :: _, _ :: _, [], _, _, _, _, _, h, _, _, _, _ => by simp at h
theorem Der.det {g : Gr} {s : Sy} {a : Tr} (h : Der g s a) : DetP g s a := by
  induction h with
  | leaf t =>
    intro b u v u' v' hb h1 h2
    cases hb with
    | leaf => rw [Tr.rls_leaf] at h1; rw [Tr.wds_leaf] at h2; exact ⟨rfl, by simpa using h1, by simpa using h2⟩
  | node r N rhs ks hr hl hk ih =>
    intro b u v u' v' hb h1 h2
    cases hb with
    | node r' _ rhs' ks' hr' hl' hk' =>
      rw [Tr.rls_node, Tr.rls_node] at h1
      rw [Tr.wds_node, Tr.wds_node] at h2
      simp only [List.cons_append, List.cons.injEq] at h1
      obtain ⟨e1, h1⟩ := h1
      have e1' : r = r' := by omega
      subst e1'
      rw [hr] at hr'
      have e2 : rhs = rhs' := by simpa using hr'
      subst e2
      obtain ⟨e3, e4, e5⟩ := det_list g rhs ks ks' u v u' v' hl hl' ih hk' h1 h2
      exact ⟨by rw [e3], e4, e5⟩
theorem Tr.cmp_zero {g : Gr} {s : Sy} {a b : Tr} (ha : Der g s a) (hb : Der g s b) : Tr.cmp a b = 0 ↔ a = b := by
  rw [Tr.cmp_key, cmpL_zero]
  constructor
  · intro h
    unfold Tr.key at h
    simp only [List.cons.injEq] at h
    obtain ⟨h0, h1⟩ := h
    obtain ⟨h2, h3⟩ := List.append_inj h1 (by omega)
    exact (ha.det b [] [] [] [] hb (by rw [h2]) (by rw [h3])).1
  · rintro rfl; rfl
theorem cmp_two : Tr.cmp twoT (.leaf 0) = 1 := by decide
end Go.Proofs.Ytdccgeiniockpaa
