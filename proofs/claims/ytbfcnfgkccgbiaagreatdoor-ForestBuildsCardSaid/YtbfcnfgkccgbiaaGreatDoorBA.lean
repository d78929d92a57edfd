/- Texts BA, BE, laid together. -/
import Derived.Test.YtbfcnfgkccgbiaaGreatDoorC1
import Derived.Test.YtbfcnfgkccgbiaaGreatDoorE1


namespace Go.Proofs.YtbfcnfgkccgbiaaGreatDoor
open Go.RowKit

/-- a symbol with a part of the word -/
abbrev Ky := Sy × Nat × Nat
section
variable (D : Ky → Bool)
def someF : List Sy → Nat → Nat → Bool
  | [], i, j => decide (i = j)
  | s :: l, i, j => (List.range (j + 1 - i)).any fun q => D (s, i, i + q) && someF l (i + q) j
def waysF : List Sy → Nat → Nat → List (List Ky)
  | [], i, j => if i = j then [[]] else []
  | s :: l, i, j => (List.range (j + 1 - i)).flatMap fun q => if (D (s, i, i + q) && someF D l (i + q) j) = true then (waysF l (i + q) j).map ((s, i, i + q) :: ·) else []
/-- the packs of a node by rule n -/
def packN (R : List Ru) (k : Ky) (n : Nat) : List (Nat × List Ky) := match R[n]? with
  | some u => if u.1 = k.1.2 ∧ k.1.1 = false then (waysF D u.2 k.2.1 k.2.2).map fun p => (n, p) else []
  | none => []
/-- .. by the first m rules -/
def packT (R : List Ru) (k : Ky) (m : Nat) : List (Nat × List Ky) := (List.range m).flatMap (packN D R k)
def packsF (R : List Ru) (k : Ky) : List (Nat × List Ky) := packT D R k R.length
inductive RchK (R : List Ru) (root : Ky) : Ky → Prop
  | root : RchK R root root
  | kid {k : Ky} {p : Nat × List Ky} {q : Ky} : RchK R root k → p ∈ packsF D R k → q ∈ p.2 → RchK R root q
end
section
variable {D : Ky → Bool}
theorem some_iff {s : Sy} {l : List Sy} {i j : Nat} : someF D (s :: l) i j = true ↔ ∃ p, i ≤ p ∧ p ≤ j ∧ D (s, i, p) = true ∧ someF D l p j = true := by
  simp only [someF, List.any_eq_true, List.mem_range, Bool.and_eq_true]
  constructor
  · rintro ⟨q, hq, h1, h2⟩; exact ⟨i + q, by omega, by omega, h1, h2⟩
  · rintro ⟨p, h1, h2, h3, h4⟩
    refine ⟨p - i, by omega, ?_⟩
    rw [show i + (p - i) = p by omega]; exact ⟨h3, h4⟩
theorem ways_nil {l : List Sy} {i j : Nat} (h : someF D l i j = false) : waysF D l i j = [] := by
  cases l with
  | nil => simp only [someF, decide_eq_false_iff_not] at h; simp [waysF, h]
  | cons s l =>
    simp only [waysF, List.flatMap_eq_nil_iff]
    intro q hq
    simp only [someF, List.any_eq_false] at h
    rw [if_neg (h q hq)]
/-- what a way is -/
inductive IsWay (D : Ky → Bool) : List Sy → Nat → Nat → List Ky → Prop
  | nil (i : Nat) : IsWay D [] i i []
  | cons {s : Sy} {l : List Sy} {i p j : Nat} {w : List Ky} : i ≤ p → p ≤ j → D (s, i, p) = true → IsWay D l p j w → IsWay D (s :: l) i j ((s, i, p) :: w)
theorem IsWay.some {l : List Sy} {i j : Nat} {w : List Ky} (h : IsWay D l i j w) : someF D l i j = true := by
  induction h with
  | nil i => simp [someF]
  | cons h1 h2 h3 _ ih => exact some_iff.2 ⟨_, h1, h2, h3, ih⟩
theorem IsWay.le {l : List Sy} {i j : Nat} {w : List Ky} (h : IsWay D l i j w) : i ≤ j := by
  induction h with
  | nil i => exact Nat.le_refl _
  | cons h1 h2 _ _ _ => omega
theorem ways_iff {l : List Sy} : ∀ {i j : Nat} {w : List Ky}, w ∈ waysF D l i j ↔ IsWay D l i j w := by
  induction l with
  | nil =>
    intro i j w
    simp only [waysF]
    constructor
    · intro h
      by_cases e : i = j
      · rw [if_pos e] at h; simp at h; subst h; subst e; exact .nil i
      · rw [if_neg e] at h; simp at h
    · intro h; cases h; simp
  | cons s l ih =>
    intro i j w
    simp only [waysF, List.mem_flatMap, List.mem_range]
    constructor
    · rintro ⟨q, hq, h⟩
      by_cases e : (D (s, i, i + q) && someF D l (i + q) j) = true
      · rw [if_pos e] at h
        obtain ⟨w', hw', rfl⟩ := List.mem_map.1 h
        simp only [Bool.and_eq_true] at e
        exact .cons (by omega) (by omega) e.1 (ih.1 hw')
      · rw [if_neg e] at h; simp at h
    · intro h
      cases h with
      | @cons _ _ _ p _ w' h1 h2 h3 h4 =>
        refine ⟨p - i, by omega, ?_⟩
        rw [show i + (p - i) = p by omega, if_pos (by rw [h3, h4.some]; rfl)]
        exact List.mem_map.2 ⟨w', ih.2 h4, rfl⟩
theorem IsWay.mem {l : List Sy} {i j : Nat} {w : List Ky} (h : IsWay D l i j w) : ∀ q ∈ w, D q = true ∧ i ≤ q.2.1 ∧ q.2.1 ≤ q.2.2 ∧ q.2.2 ≤ j ∧ q.1 ∈ l := by
  induction h with
  | nil i => intro q hq; simp at hq
  | cons h1 h2 h3 h4 ih =>
    intro q hq
    rcases List.mem_cons.1 hq with rfl | hq
    · exact ⟨h3, Nat.le_refl _, h1, h2, by simp⟩
    · obtain ⟨k1, k2, k3, k4, k5⟩ := ih q hq
      exact ⟨k1, by omega, k3, k4, by simp [k5]⟩
theorem IsWay.len {l : List Sy} {i j : Nat} {w : List Ky} (h : IsWay D l i j w) : w.length = l.length := by
  induction h with
  | nil i => rfl
  | cons _ _ _ _ ih => simp [ih]
theorem packN_mem {R : List Ru} {k : Ky} {n : Nat} {p : Nat × List Ky} (h : p ∈ packN D R k n) : p.1 = n ∧ k.1.1 = false ∧ ∃ u, R[n]? = some u ∧ u.1 = k.1.2 ∧ IsWay D u.2 k.2.1 k.2.2 p.2 := by
  unfold packN at h
  cases hu : R[n]? with
  | none => rw [hu] at h; simp at h
  | some u =>
    rw [hu] at h
    simp only at h
    by_cases e : u.1 = k.1.2 ∧ k.1.1 = false
    · rw [if_pos e] at h
      obtain ⟨w, hw, rfl⟩ := List.mem_map.1 h
      exact ⟨rfl, e.2, u, rfl, e.1, ways_iff.1 hw⟩
    · rw [if_neg e] at h; simp at h
theorem packs_mem {R : List Ru} {k : Ky} {p : Nat × List Ky} (h : p ∈ packsF D R k) : k.1.1 = false ∧ ∃ u, R[p.1]? = some u ∧ u.1 = k.1.2 ∧ IsWay D u.2 k.2.1 k.2.2 p.2 := by
  unfold packsF packT at h
  obtain ⟨n, -, h⟩ := List.mem_flatMap.1 h
  obtain ⟨rfl, h2, h3⟩ := packN_mem h
  exact ⟨h2, h3⟩
theorem packs_mem2 {R : List Ru} {k : Ky} {n : Nat} {u : Ru} {w : List Ky} (h1 : k.1.1 = false) (h2 : R[n]? = some u) (h3 : u.1 = k.1.2) (h4 : IsWay D u.2 k.2.1 k.2.2 w) : (n, w) ∈ packsF D R k := by
  unfold packsF packT
  refine List.mem_flatMap.2 ⟨n, List.mem_range.2 (List.getElem?_eq_some_iff.1 h2).1, ?_⟩
  unfold packN
  rw [h2]
  simp only [h3, h1, and_self, if_true]
  exact List.mem_map.2 ⟨w, ways_iff.2 h4, rfl⟩
theorem packT_next (R : List Ru) (k : Ky) (m : Nat) : packT D R k (m + 1) = packT D R k m ++ packN D R k m := by
  unfold packT; rw [List.range_succ, List.flatMap_append]; simp

/-! ### the order of nodes -/
def rkS (s : Sy) : Nat := if s.1 then s.2 else 100 + s.2
def kyN (k : Ky) : Nat := (k.2.1 * 100 + k.2.2) * 1000 + rkS k.1
/-- keys of small size: their number tells them -/
def Ky.Ok (k : Ky) : Prop := k.2.1 < 100 ∧ k.2.2 < 100 ∧ k.1.2 < 100
theorem kyN_inj {a b : Ky} (ha : a.Ok) (hb : b.Ok) (h : kyN a = kyN b) : a = b := by
  obtain ⟨⟨ab, an⟩, ai, aj⟩ := a
  obtain ⟨⟨bb, bn⟩, bi, bj⟩ := b
  obtain ⟨h1, h2, h3⟩ := ha
  obtain ⟨k1, k2, k3⟩ := hb
  simp only at h1 h2 h3 k1 k2 k3
  simp only [kyN, rkS] at h
  cases ab <;> cases bb <;> simp only [Bool.false_eq_true, if_false, if_true] at h <;> simp only [Prod.mk.injEq, true_and, false_and, Bool.false_eq_true, Bool.true_eq_false] <;> omega
/-- the nodes: all keys that are reached, in order -/
structure IsNds (D : Ky → Bool) (R : List Ru) (root : Ky) (L : List Ky) : Prop where
  sorted : L.Pairwise fun a b => kyN a < kyN b
  mem : ∀ k, k ∈ L ↔ RchK D R root k
theorem IsNds.nodup {R : List Ru} {root : Ky} {L : List Ky} (h : IsNds D R root L) : L.Nodup := h.sorted.imp fun hab e => by rw [e] at hab; omega
theorem IsNds.uniq {R : List Ru} {root : Ky} {L L' : List Ky} (h : IsNds D R root L) (h' : IsNds D R root L') : L = L' := by
  refine List.Perm.eq_of_pairwise (le := fun a b => kyN a < kyN b) (fun a b _ _ h1 h2 => by omega) h.sorted h'.sorted ?_
  refine (List.perm_ext_iff_of_nodup h.nodup h'.nodup).2 fun k => ?_
  rw [h.mem, h'.mem]
/-- the number of a node -/
def idxK (L : List Ky) (k : Ky) : Nat := L.idxOf k
theorem idxK_lt {L : List Ky} {k : Ky} (h : k ∈ L) : idxK L k < L.length := List.idxOf_lt_length_iff.2 h
theorem idxK_get {L : List Ky} {k : Ky} (h : k ∈ L) : L[idxK L k]? = some k := by
  unfold idxK
  rw [List.getElem?_eq_getElem (List.idxOf_lt_length_iff.2 h), List.getElem_idxOf]
theorem idxK_mono {L : List Ky} (hs : L.Pairwise fun a b => kyN a < kyN b) {a b : Ky} (ha : a ∈ L) (hb : b ∈ L) (h : kyN a < kyN b) : idxK L a < idxK L b := by
  apply Classical.byContradiction
  intro hn
  have e1 := idxK_get ha
  have e2 := idxK_get hb
  rcases Nat.lt_or_ge (idxK L b) (idxK L a) with hlt | hge
  · have h3 := List.pairwise_iff_getElem.1 hs _ _ (idxK_lt hb) (idxK_lt ha) hlt
    rw [List.getElem?_eq_getElem (idxK_lt ha)] at e1
    rw [List.getElem?_eq_getElem (idxK_lt hb)] at e2
    rw [Option.some.inj e1, Option.some.inj e2] at h3
    omega
  · have : idxK L a = idxK L b := by omega
    rw [this, e2] at e1
    rw [Option.some.inj e1] at h; omega
/-- a node of the forest -/
abbrev Nd := Ky × List (Nat × List Nat)
def ndF (D : Ky → Bool) (R : List Ru) (L : List Ky) (k : Ky) : Nd := (k, (packsF D R k).map fun p => (p.1, p.2.map (idxK L)))
/-- how many packs in all -/
def totP (D : Ky → Bool) (R : List Ru) (L : List Ky) : Nat := (L.map fun k => (packsF D R k).length).sum
theorem totP_perm {R : List Ru} {L L' : List Ky} (h : L.Perm L') : totP D R L = totP D R L' := (h.map _).sum_nat
end
end Go.Proofs.YtbfcnfgkccgbiaaGreatDoor




namespace Go.Proofs.YtbfcnfgkccgbiaaGreatDoor
open Go.RowKit

def dOf (xs : List Int) (E : EnS) (k : Ky) : Bool := (cOf xs E k.1 k.2.1).testBit k.2.2
/-- bits stand within the word -/
def SupE (n : Nat) (E : EnS) : Prop := ∀ N i j, (E N i).testBit j = true → i ≤ j ∧ j ≤ n
/-- a span is derived -/
def DvS (rules : List Ru) (xs : List Int) (k : Ky) : Prop := k.2.1 ≤ k.2.2 ∧ k.2.2 ≤ xs.length ∧ Dv rules [k.1] (part xs k.2.1 k.2.2)
section
variable {rules : List Ru} {xs : List Int} {E : EnS} {D : Ky → Bool}
theorem dOf_term {t i j : Nat} : dOf xs E ((true, t), i, j) = true ↔ xs[i]? = some (t : Int) ∧ j = i + 1 := by
  simp only [dOf, cOf, if_true]
  by_cases h : xs[i]? = some (t : Int)
  · rw [if_pos h, Nat.testBit_two_pow, decide_eq_true_eq]
    constructor
    · intro e; exact ⟨h, e.symm⟩
    · rintro ⟨-, e⟩; exact e.symm
  · rw [if_neg h]
    simp [h]
theorem dOf_non {N i j : Nat} : dOf xs E ((false, N), i, j) = (E N i).testBit j := by simp [dOf, cOf]
theorem dOf_le (hE : SupE xs.length E) {k : Ky} (h : dOf xs E k = true) : k.2.1 ≤ k.2.2 ∧ k.2.2 ≤ xs.length := by
  obtain ⟨⟨b, N⟩, i, j⟩ := k
  cases b with
  | true =>
    obtain ⟨h1, rfl⟩ := dOf_term.1 h
    have := (List.getElem?_eq_some_iff.1 h1).1
    simp only; omega
  | false => rw [dOf_non] at h; exact hE _ _ _ h
theorem someF_le : ∀ {l : List Sy} {i j : Nat}, someF D l i j = true → i ≤ j
  | [], i, j, h => by simp only [someF, decide_eq_true_eq] at h; omega
  | s :: l, i, j, h => by
    obtain ⟨p, h1, h2, -, -⟩ := some_iff.1 h
    omega
theorem reach_some (hE : SupE xs.length E) (hl : xs.length < 32) : ∀ (l : List Sy) (y j : Nat), (∀ p, y.testBit p = true → p ≤ xs.length) →
    ((l.foldl (fun y s => stepM xs E s y) y).testBit j = true ↔ ∃ p, y.testBit p = true ∧ someF (dOf xs E) l p j = true) := by
  intro l
  induction l with
  | nil =>
    intro y j _
    simp only [List.foldl_nil, someF, decide_eq_true_eq]
    constructor
    · intro h; exact ⟨j, h, rfl⟩
    · rintro ⟨p, h, rfl⟩; exact h
  | cons s l ih =>
    intro y j hy
    rw [List.foldl_cons, ih (stepM xs E s y) j (fun p hp => by
      obtain ⟨q, -, -, h2⟩ := stepM_bit.1 hp
      exact (dOf_le hE (k := (s, q, p)) h2).2)]
    constructor
    · rintro ⟨p, h1, h2⟩
      obtain ⟨q, hq, h3, h4⟩ := stepM_bit.1 h1
      have h5 := dOf_le hE (k := (s, q, p)) h4
      exact ⟨q, h3, some_iff.2 ⟨p, h5.1, someF_le h2, h4, h2⟩⟩
    · rintro ⟨q, h1, h2⟩
      obtain ⟨p, h3, h4, h5, h6⟩ := some_iff.1 h2
      exact ⟨p, stepM_bit.2 ⟨q, by have := hy q h1; omega, h1, h5⟩, h6⟩
theorem reach_iff (hE : SupE xs.length E) (hl : xs.length < 32) (l : List Sy) {i : Nat} (hi : i ≤ xs.length) (j : Nat) : (reachM xs E l i).testBit j = someF (dOf xs E) l i j := by
  have h := reach_some hE hl l (2 ^ i) j (fun p hp => by rw [Nat.testBit_two_pow, decide_eq_true_eq] at hp; omega)
  have h2 : (reachM xs E l i).testBit j = true ↔ someF (dOf xs E) l i j = true := by
    unfold reachM
    rw [h]
    constructor
    · rintro ⟨p, h1, h2⟩
      rw [Nat.testBit_two_pow, decide_eq_true_eq] at h1
      subst h1; exact h2
    · intro h2; exact ⟨i, by rw [Nat.testBit_two_pow]; simp, h2⟩
  exact Bool.eq_iff_iff.2 h2
theorem dv_one {t : Nat} {v : List Int} : Dv rules [(true, t)] v ↔ v = [(t : Int)] := by
  constructor
  · intro h
    cases h with
    | term t h => cases h; rfl
  · rintro rfl; exact Dv.letter t
theorem part_one {i j : Nat} (h1 : i ≤ j) (h2 : j ≤ xs.length) {t : Int} : part xs i j = [t] ↔ xs[i]? = some t ∧ j = i + 1 := by
  constructor
  · intro e
    have hj : j = i + 1 := by
      have := part_len (w := xs) (i := i) (j := j) h2
      rw [e] at this; simp at this; omega
    subst hj
    exact ⟨gpart_one e, rfl⟩
  · rintro ⟨h, rfl⟩; exact gpart_at h
theorem dOf_iff (hs : SndE rules xs E) (hf : FixE rules xs E) (hl : xs.length < 32) (k : Ky) : dOf xs E k = true ↔ DvS rules xs k := by
  obtain ⟨⟨b, N⟩, i, j⟩ := k
  cases b with
  | true =>
    rw [dOf_term]
    unfold DvS
    simp only
    constructor
    · rintro ⟨h, rfl⟩
      have := (List.getElem?_eq_some_iff.1 h).1
      exact ⟨by omega, by omega, dv_one.2 (gpart_at h)⟩
    · rintro ⟨h1, h2, h3⟩
      exact (part_one h1 h2).1 (dv_one.1 h3)
  | false =>
    rw [dOf_non]
    constructor
    · intro h; exact hs.snd N i j h
    · rintro ⟨h1, h2, h3⟩
      simp only at h1 h2 h3
      have := hf.all hl h3 i j h1 h2 rfl [] i (by simp [reachM])
      rw [List.nil_append, show [(false, N)] = [] ++ [((false, N) : Sy)] from rfl, reachM_snoc, stepM_bit] at this
      obtain ⟨p, hp, h4, h5⟩ := this
      simp only [reachM, List.foldl_nil, Nat.testBit_two_pow, decide_eq_true_eq] at h4
      subst h4
      simpa [cOf] using h5
theorem SndE.sup (h : SndE rules xs E) : SupE xs.length E := fun N i j hj => ⟨(h.snd N i j hj).1, (h.snd N i j hj).2.1⟩

/-! ### the reference's spans -/
/-- spans that have been found: sound, and the letters -/
structure SpOk (rules : List Ru) (xs : List Int) (S : Ky → Bool) : Prop where
  snd : ∀ k, S k = true → DvS rules xs k
  ltr : ∀ i t : Nat, xs[i]? = some (t : Int) → S ((true, t), i, i + 1) = true
def FixS (rules : List Ru) (n : Nat) (S : Ky → Bool) : Prop := ∀ u ∈ rules, ∀ i j, i ≤ j → j ≤ n → someF S u.2 i j = true → S ((false, u.1), i, j) = true
theorem some_dv {S : Ky → Bool} (hs : ∀ k, S k = true → DvS rules xs k) : ∀ {l : List Sy} {i j : Nat}, j ≤ xs.length → someF S l i j = true → i ≤ j ∧ Dv rules l (part xs i j) := by
  intro l
  induction l with
  | nil =>
    intro i j hj h
    simp only [someF, decide_eq_true_eq] at h
    subst h
    exact ⟨Nat.le_refl _, by rw [part_same]; exact .nil⟩
  | cons s l ih =>
    intro i j hj h
    obtain ⟨p, h1, h2, h3, h4⟩ := some_iff.1 h
    obtain ⟨-, -, h5⟩ := hs _ h3
    obtain ⟨-, h6⟩ := ih hj h4
    refine ⟨by omega, ?_⟩
    rw [← part_append h1 h2]
    exact h5.append h6
theorem dv_some {S : Ky → Bool} (ho : SpOk rules xs S) (hf : FixS rules xs.length S) {l : List Sy} {v : List Int} (h : Dv rules l v) : ∀ i j, i ≤ j → j ≤ xs.length → v = part xs i j → someF S l i j = true := by
  induction h with
  | nil =>
    intro i j h1 h2 e
    have := part_len (w := xs) (i := i) h2
    rw [← e] at this
    simp at this
    simp only [someF, decide_eq_true_eq]; omega
  | @term t l v h ih =>
    intro i j h1 h2 e
    obtain ⟨m, m1, m2, e1, e2⟩ := part_split (p1 := [(t : Int)]) h1 h2 e.symm
    obtain ⟨hx, rfl⟩ := (part_one m1 (by omega)).1 e1
    exact some_iff.2 ⟨i + 1, by omega, m2, ho.ltr i t hx, ih _ _ m2 h2 e2.symm⟩
  | @non N rhs l u v hr hu hv ih1 ih2 =>
    intro i j h1 h2 e
    obtain ⟨m, m1, m2, e1, e2⟩ := part_split h1 h2 e.symm
    exact some_iff.2 ⟨m, m1, m2, hf _ hr i m m1 (by omega) (ih1 i m m1 (by omega) e1.symm), ih2 m j m2 h2 e2.symm⟩
theorem SpOk.iff {S : Ky → Bool} (ho : SpOk rules xs S) (hf : FixS rules xs.length S) (k : Ky) : S k = true ↔ DvS rules xs k := by
  constructor
  · exact ho.snd k
  · obtain ⟨⟨b, N⟩, i, j⟩ := k
    rintro ⟨h1, h2, h3⟩
    simp only at h1 h2 h3
    have h4 := dv_some ho hf h3 i j h1 h2 rfl
    obtain ⟨p, p1, p2, p3, p4⟩ := some_iff.1 h4
    simp only [someF, decide_eq_true_eq] at p4
    subst p4; exact p3
/-- both find the same -/
theorem span_same {S : Ky → Bool} (ho : SpOk rules xs S) (hf : FixS rules xs.length S) (hs : SndE rules xs E) (hfe : FixE rules xs E) (hl : xs.length < 32) : S = dOf xs E := by
  funext k
  exact Bool.eq_iff_iff.2 ((ho.iff hf k).trans (dOf_iff hs hfe hl k).symm)
end
end Go.Proofs.YtbfcnfgkccgbiaaGreatDoor

