/- Texts BE, BD, LK, BK, OD, BL, PA, PC, laid together. -/
import Derived.Test.YtfmnmgnhanogmaaDoorQ15
import Derived.Test.YtfmnmgnhanogmaaDoorQ4
import Derived.Test.YtfmnmgnhanogmaaDoorQ1
import Derived.Test.YtfmnmgnhanogmaaDoorQ11
import Derived.Test.YtfmnmgnhanogmaaDoorQ14
import Derived.Test.YtfmnmgnhanogmaaDoorQ12
import Derived.Test.YtfmnmgnhanogmaaDoorQ2
import Derived.Test.YtfmnmgnhanogmaaDoorQ3
import Derived.Maps.RangeWalk



namespace Go.Proofs.YtfmnmgnhanogmaaDoor
open Go.RowKit

def dOf (xs : List Int) (E : EnS) (k : Ky) : Bool := (cOf xs E k.1 k.2.1).testBit k.2.2
/-- bits stand within the word -/
def SupE (n : Nat) (E : EnS) : Prop := ∀ N i j, (E N i).testBit j = true → i ≤ j ∧ j ≤ n
/-- a span is derived -/
def DvS (rules : List Ru) (xs : List Int) (k : Ky) : Prop := k.2.1 ≤ k.2.2 ∧ k.2.2 ≤ xs.length ∧ Dv rules [k.1] (part xs k.2.1 k.2.2)
section
variable {rules : List Ru} {xs : List Int} {E : EnS} {D : Ky → Bool}
theorem dOf_term {t i j : Nat} : dOf xs E ((true, t), i, j) = true ↔ xs[i]? = some (t : Int) ∧ j = i + 1 := by
  simp only [dOf, cOf, if_true]
  by_cases h : xs[i]? = some (t : Int)
  · rw [if_pos h, Nat.testBit_two_pow, decide_eq_true_eq]
    constructor
    · intro e; exact ⟨h, e.symm⟩
    · rintro ⟨-, e⟩; exact e.symm
  · rw [if_neg h]
    simp [h]
theorem dOf_non {N i j : Nat} : dOf xs E ((false, N), i, j) = (E N i).testBit j := by simp [dOf, cOf]
theorem dOf_le (hE : SupE xs.length E) {k : Ky} (h : dOf xs E k = true) : k.2.1 ≤ k.2.2 ∧ k.2.2 ≤ xs.length := by
  obtain ⟨⟨b, N⟩, i, j⟩ := k
  cases b with
  | true =>
    obtain ⟨h1, rfl⟩ := dOf_term.1 h
    have := (List.getElem?_eq_some_iff.1 h1).1
    simp only; omega
  | false => rw [dOf_non] at h; exact hE _ _ _ h
theorem someF_le : ∀ {l : List Sy} {i j : Nat}, someF D l i j = true → i ≤ j
  | [], i, j, h => by simp only [someF, decide_eq_true_eq] at h; omega
  | s :: l, i, j, h => by
    obtain ⟨p, h1, h2, -, -⟩ := some_iff.1 h
    omega
theorem reach_some (hE : SupE xs.length E) (hl : xs.length < 32) : ∀ (l : List Sy) (y j : Nat), (∀ p, y.testBit p = true → p ≤ xs.length) →
    ((l.foldl (fun y s => stepM xs E s y) y).testBit j = true ↔ ∃ p, y.testBit p = true ∧ someF (dOf xs E) l p j = true) := by
  intro l
  induction l with
  | nil =>
    intro y j _
    simp only [List.foldl_nil, someF, decide_eq_true_eq]
    constructor
    · intro h; exact ⟨j, h, rfl⟩
    · rintro ⟨p, h, rfl⟩; exact h
  | cons s l ih =>
    intro y j hy
    rw [List.foldl_cons, ih (stepM xs E s y) j (fun p hp => by
      obtain ⟨q, -, -, h2⟩ := stepM_bit.1 hp
      exact (dOf_le hE (k := (s, q, p)) h2).2)]
    constructor
    · rintro ⟨p, h1, h2⟩
      obtain ⟨q, hq, h3, h4⟩ := stepM_bit.1 h1
      have h5 := dOf_le hE (k := (s, q, p)) h4
      exact ⟨q, h3, some_iff.2 ⟨p, h5.1, someF_le h2, h4, h2⟩⟩
    · rintro ⟨q, h1, h2⟩
      obtain ⟨p, h3, h4, h5, h6⟩ := some_iff.1 h2
      exact ⟨p, stepM_bit.2 ⟨q, by have := hy q h1; omega, h1, h5⟩, h6⟩
theorem reach_iff (hE : SupE xs.length E) (hl : xs.length < 32) (l : List Sy) {i : Nat} (hi : i ≤ xs.length) (j : Nat) : (reachM xs E l i).testBit j = someF (dOf xs E) l i j := by
  have h := reach_some hE hl l (2 ^ i) j (fun p hp => by rw [Nat.testBit_two_pow, decide_eq_true_eq] at hp; omega)
  have h2 : (reachM xs E l i).testBit j = true ↔ someF (dOf xs E) l i j = true := by
    unfold reachM
    rw [h]
    constructor
    · rintro ⟨p, h1, h2⟩
      rw [Nat.testBit_two_pow, decide_eq_true_eq] at h1
      subst h1; exact h2
    · intro h2; exact ⟨i, by rw [Nat.testBit_two_pow]; simp, h2⟩
  exact Bool.eq_iff_iff.2 h2
theorem dv_one {t : Nat} {v : List Int} : Dv rules [(true, t)] v ↔ v = [(t : Int)] := by
  constructor
  · intro h
    cases h with
    | term t h => cases h; rfl
  · rintro rfl; exact Dv.letter t
theorem part_one {i j : Nat} (h1 : i ≤ j) (h2 : j ≤ xs.length) {t : Int} : part xs i j = [t] ↔ xs[i]? = some t ∧ j = i + 1 := by
  constructor
  · intro e
    have hj : j = i + 1 := by
      have := part_len (w := xs) (i := i) (j := j) h2
      rw [e] at this; simp at this; omega
    subst hj
    exact ⟨gpart_one e, rfl⟩
  · rintro ⟨h, rfl⟩; exact gpart_at h
theorem dOf_iff (hs : SndE rules xs E) (hf : FixE rules xs E) (hl : xs.length < 32) (k : Ky) : dOf xs E k = true ↔ DvS rules xs k := by
  obtain ⟨⟨b, N⟩, i, j⟩ := k
  cases b with
  | true =>
    rw [dOf_term]
    unfold DvS
    simp only
    constructor
    · rintro ⟨h, rfl⟩
      have := (List.getElem?_eq_some_iff.1 h).1
      exact ⟨by omega, by omega, dv_one.2 (gpart_at h)⟩
    · rintro ⟨h1, h2, h3⟩
      exact (part_one h1 h2).1 (dv_one.1 h3)
  | false =>
    rw [dOf_non]
    constructor
    · intro h; exact hs.snd N i j h
    · rintro ⟨h1, h2, h3⟩
      simp only at h1 h2 h3
      have := hf.all hl h3 i j h1 h2 rfl [] i (by simp [reachM])
      rw [List.nil_append, show [(false, N)] = [] ++ [((false, N) : Sy)] from rfl, reachM_snoc, stepM_bit] at this
      obtain ⟨p, hp, h4, h5⟩ := this
      simp only [reachM, List.foldl_nil, Nat.testBit_two_pow, decide_eq_true_eq] at h4
      subst h4
      simpa [cOf] using h5
theorem SndE.sup (h : SndE rules xs E) : SupE xs.length E := fun N i j hj => ⟨(h.snd N i j hj).1, (h.snd N i j hj).2.1⟩

/-! ### the reference's spans -/
end
end Go.Proofs.YtfmnmgnhanogmaaDoor




namespace Go.Proofs.YtfmnmgnhanogmaaDoor
open Go.RowKit

def intsN (l : List Nat) : List Int := l.map fun i : Nat => (i : Int)
section
variable {D : Ky → Bool} {idx : Ky → Nat} {P : Ky → Prop}
end
end Go.Proofs.YtfmnmgnhanogmaaDoor





namespace Go.Proofs.YtfmnmgnhanogmaaDoor
open Go.RowKit

section
variable {R : List Ru} {W : List Nat}
theorem wd_at (W : List Nat) (i t : Nat) : (intsN W)[i]? = some (t : Int) ↔ W[i]? = some t := by
  simp only [intsN, List.getElem?_map, Option.map_eq_some_iff]
  constructor
  · rintro ⟨a, h, e⟩; rw [h]; congr 1; exact Int.ofNat.inj e
  · intro h; exact ⟨t, h, rfl⟩
theorem wd_size (W : List Nat) : (intsN W).length = W.length := by simp [intsN]
theorem DrL.dv : ∀ {l : List Sy} {i j : Nat} {ts : List Tr}, DrL R W l i j ts → i ≤ W.length → Dv R l (part (intsN W) i j) := by
  intro l i j ts h
  induction h with
  | nil k => intro _; rw [part_same]; exact .nil
  | leaf a k j l ts hw h2 ih =>
    intro hk
    have hlt := (List.getElem?_eq_some_iff.1 hw).1
    have hle := (h2.end (by omega)).1
    have e := (part_one (xs := intsN W) (i := k) (j := k + 1) (by omega) (by rw [wd_size]; omega) (t := (a : Int))).2 ⟨(wd_at W k a).2 hw, rfl⟩
    rw [← part_append (w := intsN W) (i := k) (m := k + 1) (j := j) (by omega) hle, e]
    exact .term a (ih (by omega))
  | node n r k m j rhs l ks ts hr h1 h2 ih1 ih2 =>
    intro hk
    obtain ⟨a1, a2, _⟩ := h1.end hk
    obtain ⟨b1, _, _⟩ := h2.end a2
    rw [← part_append (w := intsN W) a1 b1]
    exact .non n (List.mem_of_getElem? hr) (ih1 hk) (ih2 a2)
theorem dv_tree {l : List Sy} {v : List Int} (h : Dv R l v) : ∀ i j, i ≤ j → j ≤ W.length → v = part (intsN W) i j → ∃ ts, DrL R W l i j ts := by
  induction h with
  | nil =>
    intro i j h1 h2 e
    have := part_len (w := intsN W) (i := i) (j := j) (by rw [wd_size]; omega)
    rw [← e] at this
    simp only [List.length_nil] at this
    obtain rfl : i = j := by omega
    exact ⟨[], .nil i⟩
  | term t h ih =>
    intro i j h1 h2 e
    obtain ⟨m, k1, k2, e1, e2⟩ := part_split (w := intsN W) (p1 := [(t : Int)]) h1 (by rw [wd_size]; omega) (by rw [← e]; rfl)
    obtain ⟨k3, rfl⟩ := (part_one (xs := intsN W) k1 (by rw [wd_size]; omega)).1 e1
    obtain ⟨ts, hts⟩ := ih (i + 1) j k2 h2 e2.symm
    exact ⟨_, .leaf t i j _ ts ((wd_at W i t).1 k3) hts⟩
  | non N hr g1 g2 ih1 ih2 =>
    intro i j h1 h2 e
    obtain ⟨m, k1, k2, e1, e2⟩ := part_split (w := intsN W) h1 (by rw [wd_size]; omega) e.symm
    obtain ⟨ks, hks⟩ := ih1 i m k1 (by omega) e1.symm
    obtain ⟨ts, hts⟩ := ih2 m j k2 h2 e2.symm
    obtain ⟨r, hr2⟩ := List.getElem?_of_mem hr
    exact ⟨_, .node N r i m j _ _ ks ts hr2 hks hts⟩
/-- a part is derived exactly if it has a tree -/
theorem dvS_tree {k : Ky} (hk : k.2.1 ≤ W.length) : DvS R (intsN W) k ↔ ∃ t, DrL R W [k.1] k.2.1 k.2.2 [t] := by
  constructor
  · rintro ⟨h1, h2, h3⟩
    rw [wd_size] at h2
    obtain ⟨ts, hts⟩ := dv_tree (W := W) h3 _ _ h1 h2 rfl
    obtain ⟨t, us, m, rfl, h4, h5⟩ := DrL.cons.1 hts
    cases h5
    exact ⟨t, h4⟩
  · rintro ⟨t, h⟩
    obtain ⟨a1, a2, _⟩ := h.end hk
    exact ⟨a1, by rw [wd_size]; exact a2, h.dv hk⟩
end
end Go.Proofs.YtfmnmgnhanogmaaDoor




namespace Go.Proofs.YtfmnmgnhanogmaaDoor
open Go.RowKit

theorem sum_le_card (L : List Nat) (f : Nat → Nat) (B : Nat) (h : ∀ q ∈ L, f q ≤ B) : (L.map f).sum ≤ L.length * B := by
  induction L with
  | nil => simp
  | cons q L ih =>
    have h1 := h q (by simp)
    have h2 := ih fun q' hq => h q' (by simp [hq])
    simp only [List.map_cons, List.sum_cons, List.length_cons, Nat.add_mul, Nat.one_mul]
    omega
theorem flatMap_len {α : Type} (L : List Nat) (f : Nat → List α) (B : Nat) (h : ∀ q ∈ L, (f q).length ≤ B) : (L.flatMap f).length ≤ L.length * B := by
  rw [List.length_flatMap]
  exact sum_le_card L _ B h
section
variable {D : Ky → Bool}
theorem ways_len : ∀ {l : List Sy} {i j : Nat}, j ≤ 12 → (waysF D l i j).length ≤ 13 ^ l.length := by
  intro l
  induction l with
  | nil => intro i j _; simp only [waysF]; split <;> simp
  | cons s l ih =>
    intro i j hj
    rw [waysF]
    refine Nat.le_trans (flatMap_len _ _ (13 ^ l.length) fun q _ => ?_) ?_
    · split
      · rw [List.length_map]; exact ih hj
      · simp
    · rw [List.length_range, List.length_cons, Nat.pow_succ, Nat.mul_comm]
      exact Nat.mul_le_mul_left _ (by omega)
theorem packN_len {R : List Ru} {k : Ky} {n : Nat} (hR : ∀ u ∈ R, u.2.length ≤ 4) (hk : k.2.2 ≤ 12) : (packN D R k n).length ≤ 28561 := by
  unfold packN
  cases hu : R[n]? with
  | none => simp
  | some u =>
    simp only
    split
    · rw [List.length_map]
      refine Nat.le_trans (ways_len hk) ?_
      have h1 := hR u (List.mem_of_getElem? hu)
      exact Nat.le_trans (Nat.pow_le_pow_right (by omega) h1) (by decide)
    · simp
theorem packT_len {R : List Ru} {k : Ky} (m : Nat) (hR : ∀ u ∈ R, u.2.length ≤ 4) (hk : k.2.2 ≤ 12) : (packT D R k m).length ≤ m * 28561 := by
  unfold packT
  have := flatMap_len (List.range m) (packN D R k) 28561 fun n _ => packN_len hR hk
  rwa [List.length_range] at this
end
/-! ### the work list -/
section
variable {D : Ky → Bool} {R : List Ru} {root : Ky}
/-- keys of a word and a grammar -/
def KyOk (g : Gr) (n : Nat) (k : Ky) : Prop := g.okSy k.1 ∧ k.2.1 ≤ k.2.2 ∧ k.2.2 ≤ n
theorem KyOk.ok {g : Gr} {n : Nat} {k : Ky} (h : KyOk g n k) (hg : g.Ok) (hn : n ≤ 12) : k.Ok := by
  obtain ⟨h1, h2, h3⟩ := h
  refine ⟨by omega, by omega, ?_⟩
  unfold Gr.okSy at h1
  have := hg.terms; have := hg.nons
  split at h1 <;> omega
/-- a number for each key -/
def kyC2 (k : Ky) : Nat := (k.2.1 * 13 + k.2.2) * 20 + (if k.1.1 then k.1.2 else 10 + k.1.2)
theorem kyC2_lt {g : Gr} {n : Nat} {k : Ky} (h : KyOk g n k) (hg : g.Ok) (hn : n ≤ 12) : kyC2 k < 3400 := by
  obtain ⟨h1, h2, h3⟩ := h
  unfold Gr.okSy at h1
  have := hg.terms; have := hg.nons
  unfold kyC2
  split at h1
  · rename_i e; rw [if_pos e]; omega
  · rename_i e; rw [if_neg e]; omega
theorem kyC2_inj {g : Gr} {n : Nat} {a b : Ky} (ha : KyOk g n a) (hb : KyOk g n b) (hg : g.Ok) (hn : n ≤ 12) (h : kyC2 a = kyC2 b) : a = b := by
  obtain ⟨⟨ab, an⟩, ai, aj⟩ := a
  obtain ⟨⟨bb, bn⟩, bi, bj⟩ := b
  obtain ⟨h1, h2, h3⟩ := ha
  obtain ⟨k1, k2, k3⟩ := hb
  have := hg.terms; have := hg.nons
  simp only [Gr.okSy] at h1 k1
  simp only at h2 h3 k2 k3
  simp only [kyC2] at h
  cases ab <;> cases bb <;> simp only [Bool.false_eq_true, if_false, if_true] at h h1 k1 <;> simp only [Prod.mk.injEq, true_and, false_and, Bool.false_eq_true, Bool.true_eq_false] <;> omega
end
end Go.Proofs.YtfmnmgnhanogmaaDoor







namespace Go.Proofs.YtfmnmgnhanogmaaDoor
open Go.RowKit

/-- what find stands on: D says which parts are derived; no nonterminal begins with itself -/
structure FinD (g : Gr) (W : List Nat) (D : Ky → Bool) : Prop where
  gok : GrOk g
  dv : ∀ k, D k = true ↔ DvS g.rules (intsN W) k
  no : ∀ i, ¬ Plus (begD g.rules) i i
  wt : ∀ a ∈ W, a < g.terms
  short : W.length ≤ 12
noncomputable def bst (R : List Ru) (W : List Nat) (k : Ky) : Tr := (@dite _ (∃ t, IsBest R W k t) (Classical.propDecidable _) (fun h => Classical.choose h) (fun _ => .leaf 0))
theorem bst_of {R : List Ru} {W : List Nat} {k : Ky} {t : Tr} (h : IsBest R W k t) : bst R W k = t := by
  have hx : ∃ t, IsBest R W k t := ⟨t, h⟩
  unfold bst
  rw [dif_pos hx]
  exact (Classical.choose_spec hx).uniq h
/-- a measure that falls from a part to the parts of its packs -/
noncomputable def mea (g : Gr) (k : Ky) : Nat := if k.1.1 then 0 else 1 + (k.2.2 - k.2.1) * (g.nons + 2) + begN (begD g.rules) g.nons k.1.2
theorem begN_le {D : Nat → Nat → Bool} {N i : Nat} : begN D N i ≤ N := by
  unfold begN
  have := List.length_filter_le (fun j => wshF D N i j) (List.range N)
  simpa using this
section
variable {g : Gr} {W : List Nat} {D : Ky → Bool} {k q : Ky} {p : Nat × List Ky}
theorem FinD.le (h : FinD g W D) (hk : D k = true) : k.2.1 ≤ k.2.2 ∧ k.2.2 ≤ W.length := by
  obtain ⟨h1, h2, -⟩ := (h.dv k).1 hk
  rw [wd_size] at h2
  exact ⟨h1, h2⟩
theorem FinD.tree (h : FinD g W D) (hk : D k = true) : ∃ t, DrL g.rules W [k.1] k.2.1 k.2.2 [t] := by
  have := h.le hk
  exact (dvS_tree (by omega)).1 ((h.dv k).1 hk)
theorem FinD.has (h : FinD g W D) (hk : k.2.1 ≤ W.length) {t : Tr} (ht : DrL g.rules W [k.1] k.2.1 k.2.2 [t]) : D k = true :=
  (h.dv k).2 ((dvS_tree hk).2 ⟨t, ht⟩)
theorem FinD.best (h : FinD g W D) (hk : D k = true) : IsBest g.rules W k (bst g.rules W k) := by
  have hl := h.le hk
  obtain ⟨t, ht⟩ := best_ex (E := begD g.rules) (N := g.nons) (begD_lt h.gok.ok) (fun i j hb => (begD_iff _ _ _).2 hb) h.no (k := k) (by omega) (h.tree hk)
  rw [bst_of ht]; exact ht
theorem FinD.fall (h : FinD g W D) (hp : p ∈ packsF D g.rules k) (hq : q ∈ p.2) : mea g q < mea g k := by
  obtain ⟨hk, u, hu, hn, hw⟩ := packs_mem hp
  obtain ⟨⟨b, n⟩, i, j⟩ := k
  obtain ⟨⟨c, m⟩, x, y⟩ := q
  simp only at hk hn hw
  subst hk hn
  unfold mea
  simp only [Bool.false_eq_true, if_false]
  cases c with
  | true => simp only [if_true]; omega
  | false =>
    simp only [Bool.false_eq_true, if_false]
    have hN := @begN_le (begD g.rules) g.nons m
    rcases way_fall (R := g.rules) (fun k hk he => by
      obtain ⟨t, ht⟩ := h.tree hk
      have := h.le hk
      exact (ht.end (by omega)).2.2 he.symm) hw _ hq with hlt | ⟨he, a, bb, e, ha⟩
    · simp only at hlt
      have : (y - x) * (g.nons + 2) + (g.nons + 2) ≤ (j - i) * (g.nons + 2) := by
        rw [← Nat.succ_mul]; exact Nat.mul_le_mul_right _ hlt
      omega
    · simp only [Prod.mk.injEq] at he
      obtain ⟨rfl, rfl⟩ := he
      have hb : begD g.rules u.1 m = true := (begD_iff _ _ _).2 ⟨a, bb, by rw [← e]; exact List.mem_of_getElem? hu, ha⟩
      have := begN_lt (begD_lt h.gok.ok) h.no (.one m hb)
      omega
theorem FinD.kid (h : FinD g W D) (hp : p ∈ packsF D g.rules k) (hq : q ∈ p.2) : D q = true ∧ KyOk g W.length q := by
  obtain ⟨hk, u, hu, hn, hw⟩ := packs_mem hp
  obtain ⟨h1, -, -, -, h5⟩ := hw.mem q hq
  exact ⟨h1, (h.gok.ok.right u (List.mem_of_getElem? hu)).2 _ h5, h.le h1⟩
/-- the tree of a pack -/
noncomputable def pkT (R : List Ru) (W : List Nat) (p : Nat × List Ky) : Tr := .node p.1 (p.2.map (bst R W))
theorem FinD.pack (h : FinD g W D) (hp : p ∈ packsF D g.rules k) : DrL g.rules W [k.1] k.2.1 k.2.2 [pkT g.rules W p] :=
  pack_tree hp fun _ hq => h.best (h.kid hp hq).1
/-- among the first m packs -/
def InvP (R : List Ru) (W : List Nat) (l : List (Nat × List Ky)) (m : Nat) (t : Tr) : Prop := (∃ p ∈ l.take m, t = pkT R W p) ∧ ∀ p ∈ l.take m, pkT R W p = t ∨ LtF [t] [pkT R W p]
theorem InvP.first {R : List Ru} {l : List (Nat × List Ky)} (hp : l[0]? = some p) : InvP R W l 1 (pkT R W p) := by
  have e : l.take 1 = [p] := by
    cases l with
    | nil => cases hp
    | cons a l => simp only [List.getElem?_cons_zero, Option.some.injEq] at hp; subst hp; rfl
  unfold InvP
  rw [e]
  refine ⟨⟨p, List.mem_singleton.2 rfl, rfl⟩, fun x hx => ?_⟩
  rw [List.mem_singleton.1 hx]; exact Or.inl rfl
theorem InvP.keep {R : List Ru} {l : List (Nat × List Ky)} {m : Nat} {t : Tr} (h : InvP R W l m t) (hp : l[m]? = some p) (hn : pkT R W p = t ∨ LtF [t] [pkT R W p]) : InvP R W l (m + 1) t := by
  have e : l.take (m + 1) = l.take m ++ [p] := by rw [List.take_add_one, hp]; rfl
  unfold InvP
  rw [e]
  refine ⟨?_, fun x hx => ?_⟩
  · obtain ⟨x, hx, e⟩ := h.1
    exact ⟨x, List.mem_append_left _ hx, e⟩
  · rcases List.mem_append.1 hx with hx | hx
    · exact h.2 x hx
    · rw [List.mem_singleton.1 hx]; exact hn
theorem InvP.less {R : List Ru} {l : List (Nat × List Ky)} {m : Nat} {t : Tr} (h : InvP R W l m t) (hp : l[m]? = some p) (hn : LtF [pkT R W p] [t]) : InvP R W l (m + 1) (pkT R W p) := by
  have e : l.take (m + 1) = l.take m ++ [p] := by rw [List.take_add_one, hp]; rfl
  unfold InvP
  rw [e]
  refine ⟨⟨p, List.mem_append_right _ (List.mem_singleton.2 rfl), rfl⟩, fun x hx => ?_⟩
  rcases List.mem_append.1 hx with hx | hx
  · rcases h.2 x hx with e | h2
    · rw [e]; exact Or.inr hn
    · exact Or.inr (hn.trans h2)
  · rw [List.mem_singleton.1 hx]; exact Or.inl rfl
theorem FinD.done (h : FinD g W D) (hk : k.1.1 = false) (hD : D k = true) {t : Tr} (hi : InvP g.rules W (packsF D g.rules k) (packsF D g.rules k).length t) : t = bst g.rules W k := by
  have hl := h.le hD
  rw [InvP, List.take_length] at hi
  have := best_packs (D := D) (b := bst g.rules W) (fun k t hk ht => h.has hk ht) hk (by omega) (fun p hp q hq => h.best (h.kid hp hq).1) hi.1 hi.2
  exact (bst_of this).symm
/-- a greater rule comes: all that follow are behind -/
theorem FinD.stop (h : FinD g W D) (hk : k.1.1 = false) (hD : D k = true) {m : Nat} {t : Tr} (hi : InvP g.rules W (packsF D g.rules k) m t) (hp : (packsF D g.rules k)[m]? = some p) (hlt : t.rl < (p.1 : Int)) : t = bst g.rules W k := by
  refine h.done hk hD ?_
  obtain ⟨⟨x, hx, rfl⟩, h2⟩ := hi
  unfold InvP
  rw [List.take_length]
  refine ⟨⟨x, List.mem_of_mem_take hx, rfl⟩, fun y hy => ?_⟩
  rw [← List.take_append_drop m (packsF D g.rules k)] at hy
  rcases List.mem_append.1 hy with hy | hy
  · exact h2 y hy
  · obtain ⟨z, hz⟩ := List.mem_iff_getElem?.1 hy
    rw [List.getElem?_drop] at hz
    have hle : p.1 ≤ y.1 := by
      rcases Nat.eq_zero_or_pos z with h0 | h0
      · subst h0
        rw [Nat.add_zero, hp] at hz
        rw [Option.some.inj hz]; exact Nat.le_refl _
      · obtain ⟨a1, a2⟩ := List.getElem?_eq_some_iff.1 hp
        obtain ⟨b1, b2⟩ := List.getElem?_eq_some_iff.1 hz
        have := List.pairwise_iff_getElem.1 (@packs_rise g.rules D k) m (m + z) a1 b1 (by omega)
        rw [a2, b2] at this; exact this
    refine Or.inr (.head _ _ _ _ _ _ ?_)
    simp only [pkT, Tr.rl] at hlt
    omega
theorem FinD.some (h : FinD g W D) (hk : k.1.1 = false) (hD : D k = true) : 0 < (packsF D g.rules k).length := by
  obtain ⟨t, ht⟩ := h.tree hD
  have hl := h.le hD
  obtain ⟨⟨b, n⟩, i, j⟩ := k
  simp only at hk hl ht
  subst hk
  cases ht with
  | node _ r _ m _ rhs _ ks _ hr h3 h4 =>
    cases h4
    obtain ⟨w, hw, ha⟩ := way_of (fun k t hk ht => h.has hk ht) (by omega) h3
    exact List.length_pos_of_mem (packs_mem2 (k := ((false, n), i, j)) rfl hr rfl hw)
/-- the comparison with the best so far -/
theorem cmp_no {t : Tr} {c : Int} (hc : CmpT (pkT g.rules W p) t c) (hn : ¬ c < 0) : pkT g.rules W p = t ∨ LtF [t] [pkT g.rules W p] := by
  rcases Int.lt_trichotomy c 0 with h1 | h1 | h1
  · exact absurd h1 hn
  · exact Or.inl (hc.2.1 h1)
  · exact Or.inr (hc.2.2 h1)
theorem FinD.leaf (h : FinD g W D) {a i j : Nat} (hD : D ((true, a), i, j) = true) : bst g.rules W ((true, a), i, j) = .leaf a := by
  obtain ⟨t, ht⟩ := h.tree hD
  exact bst_of (best_leaf ht).2
end
end Go.Proofs.YtfmnmgnhanogmaaDoor





namespace Go.Proofs.YtfmnmgnhanogmaaDoor
open Go.RowKit
open Go.MapKept
open Go.ChangeMaps (setBlock heap_setBlock_same heap_setBlock_other)
open Go.WideElems (Fit rd rg rd_key rd_mk other_key)

/-- block r is an iterator over the map in block bm, which holds just what f says; what is still to come -/
def RngK {κ : Type} (kk : κ → Value) (f : κ → Option Value) (w : World) (r bm : Nat) (left : κ → Bool) (cnt : Nat) : Prop :=
  ∃ since seen c0 es clock, w.heap[r]? = some (.mapIter (some bm) since seen c0) ∧ w.heap[bm]? = some (.map es clock) ∧ (∀ x ∈ es.toList, x.born < since) ∧ since ≤ c0 ∧ since ≤ clock ∧ (es.toList.map (·.born)).Nodup ∧ (∀ x ∈ es.toList, ∀ y ∈ es.toList, x.key = y.key → x = y) ∧
    (∀ x ∈ es.toList, ∃ y, x.key = kk y ∧ f y = some x.val) ∧ (∀ y, left y = true ↔ ∃ x ∈ (leftOf es seen).toList, x.key = kk y) ∧ (leftOf es seen).size = cnt
def World.rngLeftK (w : World) (r : Nat) : Nat := match w.heap[r]? with
  | some (.mapIter (some bm) _ seen _) => match w.heap[bm]? with
    | some (.map es _) => (leftOf es seen).size
    | _ => 0
  | _ => 0
theorem sbK_same {w : World} {r : Nat} {o o' : Obj} (h : w.heap[r]? = some o) : (setBlock w r o').heap[r]? = some o' := by
  unfold setBlock
  have := (Array.getElem?_eq_some_iff.1 h).1
  simp [this]
theorem sbK_other {w : World} {r i : Nat} {o' : Obj} (h : i ≠ r) : (setBlock w r o').heap[i]? = w.heap[i]? := by
  unfold setBlock
  simp [Ne.symm h]
section
variable {κ : Type} {P : Program} {k : TypeId} {kk : κ → Value} {f : κ → Option Value} {w w' : World} {r bm cnt : Nat} {left : κ → Bool}
theorem RngK.left_eq (h : RngK kk f w r bm left cnt) : World.rngLeftK w r = cnt := by
  obtain ⟨since, seen, c0, es, clock, h1, h2, -, -, -, -, -, -, -, h3⟩ := h
  unfold World.rngLeftK
  rw [h1]
  simp only [h2]
  exact h3
theorem RngK.lt (h : RngK kk f w r bm left cnt) : r < w.heap.size ∧ bm < w.heap.size := by
  obtain ⟨since, seen, c0, es, clock, h1, h2, -⟩ := h
  exact ⟨(Array.getElem?_eq_some_iff.1 h1).1, (Array.getElem?_eq_some_iff.1 h2).1⟩
theorem RngK.agr_ (h : RngK kk f w r bm left cnt) (e1 : w'.heap[r]? = w.heap[r]?) (e2 : w'.heap[bm]? = w.heap[bm]?) : RngK kk f w' r bm left cnt := by
  obtain ⟨since, seen, c0, es, clock, h1, h2, h3⟩ := h
  exact ⟨since, seen, c0, es, clock, e1.trans h1, e2.trans h2, h3⟩
theorem RngK.via (h : RngK kk f w r bm left cnt) (hb : Below w.heap.size w w') : RngK kk f w' r bm left cnt := h.agr_ (hb.block r h.lt.1) (hb.block bm h.lt.2)
theorem RngK.grown {row : Option Nat} (h : RngK kk f w r bm left cnt) (hb : w.grownBy w' row) (h1 : some r ≠ row) (h2 : some bm ≠ row) : RngK kk f w' r bm left cnt := h.agr_ (hb.block r h.lt.1 h1) (hb.block bm h.lt.2 h2)
theorem MapK.range {b : Nat} {t e : TypeId} (h : MapK P k kk w b f) (ht : P.underlying t = some (.map k e)) : ∃ w', (Instr.range t (.map (some b))).run P w = .ok (.pointer (some ⟨w.heap.size, 0, none⟩)) w' ∧ (∃ cnt, RngK kk f w' w.heap.size b (fun y => (f y).isSome) cnt) ∧ Below w.heap.size w w' ∧ w'.heap.size = w.heap.size + 1 := by
  obtain ⟨es, clock, hb, F, hk, hff⟩ := h
  have hst := F.stamped
  refine ⟨_, run_range_map w _ _ _ b es clock ht hb, ⟨_, clock, #[], clock, es, clock, by rw [heap_alloc_new], by rw [heap_alloc_old w _ (Array.getElem?_eq_some_iff.1 hb).1, hb], hst.1, Nat.le_refl _, Nat.le_refl _, hst.2.1, ?_, ?_, ?_, rfl⟩, (Below.refl _ _).alloc (Nat.le_refl _) _, by simp⟩
  · have hp : es.toList.Pairwise (fun x y => x.key ≠ y.key) := ((stamped_iff es clock).1 hst).2.2
    intro x hx y hy e
    obtain ⟨i, hi⟩ := List.mem_iff_getElem?.1 hx
    obtain ⟨j, hj⟩ := List.mem_iff_getElem?.1 hy
    obtain ⟨hil, hi⟩ := List.getElem?_eq_some_iff.1 hi
    obtain ⟨hjl, hj⟩ := List.getElem?_eq_some_iff.1 hj
    rcases Nat.lt_trichotomy i j with hij | hij | hij
    · exact absurd (by rw [hi, hj]; exact e) (List.pairwise_iff_getElem.1 hp i j hil hjl hij)
    · subst hij; exact hi.symm.trans hj
    · exact absurd (by rw [hi, hj]; exact e.symm) (List.pairwise_iff_getElem.1 hp j i hjl hil hij)
  · intro x hx
    obtain ⟨y, hy⟩ := hk x hx
    exact ⟨y, hy, (hff y x.val).2 ⟨x, hx, hy, rfl⟩⟩
  · intro y
    constructor
    · intro hf
      obtain ⟨v, hv⟩ := Option.isSome_iff_exists.1 hf
      obtain ⟨x, hx, h1, -⟩ := (hff y v).1 hv
      exact ⟨x, by simpa [leftOf] using hx, h1⟩
    · rintro ⟨x, hx, h1⟩
      have hx' : x ∈ es.toList := by simpa [leftOf] using hx
      have h2 := (hff y x.val).2 ⟨x, hx', h1, rfl⟩
      show (f y).isSome = true
      rw [h2]; rfl
theorem RngK.next [DecidableEq κ] (h : RngK kk f w r bm left cnt) (hinj : ∀ x y, kk x = kk y → x = y) (hne : r ≠ bm) (ty : TypeId) : ((∀ y, left y = false) ∧ (Instr.next (.pointer (some ⟨r, 0, none⟩)) false ty).run P w = .ok (.tuple #[.bool false]) w) ∨
    ∃ (y : κ) (v : Value) (w' : World) (cnt' : Nat), left y = true ∧ f y = some v ∧ (Instr.next (.pointer (some ⟨r, 0, none⟩)) false ty).run P w = .ok (.tuple #[.bool true, kk y, v]) w' ∧ RngK kk f w' r bm (fun z => left z && decide (z ≠ y)) cnt' ∧ cnt' < cnt ∧ w.grownBy w' (some r) ∧ w'.heap.size = w.heap.size ∧
      (Instr.entry (.pointer (some ⟨r, 0, none⟩))).run P w' = .ok (.tuple #[kk y, v]) w' := by
  obtain ⟨since, seen, c0, es, clock, h1, h2, h3, h4, h5, h6, h7, h8, h9, h10⟩ := h
  rcases run_next_at (P := P) w ty r bm since c0 seen es clock h1 h2 h3 h4 with ⟨h0, hrun⟩ | ⟨e, he, w1, hw1, hrun⟩
  · refine Or.inl ⟨fun n => ?_, hrun⟩
    cases hl : left n with
    | false => rfl
    | true =>
      obtain ⟨x, hx, -⟩ := (h9 n).1 hl
      rw [Array.eq_empty_of_size_eq_zero h0] at hx
      simp at hx
  · have hee : e ∈ es.toList := by
      simp [leftOf] at he ⊢; exact he.1
    obtain ⟨y, hnk, hnv⟩ := h8 e hee
    have hl : left y = true := (h9 y).2 ⟨e, he, hnk⟩
    have hw1h : w1.heap = w.heap := by rcases hw1 with rfl | rfl <;> rfl
    have g1 : w1.heap[r]? = some (.mapIter (some bm) since seen c0) := by rw [hw1h]; exact h1
    have g2 : w1.heap[bm]? = some (.map es clock) := by rw [hw1h]; exact h2
    have k1 : (setBlock w1 r (.mapIter (some bm) since (seen.push e.born) clock)).heap[r]? = some (.mapIter (some bm) since (seen.push e.born) clock) := sbK_same g1
    have k2 : (setBlock w1 r (.mapIter (some bm) since (seen.push e.born) clock)).heap[bm]? = some (.map es clock) := (sbK_other (Ne.symm hne)).trans g2
    have hin : ∀ x, x ∈ (leftOf es (seen.push e.born)).toList ↔ x ∈ (leftOf es seen).toList ∧ x.born ≠ e.born := by
      intro x
      simp only [leftOf, Array.toList_filter, List.mem_filter, contains_push, Bool.not_eq_true', Bool.or_eq_false_iff, beq_eq_false_iff_ne, ne_eq]
      constructor
      · rintro ⟨a, b, c⟩; exact ⟨⟨a, b⟩, c⟩
      · rintro ⟨⟨a, b⟩, c⟩; exact ⟨a, b, c⟩
    have hlt : (leftOf es (seen.push e.born)).size < cnt := by
      rw [← h10]
      have := filter_lt (fun x : MapEntry => !seen.contains x.born) (fun x : MapEntry => !(seen.push e.born).contains x.born) (fun x hx => by
        simp only [contains_push, Bool.not_eq_true', Bool.or_eq_false_iff] at hx ⊢
        exact hx.1) e (by simp [leftOf] at he ⊢; exact he.2) (by simp) es.toList hee
      rw [← Array.length_toList, ← Array.length_toList]
      simpa [leftOf, Array.toList_filter] using this
    refine Or.inr ⟨y, e.val, _, (leftOf es (seen.push e.born)).size, hl, hnv, by rw [hrun, hnk], ⟨since, seen.push e.born, clock, es, clock, k1, k2, h3, h5, h5, h6, h7, h8, fun z => ?_, rfl⟩, hlt, ?_, by simp [setBlock, hw1h], ?_⟩
    · rw [Bool.and_eq_true, decide_eq_true_eq, h9 z]
      constructor
      · rintro ⟨⟨x, hx, hxk⟩, hkn⟩
        refine ⟨x, (hin x).2 ⟨hx, fun hb => hkn ?_⟩, hxk⟩
        have hxe : x ∈ es.toList := by simp [leftOf] at hx ⊢; exact hx.1
        have : x = e := by
          have f1 := find_born e es.toList h6 hee
          have f2 := find_born x es.toList h6 hxe
          rw [hb] at f2
          exact Option.some.inj (f2.symm.trans f1)
        subst this
        exact hinj _ _ (hxk.symm.trans hnk)
      · rintro ⟨x, hx, hxk⟩
        obtain ⟨a, b⟩ := (hin x).1 hx
        refine ⟨⟨x, a, hxk⟩, fun hkn => b ?_⟩
        have hxe : x ∈ es.toList := by simp [leftOf] at a ⊢; exact a.1
        rw [h7 x hxe e hee (by rw [hxk, hnk, hkn])]
    · refine ⟨by rcases hw1 with rfl | rfl <;> rfl, by rcases hw1 with rfl | rfl <;> rfl, by rcases hw1 with rfl | rfl <;> rfl, by simp [setBlock, hw1h], fun i _ hi => ?_⟩
      exact (sbK_other (fun e => hi (by rw [e]))).trans (by rw [hw1h])
    · rw [run_entry_at _ r bm since seen es clock e k1 k2 hee h6, hnk]
end
section
variable {κ : Type} {P : Program} {k : TypeId} {kk : κ → Value} {f : κ → Option Value} {ops : Array Oper} {rest : List Oper} {o : Oper} {a : Act} {Q : Exit → Act → World → Prop} {w : World}
/-- 'm[k] = v' in a list of operations -/
theorem wpList_put_K [DecidableEq κ] {e : TypeId} (hg : o.guard = none) (K : Maps.Keyed P k) (t : TypeId) (ht : P.underlying t = some (.map k e)) (hinj : ∀ x y, kk x = kk y → x = y) (m x y : Operand) (hop : o.op = Op.mapUpdate t m x y) (b : Nat) (n : κ) (val : Value) (hm : a.eval m = .map (some b)) (hx : a.eval x = kk n) (hy : a.eval y = val) (h : MapK P k kk w b f) {kl : Lit} (hkey : keyOf P k (kk n) = some kl)
    (hroom : ∀ es clock, w.heap[b]? = some (.map es clock) → es.size < maxLen)
    (hK : ∀ w', MapK P k kk w' b (fun z => if z = n then some val else f z) → w.grownBy w' (some b) → w'.heap.size = w.heap.size → wpList P ops Q rest (a.put o.dst undef) w') : wpList P ops Q (o :: rest) a w := by
  refine wpList_plain hg fun K' hK' => ?_
  obtain ⟨w', hrun, r1, r2, r3⟩ := h.store K ht hinj n val hkey hroom
  unfold Oper.wp
  simp [execOp, hop, hm, hx, hy, hrun, Result.andThen]
  exact hK' _ _ (hK w' r1 r2 r3)
end
/-! ### 'm[k], x = v, y': the entry is laid first, its value later -/
theorem findIdx_born {A : Array MapEntry} {l : List MapEntry} (hA : A.toList = l) {j : Nat} {e0 : MapEntry} (hn : (l.map (·.born)).Nodup) (hj : l[j]? = some e0) : A.findIdx? (fun e => (e.born : Int) == ((e0.born : Nat) : Int)) = some j := by
  subst hA
  generalize hA : A.toList = l at *
  obtain rfl : A = l.toArray := by rw [← hA]
  rw [List.findIdx?_toArray, List.findIdx?_eq_some_iff_getElem]
  obtain ⟨hjl, he⟩ := List.getElem?_eq_some_iff.1 hj
  refine ⟨hjl, by rw [he]; simp, fun i hi => ?_⟩
  have h1 : (l[i]'(by omega)).born ≠ e0.born := fun e => by
    rw [List.nodup_iff_pairwise_ne, List.pairwise_map] at hn
    have := List.pairwise_iff_getElem.1 hn i j (by omega) hjl hi
    rw [he] at this
    exact this e
  simp only [beq_iff_eq]
  omega
section
variable {κ : Type} [DecidableEq κ] {P : Program} {k : TypeId} {kk : κ → Value} {f : κ → Option Value} {w w' : World} {b : Nat} {t e : TypeId}
theorem MapK.entry (h : MapK P k kk w b f) (K : Maps.Keyed P k) (ht : P.underlying t = some (.map k e)) (hinj : ∀ x y, kk x = kk y → x = y) (y : κ) (val : Value) {kl : Lit} (hkey : keyOf P k (kk y) = some kl) {z : Value} (hz : (zeroValue e).run P w = .ok z w)
    (hroom : ∀ es clock, w.heap[b]? = some (.map es clock) → es.size < maxLen) :
    ∃ (w1 : World) (st : Nat) (v0 : Value), (Instr.mapEntry t (.map (some b)) (kk y)).run P w = .ok (.tuple #[v0, .int .i64 (st : Int)]) w1 ∧ w.grownBy w1 (some b) ∧ w1.heap.size = w.heap.size ∧
      ∀ w1' : World, w1'.heap[b]? = w1.heap[b]? → ∃ w2, (Instr.entryStore t (.map (some b)) (.int .i64 (st : Int)) val).run P w1' = .ok () w2 ∧ MapK P k kk w2 b (fun x => if x = y then some val else f x) ∧ w1'.grownBy w2 (some b) ∧ w2.heap.size = w1'.heap.size := by
  obtain ⟨w', hrunS, hS, -, -⟩ := h.store K ht hinj y val hkey hroom
  obtain ⟨es, clock, hb, F, hk, hf⟩ := h
  have hst := F.stamped
  rcases K.find w hkey es.toList F.keys with ⟨h1, h2⟩ | ⟨j, e0, h1, h2, h3⟩
  · have hr2 : (Instr.mapUpdate t (.map (some b)) (kk y) val).run P w = .ok () (setBlock w b (.map (es.push ⟨kk y, val, clock⟩) (clock + 1))) := by
      simp [Instr.mapUpdate, run_underlying ht, MapKept.run_getObj_map hb, K.check w false hkey, h1, MapKept.run_setObj_map _ hb, Result.andThen, setBlock]
    rw [hrunS] at hr2
    have hw2 : w' = setBlock w b (.map (es.push ⟨kk y, val, clock⟩) (clock + 1)) := by injection hr2
    have hr1 : (Instr.mapEntry t (.map (some b)) (kk y)).run P w = .ok (.tuple #[z, .int .i64 (clock : Int)]) (setBlock w b (.map (es.push ⟨kk y, z, clock⟩) (clock + 1))) := by
      simp [Instr.mapEntry, run_underlying ht, MapKept.run_getObj_map hb, K.check w false hkey, h1, hz, MapKept.run_setObj_map _ hb, Result.andThen, setBlock, goInt]
    refine ⟨_, clock, z, hr1, ⟨rfl, rfl, rfl, by simp [setBlock], fun i _ hi => sbK_other (fun e => hi (by rw [e]))⟩, by simp [setBlock], fun w1' hb1 => ?_⟩
    rw [sbK_same hb] at hb1
    have hfi : (es.push ⟨kk y, z, clock⟩).findIdx? (fun e => (e.born : Int) == ((clock : Nat) : Int)) = some es.size := by
      have hn : ((es.push ⟨kk y, z, clock⟩).toList.map (·.born)).Nodup := by
        simp only [Array.toList_push, List.map_append, List.map_cons, List.map_nil]
        rw [List.nodup_append]
        refine ⟨hst.2.1, by simp, fun a ha c hc e => ?_⟩
        simp only [List.mem_singleton] at hc
        subst hc
        obtain ⟨x, hx, rfl⟩ := List.mem_map.1 ha
        have := hst.1 x hx
        omega
      exact findIdx_born (l := (es.push ⟨kk y, z, clock⟩).toList) rfl (j := es.size) (e0 := ⟨kk y, z, clock⟩) hn (by simp)
    have hmod : (es.push ⟨kk y, z, clock⟩).modify es.size (fun e => { e with val := val }) = es.push ⟨kk y, val, clock⟩ := by
      apply Array.toList_inj.1
      rw [Array.toList_modify, ChangeMaps.modify_eq_set _ _ _ (⟨kk y, z, clock⟩ : MapEntry) (by simp)]
      simp
    have hrE : (Instr.entryStore t (.map (some b)) (.int .i64 (clock : Int)) val).run P w1' = .ok () (setBlock w1' b (.map (es.push ⟨kk y, val, clock⟩) (clock + 1))) := by
      simp [Instr.entryStore, MapKept.run_getObj_map hb1, asInt, asIntOf, hfi, hmod, MapKept.run_setObj_map _ hb1, Result.andThen, setBlock]
    refine ⟨_, hrE, hS.agr_ ?_, ⟨rfl, rfl, rfl, by simp [setBlock], fun i _ hi => sbK_other (fun e => hi (by rw [e]))⟩, by simp [setBlock]⟩
    rw [sbK_same hb1, hw2, sbK_same hb]
  · have hj : es[j]? = some e0 := by simpa using h2
    have hr2 : (Instr.mapUpdate t (.map (some b)) (kk y) val).run P w = .ok () (setBlock w b (.map (es.modify j (fun e' => { e' with key := kk y, val := val })) clock)) := by
      simp [Instr.mapUpdate, run_underlying ht, MapKept.run_getObj_map hb, K.check w false hkey, h1, hj, h3, K.stays w hkey, MapKept.run_setObj_map _ hb, Result.andThen, setBlock]
    rw [hrunS] at hr2
    have hw2 : w' = setBlock w b (.map (es.modify j (fun e' => { e' with key := kk y, val := val })) clock) := by injection hr2
    have hr1 : (Instr.mapEntry t (.map (some b)) (kk y)).run P w = .ok (.tuple #[e0.val, .int .i64 (e0.born : Int)]) (setBlock w b (.map (es.modify j (fun e' => { e' with key := kk y })) clock)) := by
      simp [Instr.mapEntry, run_underlying ht, MapKept.run_getObj_map hb, K.check w false hkey, h1, hj, h3, K.stays w hkey, MapKept.run_setObj_map _ hb, Result.andThen, setBlock, goInt]
    refine ⟨_, e0.born, e0.val, hr1, ⟨rfl, rfl, rfl, by simp [setBlock], fun i _ hi => sbK_other (fun e => hi (by rw [e]))⟩, by simp [setBlock], fun w1' hb1 => ?_⟩
    rw [sbK_same hb] at hb1
    have hl1 : (es.modify j (fun e' => { e' with key := kk y })).toList = es.toList.set j { e0 with key := kk y } := by rw [Array.toList_modify, ChangeMaps.modify_eq_set _ _ _ _ h2]
    have hjl : j < es.toList.length := (List.getElem?_eq_some_iff.1 h2).1
    have hfi : (es.modify j (fun e' => { e' with key := kk y })).findIdx? (fun e => (e.born : Int) == ((e0.born : Nat) : Int)) = some j := by
      have hn : ((es.modify j (fun e' => { e' with key := kk y })).toList.map (·.born)).Nodup := by
        rw [hl1, List.map_set]
        have : (es.toList.map (·.born)).set j e0.born = es.toList.map (·.born) := by
          have e1 : (es.toList.map (·.born))[j]? = some e0.born := by rw [List.getElem?_map, h2]; rfl
          obtain ⟨e2, e3⟩ := List.getElem?_eq_some_iff.1 e1
          conv => lhs; rw [← e3]
          exact List.set_getElem_self e2
        show ((es.toList.map (·.born)).set j e0.born).Nodup
        rw [this]; exact hst.2.1
      exact findIdx_born (l := (es.modify j (fun e' => { e' with key := kk y })).toList) rfl (j := j) (e0 := { e0 with key := kk y }) hn (by rw [hl1, List.getElem?_set_self hjl])
    have hmod : (es.modify j (fun e' => { e' with key := kk y })).modify j (fun e => { e with val := val }) = es.modify j (fun e' => { e' with key := kk y, val := val }) := by
      apply Array.toList_inj.1
      rw [Array.toList_modify, hl1, ChangeMaps.modify_eq_set _ _ _ ({ e0 with key := kk y } : MapEntry) (by rw [List.getElem?_set_self hjl]), Array.toList_modify, ChangeMaps.modify_eq_set _ _ _ _ h2]
      simp
    have hrE : (Instr.entryStore t (.map (some b)) (.int .i64 (e0.born : Int)) val).run P w1' = .ok () (setBlock w1' b (.map (es.modify j (fun e' => { e' with key := kk y, val := val })) clock)) := by
      simp [Instr.entryStore, MapKept.run_getObj_map hb1, asInt, asIntOf, hfi, hmod, MapKept.run_setObj_map _ hb1, Result.andThen, setBlock]
    refine ⟨_, hrE, hS.agr_ ?_, ⟨rfl, rfl, rfl, by simp [setBlock], fun i _ hi => sbK_other (fun e => hi (by rw [e]))⟩, by simp [setBlock]⟩
    rw [sbK_same hb1, hw2, sbK_same hb]
end
end Go.Proofs.YtfmnmgnhanogmaaDoor




namespace Go.Proofs.YtfmnmgnhanogmaaDoor
open Go.RowKit

section
variable {α ρ : Type} {E : Elem α ρ}
theorem run_append_manyE (w : World) (t ty e : TypeId) (i : TypeInfo) (z : Value) (bytes : Nat) (ht : Tryd.prog.underlying t = some (.slice e)) (hi : Tryd.prog.info? e = some i) (hz : i.zero = some z) (hsz : i.size = E.k) (hby : i.bytes = bytes) (hzs : z.cells.size = E.k)
    (ok : Nat → Prop) (base : Nat) (v : Value) (n : Nat) (l : List α) (hown : Own E e ok w base v n l)
    (A : Option Addr) (m c : Nat) (ys : List α) (hs : Sl E (fun b => ok b ∧ some b ≠ v.ownBlock) w A m c ys) (h63 : n + m ≤ maxLen) (hbytes : (n + m) * bytes ≤ 140737488355328) (hbase : base ≤ w.heap.size) :
    ∃ A' c' w', (Builtin.append_ #[t, t] ty #[v, .slice A m c]).run Tryd.prog w = .ok (.slice A' (n + m) c') w' ∧ Own E e ok w' base (.slice A' (n + m) c') (n + m) (l ++ ys) ∧ w.grownBy w' v.ownBlock ∧
      ((Value.slice A' (n + m) c').ownBlock = v.ownBlock ∨ (Value.slice A' (n + m) c').ownBlock = some w.heap.size) := by
  obtain ⟨s1, s2, raw2, s3, s4, s5⟩ := hs
  rcases A with _ | ad
  · have hm : raw2 = [] := by
      rcases List.eq_nil_or_concat raw2 with h | ⟨r, x, rfl⟩
      · exact h
      · rw [List.concat_eq_append] at s4
        obtain ⟨b, off, e, _⟩ := s4 (fun e => by
          have := flat_len (E := E) (r ++ [x])
          rw [e] at this
          have hp := Nat.mul_pos (show 0 < (r ++ [x]).length by simp) E.pos
          simp only [List.length_nil] at this; omega)
        cases e
    subst hm
    obtain rfl : m = 0 := by simpa using s3.symm
    obtain rfl : ys = [] := List.eq_nil_of_length_eq_zero s1
    obtain ⟨A', c', rfl, hc⟩ := hown.form
    refine ⟨A', c', w, ?_, by simpa using hown, World.grownBy.refl w _, Or.inl rfl⟩
    rcases A' with _ | g
    · have : n = 0 ∧ c' = 0 := by
        obtain ⟨_, raw, _, h4, _⟩ := hown
        rcases h4.2 with ⟨e, h0⟩ | ⟨g, cap, cur, e, _⟩
        · cases e; exact ⟨rfl, rfl⟩
        · cases e
      obtain ⟨rfl, rfl⟩ := this
      simp [Builtin.append_, run_underlying ht, sizeOf, typeInfo, hi, Builtin.lenOf, Builtin.firstCells]
    · simp [Builtin.append_, run_underlying ht, sizeOf, typeInfo, hi, Builtin.lenOf, Builtin.firstCells, hc, storeCells]
  · obtain ⟨h1, raw, h3, h4, h5⟩ := hown
    have hcell : ∀ j u, (flat E raw2)[j]? = some u → w.cell? (ad.add j) = some u := fun j u hu => by
      obtain ⟨b, off, e, -, hc⟩ := s4 (fun e => by rw [e] at hu; simp at hu)
      cases e
      rw [Addr.add_lit]; exact hc j u hu
    obtain ⟨v', w', hrun, h6, h7, _, h8⟩ := run_append_own_at (P := Tryd.prog) w base t ty e i z E.k bytes ht hi hz hsz hby hzs E.pos v n _ h4 ad m c (flat E raw2) (by rw [flat_len, s3]) hcell
      (fun u hu => by obtain ⟨r, -, h⟩ := List.mem_flatMap.1 hu; exact E.one r u h) h63 hbytes hbase
    have hown' : Own E e ok w' base v' (n + m) (l ++ ys) := by
      refine ⟨by simp [h1, s1], raw ++ raw2, by simp [h3, s3], by have e : flat E (raw ++ raw2) = flat E raw ++ flat E raw2 := by simp [flat]
                                                                  rw [e]; exact h6, fun i r' x' hr' hx' => ?_⟩
      have key : E.rel (fun b => ok b ∧ some b ≠ v.ownBlock) w r' x' := by
        rcases Nat.lt_or_ge i n with hi' | hi'
        · rw [List.getElem?_append_left (by omega)] at hr' hx'
          exact h5 i r' x' hr' hx'
        · rw [List.getElem?_append_right (by omega), h3] at hr'
          rw [List.getElem?_append_right (by omega), h1] at hx'
          exact s5 _ r' x' hr' hx'
      have k1 := E.mono (ok' := fun b => (ok b ∧ some b ≠ v.ownBlock) ∧ b < w.heap.size) key fun b hb hk => ⟨hk, hb⟩
      refine E.mono (E.agr k1 (Agr.grown h7 fun b hb => hb.1.2)) fun b _ hk => ⟨hk.1.1, ?_⟩
      rcases h8 with e8 | e8
      · rw [e8]; exact hk.1.2
      · rw [e8]; intro e9; cases e9; exact absurd hk.2 (Nat.lt_irrefl _)
    obtain ⟨A', c', rfl, _⟩ := hown'.form
    exact ⟨A', c', w', hrun, hown', h7, h8⟩
theorem wpList_append_manyE {ops : Array Oper} {rest : List Oper} {o : Oper} {a : Act} {Q : Exit → Act → World → Prop} (w : World) (hgd : o.guard = none) (s y : Operand) (t e : TypeId)
    (ho : o.op = .call { callee := .builtin .append, args := #[s, y], argTypes := #[t, t] }) (i : TypeInfo) (z : Value) (bytes : Nat) (ht : Tryd.prog.underlying t = some (.slice e)) (hi : Tryd.prog.info? e = some i) (hz : i.zero = some z) (hsz : i.size = E.k) (hby : i.bytes = bytes) (hzs : z.cells.size = E.k)
    (ok : Nat → Prop) (base : Nat) (v : Value) (n : Nat) (l : List α) (hv : a.eval s = v) (hown : Own E e ok w base v n l)
    (A : Option Addr) (m c : Nat) (ys : List α) (hy : a.eval y = .slice A m c) (hs : Sl E (fun b => ok b ∧ some b ≠ v.ownBlock) w A m c ys) (h63 : n + m ≤ maxLen) (hbytes : (n + m) * bytes ≤ 140737488355328) (hbase : base ≤ w.heap.size)
    (h : ∀ A' c' w', Own E e ok w' base (.slice A' (n + m) c') (n + m) (l ++ ys) → w.grownBy w' v.ownBlock → ((Value.slice A' (n + m) c').ownBlock = v.ownBlock ∨ (Value.slice A' (n + m) c').ownBlock = some w.heap.size) → wpList Tryd.prog ops Q rest (a.put o.dst (.slice A' (n + m) c')) w') : wpList Tryd.prog ops Q (o :: rest) a w := by
  refine wpList_plain hgd fun _ hK => ?_
  obtain ⟨A', c', w', hrun, h2, h3, h4⟩ := run_append_manyE w t o.type e i z bytes ht hi hz hsz hby hzs ok base v n l hown A m c ys hs h63 hbytes hbase
  unfold Oper.wp execOp
  simp only [ho, resolve, invoke, builtin, Sem.run_bind, Sem.run_pure, Result.andThen_ok, List.map_toArray, List.map_cons, List.map_nil, hv, hy, hrun]
  exact hK _ _ (h A' c' w' h2 h3 h4)
/-- an empty row in a block of its own -/
theorem Own.empty {e : TypeId} (ok : Nat → Prop) (w : World) : Own E e ok (w.alloc (.cells #[] e)) w.heap.size (.slice (some ⟨w.heap.size, 0, none⟩) 0 0) 0 ([] : List α) := by
  refine ⟨rfl, [], rfl, ⟨by simp [flat], Or.inr ⟨w.heap.size, 0, #[], rfl, Nat.le_refl _, heap_alloc_new w _, Nat.le_refl _, Nat.zero_le _, by simp, by simp [flat]⟩⟩, fun i r x h => by simp at h⟩
end

/-! ### items in memory -/
/-- what a clone hands back -/
def CloneP {α ρ : Type} (E : Elem α ρ) (e : TypeId) (w : World) (n : Nat) (xs : List α) (ee : Ending) (w' : World) : Prop :=
  ∃ B d, ee = .returned (.slice B n d) ∧ Own E e (fun b => b < w.heap.size) w' w.heap.size (.slice B n d) n xs ∧ Below w.heap.size w w'
end Go.Proofs.YtfmnmgnhanogmaaDoor

