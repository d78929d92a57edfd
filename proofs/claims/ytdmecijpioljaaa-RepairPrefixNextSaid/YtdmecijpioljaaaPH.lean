/- Texts PH, laid together. -/
import Derived.Test.YtdmecijpioljaaaPA
import Derived.Test.YtdmecijpioljaaaZ3



namespace Go.Proofs.Ytdmecijpioljaaa
open Go.RowKit

def slV (h : SlV) : Value := .slice h.1 h.2.1 h.2.2
/-- a row whose elements are rows of items, each with a block of its own -/
structure Sets (e ti : TypeId) (w : World) (base : Nat) (v : Value) (hs : List SlV) (L : List (List It3)) : Prop where
  row : Own SlE e (fun _ => False) w base v L.length hs
  len : hs.length = L.length
  items : ∀ (j : Nat) h l, hs[j]? = some h → L[j]? = some l → Own It3E ti (fun _ => False) w base (slV h) l.length l
  apart : ∀ (j j' : Nat) h h' b, j ≠ j' → hs[j]? = some h → hs[j']? = some h' → (slV h).ownBlock = some b → (slV h').ownBlock ≠ some b
  far : ∀ (j : Nat) h b, hs[j]? = some h → (slV h).ownBlock = some b → v.ownBlock ≠ some b
section
variable {e ti : TypeId} {w w' w1 : World} {base : Nat} {v : Value} {hs : List SlV} {L : List (List It3)}
/-- no block of it -/
def Sets.no (v : Value) (hs : List SlV) (b : Nat) : Prop := v.ownBlock ≠ some b ∧ ∀ (j : Nat) h, hs[j]? = some h → (slV h).ownBlock ≠ some b
theorem Sets.agr (h : Sets e ti w base v hs L) (k : Agr (fun b => ¬ Sets.no v hs b) w w') : Sets e ti w' base v hs L := by
  refine ⟨h.row.agr (k.mono fun b hb => ?_), h.len, fun j q l h1 h2 => (h.items j q l h1 h2).agr (k.mono fun b hb => ?_), h.apart, h.far⟩
  · rcases hb with hb | hb
    · exact hb.elim
    · exact fun hn => hn.1 hb.symm
  · rcases hb with hb | hb
    · exact hb.elim
    · exact fun hn => hn.2 j q h1 hb.symm
theorem Sets.via (h : Sets e ti w base v hs L) (hb : Below w.heap.size w w') : Sets e ti w' base v hs L := h.agr (Agr.below hb)
theorem Sets.block_lt (h : Sets e ti w base v hs L) {b : Nat} (hb : ¬ Sets.no v hs b) : base ≤ b ∧ b < w.heap.size := by
  by_cases h1 : v.ownBlock = some b
  · exact h.row.lt b h1
  · have : ∃ (j : Nat) (q : SlV), hs[j]? = some q ∧ (slV q).ownBlock = some b := by
      apply Classical.byContradiction
      intro hn
      exact hb ⟨h1, fun j q hj e => hn ⟨j, q, hj, e⟩⟩
    obtain ⟨j, q, hj, e⟩ := this
    have hjl := (List.getElem?_eq_some_iff.1 hj).1
    have hjl' : j < L.length := by rw [← h.len]; exact hjl
    have hl : L[j]? = some (L[j]'hjl') := List.getElem?_eq_getElem hjl'
    exact (h.items j q _ hj hl).lt b e
/-- the cell of the j-th row's header -/
theorem Sets.cell (h : Sets e ti w base v hs L) {j : Nat} {q : SlV} (hj : hs[j]? = some q) : ∃ gb c, v = .slice (some ⟨gb, 0, none⟩) L.length c ∧ base ≤ gb ∧ gb < w.heap.size ∧ w.cell? ⟨gb, j, none⟩ = some (slV q) ∧ ∀ i, w.frozen? ⟨gb, i, none⟩ = false := by
  obtain ⟨h1, raw, h2, h3, h4⟩ := h.row
  have hjl := (List.getElem?_eq_some_iff.1 hj).1
  rcases h3.2 with ⟨_, h0⟩ | ⟨g, cap, cur, hv, hb, hh, hc1, hc2, hc3, htk⟩
  · omega
  · have hB : Blk w g e cur := hh
    refine ⟨g, cap, hv, hb, hB.lt, ?_, hB.frozen⟩
    have hr : raw[j]? = some raw[j] := List.getElem?_eq_getElem (by omega)
    have e1 := h4 j _ q hr hj
    have e2 := h3.cells (g := g) (by rw [hv]; rfl) (j * 1 + 0) _ (flat_at (E := SlE) raw j _ 0 _ hr rfl)
    rw [Addr.add_lit, Nat.zero_add, Nat.mul_one, Nat.add_zero] at e2
    rw [e2, e1]; rfl

theorem slE_raw {w : World} {ok : Nat → Prop} {raw l : List SlV} (hl : l.length = raw.length) (h : ∀ (i : Nat) (r x : SlV), raw[i]? = some r → l[i]? = some x → SlE.rel ok w r x) : raw = l := by
  refine List.ext_getElem (by omega) fun i h1 h2 => ?_
  exact h i _ _ (List.getElem?_eq_getElem h1) (List.getElem?_eq_getElem h2)
theorem flatSl (l : List SlV) : flat SlE l = l.map slV := by
  induction l with
  | nil => rfl
  | cons x l ih => simp only [flat, List.flatMap_cons, List.map_cons] at ih ⊢; rw [ih]; rfl
theorem ownsRow_setP {n size g cap k : Nat} {xs : List Value} (h : w.ownsRow base e size (.slice (some ⟨g, 0, none⟩) n cap) n xs) (u : Value) : (w.setCell ⟨g, k, none⟩ u).ownsRow base e size (.slice (some ⟨g, 0, none⟩) n cap) n (xs.set k u) := by
  refine ⟨by have := h.1; simpa using this, ?_⟩
  rcases h.2 with ⟨h0, _⟩ | ⟨g', cap', cur, hv, hb, hh, hc1, hc2, hc3, htk⟩
  · cases h0
  · cases hv
    refine Or.inr ⟨g, cap, cur.setIfInBounds k u, rfl, hb, ?_, hc1, hc2, by simpa using hc3, ?_⟩
    · simp [World.setCell, Array.getElem?_modify, hh]
    · rw [Array.toList_setIfInBounds, List.take_set, htk]
/-- one header of the row is set -/
theorem Own.setSl {ok : Nat → Prop} {n c g j : Nat} {l : List SlV} (h : Own SlE e ok w base (.slice (some ⟨g, 0, none⟩) n c) n l) (q : SlV) : Own SlE e ok (w.setCell ⟨g, j, none⟩ (slV q)) base (.slice (some ⟨g, 0, none⟩) n c) n (l.set j q) := by
  obtain ⟨h1, raw, h2, h3, h4⟩ := h
  have er := slE_raw (by omega) h4
  subst er
  refine ⟨by simp [h1], raw.set j q, by simp [h2], ?_, fun i r y hr hy => by rw [hr] at hy; exact Option.some.inj hy⟩
  have := ownsRow_setP (k := j) h3 (slV q)
  rwa [flatSl, ← List.map_set, ← flatSl] at this
/-- a new empty row at the end -/
theorem Sets.push {v' : Value} (h : Sets e ti w base v hs L) (hrow : Own SlE e (fun _ => False) w' base v' (L.length + 1) (hs ++ [(none, 0, 0)])) (hg : w.grownBy w' v.ownBlock) (hv : v'.ownBlock = v.ownBlock ∨ v'.ownBlock = some w.heap.size) :
    Sets e ti w' base v' (hs ++ [(none, 0, 0)]) (L ++ [[]]) := by
  have hlen := h.len
  have hcase : ∀ (j : Nat) (q : SlV), (hs ++ [((none, 0, 0) : SlV)])[j]? = some q → hs[j]? = some q ∨ (j = hs.length ∧ q = (none, 0, 0)) := by
    intro j q hj
    by_cases hlt : j < hs.length
    · rw [List.getElem?_append_left hlt] at hj; exact Or.inl hj
    · have hjl := (List.getElem?_eq_some_iff.1 hj).1
      simp only [List.length_append, List.length_singleton] at hjl
      have ej : j = hs.length := by omega
      subst ej
      rw [List.getElem?_append_right (Nat.le_refl _), Nat.sub_self] at hj
      exact Or.inr ⟨rfl, (Option.some.inj hj).symm⟩
  refine ⟨by simpa using hrow, by simp [hlen], ?_, ?_, ?_⟩
  · intro j q l hq hl
    rcases hcase j q hq with hq' | ⟨ej, eq⟩
    · have hjl := (List.getElem?_eq_some_iff.1 hq').1
      rw [List.getElem?_append_left (by omega)] at hl
      refine (h.items j q l hq' hl).agr (Agr.grown hg fun b hb => ?_)
      rcases hb with hb | hb
      · exact hb.elim
      · exact fun e' => h.far j q b hq' hb.symm e'.symm
    · subst ej; subst eq
      rw [hlen, List.getElem?_append_right (Nat.le_refl _), Nat.sub_self] at hl
      have el : l = [] := (Option.some.inj hl).symm
      subst el
      exact Own.nil w' base
  · intro j j' q q' b hne hq hq' hb
    rcases hcase j q hq with hq | ⟨ej, eq⟩
    · rcases hcase j' q' hq' with hq' | ⟨ej', eq'⟩
      · exact h.apart j j' q q' b hne hq hq' hb
      · subst eq'; exact fun e' => by cases e'
    · subst eq; cases hb
  · intro j q b hq hb
    rcases hcase j q hq with hq | ⟨ej, eq⟩
    · have hjl := (List.getElem?_eq_some_iff.1 hq).1
      have hjl' : j < L.length := by omega
      rcases hv with hv | hv
      · rw [hv]; exact h.far j q b hq hb
      · rw [hv]
        have := ((h.items j q _ hq (List.getElem?_eq_getElem hjl')).lt b hb).2
        exact fun e' => by have := Option.some.inj e'; omega
    · subst eq; cases hb
/-- the j-th row has grown, and its header is set -/
theorem Sets.grow {g c j : Nat} {q q' : SlV} {l l' : List It3} (h : Sets e ti w base (.slice (some ⟨g, 0, none⟩) L.length c) hs L) (hq : hs[j]? = some q) (hl : L[j]? = some l)
    (ho : Own It3E ti (fun _ => False) w1 base (slV q') l'.length l') (hg : w.grownBy w1 (slV q).ownBlock) (hv : (slV q').ownBlock = (slV q).ownBlock ∨ (slV q').ownBlock = some w.heap.size) :
    Sets e ti (w1.setCell ⟨g, j, none⟩ (slV q')) base (.slice (some ⟨g, 0, none⟩) L.length c) (hs.set j q') (L.set j l') := by
  have hjl := (List.getElem?_eq_some_iff.1 hq).1
  have hlen := h.len
  have hgn : some g ≠ (slV q).ownBlock := fun e' => h.far j q g hq e'.symm rfl
  have hgl : g < w.heap.size := (h.row.lt g rfl).2
  have hg' : some g ≠ (slV q').ownBlock := by
    rcases hv with hv | hv
    · rw [hv]; exact hgn
    · rw [hv]; exact fun e' => by have := Option.some.inj e'; omega
  have hcase : ∀ (i : Nat) (r : SlV), (hs.set j q')[i]? = some r → (i = j ∧ r = q') ∨ (i ≠ j ∧ hs[i]? = some r) := by
    intro i r hi
    by_cases e' : i = j
    · subst e'
      rw [List.getElem?_set_self hjl] at hi
      exact Or.inl ⟨rfl, (Option.some.inj hi).symm⟩
    · rw [List.getElem?_set_ne (fun x => e' x.symm)] at hi
      exact Or.inr ⟨e', hi⟩
  have hblt : ∀ (i : Nat) (r : SlV) (b : Nat), hs[i]? = some r → (slV r).ownBlock = some b → b < w.heap.size := by
    intro i r b hi hb
    have hil := (List.getElem?_eq_some_iff.1 hi).1
    have hil' : i < L.length := by omega
    exact ((h.items i r _ hi (List.getElem?_eq_getElem hil')).lt b hb).2
  have hrow1 : Own SlE e (fun _ => False) w1 base (.slice (some ⟨g, 0, none⟩) L.length c) L.length hs := h.row.agr (Agr.grown hg fun b hb => by
    rcases hb with hb | hb
    · exact hb.elim
    · have : b = g := Option.some.inj hb
      subst this; exact hgn)
  refine ⟨by rw [List.length_set]; exact hrow1.setSl q', by simp [hlen], ?_, ?_, ?_⟩
  · intro i r m hr hm
    rcases hcase i r hr with ⟨ei, er⟩ | ⟨ei, hr⟩
    · subst ei; subst er
      rw [List.getElem?_set_self (by omega)] at hm
      have em := Option.some.inj hm
      subst em
      exact ho.agr (Agr.setCell _ fun b hb => by
        rcases hb with hb | hb
        · exact hb.elim
        · exact fun e' => hg' (by rw [← hb]; exact congrArg some e'.symm))
    · rw [List.getElem?_set_ne (fun x => ei x.symm)] at hm
      refine ((h.items i r m hr hm).agr (Agr.grown hg fun b hb => ?_)).agr (Agr.setCell _ fun b hb => ?_)
      · rcases hb with hb | hb
        · exact hb.elim
        · exact fun e' => h.apart i j r q b ei hr hq hb.symm e'.symm
      · rcases hb with hb | hb
        · exact hb.elim
        · exact fun e' => h.far i r b hr hb.symm (congrArg some e'.symm)
  · intro i i' r r' b hne hr hr' hb
    rcases hcase i r hr with ⟨ei, er⟩ | ⟨ei, hr2⟩
    · rcases hcase i' r' hr' with ⟨ei', er'⟩ | ⟨ei', hr2'⟩
      · omega
      · rw [er] at hb
        rcases hv with hv | hv
        · rw [hv] at hb
          exact h.apart j i' q r' b (fun x => ei' x.symm) hq hr2' hb
        · rw [hv] at hb
          intro e'
          have := hblt i' r' b hr2' e'
          have := Option.some.inj hb
          omega
    · rcases hcase i' r' hr' with ⟨ei', er'⟩ | ⟨ei', hr2'⟩
      · rw [er']
        have hbl := hblt i r b hr2 hb
        rcases hv with hv | hv
        · rw [hv]; exact h.apart i j r q b ei hr2 hq hb
        · rw [hv]; exact fun e' => by have := Option.some.inj e'; omega
      · exact h.apart i i' r r' b hne hr2 hr2' hb
  · intro i r b hr hb
    rcases hcase i r hr with ⟨ei, er⟩ | ⟨ei, hr⟩
    · subst er
      intro e'
      have : g = b := Option.some.inj e'
      subst this
      exact hg' hb.symm
    · exact h.far i r b hr hb
end
end Go.Proofs.Ytdmecijpioljaaa

