/- A row of edits of the call's own, each with a row of its own. -/
import Derived.Test.YtdccgeiniockpaaEA
namespace Go.Proofs.Ytdccgeiniockpaa
open Go.RowKit

def nv (r : EdRaw) : Value := .slice r.2.2.1 r.2.2.2.1 r.2.2.2.2
theorem OwnI.other {w w' : World} {base n : Nat} {v : Value} {xs : List Int} {row : Option Nat} (h : OwnI w base v n xs) (hg : w.grownBy w' row) (hr : ∀ g, v.ownBlock = some g → row ≠ some g) : OwnI w' base v n xs := by
  refine ⟨h.1, ?_⟩
  rcases h.2 with h0 | ⟨g, cap, cur, rfl, h1, hh, hk⟩
  · exact Or.inl h0
  · refine Or.inr ⟨g, cap, cur, rfl, h1, ?_, hk⟩
    rw [hg.block g (Array.getElem?_eq_some_iff.1 hh).1 (fun e => hr g rfl e.symm)]
    exact hh
theorem ownsRow_other {w w' : World} {base n size : Nat} {e : TypeId} {v : Value} {xs : List Value} {row : Option Nat} (h : w.ownsRow base e size v n xs) (hg : w.grownBy w' row) (hr : ∀ g, v.ownBlock = some g → row ≠ some g) : w'.ownsRow base e size v n xs := by
  refine ⟨h.1, ?_⟩
  rcases h.2 with h0 | ⟨g, cap, cur, rfl, h1, hh, hk⟩
  · exact Or.inl h0
  · refine Or.inr ⟨g, cap, cur, rfl, h1, ?_, hk⟩
    rw [hg.block g (Array.getElem?_eq_some_iff.1 hh).1 (fun e => hr g rfl e.symm)]
    exact hh
theorem ownsRow_set {w : World} {base n size g cap k : Nat} {e : TypeId} {xs : List Value} (h : w.ownsRow base e size (.slice (some ⟨g, 0, none⟩) n cap) n xs) (u : Value) : (w.setCell ⟨g, k, none⟩ u).ownsRow base e size (.slice (some ⟨g, 0, none⟩) n cap) n (xs.set k u) := by
  refine ⟨by simpa using h.1, ?_⟩
  rcases h.2 with ⟨h0, _⟩ | ⟨g', cap', cur, he, h1, hh, k1, k2, k3, k4⟩
  · cases h0
  · cases he
    refine Or.inr ⟨g, cap, cur.setIfInBounds k u, rfl, h1, Blk.set_ (cs := cur) hh k u, k1, k2, by simpa using k3, ?_⟩
    rw [Array.toList_setIfInBounds, List.take_set, k4]
theorem ownsRow_via {w w' : World} {base n size : Nat} {e : TypeId} {v : Value} {xs : List Value} (h : w.ownsRow base e size v n xs) (hb : Below w.heap.size w w') : w'.ownsRow base e size v n xs := by
  refine ⟨h.1, ?_⟩
  rcases h.2 with h0 | ⟨g, cap, cur, rfl, h1, hh, hk⟩
  · exact Or.inl h0
  · refine Or.inr ⟨g, cap, cur, rfl, h1, ?_, hk⟩
    rw [hb.block g (Array.getElem?_eq_some_iff.1 hh).1]
    exact hh

theorem grownBySet (w : World) (b i : Nat) (v : Value) : w.grownBy (w.setCell ⟨b, i, none⟩ v) (some b) :=
  ⟨rfl, rfl, rfl, by simp, fun k _ hne => Below.heap_setCell w _ v k (fun e => hne (by rw [e]))⟩

structure EdRow (w : World) (base : Nat) (v : Value) (raw : List EdRaw) (l : List EdV) : Prop where
  len : raw.length = l.length
  row : w.ownsRow base 24 3 v l.length (flat EdE raw)
  rel : ∀ (i : Nat) (r : EdRaw) (x : EdV), raw[i]? = some r → l[i]? = some x → r.1 = x.1 ∧ r.2.1 = x.2.1 ∧ OwnI w base (nv r) x.2.2.length x.2.2
  out : ∀ (i : Nat) (r : EdRaw) (g : Nat), raw[i]? = some r → (nv r).ownBlock = some g → v.ownBlock ≠ some g
  dis : ∀ (i j : Nat) (r s : EdRaw) (g : Nat), raw[i]? = some r → raw[j]? = some s → (nv r).ownBlock = some g → (nv s).ownBlock = some g → i = j
section
variable {w w' : World} {base : Nat} {v : Value} {raw : List EdRaw} {l : List EdV}
theorem EdRow.nil (w : World) (base : Nat) : EdRow w base (.slice none 0 0) [] [] :=
  ⟨rfl, World.ownsRow_nil w base _ 3, fun i r x h => by simp at h, fun i r g h => by simp at h, fun i j r s g h => by simp at h⟩
theorem EdRow.via (h : EdRow w base v raw l) (hb : Below w.heap.size w w') : EdRow w' base v raw l :=
  ⟨h.len, ownsRow_via h.row hb, fun i r x hr hx => by obtain ⟨h1, h2, h3⟩ := h.rel i r x hr hx; exact ⟨h1, h2, OwnI.keep h3 hb (Nat.le_refl _)⟩, h.out, h.dis⟩
theorem EdRow.low (h : EdRow w base v raw l) {p : Addr} (hp : p.block < base) (u : Value) : EdRow (w.setCell p u) base v raw l :=
  ⟨h.len, ownsRow_setCell_below h.row hp u, fun i r x hr hx => by obtain ⟨h1, h2, h3⟩ := h.rel i r x hr hx; exact ⟨h1, h2, h3.setCell hp u⟩, h.out, h.dis⟩
theorem EdRow.lt (h : EdRow w base v raw l) : ∀ g, v.ownBlock = some g → base ≤ g ∧ g < w.heap.size := World.ownsRow.lt h.row
theorem EdRow.form (h : EdRow w base v raw l) : ∃ A c, v = .slice A l.length c ∧ l.length ≤ c := by
  rcases h.row.2 with ⟨rfl, h0⟩ | ⟨g, cap, cur, rfl, _, _, hc, _⟩
  · exact ⟨none, 0, by rw [h0], by omega⟩
  · exact ⟨_, _, rfl, hc⟩

/-- a new edit, with no new elements -/
theorem EdRow.push (h : EdRow w base v raw l) {v' : Value} {f : Nat} (hr : w'.ownsRow base 24 3 v' (l.length + 1) (flat EdE raw ++ EdE.cells (f, f, none, 0, 0))) (hg : w.grownBy w' v.ownBlock) (ho : v'.ownBlock = v.ownBlock ∨ v'.ownBlock = some w.heap.size) :
    EdRow w' base v' (raw ++ [(f, f, none, 0, 0)]) (l ++ [(f, f, [])]) := by
  have key : ∀ (i : Nat) (r : EdRaw), (raw ++ [(f, f, none, 0, 0)])[i]? = some r → (raw[i]? = some r ∧ i < raw.length) ∨ (r = (f, f, none, 0, 0) ∧ i = raw.length) := fun i r hi => by
    rcases Nat.lt_or_ge i raw.length with hl | hl
    · rw [List.getElem?_append_left hl] at hi; exact Or.inl ⟨hi, hl⟩
    · rw [List.getElem?_append_right hl] at hi
      have e0 : i - raw.length = 0 := by have := (List.getElem?_eq_some_iff.1 hi).1; simp at this; omega
      rw [e0] at hi
      exact Or.inr ⟨by simpa using hi.symm, by omega⟩
  have hnone : ∀ g, (nv (f, f, none, 0, 0)).ownBlock ≠ some g := fun g e => by simp [nv, Value.ownBlock] at e
  refine ⟨by simp [h.len], by rw [flat_snoc, List.length_append, List.length_singleton]; exact hr, fun i r x hi hx => ?_, fun i r g hi hb => ?_, fun i j r s g hi hj h1 h2 => ?_⟩
  · rcases key i r hi with ⟨h1, hl⟩ | ⟨rfl, rfl⟩
    · rw [List.getElem?_append_left (by rw [← h.len]; exact hl)] at hx
      obtain ⟨k1, k2, k3⟩ := h.rel i r x h1 hx
      exact ⟨k1, k2, k3.other hg fun g hb e => h.out i r g h1 hb e⟩
    · rw [List.getElem?_append_right (by rw [h.len]; exact Nat.le_refl _), h.len, Nat.sub_self] at hx
      simp at hx; subst hx
      exact ⟨rfl, rfl, OwnI.nil _ _⟩
  · rcases key i r hi with ⟨h1, hl⟩ | ⟨rfl, -⟩
    · rcases ho with e | e
      · rw [e]; exact h.out i r g h1 hb
      · rw [e]; intro e2; cases e2
        have hx : l[i]? = some (l[i]'(by rw [← h.len]; exact hl)) := List.getElem?_eq_getElem _
        have := (h.rel i r _ h1 hx).2.2.lt _ hb
        omega
    · exact absurd hb (hnone g)
  · rcases key i r hi with ⟨k1, _⟩ | ⟨rfl, -⟩
    · rcases key j s hj with ⟨k2, _⟩ | ⟨rfl, -⟩
      · exact h.dis i j r s g k1 k2 h1 h2
      · exact absurd h2 (hnone g)
    · exact absurd h1 (hnone g)
end

theorem flat_last {raw0 : List EdRaw} {r r' : EdRaw} {c : Nat} {u : Value} (h : EdE.cells r' = (EdE.cells r).set c u) : flat EdE (raw0 ++ [r']) = (flat EdE (raw0 ++ [r])).set (raw0.length * 3 + c) u := by
  rw [flat_snoc, flat_snoc, h, List.set_append_right _ _ (by rw [flat_len]; exact Nat.le_add_right _ _)]
  congr 2
  rw [flat_len]
  show c = raw0.length * 3 + c - raw0.length * 3
  omega
theorem last_key {α : Type} {l : List α} {a x : α} {i : Nat} (h : (l ++ [a])[i]? = some x) : (l[i]? = some x ∧ i < l.length) ∨ (x = a ∧ i = l.length) := by
  rcases Nat.lt_or_ge i l.length with hl | hl
  · rw [List.getElem?_append_left hl] at h; exact Or.inl ⟨h, hl⟩
  · rw [List.getElem?_append_right hl] at h
    have e0 : i - l.length = 0 := by have := (List.getElem?_eq_some_iff.1 h).1; simp at this; omega
    rw [e0] at h
    exact Or.inr ⟨by simpa using h.symm, by omega⟩
section
variable {w w' : World} {base g cap f i : Nat} {raw0 : List EdRaw} {l0 : List EdV} {S : SlV} {ns : List Int}
theorem EdRow.cells (h : EdRow w base (.slice (some ⟨g, 0, none⟩) (l0.length + 1) cap) (raw0 ++ [(f, i, S)]) (l0 ++ [(f, i, ns)])) :
    w.cell? ⟨g, l0.length * 3, none⟩ = some (.int .i64 (f : Int)) ∧ w.cell? ⟨g, l0.length * 3 + 1, none⟩ = some (.int .i64 (i : Int)) ∧ w.cell? ⟨g, l0.length * 3 + 2, none⟩ = some (.slice S.1 S.2.1 S.2.2) ∧ (∀ o, w.frozen? ⟨g, o, none⟩ = false) ∧ g < w.heap.size := by
  have hl : raw0.length = l0.length := by have := h.len; simpa using this
  have hat : ∀ c u, (EdE.cells (f, i, S))[c]? = some u → w.cell? ⟨g, l0.length * 3 + c, none⟩ = some u := fun c u hu => by
    have h1 := flat_at (E := EdE) (raw0 ++ [(f, i, S)]) raw0.length (f, i, S) c u (by simp) hu
    have h2 := h.row
    have := World.ownsRow.cells h2 (g := g) rfl _ u h1
    rw [Addr.add_lit, Nat.zero_add] at this
    rw [← hl]; exact this
  refine ⟨hat 0 _ rfl, hat 1 _ rfl, hat 2 _ rfl, fun o => ?_, (h.lt g rfl).2⟩
  have hrow := h.row
  rw [List.length_append, List.length_singleton] at hrow
  rcases hrow.2 with ⟨h0, _⟩ | ⟨g', cap', cur, he, _, hh, _⟩
  · cases h0
  · cases he; exact Blk.frozen (cs := cur) hh o
/-- the last edit goes one further -/
theorem EdRow.setTo (h : EdRow w base (.slice (some ⟨g, 0, none⟩) (l0.length + 1) cap) (raw0 ++ [(f, i, S)]) (l0 ++ [(f, i, ns)])) :
    EdRow (w.setCell ⟨g, l0.length * 3 + 1, none⟩ (.int .i64 ((i : Int) + 1))) base (.slice (some ⟨g, 0, none⟩) (l0.length + 1) cap) (raw0 ++ [(f, i + 1, S)]) (l0 ++ [(f, i + 1, ns)]) := by
  have hl : raw0.length = l0.length := by have := h.len; simpa using this
  have hgr := grownBySet w g (l0.length * 3 + 1) (.int .i64 ((i : Int) + 1))
  refine ⟨by simp [hl], ?_, fun k r x hr hx => ?_, fun k r g' hr hb => ?_, fun k m r s g' hr hs h1 h2 => ?_⟩
  · have e := flat_last (raw0 := raw0) (r := (f, i, S)) (r' := (f, i + 1, S)) (c := 1) (u := .int .i64 ((i : Int) + 1)) (by simp [EdE])
    rw [e, hl, List.length_append, List.length_singleton]
    have h2 := h.row
    rw [List.length_append, List.length_singleton] at h2
    exact ownsRow_set h2 _
  · have hsame : ∀ (k : Nat) (r : EdRaw), (raw0 ++ [(f, i + 1, S)])[k]? = some r → ∃ r', (raw0 ++ [(f, i, S)])[k]? = some r' ∧ nv r' = nv r := fun k r hr => by
      rcases last_key hr with ⟨h1, hl1⟩ | ⟨rfl, rfl⟩
      · exact ⟨r, by rw [List.getElem?_append_left hl1]; exact h1, rfl⟩
      · exact ⟨(f, i, S), by simp, rfl⟩
    rcases last_key hr with ⟨h1, hl1⟩ | ⟨rfl, rfl⟩
    · rw [List.getElem?_append_left (by omega)] at hx
      obtain ⟨k1, k2, k3⟩ := h.rel k r x (by rw [List.getElem?_append_left hl1]; exact h1) (by rw [List.getElem?_append_left (by omega)]; exact hx)
      exact ⟨k1, k2, k3.other hgr fun g' hb e => h.out k r g' (by rw [List.getElem?_append_left hl1]; exact h1) hb e⟩
    · rw [hl] at hx
      simp at hx; subst hx
      obtain ⟨k1, k2, k3⟩ := h.rel raw0.length (f, i, S) (f, i, ns) (by simp) (by rw [hl]; simp)
      exact ⟨rfl, rfl, k3.other hgr fun g' hb e => h.out raw0.length (f, i, S) g' (by simp) hb e⟩
  · rcases last_key hr with ⟨h1, hl1⟩ | ⟨rfl, rfl⟩
    · exact h.out k r g' (by rw [List.getElem?_append_left hl1]; exact h1) hb
    · exact h.out raw0.length (f, i, S) g' (by simp) hb
  · have hsame : ∀ (k : Nat) (r : EdRaw), (raw0 ++ [(f, i + 1, S)])[k]? = some r → ∃ r', (raw0 ++ [(f, i, S)])[k]? = some r' ∧ nv r' = nv r := fun k r hr => by
      rcases last_key hr with ⟨h1, hl1⟩ | ⟨rfl, rfl⟩
      · exact ⟨r, by rw [List.getElem?_append_left hl1]; exact h1, rfl⟩
      · exact ⟨(f, i, S), by simp, rfl⟩
    obtain ⟨r', h3, h4⟩ := hsame k r hr
    obtain ⟨s', h5, h6⟩ := hsame m s hs
    exact h.dis k m r' s' g' h3 h5 (by rw [h4]; exact h1) (by rw [h6]; exact h2)
/-- the last edit gets one more new element -/
theorem EdRow.pushNew {A' : Option Addr} {k c' : Nat} {y : Int} (h : EdRow w base (.slice (some ⟨g, 0, none⟩) (l0.length + 1) cap) (raw0 ++ [(f, i, S)]) (l0 ++ [(f, i, ns)]))
    (ho : OwnI w' base (.slice A' k c') k (ns ++ [y])) (hg : w.grownBy w' (nv (f, i, S)).ownBlock) (ha : (Value.slice A' k c').ownBlock = (nv (f, i, S)).ownBlock ∨ (Value.slice A' k c').ownBlock = some w.heap.size) :
    EdRow (w'.setCell ⟨g, l0.length * 3 + 2, none⟩ (.slice A' k c')) base (.slice (some ⟨g, 0, none⟩) (l0.length + 1) cap) (raw0 ++ [(f, i, A', k, c')]) (l0 ++ [(f, i, ns ++ [y])]) := by
  have hl : raw0.length = l0.length := by have := h.len; simpa using this
  have hk : k = (ns ++ [y]).length := by have := ho.toInts.len; exact this.symm
  have hgl : g < w.heap.size := (h.lt g rfl).2
  have hSg : (nv (f, i, S)).ownBlock ≠ some g := fun e => h.out raw0.length (f, i, S) g (by simp) e rfl
  have hgr := grownBySet w' g (l0.length * 3 + 2) (.slice A' k c')
  have hng : ∀ g', (Value.slice A' k c').ownBlock = some g' → g' ≠ g := fun g' e e2 => by
    subst e2
    rcases ha with h1 | h1
    · rw [h1] at e; exact hSg e
    · rw [h1] at e; cases e; omega
  refine ⟨by simp [hl], ?_, fun q r x hr hx => ?_, fun q r g' hr hb => ?_, fun q m r s g' hr hs h1 h2 => ?_⟩
  · have e := flat_last (raw0 := raw0) (r := (f, i, S)) (r' := (f, i, A', k, c')) (c := 2) (u := .slice A' k c') (by simp [EdE])
    rw [e, hl, List.length_append, List.length_singleton]
    have h2 := h.row
    rw [List.length_append, List.length_singleton] at h2
    exact ownsRow_set (ownsRow_other h2 hg fun g' e' e2 => by cases e'; exact hSg e2) _
  · rcases last_key hr with ⟨h1, hl1⟩ | ⟨rfl, rfl⟩
    · rw [List.getElem?_append_left (by omega)] at hx
      have hq : (raw0 ++ [(f, i, S)])[q]? = some r := by rw [List.getElem?_append_left hl1]; exact h1
      obtain ⟨k1, k2, k3⟩ := h.rel q r x hq (by rw [List.getElem?_append_left (by omega)]; exact hx)
      exact ⟨k1, k2, (k3.other hg fun g' hb e => by
        have := h.dis q raw0.length r (f, i, S) g' hq (by simp) hb e; omega).other hgr fun g' hb e => h.out q r g' hq hb e⟩
    · rw [hl] at hx
      simp at hx; subst hx
      refine ⟨rfl, rfl, ?_⟩
      have : OwnI w' base (nv (f, i, A', k, c')) (ns ++ [y]).length (ns ++ [y]) := by rw [← hk]; exact ho
      exact this.other hgr fun g' hb e => hng g' hb (by cases e; rfl)
  · rcases last_key hr with ⟨h1, hl1⟩ | ⟨rfl, rfl⟩
    · exact h.out q r g' (by rw [List.getElem?_append_left hl1]; exact h1) hb
    · intro e; cases e; exact hng _ hb rfl
  · have hfr : ∀ (q : Nat) (r : EdRaw), raw0[q]? = some r → q < raw0.length → (nv r).ownBlock = some g' → (Value.slice A' k c').ownBlock = some g' → False := fun q r h3 h4 h5 h6 => by
      have hq : (raw0 ++ [(f, i, S)])[q]? = some r := by rw [List.getElem?_append_left h4]; exact h3
      rcases ha with h7 | h7
      · rw [h7] at h6
        have := h.dis q raw0.length r (f, i, S) g' hq (by simp) h5 h6; omega
      · rw [h7] at h6; cases h6
        have hx : l0[q]? = some (l0[q]'(by omega)) := List.getElem?_eq_getElem _
        have := (h.rel q r _ hq (by rw [List.getElem?_append_left (by omega)]; exact hx)).2.2.lt _ h5
        omega
    rcases last_key hr with ⟨h3, hl3⟩ | ⟨rfl, rfl⟩
    · rcases last_key hs with ⟨h4, hl4⟩ | ⟨rfl, rfl⟩
      · exact h.dis q m r s g' (by rw [List.getElem?_append_left hl3]; exact h3) (by rw [List.getElem?_append_left hl4]; exact h4) h1 h2
      · exact (hfr q r h3 hl3 h1 h2).elim
    · rcases last_key hs with ⟨h4, hl4⟩ | ⟨rfl, rfl⟩
      · exact (hfr m s h4 hl4 h2 h1).elim
      · rfl
end
end Go.Proofs.Ytdccgeiniockpaa
