/- Texts IM, laid together. -/
import Derived.Test.YthkldiehokblcaaIL


namespace Go.Proofs.Ythkldiehokblcaa
open Go.RowKit

/-- while the two rows of sets are being built -/
structure BuR (w : World) (base : Nat) (g : Gr) (Ag : Option Addr) (ng cg bn k1 k2 : Nat) (v1 v2 : Value) (l1 l2 : List Nat) (wr : World) : Prop where
  hg : Blk wr w.heap.size 24 (gCells g Ag ng cg)
  nul : BRow wr bn g.nons (nulK g.rules g.nons)
  o1 : Own MpE 79 (fun _ => False) wr base v1 k1 l1
  o2 : Own MpE 79 (fun _ => False) wr base v2 k2 l2
  s : ∀ x ∈ l1 ++ l2, SetM wr x (fun _ => false) ∧ w.heap.size < x
  nd : (l1 ++ l2).Nodup
  d : ∀ b, v1.ownBlock = some b → v2.ownBlock ≠ some b
  bel : Below w.heap.size w wr
  lo : bn < base ∧ w.heap.size < base
section
variable {w wr wa : World} {base : Nat} {g : Gr} {Ag : Option Addr} {ng cg bn k1 k2 : Nat} {v1 v2 v' : Value} {l1 l2 : List Nat} {x : Nat}
theorem BuR.via (h : BuR w base g Ag ng cg bn k1 k2 v1 v2 l1 l2 wr) (hb : Below wr.heap.size wr wa) : BuR w base g Ag ng cg bn k1 k2 v1 v2 l1 l2 wa :=
  ⟨h.hg.via hb, h.nul.via hb, h.o1.via hb, h.o2.via hb, fun x hx => ⟨(h.s x hx).1.via hb, (h.s x hx).2⟩, h.nd, h.d, h.bel.trans (hb.mono h.bel.size), h.lo⟩
theorem set_own {v : Value} {n b : Nat} {l : List Nat} {f : Nat → Bool} (ho : Own MpE 79 (fun _ => False) wr base v n l) (hv : v.ownBlock = some b) (hs : SetM wr x f) : some x ≠ some b := by
  intro e
  obtain rfl : x = b := Option.some.inj e
  obtain ⟨_, raw, _, h4, _⟩ := ho
  rcases h4.2 with ⟨rfl, _⟩ | ⟨g, cap, cur, rfl, hb, hh, _⟩
  · cases hv
  · obtain rfl : g = x := by simpa [Value.ownBlock] using hv
    obtain ⟨es, clock, hm, -⟩ := hs.1
    rw [hm] at hh; cases hh
theorem BuR.push1 (h : BuR w base g Ag ng cg bn k1 k2 v1 v2 l1 l2 wr) (ho : Own MpE 79 (fun _ => False) wa base v' (k1 + 1) (l1 ++ [x])) (k : wr.grownBy wa v1.ownBlock) (hv : v'.ownBlock = v1.ownBlock ∨ v'.ownBlock = some wr.heap.size)
    (hs : SetM wr x (fun _ => false)) (hlo : w.heap.size < x) (hx : x ∉ l1 ++ l2) : BuR w base g Ag ng cg bn (k1 + 1) k2 v' v2 (l1 ++ [x]) l2 wa := by
  have hlt : ∀ b, v1.ownBlock = some b → base ≤ b ∧ b < wr.heap.size := fun b e => h.o1.lt b e
  have hl := h.lo
  have hset : ∀ y, SetM wr y (fun _ => false) → SetM wa y (fun _ => false) := fun y hy => hy.grown k (fun e => by
    cases hv1 : v1.ownBlock with
    | none => rw [hv1] at e; cases e
    | some b => rw [hv1] at e; exact set_own h.o1 hv1 hy e)
  refine ⟨h.hg.grown k (fun e => by have := (hlt _ e.symm).1; omega), h.nul.grown k (fun e => by have := (hlt _ e.symm).1; omega), ho, h.o2.agr (Agr.grown k fun b hb => ?_), fun y hy => ?_, ?_, fun b hb => ?_, h.bel.grown k h.bel.size (fun j e => by have := (hlt j e).1; omega), hl⟩
  · rcases hb with hb | hb
    · exact hb.elim
    · exact fun e => h.d b e.symm hb.symm
  · by_cases e : y = x
    · subst e; exact ⟨hset y hs, hlo⟩
    · have hy' : y ∈ l1 ++ l2 := by
        simp only [List.mem_append, List.mem_singleton] at hy ⊢
        rcases hy with (hy | hy) | hy
        · exact Or.inl hy
        · exact absurd hy e
        · exact Or.inr hy
      exact ⟨hset y (h.s y hy').1, (h.s y hy').2⟩
  · have : (x :: (l1 ++ l2)).Nodup := List.nodup_cons.2 ⟨hx, h.nd⟩
    refine (List.Perm.nodup_iff ?_).2 this
    simp
  · rcases hv with hv | hv <;> rw [hv] at hb
    · exact h.d b hb
    · intro e
      have := (h.o2.lt b e).2
      have := Option.some.inj hb; omega
theorem BuR.push2 (h : BuR w base g Ag ng cg bn k1 k2 v1 v2 l1 l2 wr) (ho : Own MpE 79 (fun _ => False) wa base v' (k2 + 1) (l2 ++ [x])) (k : wr.grownBy wa v2.ownBlock) (hv : v'.ownBlock = v2.ownBlock ∨ v'.ownBlock = some wr.heap.size)
    (hs : SetM wr x (fun _ => false)) (hlo : w.heap.size < x) (hx : x ∉ l1 ++ l2) : BuR w base g Ag ng cg bn k1 (k2 + 1) v1 v' l1 (l2 ++ [x]) wa := by
  have hlt : ∀ b, v2.ownBlock = some b → base ≤ b ∧ b < wr.heap.size := fun b e => h.o2.lt b e
  have hl := h.lo
  have hset : ∀ y, SetM wr y (fun _ => false) → SetM wa y (fun _ => false) := fun y hy => hy.grown k (fun e => by
    cases hv1 : v2.ownBlock with
    | none => rw [hv1] at e; cases e
    | some b => rw [hv1] at e; exact set_own h.o2 hv1 hy e)
  refine ⟨h.hg.grown k (fun e => by have := (hlt _ e.symm).1; omega), h.nul.grown k (fun e => by have := (hlt _ e.symm).1; omega), h.o1.agr (Agr.grown k fun b hb => ?_), ho, fun y hy => ?_, ?_, fun b hb => ?_, h.bel.grown k h.bel.size (fun j e => by have := (hlt j e).1; omega), hl⟩
  · rcases hb with hb | hb
    · exact hb.elim
    · exact fun e => h.d b hb.symm e.symm
  · by_cases e : y = x
    · subst e; exact ⟨hset y hs, hlo⟩
    · have hy' : y ∈ l1 ++ l2 := by
        simp only [List.mem_append, List.mem_singleton] at hy ⊢
        rcases hy with hy | hy | hy
        · exact Or.inl hy
        · exact Or.inr hy
        · exact absurd hy e
      exact ⟨hset y (h.s y hy').1, (h.s y hy').2⟩
  · have : (x :: (l1 ++ l2)).Nodup := List.nodup_cons.2 ⟨hx, h.nd⟩
    refine (List.Perm.nodup_iff ?_).2 this
    rw [← List.append_assoc]
    exact List.perm_append_singleton x (l1 ++ l2)
  · rcases hv with hv | hv
    · rw [hv]; exact h.d b hb
    · rw [hv]
      intro e
      have := (h.o1.lt b hb).2
      have := Option.some.inj e; omega
end
/-- the two rows of sets -/
structure SeR (w : World) (g : Gr) (Ag : Option Addr) (ng cg bn : Nat) (A1 A2 : Option Addr) (b1 b2 : Nat → Nat) (fs fo : Nat → Nat → Bool) (wr : World) : Prop where
  hg : Blk wr w.heap.size 24 (gCells g Ag ng cg)
  nul : BRow wr bn g.nons (nulK g.rules g.nons)
  one : MpR wr A1 g.nons b1 fs
  fol : MpR wr A2 g.nons b2 fo
  i1 : ∀ i j, i < g.nons → j < g.nons → b1 i = b1 j → i = j
  i2 : ∀ i j, i < g.nons → j < g.nons → b2 i = b2 j → i = j
  i12 : ∀ i j, i < g.nons → j < g.nons → b1 i ≠ b2 j
  lo1 : ∀ i, i < g.nons → w.heap.size < b1 i
  lo2 : ∀ i, i < g.nons → w.heap.size < b2 i
  bel : Below w.heap.size w wr
section
variable {w wr wa : World} {g : Gr} {Ag : Option Addr} {ng cg bn : Nat} {A1 A2 : Option Addr} {b1 b2 : Nat → Nat} {fs fo : Nat → Nat → Bool}
theorem SeR.via (h : SeR w g Ag ng cg bn A1 A2 b1 b2 fs fo wr) (hb : Below wr.heap.size wr wa) : SeR w g Ag ng cg bn A1 A2 b1 b2 fs fo wa :=
  ⟨h.hg.via hb, h.nul.via hb, h.one.via hb, h.fol.via hb, h.i1, h.i2, h.i12, h.lo1, h.lo2, h.bel.trans (hb.mono h.bel.size)⟩
/-- a set of neither row has changed -/
theorem SeR.other {bm : Nat} {f : Nat → Bool} (h : SeR w g Ag ng cg bn A1 A2 b1 b2 fs fo wr) (hm : SetM wr bm f) (h1 : ∀ j, j < g.nons → b1 j ≠ bm) (h2 : ∀ j, j < g.nons → b2 j ≠ bm) (hlo : w.heap.size ≤ bm) (hg : wr.grownBy wa (some bm)) : SeR w g Ag ng cg bn A1 A2 b1 b2 fs fo wa := by
  refine ⟨h.hg.grown hg (fun e => hm.ne_blk h.hg (Option.some.inj e)), ?_, h.one.other hm h1 hg, h.fol.other hm h2 hg, h.i1, h.i2, h.i12, h.lo1, h.lo2, h.bel.grown hg h.bel.size (fun j e => by cases e; exact hlo)⟩
  obtain ⟨cs, k1, k2, k3⟩ := h.nul
  exact ⟨cs, k1.grown hg (fun e => hm.ne_blk k1 (Option.some.inj e)), k2, k3⟩
/-- an iterator's block has turned -/
theorem SeR.iter {r : Nat} (h : SeR w g Ag ng cg bn A1 A2 b1 b2 fs fo wr) {r0 : Nat} (hr0 : r0 ≤ r) (hold : SeR w g Ag ng cg bn A1 A2 b1 b2 fs fo wr → bn < r0 ∧ w.heap.size < r0 ∧ (∀ ad, A1 = some ad → ad.block < r0) ∧ (∀ ad, A2 = some ad → ad.block < r0) ∧ (∀ j, j < g.nons → b1 j < r0) ∧ (∀ j, j < g.nons → b2 j < r0)) (hg : wr.grownBy wa (some r)) : SeR w g Ag ng cg bn A1 A2 b1 b2 fs fo wa := by
  obtain ⟨q1, q2, q3, q4, q5, q6⟩ := hold h
  refine ⟨h.hg.grown hg (fun e => by have := Option.some.inj e; omega), h.nul.grown hg (fun e => by have := Option.some.inj e; omega), h.one.far hg (fun ad e q => by have := q3 ad e; have := Option.some.inj q; omega) (fun j hj q => by have := q5 j hj; have := Option.some.inj q; omega), h.fol.far hg (fun ad e q => by have := q4 ad e; have := Option.some.inj q; omega) (fun j hj q => by have := q6 j hj; have := Option.some.inj q; omega), h.i1, h.i2, h.i12, h.lo1, h.lo2, h.bel.grown hg h.bel.size (fun j e => by cases e; omega)⟩
theorem SeR.olds (h : SeR w g Ag ng cg bn A1 A2 b1 b2 fs fo wr) : bn < wr.heap.size ∧ w.heap.size < wr.heap.size ∧ (∀ ad, A1 = some ad → ad.block < wr.heap.size) ∧ (∀ ad, A2 = some ad → ad.block < wr.heap.size) ∧ (∀ j, j < g.nons → b1 j < wr.heap.size) ∧ (∀ j, j < g.nons → b2 j < wr.heap.size) := by
  refine ⟨h.nul.lt, h.hg.lt, fun ad e => ?_, fun ad e => ?_, fun j hj => (h.one.set j hj).lt, fun j hj => (h.fol.set j hj).lt⟩
  · obtain ⟨b, off, e', hb, -⟩ := h.one.row
    rw [e'] at e; cases e; exact hb
  · obtain ⟨b, off, e', hb, -⟩ := h.fol.row
    rw [e'] at e; cases e; exact hb
/-- a set of the first row has changed -/
theorem SeR.putF {i : Nat} {q : Nat → Bool} (h : SeR w g Ag ng cg bn A1 A2 b1 b2 fs fo wr) (hi : i < g.nons) (hs : SetM wa (b1 i) q) (hg : wr.grownBy wa (some (b1 i))) : SeR w g Ag ng cg bn A1 A2 b1 b2 (fun N t => if N = i then q t else fs N t) fo wa := by
  have hm := h.one.set i hi
  refine ⟨h.hg.grown hg (fun e => hm.ne_blk h.hg (Option.some.inj e)), ?_, h.one.put hi (fun j hj e => h.i1 j i hj hi e) hs hg, h.fol.other hm (fun j hj e => h.i12 i j hi hj e.symm) hg, h.i1, h.i2, h.i12, h.lo1, h.lo2, h.bel.grown hg h.bel.size (fun j e => by cases e; exact Nat.le_of_lt (h.lo1 i hi))⟩
  obtain ⟨cs, k1, k2, k3⟩ := h.nul
  exact ⟨cs, k1.grown hg (fun e => hm.ne_blk k1 (Option.some.inj e)), k2, k3⟩
theorem SeR.putO {i : Nat} {q : Nat → Bool} (h : SeR w g Ag ng cg bn A1 A2 b1 b2 fs fo wr) (hi : i < g.nons) (hs : SetM wa (b2 i) q) (hg : wr.grownBy wa (some (b2 i))) : SeR w g Ag ng cg bn A1 A2 b1 b2 fs (fun N t => if N = i then q t else fo N t) wa := by
  have hm := h.fol.set i hi
  refine ⟨h.hg.grown hg (fun e => hm.ne_blk h.hg (Option.some.inj e)), ?_, h.one.other hm (fun j hj e => h.i12 j i hj hi e) hg, h.fol.put hi (fun j hj e => h.i2 j i hj hi e) hs hg, h.i1, h.i2, h.i12, h.lo1, h.lo2, h.bel.grown hg h.bel.size (fun j e => by cases e; exact Nat.le_of_lt (h.lo2 i hi))⟩
  obtain ⟨cs, k1, k2, k3⟩ := h.nul
  exact ⟨cs, k1.grown hg (fun e => hm.ne_blk k1 (Option.some.inj e)), k2, k3⟩
theorem SeR.ext {fs' fo' : Nat → Nat → Bool} (h : SeR w g Ag ng cg bn A1 A2 b1 b2 fs fo wr) (e1 : ∀ i, i < g.nons → ∀ t, fs i t = fs' i t) (e2 : ∀ i, i < g.nons → ∀ t, fo i t = fo' i t) : SeR w g Ag ng cg bn A1 A2 b1 b2 fs' fo' wr :=
  ⟨h.hg, h.nul, h.one.ext e1, h.fol.ext e2, h.i1, h.i2, h.i12, h.lo1, h.lo2, h.bel⟩
/-- the rows are built -/
theorem BuR.toSe {base c1 c2 : Nat} {l1 l2 : List Nat} (h : BuR w base g Ag ng cg bn g.nons g.nons (.slice A1 g.nons c1) (.slice A2 g.nons c2) l1 l2 wr) (hn : 0 < g.nons) : SeR w g Ag ng cg bn A1 A2 (fun i => l1.getD i 0) (fun i => l2.getD i 0) (fun _ _ => false) (fun _ _ => false) wr := by
  have e1 := h.o1.len
  have e2 := h.o2.len
  have hd := List.nodup_append.1 h.nd
  have at1 : ∀ i, i < g.nons → ∃ x, l1[i]? = some x ∧ l1.getD i 0 = x ∧ x ∈ l1 := fun i hi => ⟨l1[i], List.getElem?_eq_getElem (by omega), by simp [List.getD_eq_getElem?_getD, List.getElem?_eq_getElem (show i < l1.length by omega)], List.getElem_mem _⟩
  have at2 : ∀ i, i < g.nons → ∃ x, l2[i]? = some x ∧ l2.getD i 0 = x ∧ x ∈ l2 := fun i hi => ⟨l2[i], List.getElem?_eq_getElem (by omega), by simp [List.getD_eq_getElem?_getD, List.getElem?_eq_getElem (show i < l2.length by omega)], List.getElem_mem _⟩
  have inj : ∀ {l : List Nat}, l.Nodup → ∀ {i j : Nat} {x : Nat}, l[i]? = some x → l[j]? = some x → i = j := fun {l} hl {i j x} a b => by
    obtain ⟨p1, p2⟩ := List.getElem?_eq_some_iff.1 a
    obtain ⟨q1, q2⟩ := List.getElem?_eq_some_iff.1 b
    rcases Nat.lt_trichotomy i j with hij | hij | hij
    · exact absurd (p2.trans q2.symm) (List.pairwise_iff_getElem.1 hl i j p1 q1 hij)
    · exact hij
    · exact absurd (q2.trans p2.symm) (List.pairwise_iff_getElem.1 hl j i q1 p1 hij)
  refine ⟨h.hg, h.nul, h.o1.toMp hn _ fun i x hx => (h.s x (List.mem_append.2 (Or.inl (List.mem_of_getElem? hx)))).1, h.o2.toMp hn _ fun i x hx => (h.s x (List.mem_append.2 (Or.inr (List.mem_of_getElem? hx)))).1, ?_, ?_, ?_, ?_, ?_, h.bel⟩
  · intro i j hi hj e
    obtain ⟨x, p1, p2, p3⟩ := at1 i hi
    obtain ⟨y, q1, q2, q3⟩ := at1 j hj
    rw [p2, q2] at e; subst e
    exact inj hd.1 p1 q1
  · intro i j hi hj e
    obtain ⟨x, p1, p2, p3⟩ := at2 i hi
    obtain ⟨y, q1, q2, q3⟩ := at2 j hj
    rw [p2, q2] at e; subst e
    exact inj hd.2.1 p1 q1
  · intro i j hi hj e
    obtain ⟨x, p1, p2, p3⟩ := at1 i hi
    obtain ⟨y, q1, q2, q3⟩ := at2 j hj
    rw [p2, q2] at e; subst e
    exact hd.2.2 x p3 x q3 rfl
  · intro i hi
    obtain ⟨x, p1, p2, p3⟩ := at1 i hi
    show _ < l1.getD i 0
    rw [p2]; exact (h.s x (List.mem_append.2 (Or.inl p3))).2
  · intro i hi
    obtain ⟨x, p1, p2, p3⟩ := at2 i hi
    show _ < l2.getD i 0
    rw [p2]; exact (h.s x (List.mem_append.2 (Or.inr p3))).2
end
end Go.Proofs.Ythkldiehokblcaa

