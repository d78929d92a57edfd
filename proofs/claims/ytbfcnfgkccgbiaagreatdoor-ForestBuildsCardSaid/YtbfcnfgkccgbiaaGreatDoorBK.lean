/- Texts BK, laid together. -/
import Derived.Test.YtbfcnfgkccgbiaaGreatDoorBA
import Derived.Test.YtbfcnfgkccgbiaaGreatDoorMF



namespace Go.Proofs.YtbfcnfgkccgbiaaGreatDoor
open Go.RowKit

theorem sum_le_card (L : List Nat) (f : Nat → Nat) (B : Nat) (h : ∀ q ∈ L, f q ≤ B) : (L.map f).sum ≤ L.length * B := by
  induction L with
  | nil => simp
  | cons q L ih =>
    have h1 := h q (by simp)
    have h2 := ih fun q' hq => h q' (by simp [hq])
    simp only [List.map_cons, List.sum_cons, List.length_cons, Nat.add_mul, Nat.one_mul]
    omega
theorem flatMap_len {α : Type} (L : List Nat) (f : Nat → List α) (B : Nat) (h : ∀ q ∈ L, (f q).length ≤ B) : (L.flatMap f).length ≤ L.length * B := by
  rw [List.length_flatMap]
  exact sum_le_card L _ B h
section
variable {D : Ky → Bool}
theorem ways_len : ∀ {l : List Sy} {i j : Nat}, j ≤ 12 → (waysF D l i j).length ≤ 13 ^ l.length := by
  intro l
  induction l with
  | nil => intro i j _; simp only [waysF]; split <;> simp
  | cons s l ih =>
    intro i j hj
    rw [waysF]
    refine Nat.le_trans (flatMap_len _ _ (13 ^ l.length) fun q _ => ?_) ?_
    · split
      · rw [List.length_map]; exact ih hj
      · simp
    · rw [List.length_range, List.length_cons, Nat.pow_succ, Nat.mul_comm]
      exact Nat.mul_le_mul_left _ (by omega)
theorem packN_len {R : List Ru} {k : Ky} {n : Nat} (hR : ∀ u ∈ R, u.2.length ≤ 4) (hk : k.2.2 ≤ 12) : (packN D R k n).length ≤ 28561 := by
  unfold packN
  cases hu : R[n]? with
  | none => simp
  | some u =>
    simp only
    split
    · rw [List.length_map]
      refine Nat.le_trans (ways_len hk) ?_
      have h1 := hR u (List.mem_of_getElem? hu)
      exact Nat.le_trans (Nat.pow_le_pow_right (by omega) h1) (by decide)
    · simp
theorem packT_len {R : List Ru} {k : Ky} (m : Nat) (hR : ∀ u ∈ R, u.2.length ≤ 4) (hk : k.2.2 ≤ 12) : (packT D R k m).length ≤ m * 28561 := by
  unfold packT
  have := flatMap_len (List.range m) (packN D R k) 28561 fun n _ => packN_len hR hk
  rwa [List.length_range] at this
theorem packs_len {R : List Ru} {k : Ky} (hR : ∀ u ∈ R, u.2.length ≤ 4) (hc : R.length ≤ 32) (hk : k.2.2 ≤ 12) : (packsF D R k).length ≤ 913952 := by
  have := packT_len (D := D) (k := k) R.length hR hk
  unfold packsF; omega
end
/-! ### the work list -/
def addK (L : List Ky) (q : Ky) : List Ky := if q ∈ L then L else L ++ [q]
def addKs (L : List Ky) (qs : List Ky) : List Ky := qs.foldl addK L
theorem addKs_snoc (L qs : List Ky) (q : Ky) : addKs L (qs ++ [q]) = addK (addKs L qs) q := by simp [addKs]
theorem addKs_app (L qs qs' : List Ky) : addKs L (qs ++ qs') = addKs (addKs L qs) qs' := by simp [addKs]
theorem addK_mem {L : List Ky} {q k : Ky} : k ∈ addK L q ↔ k ∈ L ∨ k = q := by
  unfold addK
  split
  · constructor
    · exact Or.inl
    · rintro (h | rfl) <;> assumption
  · simp
theorem addK_nodup {L : List Ky} {q : Ky} (h : L.Nodup) : (addK L q).Nodup := by
  unfold addK
  split
  · exact h
  · rename_i hq
    rw [List.nodup_append]
    refine ⟨h, by simp, fun a ha b hb e => ?_⟩
    simp at hb
    subst hb; subst e; exact hq ha
theorem addK_pre {L : List Ky} {q : Ky} : L <+: addK L q := by
  unfold addK; split
  · exact List.prefix_refl _
  · exact List.prefix_append _ _
theorem addKs_mem {qs : List Ky} : ∀ {L : List Ky} {k : Ky}, k ∈ addKs L qs ↔ k ∈ L ∨ k ∈ qs := by
  induction qs with
  | nil => intro L k; simp [addKs]
  | cons q qs ih =>
    intro L k
    show k ∈ addKs (addK L q) qs ↔ _
    rw [ih, addK_mem]; simp [or_assoc]
theorem addKs_nodup {qs : List Ky} : ∀ {L : List Ky}, L.Nodup → (addKs L qs).Nodup := by
  induction qs with
  | nil => intro L h; exact h
  | cons q qs ih => intro L h; exact ih (addK_nodup h)
theorem addKs_pre {qs : List Ky} : ∀ {L : List Ky}, L <+: addKs L qs := by
  induction qs with
  | nil => intro L; exact List.prefix_refl _
  | cons q qs ih => intro L; exact addK_pre.trans ih
section
variable {D : Ky → Bool} {R : List Ru} {root : Ky}
def kidsF (D : Ky → Bool) (R : List Ru) (k : Ky) : List Ky := (packsF D R k).flatMap (·.2)
/-- the first i of the list are done -/
structure Wk (D : Ky → Bool) (R : List Ru) (root : Ky) (L : List Ky) (i : Nat) : Prop where
  nodup : L.Nodup
  rin : root ∈ L
  snd : ∀ k ∈ L, RchK D R root k
  cls : ∀ m k, m < i → L[m]? = some k → ∀ q ∈ kidsF D R k, q ∈ L
  le : i ≤ L.length
theorem Wk.start (D : Ky → Bool) (R : List Ru) (root : Ky) : Wk D R root [root] 0 :=
  ⟨by simp, by simp, fun k h => by simp at h; subst h; exact .root, fun m k h => by omega, by simp⟩
theorem RchK.kids {k q : Ky} (h : RchK D R root k) (hq : q ∈ kidsF D R k) : RchK D R root q := by
  obtain ⟨p, hp, hq⟩ := List.mem_flatMap.1 hq
  exact .kid h hp hq
theorem Wk.next {L : List Ky} {i : Nat} {k : Ky} (h : Wk D R root L i) (hk : L[i]? = some k) : Wk D R root (addKs L (kidsF D R k)) (i + 1) := by
  have hi := (List.getElem?_eq_some_iff.1 hk).1
  have hp : L <+: addKs L (kidsF D R k) := addKs_pre
  have hle := hp.length_le
  refine ⟨addKs_nodup h.nodup, addKs_mem.2 (Or.inl h.rin), fun q hq => ?_, fun m k' hm hk' q hq => addKs_mem.2 ?_, by omega⟩
  · rcases addKs_mem.1 hq with hq | hq
    · exact h.snd q hq
    · exact (h.snd k (List.mem_of_getElem? hk)).kids hq
  · have e : (addKs L (kidsF D R k))[m]? = L[m]? := by
      obtain ⟨t, ht⟩ := hp
      rw [← ht, List.getElem?_append_left (by omega)]
    rw [e] at hk'
    by_cases em : m = i
    · subst em; rw [hk] at hk'; cases hk'; exact Or.inr hq
    · exact Or.inl (h.cls m k' (by omega) hk' q hq)
theorem Wk.done {L : List Ky} (h : Wk D R root L L.length) (k : Ky) : k ∈ L ↔ RchK D R root k := by
  refine ⟨h.snd k, fun hr => ?_⟩
  induction hr with
  | root => exact h.rin
  | kid _ hp hq ih =>
    obtain ⟨m, hm⟩ := List.mem_iff_getElem?.1 ih
    exact h.cls m _ (List.getElem?_eq_some_iff.1 hm).1 hm _ (List.mem_flatMap.2 ⟨_, hp, hq⟩)
/-- a list sorted from the work list's is the nodes' -/
theorem Wk.nds {L L' : List Ky} (h : Wk D R root L L.length) (hp : L'.Perm L) (hs : L'.Pairwise fun a b => kyN a ≤ kyN b) (hok : ∀ k ∈ L, k.Ok) : IsNds D R root L' := by
  refine ⟨?_, fun k => by rw [hp.mem_iff, h.done]⟩
  have hn : L'.Nodup := hp.nodup_iff.2 h.nodup
  rw [List.nodup_iff_pairwise_ne] at hn
  refine (hs.and hn).imp_of_mem fun {a b} ha hb hab => ?_
  have := hab.2
  have h2 : kyN a ≠ kyN b := fun e => hab.2 (kyN_inj (hok a (hp.mem_iff.1 ha)) (hok b (hp.mem_iff.1 hb)) e)
  have h1 := hab.1
  omega
/-- how many packs the first i have -/
def cntP (D : Ky → Bool) (R : List Ru) (L : List Ky) (i : Nat) : Nat := ((L.take i).map fun k => (packsF D R k).length).sum
theorem cntP_next {L : List Ky} {i : Nat} {k : Ky} (hk : L[i]? = some k) : cntP D R L (i + 1) = cntP D R L i + (packsF D R k).length := by
  unfold cntP
  rw [List.take_add_one, hk]
  simp
theorem cntP_pre {L L' : List Ky} {i : Nat} (hp : L <+: L') (hi : i ≤ L.length) : cntP D R L' i = cntP D R L i := by
  obtain ⟨t, rfl⟩ := hp
  unfold cntP
  rw [List.take_append_of_le_length hi]
theorem cntP_all (L : List Ky) : cntP D R L L.length = totP D R L := by simp [cntP, totP]
theorem sum_sub {f : Ky → Nat} : ∀ {L L' : List Ky}, L.Nodup → (∀ k ∈ L, k ∈ L') → (L.map f).sum ≤ (L'.map f).sum := by
  intro L
  induction L with
  | nil => intro L' _ _; simp
  | cons k L ih =>
    intro L' hn hs
    have hk := hs k (by simp)
    have hn' := List.nodup_cons.1 hn
    have h1 := ih (L' := L'.erase k) hn'.2 fun q hq => by
      have hne : q ≠ k := fun e => hn'.1 (e ▸ hq)
      exact (List.mem_erase_of_ne hne).2 (hs q (by simp [hq]))
    have h2 : (L'.map f).sum = f k + ((L'.erase k).map f).sum := by
      have := ((List.perm_cons_erase hk).map f).sum_nat
      simpa using this
    simp only [List.map_cons, List.sum_cons]
    omega
/-- what the work list has counted is no more than what the nodes have -/
theorem Wk.cnt_le {L L' : List Ky} {i m : Nat} (h : Wk D R root L i) (hL : IsNds D R root L') : cntP D R L m ≤ totP D R L' := by
  unfold cntP totP
  exact sum_sub (h.nodup.sublist (List.take_sublist _ _)) fun k hk => (hL.mem k).2 (h.snd k (List.mem_of_mem_take hk))
/-- keys of a word and a grammar -/
def KyOk (g : Gr) (n : Nat) (k : Ky) : Prop := g.okSy k.1 ∧ k.2.1 ≤ k.2.2 ∧ k.2.2 ≤ n
theorem KyOk.ok {g : Gr} {n : Nat} {k : Ky} (h : KyOk g n k) (hg : g.Ok) (hn : n ≤ 12) : k.Ok := by
  obtain ⟨h1, h2, h3⟩ := h
  refine ⟨by omega, by omega, ?_⟩
  unfold Gr.okSy at h1
  have := hg.terms; have := hg.nons
  split at h1 <;> omega
theorem kids_ok {g : Gr} {n : Nat} {k q : Ky} (hg : g.Ok) (hD : ∀ k, D k = true → k.2.1 ≤ k.2.2 ∧ k.2.2 ≤ n) (hq : q ∈ kidsF D g.rules k) : KyOk g n q ∧ D q = true := by
  obtain ⟨p, hp, hq⟩ := List.mem_flatMap.1 hq
  obtain ⟨-, u, hu, -, hw⟩ := packs_mem hp
  obtain ⟨h1, -, -, -, h5⟩ := hw.mem q hq
  exact ⟨⟨(hg.right u (List.mem_of_getElem? hu)).2 _ h5, hD q h1⟩, h1⟩
theorem RchK.ok {g : Gr} {n : Nat} {k : Ky} (hg : g.Ok) (hD : ∀ k, D k = true → k.2.1 ≤ k.2.2 ∧ k.2.2 ≤ n) (hr : KyOk g n root) (h : RchK D g.rules root k) : KyOk g n k := by
  cases h with
  | root => exact hr
  | kid _ hp hq => exact (kids_ok (k := _) hg hD (List.mem_flatMap.2 ⟨_, hp, hq⟩)).1
/-- a number for each key -/
def kyC2 (k : Ky) : Nat := (k.2.1 * 13 + k.2.2) * 20 + (if k.1.1 then k.1.2 else 10 + k.1.2)
theorem kyC2_lt {g : Gr} {n : Nat} {k : Ky} (h : KyOk g n k) (hg : g.Ok) (hn : n ≤ 12) : kyC2 k < 3400 := by
  obtain ⟨h1, h2, h3⟩ := h
  unfold Gr.okSy at h1
  have := hg.terms; have := hg.nons
  unfold kyC2
  split at h1
  · rename_i e; rw [if_pos e]; omega
  · rename_i e; rw [if_neg e]; omega
theorem kyC2_inj {g : Gr} {n : Nat} {a b : Ky} (ha : KyOk g n a) (hb : KyOk g n b) (hg : g.Ok) (hn : n ≤ 12) (h : kyC2 a = kyC2 b) : a = b := by
  obtain ⟨⟨ab, an⟩, ai, aj⟩ := a
  obtain ⟨⟨bb, bn⟩, bi, bj⟩ := b
  obtain ⟨h1, h2, h3⟩ := ha
  obtain ⟨k1, k2, k3⟩ := hb
  have := hg.terms; have := hg.nons
  simp only [Gr.okSy] at h1 k1
  simp only at h2 h3 k2 k3
  simp only [kyC2] at h
  cases ab <;> cases bb <;> simp only [Bool.false_eq_true, if_false, if_true] at h h1 k1 <;> simp only [Prod.mk.injEq, true_and, false_and, Bool.false_eq_true, Bool.true_eq_false] <;> omega
theorem nodup_len {g : Gr} {n : Nat} {L : List Ky} (hn : L.Nodup) (hk : ∀ k ∈ L, KyOk g n k) (hg : g.Ok) (h12 : n ≤ 12) : L.length ≤ 3400 := by
  have h1 : (L.map kyC2).Nodup := by
    rw [List.nodup_iff_pairwise_ne] at hn ⊢
    rw [List.pairwise_map]
    exact hn.imp_of_mem fun {a b} ha hb hab e => hab (kyC2_inj (hk a ha) (hk b hb) hg h12 e)
  have h2 := nodup_le 3400 _ h1 fun c hc => by
    obtain ⟨k, hk', rfl⟩ := List.mem_map.1 hc
    exact kyC2_lt (hk k hk') hg h12
  simpa using h2
theorem addKs_len {g : Gr} {n : Nat} {L : List Ky} {k : Ky} (hD : ∀ k, D k = true → k.2.1 ≤ k.2.2 ∧ k.2.2 ≤ n) (hg : g.Ok) (h12 : n ≤ 12) (hn : L.Nodup) (hk : ∀ q ∈ L, KyOk g n q) (qs : List Ky) (hq : ∀ q ∈ qs, q ∈ kidsF D g.rules k) : (addKs L qs).length ≤ 3400 ∧ ∀ q ∈ addKs L qs, KyOk g n q := by
  have h1 : ∀ q ∈ addKs L qs, KyOk g n q := fun q h => by
    rcases addKs_mem.1 h with h | h
    · exact hk q h
    · exact (kids_ok hg hD (hq q h)).1
  exact ⟨nodup_len (addKs_nodup hn) h1 hg h12, h1⟩
theorem kids_take {R : List Ru} {k : Ky} {m : Nat} {q : Ky} (h : q ∈ ((packsF D R k).take m).flatMap (·.2)) : q ∈ kidsF D R k := by
  obtain ⟨p, hp, hq⟩ := List.mem_flatMap.1 h
  exact List.mem_flatMap.2 ⟨p, List.mem_of_mem_take hp, hq⟩
theorem kids_next {R : List Ru} {k : Ky} {m : Nat} {p : Nat × List Ky} (h : (packsF D R k)[m]? = some p) : ((packsF D R k).take (m + 1)).flatMap (·.2) = ((packsF D R k).take m).flatMap (·.2) ++ p.2 := by
  rw [List.take_add_one, h]; simp
end
end Go.Proofs.YtbfcnfgkccgbiaaGreatDoor

