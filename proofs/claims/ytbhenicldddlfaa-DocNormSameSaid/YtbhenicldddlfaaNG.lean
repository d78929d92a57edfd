/- Texts NG, laid together. -/
import Derived.Test.YtbhenicldddlfaaN1


namespace Go.Proofs.Ytbhenicldddlfaa
open Go.RowKit

/-- no empty text -/
def Emp (x : Dc) : Prop := x.kind = 0 ∧ x.text.size = 0
/-- two texts that fit together -/
def Fits (x y : Dc) : Prop := x.kind = 0 ∧ y.kind = 0 ∧ x.text.size + y.text.size ≤ 60
structure Mg (l : List Dc) : Prop where
  emp : ∀ x ∈ l, ¬ Emp x
  fit : ∀ (p q : List Dc) (a b : Dc), l = p ++ a :: b :: q → ¬ Fits a b
inductive Dc.Nf : Dc → Prop
  | leaf (k : Nat) (s : ByteArray) (i : Nat) (h : k ≤ 3) : Dc.Nf (.node k s i [])
  | cat (s : ByteArray) (i : Nat) (ks : List Dc) (h : ∀ t ∈ ks, Dc.Nf t) (h4 : ∀ t ∈ ks, t.kind ≠ 4) (hm : Mg ks) (h1 : ∀ x, ks ≠ [x]) : Dc.Nf (.node 4 s i ks)
  | nest (n : Nat) (t : Dc) (h : Dc.Nf t) (h0 : n ≠ 0) (hh : hasB [1, 2, 3] t ≠ false) (h5 : ¬ (t.kind = 5 ∧ t.ind + n ≤ 20)) : Dc.Nf (.node 5 ⟨#[]⟩ n [t])
  | group (s : ByteArray) (i : Nat) (t : Dc) (h : Dc.Nf t) : Dc.Nf (.node 6 s i [t])

theorem Mg.push_same {out l : List Dc} {a : Dc} (h : Mg (out ++ a :: l)) : pushD out a = out ++ [a] := by
  have ha : ¬ Emp a := h.emp a (by simp)
  unfold pushD
  rw [if_neg (show ¬ (a.kind = 0 ∧ a.text.size = 0) from ha)]
  split
  · rename_i y hy
    obtain ⟨ys, rfl⟩ := List.getLast?_eq_some_iff.1 hy
    have := h.fit ys l y a (by simp)
    rw [if_neg fun hc => this ⟨hc.2.1, hc.1, hc.2.2⟩]
  · rfl
theorem Mg.merge {l : List Dc} (h : Mg l) : mergeD l = l := by
  have key : ∀ (l out : List Dc), Mg (out ++ l) → l.foldl pushD out = out ++ l := by
    intro l
    induction l with
    | nil => intro out _; simp
    | cons a l ih =>
      intro out h
      rw [List.foldl_cons, h.push_same, ih (out ++ [a]) (by simpa using h)]; simp
  exact key l [] h
theorem spliceD_same {l : List Dc} (h : ∀ t ∈ l, t.kind ≠ 4) : spliceD l = l := by
  induction l with
  | nil => rfl
  | cons a l ih =>
    have e : spliceD (a :: l) = (if a.kind = 4 then a.args else [a]) ++ spliceD l := rfl
    rw [e, if_neg (h a (List.mem_cons_self ..)), ih fun t ht => h t (List.mem_cons_of_mem _ ht)]; rfl
theorem nrms_same {ks : List Dc} (h : ∀ x ∈ ks, Dc.nrm x = x) : Dc.nrms ks = ks := by
  induction ks with
  | nil => rfl
  | cons a l ih => rw [Dc.nrms, h a (List.mem_cons_self ..), ih fun t ht => h t (List.mem_cons_of_mem _ ht)]
/-- what is in simple form stays as it is -/
theorem Dc.Nf.same {t : Dc} (h : t.Nf) : t.nrm = t := by
  induction h with
  | leaf k s i h =>
    rw [Dc.nrm, if_neg (by omega), if_neg (by omega)]; rfl
  | cat s i ks h h4 hm h1 ih =>
    rw [Dc.nrm, if_neg (by omega), if_pos rfl, nrms_same ih, spliceD_same h4, hm.merge]
    unfold catD
    split
    · rename_i x; exact absurd rfl (h1 x)
    · rfl
  | nest n t h h0 hh h5 ih =>
    rw [Dc.nrm, if_pos rfl]
    simp only [Dc.nrms, ih, nestD]
    rw [if_neg (fun hc => hc.elim h0 hh), if_neg h5]
  | group s i t h ih =>
    rw [Dc.nrm, if_neg (by omega), if_neg (by omega)]
    simp only [Dc.nrms, ih]

/-! ### the simple form -/
theorem Dc.Nf.arg {t : Dc} (h : t.Nf) : ∀ x ∈ t.args, x.Nf := by
  cases h with
  | leaf k s i h => intro x hx; cases hx
  | cat s i ks h => exact h
  | nest n t h => intro x hx; rw [List.mem_singleton.1 hx]; exact h
  | group s i t h => intro x hx; rw [List.mem_singleton.1 hx]; exact h
theorem Dc.Nf.no4 {t : Dc} (h : t.Nf) (hk : t.kind = 4) : ∀ x ∈ t.args, x.kind ≠ 4 := by
  cases h with
  | leaf k s i h => simp only [Dc.kind] at hk; omega
  | cat s i ks h h4 => exact h4
  | nest n t h => simp [Dc.kind] at hk
  | group s i t h => simp [Dc.kind] at hk
theorem Dc.Nf.args_nil {t : Dc} (h : t.Nf) (hk : t.kind = 0) : t.args = [] := by
  cases h with
  | leaf k s i h => rfl
  | cat s i ks h h4 => simp [Dc.kind] at hk
  | nest n t h => simp [Dc.kind] at hk
  | group s i t h => simp [Dc.kind] at hk
def NfL (l : List Dc) : Prop := ∀ x ∈ l, x.Nf ∧ x.kind ≠ 4
theorem spliceD_nf {xs : List Dc} (h : ∀ x ∈ xs, x.Nf) : NfL (spliceD xs) := by
  intro x hx
  obtain ⟨y, hy, hm⟩ := List.mem_flatMap.1 hx
  split at hm
  · rename_i hk; exact ⟨(h y hy).arg x hm, (h y hy).no4 hk x hm⟩
  · rename_i hk; rw [List.mem_singleton.1 hm]; exact ⟨h y hy, hk⟩
theorem snoc_cut {out p q : List Dc} {x a b : Dc} (e : out ++ [x] = p ++ a :: b :: q) : (out = p ++ [a] ∧ x = b) ∨ ∃ q', out = p ++ a :: b :: q' := by
  rcases List.eq_nil_or_concat q with rfl | ⟨q', z, rfl⟩
  · left
    have e2 : out ++ [x] = (p ++ [a]) ++ [b] := by simpa using e
    have := List.append_inj' e2 rfl
    exact ⟨this.1, by simpa using this.2⟩
  · right
    have e2 : out ++ [x] = (p ++ a :: b :: q') ++ [z] := by simpa using e
    exact ⟨q', (List.append_inj' e2 rfl).1⟩
theorem Mg.snoc {out : List Dc} {x : Dc} (h : Mg out) (hx : ¬ Emp x) (hf : ∀ p y, out = p ++ [y] → ¬ Fits y x) : Mg (out ++ [x]) := by
  refine ⟨fun y hy => ?_, fun p q a b e => ?_⟩
  · rcases List.mem_append.1 hy with hy | hy
    · exact h.emp y hy
    · rw [List.mem_singleton.1 hy]; exact hx
  · rcases snoc_cut e with ⟨e1, rfl⟩ | ⟨q', e1⟩
    · exact hf p a e1
    · exact h.fit p q' a b e1
theorem Mg.init {p : List Dc} {y : Dc} (h : Mg (p ++ [y])) : Mg p :=
  ⟨fun x hx => h.emp x (List.mem_append_left _ hx), fun p' q a b e => h.fit p' (q ++ [y]) a b (by rw [e]; simp)⟩
theorem pushD_nf {out : List Dc} {x : Dc} (h : Mg out) (hn : NfL out) (hx : x.Nf ∧ x.kind ≠ 4) : Mg (pushD out x) ∧ NfL (pushD out x) := by
  have hsnoc : NfL (out ++ [x]) := by
    intro y hy
    rcases List.mem_append.1 hy with hy | hy
    · exact hn y hy
    · rw [List.mem_singleton.1 hy]; exact hx
  unfold pushD
  split
  · exact ⟨h, hn⟩
  · rename_i hE
    split
    · rename_i y hy
      obtain ⟨p, rfl⟩ := List.getLast?_eq_some_iff.1 hy
      have ey : ∀ p' y', p ++ [y] = p' ++ [y'] → p = p' ∧ y = y' := fun p' y' e => by
        have := List.append_inj' e rfl
        exact ⟨this.1, by simpa using this.2⟩
      split
      · rename_i hc
        obtain ⟨c1, c2, c3⟩ := hc
        have hyn : y.Nf := (hn y (by simp)).1
        rw [hyn.args_nil c2, List.dropLast_concat]
        have hye : ¬ Emp y := h.emp y (by simp)
        have hz : (Dc.node y.kind (y.text ++ x.text) y.ind []).text.size = y.text.size + x.text.size := ByteArray.size_append
        refine ⟨h.init.snoc ?_ ?_, ?_⟩
        · rintro ⟨-, e2⟩
          exact hye ⟨c2, by omega⟩
        · rintro p' a rfl ⟨f1, f2, f3⟩
          refine h.fit p' [] a y (by simp) ⟨f1, c2, by omega⟩
        · intro z hz'
          rcases List.mem_append.1 hz' with hz' | hz'
          · exact hn z (List.mem_append_left _ hz')
          · rw [List.mem_singleton.1 hz']
            exact ⟨.leaf _ _ _ (by omega), by simp only [Dc.kind] at c2 ⊢; omega⟩
      · rename_i hc
        refine ⟨h.snoc hE fun p' y' e => ?_, hsnoc⟩
        obtain ⟨-, rfl⟩ := ey p' y' e
        exact fun hf => hc ⟨hf.2.1, hf.1, hf.2.2⟩
    · rename_i hy
      obtain rfl : out = [] := by simpa using hy
      exact ⟨h.snoc hE (fun p' y' e => by simp at e), hsnoc⟩
theorem mergeD_nf {l : List Dc} (h : NfL l) : Mg (mergeD l) ∧ NfL (mergeD l) := by
  have key : ∀ (l out : List Dc), NfL l → Mg out → NfL out → Mg (l.foldl pushD out) ∧ NfL (l.foldl pushD out) := by
    intro l
    induction l with
    | nil => intro out _ h1 h2; exact ⟨h1, h2⟩
    | cons a l ih =>
      intro out h0 h1 h2
      have := pushD_nf h1 h2 (h0 a (List.mem_cons_self ..))
      exact ih _ (fun x hx => h0 x (List.mem_cons_of_mem _ hx)) this.1 this.2
  exact key l [] h ⟨fun x hx => absurd hx (List.not_mem_nil), fun p q a b e => by simp at e⟩ fun x hx => absurd hx (List.not_mem_nil)
mutual
theorem Dc.nrm_nf (t : Dc) (h : t.Ok) : t.nrm.Nf := by
  cases t with
  | node k s i ks =>
    have hk : ∀ x ∈ Dc.nrms ks, x.Nf := Dc.nrms_nf ks h.arg
    rw [Dc.nrm]
    cases h with
    | text s h => exact .leaf 0 s 0 (by omega)
    | line k h1 h3 =>
      rw [if_neg (by omega), if_neg (by omega)]
      exact .leaf k _ 0 h3
    | cat ks h =>
      rw [if_neg (by omega), if_pos rfl]
      obtain ⟨hm, hn⟩ := mergeD_nf (spliceD_nf hk)
      unfold catD
      split
      · rename_i x e; exact (hn x (by rw [e]; exact List.mem_cons_self ..)).1
      · rename_i h1
        exact .cat _ _ _ (fun x hx => (hn x hx).1) (fun x hx => (hn x hx).2) hm h1
    | nest n t hn h =>
      rw [if_pos rfl]
      simp only [Dc.nrms] at hk ⊢
      have hx := hk t.nrm (List.mem_cons_self ..)
      unfold nestD
      split
      · exact hx
      · rename_i h0
        split
        · rename_i hc
          generalize t.nrm = x at *
          cases hx with
          | leaf k s i h => simp only [Dc.kind] at hc; omega
          | cat s i ks h h4 => simp [Dc.kind] at hc
          | group s i t h => simp [Dc.kind] at hc
          | nest m y hy g0 gh g5 =>
            simp only [Dc.ind, Dc.args, Dc.kind, true_and] at hc ⊢
            exact .nest _ y hy (by omega) gh (fun hh => g5 ⟨hh.1, by omega⟩)
        · rename_i hc
          exact .nest _ _ hx (fun e => h0 (Or.inl e)) (fun e => h0 (Or.inr e)) hc
    | group t h =>
      rw [if_neg (by omega), if_neg (by omega)]
      simp only [Dc.nrms] at hk ⊢
      exact .group _ _ _ (hk _ (List.mem_cons_self ..))
theorem Dc.nrms_nf (ks : List Dc) (h : ∀ x ∈ ks, Dc.Ok x) : ∀ x ∈ Dc.nrms ks, x.Nf := by
  cases ks with
  | nil => intro x hx; simp [Dc.nrms] at hx
  | cons t ts =>
    intro x hx
    rw [Dc.nrms] at hx
    rcases List.mem_cons.1 hx with rfl | hx
    · exact Dc.nrm_nf t (h t (List.mem_cons_self ..))
    · exact Dc.nrms_nf ts (fun y hy => h y (List.mem_cons_of_mem _ hy)) x hx
end
theorem Dc.nrm_nrm {t : Dc} (h : t.Ok) : t.nrm.nrm = t.nrm := (Dc.nrm_nf t h).same
end Go.Proofs.Ytbhenicldddlfaa

