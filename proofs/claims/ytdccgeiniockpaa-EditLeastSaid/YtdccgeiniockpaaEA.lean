/- Scripts of edits: plain laws. -/
import Derived.Test.YtdccgeiniockpaaWW
namespace Go.Proofs.Ytdccgeiniockpaa
open Go.RowKit

/-- edits one after the other, none touching the one before it, all up to n -/
def Chain (n : Nat) : Int → List EdV → Prop
  | _, [] => True
  | t, e :: l => t < (e.1 : Int) ∧ e.1 ≤ e.2.1 ∧ e.2.1 ≤ n ∧ Chain n (e.2.1 : Int) l
def lastT : Int → List EdV → Int
  | t, [] => t
  | _, e :: l => lastT (e.2.1 : Int) l
theorem lastT_snoc (t : Int) (l : List EdV) (e : EdV) : lastT t (l ++ [e]) = (e.2.1 : Int) := by
  induction l generalizing t with
  | nil => rfl
  | cons a l ih => exact ih _
theorem Chain.mono {n m : Nat} (h : n ≤ m) : ∀ {t : Int} {l : List EdV}, Chain n t l → Chain m t l
  | _, [], _ => trivial
  | _, _ :: _, ⟨h1, h2, h3, h4⟩ => ⟨h1, h2, Nat.le_trans h3 h, h4.mono h⟩
theorem Chain.snoc {n : Nat} {e : EdV} : ∀ {t : Int} {l : List EdV}, Chain n t (l ++ [e]) ↔ Chain n t l ∧ lastT t l < (e.1 : Int) ∧ e.1 ≤ e.2.1 ∧ e.2.1 ≤ n
  | t, [] => by simp [Chain, lastT]
  | t, a :: l => by
    simp only [List.cons_append, Chain, lastT]
    rw [Chain.snoc (t := (a.2.1 : Int)) (l := l)]
    constructor
    · rintro ⟨h1, h2, h3, h4, h5⟩; exact ⟨⟨h1, h2, h3, h4⟩, h5⟩
    · rintro ⟨⟨h1, h2, h3, h4⟩, h5⟩; exact ⟨h1, h2, h3, h4, h5⟩
theorem lastT_le {n : Nat} : ∀ {t : Int} {l : List EdV}, Chain n t l → t ≤ (n : Int) → lastT t l ≤ (n : Int)
  | _, [], _, h => h
  | _, e :: l, ⟨_, _, h3, h4⟩, _ => by
    show lastT (e.2.1 : Int) l ≤ (n : Int)
    exact lastT_le h4 (by omega)
theorem runE_nil (xs : List Int) : runE xs [] = xs := rfl
theorem runE_cons (xs : List Int) (e : EdV) (l : List EdV) : runE xs (e :: l) = applyI (runE xs l) e.1 e.2.1 e.2.2 := rfl
theorem runE_snoc (xs : List Int) (l : List EdV) (e : EdV) : runE xs (l ++ [e]) = runE (applyI xs e.1 e.2.1 e.2.2) l := by
  unfold runE; rw [List.foldr_append]; rfl
theorem runE_prefix {xs : List Int} : ∀ {t : Nat} {l : List EdV}, Chain xs.length (t : Int) l → t ≤ xs.length → ∃ S, runE xs l = xs.take t ++ S
  | t, [], _, _ => ⟨xs.drop t, by rw [runE_nil, List.take_append_drop]⟩
  | t, e :: l, ⟨h1, h2, h3, h4⟩, _ => by
    obtain ⟨S, hS⟩ := runE_prefix h4 h3
    have h5 : t ≤ e.1 := by omega
    refine ⟨(xs.take e.1).drop t ++ (e.2.2 ++ (xs.take e.2.1 ++ S).drop e.2.1), ?_⟩
    rw [runE_cons, hS, applyI, ← List.append_assoc]
    have e1 : (xs.take e.2.1 ++ S).take e.1 = xs.take t ++ (xs.take e.1).drop t := by
      rw [List.take_append_of_le_length (by simp; omega), List.take_take, Nat.min_eq_left h2]
      have := List.take_append_drop t (xs.take e.1)
      rw [List.take_take, Nat.min_eq_left h5] at this
      exact this.symm
    rw [e1]
    simp [List.append_assoc]
/-- how many new elements -/
def news : List EdV → Nat
  | [] => 0
  | e :: l => e.2.2.length + news l
def cst : List EdV → Int
  | [] => 0
  | e :: l => ((e.2.1 : Int) - (e.1 : Int) + (e.2.2.length : Int)) + cst l
theorem news_append (a b : List EdV) : news (a ++ b) = news a + news b := by
  induction a with
  | nil => simp [news]
  | cons e l ih => simp only [List.cons_append, news, ih]; omega
theorem cst_append (a b : List EdV) : cst (a ++ b) = cst a + cst b := by
  induction a with
  | nil => simp [cst]
  | cons e l ih => simp only [List.cons_append, cst, ih]; omega
theorem news_drop (l : List EdV) (i : Nat) : news (l.drop i) ≤ news l := by
  have := news_append (l.take i) (l.drop i)
  rw [List.take_append_drop] at this; omega
theorem news_at {l : List EdV} {i : Nat} {e : EdV} (h : l[i]? = some e) : e.2.2.length ≤ news l := by
  induction l generalizing i with
  | nil => simp at h
  | cons a l ih =>
    cases i with
    | zero => simp at h; subst h; simp [news]
    | succ i => simp at h; have := ih h; simp only [news]; omega
theorem runE_len {n : Nat} : ∀ {t : Int} {l : List EdV} {xs : List Int}, Chain n t l → (runE xs l).length ≤ xs.length + news l
  | _, [], xs, _ => by simp [runE_nil, news]
  | _, e :: l, xs, ⟨_, h2, _, h4⟩ => by
    have := runE_len (xs := xs) h4
    rw [runE_cons, applyI]
    simp only [List.length_append, List.length_take, List.length_drop, news]
    omega
theorem Chain.drop {n : Nat} : ∀ {t : Int} {l : List EdV} (i : Nat), Chain n t l → ∃ t', Chain n t' (l.drop i)
  | t, _, 0, h => ⟨t, h⟩
  | _, [], _ + 1, _ => ⟨0, trivial⟩
  | _, _ :: _, i + 1, ⟨_, _, _, h4⟩ => Chain.drop i h4
theorem Chain.at_ {n : Nat} {t : Int} : ∀ {l : List EdV} {i : Nat} {e : EdV}, Chain n t l → l[i]? = some e → e.1 ≤ e.2.1 ∧ e.2.1 ≤ n ∧ Chain n (e.2.1 : Int) (l.drop (i + 1)) := by
  intro l
  induction l generalizing t with
  | nil => intro i e _ h; simp at h
  | cons a l ih =>
    intro i e h he
    obtain ⟨h1, h2, h3, h4⟩ := h
    cases i with
    | zero => simp at he; subst he; exact ⟨h2, h3, h4⟩
    | succ i => simp at he; exact ih h4 he
theorem Chain.up {n : Nat} : ∀ {l : List EdV} {t : Int} {i : Nat} {e : EdV}, Chain n t l → l[i]? = some e → (match i with | 0 => t | k + 1 => match l[k]? with | some x => (x.2.1 : Int) | none => -1) < (e.1 : Int)
  | [], _, i, _, _, h => by simp at h
  | a :: l, t, 0, e, ⟨h1, _⟩, h => by simp at h; subst h; exact h1
  | a :: l, t, i + 1, e, ⟨_, _, _, h4⟩, h => by
    simp at h
    have := Chain.up h4 h
    cases i with
    | zero => simpa using this
    | succ i => simpa using this
theorem Chain.ok {xs : List Int} {l : List EdV} (h : Chain xs.length (-1) l) (h1 : xs.length + news l ≤ 2000) : EdsOk xs l where
  le i e he := by
    obtain ⟨k1, k2, k3⟩ := h.at_ he
    refine ⟨k1, k2, ?_⟩
    obtain ⟨S, hS⟩ := runE_prefix k3 k2
    rw [hS]; simp; omega
  up i e he := by
    have := h.up he
    cases i with
    | zero => exact this
    | succ i => exact this
  len i := by
    obtain ⟨t', ht⟩ := h.drop i
    have := runE_len (xs := xs) ht
    have := news_drop l i
    omega
  new i e he := by have := news_at he; omega

/-- a script on its way: i elements of the one word and j of the other one are done -/
structure Scr (xs ys : List Int) (l : List EdV) (op : Bool) (i j : Nat) : Prop where
  hi : i ≤ xs.length
  hj : j ≤ ys.length
  eff : ∀ R, runE (xs.take i ++ R) l = ys.take j ++ R
  chain : Chain i (-1) l
  last : op = true → ∃ l0 f ns, l = l0 ++ [(f, i, ns)]
  gap : op = false → lastT (-1) l < (i : Int)
  cost : cst l + dpV 1 1 gE xs ys i j = dpV 1 1 gE xs ys 0 0
  news : news l ≤ j
  count : l.length ≤ i + j
theorem Scr.start (xs ys : List Int) : Scr xs ys [] false 0 0 where
  hi := Nat.zero_le _
  hj := Nat.zero_le _
  eff R := by simp [runE_nil]
  chain := trivial
  last h := by cases h
  gap _ := by simp [lastT]
  cost := by simp [cst]
  news := Nat.le_refl _
  count := Nat.le_refl _
section
variable {xs ys : List Int} {l : List EdV} {op : Bool} {i j : Nat}
theorem Scr.keep (h : Scr xs ys l op i j) (hi : i < xs.length) (hj : j < ys.length) (he : xs.getD i 0 = ys.getD j 0) : Scr xs ys l false (i + 1) (j + 1) where
  hi := hi
  hj := hj
  eff R := by
    rw [take_snoc xs 0 i hi, take_snoc ys 0 j hj, List.append_assoc, h.eff, ← he]
    simp
  chain := h.chain.mono (Nat.le_succ _)
  last h := by cases h
  gap _ := by have := lastT_le h.chain (by omega); omega
  cost := by rw [← dpV_eq hi hj he]; exact h.cost
  news := Nat.le_succ_of_le h.news
  count := by have := h.count; omega
/-- the script with its last edit open at i -/
def opened (l : List EdV) (op : Bool) (i : Nat) : List EdV := if op then l else l ++ [(i, i, [])]
/-- .. its last edit, from f on, with the new elements ns -/
structure Opn (xs ys : List Int) (l : List EdV) (l0 : List EdV) (f : Nat) (ns : List Int) (i j : Nat) : Prop where
  le : f ≤ i
  chain : Chain f (-1) l0
  gap : lastT (-1) l0 < (f : Int)
  eff : ∀ R, runE (xs.take f ++ ns ++ R) l0 = ys.take j ++ R
  cost : cst (l0 ++ [(f, i, ns)]) = cst l
  news : news (l0 ++ [(f, i, ns)]) ≤ j
  count : l0.length ≤ i + j
theorem Chain.to {n f : Nat} : ∀ {t : Int} {l : List EdV}, Chain n t l → lastT t l ≤ (f : Int) → Chain f t l
  | _, [], _, _ => trivial
  | _, e :: l, ⟨h1, h2, h3, h4⟩, h => by
    have h' : lastT (e.2.1 : Int) l ≤ (f : Int) := h
    refine ⟨h1, h2, ?_, h4.to h'⟩
    have : ∀ (t : Int) (l : List EdV), Chain n t l → t ≤ lastT t l := by
      intro t l
      induction l generalizing t with
      | nil => intro _; exact Int.le_refl _
      | cons a l ih => intro hc; have := ih _ hc.2.2.2; show t ≤ lastT (a.2.1 : Int) l; have h5 := hc.1; have h6 := hc.2.1; omega
    have := this _ _ h4
    omega
theorem applyI_open {xs : List Int} {f i : Nat} (hf : f ≤ i) (hi : i ≤ xs.length) (ns R : List Int) : applyI (xs.take i ++ R) f i ns = xs.take f ++ ns ++ R := by
  unfold applyI
  rw [List.take_append_of_le_length (by simp; omega), List.take_take, Nat.min_eq_left hf]
  have := drop_left (xs.take i) R i 0 (by simp; omega)
  rw [Nat.add_zero, List.drop_zero] at this
  rw [this]
theorem Scr.opn (h : Scr xs ys l op i j) : ∃ l0 f ns, opened l op i = l0 ++ [(f, i, ns)] ∧ Opn xs ys l l0 f ns i j := by
  cases op with
  | false =>
    refine ⟨l, i, [], rfl, Nat.le_refl _, h.chain, h.gap rfl, fun R => by rw [List.append_nil]; exact h.eff R, by rw [cst_append]; simp [cst], by rw [news_append]; simp [Go.Proofs.Ytdccgeiniockpaa.news]; exact h.news, h.count⟩
  | true =>
    obtain ⟨l0, f, ns, rfl⟩ := h.last rfl
    obtain ⟨c1, c2, c3, c4⟩ := Chain.snoc.1 h.chain
    refine ⟨l0, f, ns, rfl, c3, c1.to (by simp only at c2; omega), c2, fun R => ?_, rfl, h.news, by have := h.count; simp at this; omega⟩
    have := h.eff R
    rw [runE_snoc, applyI_open c3 h.hi] at this
    exact this
theorem Opn.del {l0 : List EdV} {f : Nat} {ns : List Int} (o : Opn xs ys l l0 f ns i j) (h : Scr xs ys l op i j) (hi : i < xs.length) (hc : dpV 1 1 gE xs ys (i + 1) j + 1 = dpV 1 1 gE xs ys i j) : Scr xs ys (l0 ++ [(f, i + 1, ns)]) true (i + 1) j where
  hi := hi
  hj := h.hj
  eff R := by rw [runE_snoc, applyI_open (by have := o.le; omega) hi]; exact o.eff R
  chain := Chain.snoc.2 ⟨o.chain.mono (by have := o.le; omega), o.gap, by have := o.le; show f ≤ i + 1; omega, Nat.le_refl _⟩
  last _ := ⟨l0, f, ns, rfl⟩
  gap h := by cases h
  cost := by
    have h1 := o.cost
    have h2 := h.cost
    rw [cst_append] at h1 ⊢
    simp only [cst] at h1 ⊢
    omega
  news := by have := o.news; rw [news_append] at this ⊢; simpa [Go.Proofs.Ytdccgeiniockpaa.news] using this
  count := by have := o.count; simp; omega
theorem Opn.ins {l0 : List EdV} {f : Nat} {ns : List Int} (o : Opn xs ys l l0 f ns i j) (h : Scr xs ys l op i j) (hj : j < ys.length) (hc : dpV 1 1 gE xs ys i (j + 1) + 1 = dpV 1 1 gE xs ys i j) : Scr xs ys (l0 ++ [(f, i, ns ++ [ys.getD j 0])]) true i (j + 1) where
  hi := h.hi
  hj := hj
  eff R := by
    rw [runE_snoc, applyI_open o.le h.hi, take_snoc ys 0 j hj]
    have := o.eff (ys.getD j 0 :: R)
    simpa [List.append_assoc] using this
  chain := Chain.snoc.2 ⟨o.chain.mono o.le, o.gap, o.le, Nat.le_refl _⟩
  last _ := ⟨l0, f, _, rfl⟩
  gap h := by cases h
  cost := by
    have h1 := o.cost
    have h2 := h.cost
    rw [cst_append] at h1 ⊢
    simp only [cst, List.length_append, List.length_singleton] at h1 ⊢
    omega
  news := by have := o.news; rw [news_append] at this ⊢; simp [Go.Proofs.Ytdccgeiniockpaa.news] at this ⊢; omega
  count := by have := o.count; simp; omega
theorem Scr.fin (h : Scr xs ys l op xs.length ys.length) (h1 : xs.length + ys.length ≤ 2000) : EdsOk xs l ∧ runE xs l = ys ∧ cst l = dE xs ys := by
  refine ⟨h.chain.ok (by have := h.news; omega), ?_, ?_⟩
  · have := h.eff []
    simpa using this
  · have := h.cost
    have e : dpV 1 1 gE xs ys xs.length ys.length = 0 := by rw [dpV_bottom _ (Nat.le_refl _)]; simp
    rw [e] at this
    have e2 : dpV 1 1 gE xs ys 0 0 = dE xs ys := rfl
    omega
end
end Go.Proofs.Ytdccgeiniockpaa
