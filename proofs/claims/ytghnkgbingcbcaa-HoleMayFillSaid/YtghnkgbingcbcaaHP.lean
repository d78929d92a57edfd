/- Completions: cells, words that fit, the table of hole: plain laws. -/
import Derived.Test.YtghnkgbingcbcaaZC
namespace Go.Proofs.Ytghnkgbingcbcaa
open Go.RowKit

/-! ### rows by folding -/
def foldRow (sym : Sy → Nat → Nat → Way) (n i : Nat) (l : List Sy) : Nat → Way := l.foldl (fun f s => rowK f (sym s) n i (n + 1 - i)) (upd (fun _ => Way.no) i ⟨0, 0, [], true⟩)
theorem foldRow_snoc (sym : Sy → Nat → Nat → Way) (n i : Nat) (l : List Sy) (s : Sy) : foldRow sym n i (l ++ [s]) = rowK (foldRow sym n i l) (sym s) n i (n + 1 - i) := by simp [foldRow, List.foldl_append]
theorem foldRow_cov {sym : Sy → Nat → Nat → Way} {n i : Nat} (l : List Sy) : ∀ {j : Nat} {k : Int}, j ≤ n → Cov sym l i j k → (foldRow sym n i l j).ok = true ∧ (foldRow sym n i l j).cost ≤ k := by
  induction l using snoc_induction with
  | h0 => intro j k _ h; cases h; simp [foldRow, upd_same]
  | hs l s ih =>
    intro j k hj h
    obtain ⟨m, k1, h1, h2, h3, h4, rfl⟩ := h.snoc
    obtain ⟨h5, h6⟩ := ih (by omega) h3
    rw [foldRow_snoc]
    obtain ⟨h7, h8⟩ := rowK_at (at_ := foldRow sym n i l) (sym := sym s) (n := n) (i := i) (m := n + 1 - i) h1 (by omega) h2 hj h5 h4
    exact ⟨h7, by omega⟩

/-! ### cells, and words that fit them -/
abbrev Ce := Bool × Int
def isC (s : Sy) (c : Ce) : Bool := decide (c = (s.1, (s.2 : Int))) || (s.1 && decide (c = (true, -1)))
def gpart {α : Type} (w : List α) (i j : Nat) : List α := (w.take j).drop i
section
variable {α : Type}
theorem gpart_len {w : List α} {i j : Nat} (h2 : j ≤ w.length) : (gpart w i j).length = j - i := by simp [gpart]; omega
theorem gpart_split {w p1 p2 : List α} {i j : Nat} (h1 : i ≤ j) (h2 : j ≤ w.length) (h : gpart w i j = p1 ++ p2) : ∃ m, m = i + p1.length ∧ i ≤ m ∧ m ≤ j ∧ gpart w i m = p1 ∧ gpart w m j = p2 := by
  have hl := gpart_len (i := i) h2
  rw [h, List.length_append] at hl
  refine ⟨i + p1.length, rfl, by omega, by omega, ?_, ?_⟩
  · have e : gpart w i (i + p1.length) = (gpart w i j).take p1.length := by
      unfold gpart
      rw [List.take_drop, List.take_take]
      congr 2; omega
    rw [e, h]; simp
  · have e : gpart w (i + p1.length) j = (gpart w i j).drop p1.length := by
      unfold gpart; rw [List.drop_drop]
    rw [e, h]; simp
theorem gpart_all (w : List α) : gpart w 0 w.length = w := by simp [gpart]
theorem gpart_same (w : List α) (i : Nat) : gpart w i i = [] := by simp [gpart]
theorem gpart_append {w : List α} {i m j : Nat} (h1 : i ≤ m) (h2 : m ≤ j) : gpart w i m ++ gpart w m j = gpart w i j := by
  have e : (w.take j).drop i = ((w.take j).drop i).take (m - i) ++ ((w.take j).drop i).drop (m - i) := (List.take_append_drop _ _).symm
  unfold gpart
  rw [e, List.drop_drop, List.take_drop, List.take_take]
  congr 2 <;> (congr 1; omega)
theorem gpart_one {w : List α} {i : Nat} {c : α} (h : gpart w i (i + 1) = [c]) : w[i]? = some c := by
  have : (gpart w i (i + 1))[0]? = some c := by rw [h]; rfl
  unfold gpart at this
  rw [List.getElem?_drop, List.getElem?_take, if_pos (by omega)] at this
  exact this
theorem gpart_at {w : List α} {i : Nat} {c : α} (h : w[i]? = some c) : gpart w i (i + 1) = [c] := by
  have hl := List.getElem?_eq_some_iff.1 h
  have hl1 := hl.1
  unfold gpart
  rw [List.take_succ_eq_append_getElem hl.1, List.drop_append_of_le_length (by rw [List.length_take]; omega), List.drop_of_length_le (by rw [List.length_take]; omega), hl.2]; rfl
end
inductive Ms (rules : List Ru) : List Sy → List Ce → List Int → Prop
  | nil : Ms rules [] [] []
  | term (t : Nat) (c : Ce) (hc : isC (true, t) c = true) {l : List Sy} {cs : List Ce} {v : List Int} (h : Ms rules l cs v) : Ms rules ((true, t) :: l) (c :: cs) ((t : Int) :: v)
  | non (N : Nat) {rhs l : List Sy} {c1 c2 : List Ce} {u v : List Int} (hr : (N, rhs) ∈ rules) (h1 : Ms rules rhs c1 u) (h2 : Ms rules l c2 v) : Ms rules ((false, N) :: l) (c1 ++ c2) (u ++ v)
section
variable {rules : List Ru}
theorem Ms.append {a b : List Sy} {c d : List Ce} {u v : List Int} (h : Ms rules a c u) (k : Ms rules b d v) : Ms rules (a ++ b) (c ++ d) (u ++ v) := by
  induction h with
  | nil => simpa using k
  | term t c hc _ ih => exact .term t c hc ih
  | non N hr h1 _ _ ih => rw [List.append_assoc, List.append_assoc]; exact .non N hr h1 ih
theorem Ms.len {a : List Sy} {c : List Ce} {v : List Int} (h : Ms rules a c v) : v.length = c.length := by
  induction h with
  | nil => rfl
  | term t c hc _ ih => simp [ih]
  | non N hr _ _ ih1 ih2 => simp [ih1, ih2]
theorem Ms.one {N : Nat} {rhs : List Sy} {c : List Ce} {v : List Int} (hr : (N, rhs) ∈ rules) (h : Ms rules rhs c v) : Ms rules [(false, N)] c v := by
  have := Ms.non N hr h (Ms.nil (rules := rules))
  simpa using this
theorem Ms.lets {B : Nat} (hr : ∀ r ∈ rules, ∀ s ∈ r.2, s.1 = true → s.2 < B) {l : List Sy} {c : List Ce} {v : List Int} (h : Ms rules l c v) : (∀ s ∈ l, s.1 = true → s.2 < B) → ∀ y ∈ v, 0 ≤ y ∧ y < (B : Int) := by
  induction h with
  | nil => intro _ y hy; cases hy
  | @term t c hc l cs v h ih =>
    intro hl y hy
    rcases List.mem_cons.1 hy with rfl | hy
    · have := hl (true, t) (List.mem_cons_self ..) rfl
      simp only at this; omega
    · exact ih (fun s hs => hl s (List.mem_cons_of_mem _ hs)) y hy
  | @non N rhs l c1 c2 u v hm h1 h2 ih1 ih2 =>
    intro hl y hy
    rcases List.mem_append.1 hy with hy | hy
    · exact ih1 (hr _ hm) y hy
    · exact ih2 (fun s hs => hl s (List.mem_cons_of_mem _ hs)) y hy
end

/-! ### the table of hole -/
def symH (cells : List Ce) (st : WSt) (s : Sy) (i j : Nat) : Way :=
  if s.1 then (if j = i + 1 ∧ (cells[i]?.map (isC s)) = some true then ⟨0, 1, [(s.2 : Int)], true⟩ else Way.no) else st s.2 i j
def ruleH (cells : List Ce) (st : WSt) (i : Nat) (l : List Sy) : Nat → Way := foldRow (symH cells st) cells.length i l
def FixH (rules : List Ru) (cells : List Ce) (st : WSt) : Prop := ∀ r ∈ rules, ∀ i j, i ≤ j → j ≤ cells.length → lessW (ruleH cells st i r.2 j) (st r.1 i j) = false
theorem FixH.cov {rules : List Ru} {cells : List Ce} {st : WSt} (hf : FixH rules cells st) {l : List Sy} {cs : List Ce} {v : List Int} (h : Ms rules l cs v) :
    ∀ i j, i ≤ j → j ≤ cells.length → cs = gpart cells i j → ∃ k, Cov (symH cells st) l i j k := by
  induction h with
  | nil =>
    intro i j h1 h2 e
    have := gpart_len (i := i) h2
    rw [← e] at this
    simp at this
    have : i = j := by omega
    subst this
    exact ⟨0, .nil i⟩
  | @term t c hc l cs v h ih =>
    intro i j h1 h2 e
    obtain ⟨m, hm, m1, m2, e1, e2⟩ := gpart_split (p1 := [c]) h1 h2 e.symm
    simp at hm
    subst hm
    obtain ⟨k, hk⟩ := ih (i + 1) j m2 h2 e2.symm
    exact ⟨_, Cov.cons (cell := symH cells st) (true, t) m1 m2 (by rw [symH, if_pos rfl, if_pos ⟨rfl, by rw [gpart_one e1]; simp [hc]⟩]) hk⟩
  | @non N rhs l c1 c2 u v hr hu hv ih1 ih2 =>
    intro i j h1 h2 e
    obtain ⟨m, -, m1, m2, e1, e2⟩ := gpart_split h1 h2 e.symm
    obtain ⟨k1, hk1⟩ := ih1 i m m1 (by omega) e1.symm
    obtain ⟨k2, hk2⟩ := ih2 m j m2 h2 e2.symm
    have hrule := (foldRow_cov (sym := symH cells st) (n := cells.length) rhs (by omega) hk1).1
    have hfx : lessW (ruleH cells st i rhs m) (st N i m) = false := hf _ hr i m m1 (by omega)
    have hst := (lessW_not hfx hrule).1
    exact ⟨_, Cov.cons (cell := symH cells st) (false, N) m1 m2 (by rw [symH, if_neg (by simp)]; exact hst) hk2⟩
theorem FixH.least {rules : List Ru} {cells : List Ce} {st : WSt} (hf : FixH rules cells st) {N : Nat} {v : List Int} (h : Ms rules [(false, N)] cells v) : (st N 0 cells.length).ok = true := by
  obtain ⟨k, hk⟩ := hf.cov h 0 cells.length (Nat.zero_le _) (Nat.le_refl _) (gpart_all cells).symm
  cases hk with
  | cons _ h1 h2 hs h =>
    cases h
    rwa [symH, if_neg (by simp)] at hs
def SndH (rules : List Ru) (cells : List Ce) (l : List Sy) (i j : Nat) (x : Way) : Prop :=
  x.ok = true → i ≤ j ∧ j ≤ cells.length ∧ x.cost = 0 ∧ ∃ v, Ms rules l (gpart cells i j) v ∧ x.size = (v.length : Int) ∧ x.w = v
section
variable {rules : List Ru} {cells : List Ce} {st : WSt}
theorem SndH.no (l : List Sy) (i j : Nat) : SndH rules cells l i j Way.no := fun h => by cases h
theorem SndH.then_ (hc : cells.length ≤ 2000) {l l' : List Sy} {i m j : Nat} {a b : Way} (h : SndH rules cells l i m a) (k : SndH rules cells l' m j b) : SndH rules cells (l ++ l') i j (thenW a b) := by
  intro ho
  have ha : a.ok = true := by simp [thenW] at ho; exact ho.1
  have hb : b.ok = true := by simp [thenW] at ho; exact ho.2
  obtain ⟨h1, h2, h0, u, h3, h5, h6⟩ := h ha
  obtain ⟨k1, k2, k0, v, k3, k5, k6⟩ := k hb
  have hl := h3.len
  have kl := k3.len
  rw [gpart_len h2] at hl
  rw [gpart_len k2] at kl
  refine ⟨by omega, k2, by simp only [thenW, h0, k0]; rfl, u ++ v, ?_, ?_, ?_⟩
  · rw [← gpart_append h1 k1]; exact h3.append k3
  · simp only [thenW, h5, k5, List.length_append]; omega
  · simp only [thenW, ha, hb, h5, k5, Bool.and_self, Bool.true_and, decide_eq_true_eq]
    rw [if_pos (by omega), h6, k6]
theorem SndH.sym (hst : ∀ N i j, SndH rules cells [(false, N)] i j (st N i j)) (s : Sy) {i j : Nat} (h2 : j ≤ cells.length) : SndH rules cells [s] i j (symH cells st s i j) := by
  obtain ⟨b, t⟩ := s
  cases b with
  | false => exact hst t i j
  | true =>
    rw [symH, if_pos rfl]
    by_cases e : j = i + 1 ∧ (cells[i]?.map (isC (true, t))) = some true
    · rw [if_pos e]
      intro _
      obtain ⟨rfl, e2⟩ := e
      cases hci : cells[i]? with
      | none => rw [hci] at e2; simp at e2
      | some c =>
        rw [hci] at e2
        simp at e2
        refine ⟨by omega, h2, rfl, [(t : Int)], ?_, rfl, rfl⟩
        rw [gpart_at hci]
        exact .term t c e2 .nil
    · rw [if_neg e]; exact .no _ _ _
theorem SndH.rule (hc : cells.length ≤ 2000) (hst : ∀ N i j, SndH rules cells [(false, N)] i j (st N i j)) {i : Nat} (hi : i ≤ cells.length) (l : List Sy) : ∀ j, SndH rules cells l i j (ruleH cells st i l j) := by
  unfold ruleH
  induction l using snoc_induction with
  | h0 =>
    intro j
    by_cases e : j = i
    · subst e
      intro _
      have e : foldRow (symH cells st) cells.length j [] j = ⟨0, 0, [], true⟩ := by simp [foldRow, upd_same]
      rw [e]
      exact ⟨Nat.le_refl _, hi, rfl, [], by rw [gpart_same]; exact .nil, rfl, rfl⟩
    · simp only [foldRow, List.foldl_nil, upd_ne _ _ e]; exact .no _ _ _
  | hs l s ih =>
    rw [foldRow_snoc]
    exact rowK_inv (P := fun j x => SndH rules cells (l ++ [s]) i j x) (fun j => .no _ _ _) fun k j _ _ h3 h4 _ _ => (ih k).then_ hc (SndH.sym hst s h4)
theorem SndH.fold {r : Ru} (hr : r ∈ rules) {i j : Nat} {x : Way} (h : SndH rules cells r.2 i j x) : SndH rules cells [(false, r.1)] i j x := fun ho => by
  obtain ⟨h1, h2, h0, v, h3, h4⟩ := h ho
  exact ⟨h1, h2, h0, v, Ms.one hr h3, h4⟩
end
/-- states of hole -/
structure GoodH (rules : List Ru) (cells : List Ce) (st : WSt) : Prop where
  snd : ∀ N i j, SndH rules cells [(false, N)] i j (st N i j)
  no : ∀ N i j, (st N i j).ok = false → st N i j = Way.no
section
variable {rules : List Ru} {cells : List Ce} {st stI : WSt} {r : Ru} {i j nons : Nat}
theorem GoodH.start (rules : List Ru) (cells : List Ce) : GoodH rules cells (fun _ _ _ => Way.no) := ⟨fun _ _ _ => .no _ _ _, fun _ _ _ _ => rfl⟩
theorem GoodH.put (hc : cells.length ≤ 2000) (hr : r ∈ rules) (hI : GoodH rules cells stI) (h : GoodH rules cells st) (hi : i ≤ cells.length) (hx : lessW (ruleH cells stI i r.2 j) (st r.1 i j) = true) : GoodH rules cells (updS st r.1 i j (ruleH cells stI i r.2 j)) := by
  refine ⟨fun N a b => ?_, fun N a b hn => ?_⟩
  · by_cases e : N = r.1 ∧ a = i ∧ b = j
    · obtain ⟨rfl, rfl, rfl⟩ := e; rw [updS_same]; exact SndH.fold hr (SndH.rule hc hI.snd hi r.2 b)
    · rw [updS_ne _ _ e]; exact h.snd N a b
  · by_cases e : N = r.1 ∧ a = i ∧ b = j
    · obtain ⟨rfl, rfl, rfl⟩ := e; rw [updS_same] at hn; rw [lessW_ok hx] at hn; cases hn
    · rw [updS_ne _ _ e] at hn ⊢; exact h.no N a b hn
theorem SndH.frm (hc : cells.length ≤ 12) (hl : ∀ r ∈ rules, ∀ s ∈ r.2, s.1 = true → s.2 < 8) {N : Nat} {x : Way} (h : SndH rules cells [(false, N)] i j x) (ho : x.ok = true) : Frm big 8 x := by
  obtain ⟨h1, h2, h0, v, h3, h4, h5⟩ := h ho
  have hv := h3.len
  rw [gpart_len h2] at hv
  refine ⟨by rw [h0]; unfold big; omega, by rw [h4]; unfold big; omega, ?_, ?_⟩
  · rw [h5, h4, if_pos (by omega)]; simp
  · rw [h5]; exact h3.lets hl fun s hs hb => by rw [List.mem_singleton.1 hs] at hb; cases hb
theorem GoodH.bnds (h : GoodH rules cells st) (hc : cells.length ≤ 12) (hl : ∀ r ∈ rules, ∀ s ∈ r.2, s.1 = true → s.2 < 8) (N i j : Nat) : Bnd 2000000000 (st N i j) := by
  cases ho : (st N i j).ok with
  | true => exact (SndH.frm hc hl (h.snd N i j) ho).bnd
  | false => rw [h.no N i j ho]; exact .no (by omega)
theorem Bnd.symH {M : Int} (hM : 1 ≤ M) (hst : ∀ N i j, Bnd M (st N i j)) (s : Sy) (i j : Nat) : Bnd M (symH cells st s i j) := by
  unfold Go.Proofs.Ytghnkgbingcbcaa.symH
  split
  · split
    · exact ⟨by simp, by simp; omega, by simp, by simp; omega, by simp, by simp⟩
    · exact .no (by omega)
  · exact hst _ _ _
theorem Bnd.foldRow {sym : Sy → Nat → Nat → Way} {M : Int} {n i : Nat} (hM : 0 ≤ M) (hs : ∀ s k j, Bnd M (sym s k j)) (l : List Sy) : ∀ j, Bnd ((l.length : Int) * M) (foldRow sym n i l j) := by
  induction l using snoc_induction with
  | h0 =>
    intro j
    by_cases e : j = i
    · subst e; simp only [Go.Proofs.Ytghnkgbingcbcaa.foldRow, List.foldl_nil, upd_same]; exact ⟨by simp, by simp, by simp, by simp, by simp, by simp⟩
    · simp only [Go.Proofs.Ytghnkgbingcbcaa.foldRow, List.foldl_nil, upd_ne _ _ e]; exact .no (by simp)
  | hs l s ih =>
    intro j
    rw [foldRow_snoc]
    have e : ((l ++ [s]).length : Int) * M = (l.length : Int) * M + M := by simp [Int.add_mul]
    rw [e]
    exact Bnd.rowK (by have : 0 ≤ (l.length : Int) * M := Int.mul_nonneg (by omega) hM; omega) ih (fun k j _ _ _ => hs s k j) j
structure PrgH (cells : List Ce) (nons : Nat) (st0 st : WSt) (again : Bool) (V : Ru → Nat → Nat → Prop) : Prop where
  no : again = false → st = st0 ∧ ∀ r i j, V r i j → lessW (ruleH cells st0 i r.2 j) (st0 r.1 i j) = false
  yes : again = true → total big 8 nons cells.length st < total big 8 nons cells.length st0
theorem PrgH.put {st0 : WSt} {again : Bool} {V V' : Ru → Nat → Nat → Prop} (hc : cells.length ≤ 12) (hl : ∀ r ∈ rules, ∀ s ∈ r.2, s.1 = true → s.2 < 8) (hr : r ∈ rules) (hn : r.1 < nons) (hI : GoodH rules cells stI) (hm : GoodH rules cells st) (h : PrgH cells nons st0 st again V)
    (hi : i ≤ cells.length) (hj : j ≤ cells.length) (hx : lessW (ruleH cells stI i r.2 j) (st r.1 i j) = true) : PrgH cells nons st0 (updS st r.1 i j (ruleH cells stI i r.2 j)) true V' := by
  refine ⟨fun h => by (cases h), fun _ => ?_⟩
  have h1 : rankW big 8 (ruleH cells stI i r.2 j) < rankW big 8 (st r.1 i j) :=
    rankW_lt (by omega) (fun ho => SndH.frm hc hl (SndH.fold hr (SndH.rule (by omega) hI.snd hi r.2 j)) ho) (fun ho => SndH.frm hc hl (hm.snd r.1 i j) ho) hx
  have h2 := total_lt (nons := nons) (n := cells.length) (st := st) hn hi hj h1
  cases ha : again with
  | false => obtain ⟨rfl, -⟩ := h.no ha; exact h2
  | true => exact Nat.lt_trans h2 (h.yes ha)
theorem PrgH.skip {st0 : WSt} {again : Bool} {V V' : Ru → Nat → Nat → Prop} (h : PrgH cells nons st0 st again V) (hI : again = false → stI = st0) (hx : lessW (ruleH cells stI i r.2 j) (st r.1 i j) = false)
    (hV : ∀ r' i' j', V' r' i' j' → V r' i' j' ∨ (r' = r ∧ i' = i ∧ j' = j)) : PrgH cells nons st0 st again V' := by
  refine ⟨fun ha => ?_, h.yes⟩
  obtain ⟨rfl, h2⟩ := h.no ha
  have := hI ha
  subst this
  refine ⟨rfl, fun r' i' j' hv => ?_⟩
  rcases hV r' i' j' hv with h3 | ⟨rfl, rfl, rfl⟩
  · exact h2 r' i' j' h3
  · exact hx
theorem PrgH.mono {st0 : WSt} {again : Bool} {V V' : Ru → Nat → Nat → Prop} (h : PrgH cells nons st0 st again V) (hV : ∀ r' i' j', V' r' i' j' → V r' i' j') : PrgH cells nons st0 st again V' :=
  ⟨fun ha => ⟨(h.no ha).1, fun r i j hv => (h.no ha).2 r i j (hV r i j hv)⟩, h.yes⟩
theorem PrgH.start (st : WSt) : PrgH cells nons st st false (fun _ _ _ => False) := ⟨fun _ => ⟨rfl, fun _ _ _ h => h.elim⟩, fun h => by (cases h)⟩
end
end Go.Proofs.Ytghnkgbingcbcaa
