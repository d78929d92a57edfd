/- Texts JV, laid together. -/
import Derived.Test.YthkldiehokblcaaJU


namespace Go.Proofs.Ythkldiehokblcaa
open Go.RowKit

def InE : Elem Int Int where
  k := 1
  cells x := [.int .i64 x]
  rel _ _ r x := r = x
  pos := by omega
  len _ := rfl
  one r u hu := by simp at hu; subst hu; rfl
  agr h _ := h
  mono h _ := h
def RwE : Elem (List Int) SlV where
  k := 1
  cells s := [.slice s.1 s.2.1 s.2.2]
  rel ok w r x := Sl InE ok w r.1 r.2.1 r.2.2 x
  pos := by omega
  len _ := rfl
  one r u hu := by simp at hu; subst hu; rfl
  agr h k := h.agr k
  mono h k := h.mono k
/-- a clash with the header of its list of rules (what the header leads to is said apart: append(l, -1) writes behind a list that a clash holds) -/
def ClE : Elem (Nat × Nat × SlV) (Nat × Nat × SlV) where
  k := 3
  cells s := [.int .i64 (s.1 : Int), .int .i64 (s.2.1 : Int), .slice s.2.2.1 s.2.2.2.1 s.2.2.2.2]
  rel _ _ r x := r = x
  pos := by omega
  len _ := rfl
  one r u hu := by simp at hu; rcases hu with rfl | rfl | rfl <;> rfl
  agr h _ := h
  mono h _ := h
theorem flatIn (l : List Int) : flat InE l = l.map (Value.int .i64) := by
  induction l with
  | nil => rfl
  | cons x l ih => simp only [flat, List.flatMap_cons, List.map_cons] at ih ⊢; rw [ih]; rfl
theorem Ints.slE {w : World} {A : Option Addr} {n c : Nat} {xs : List Int} (h : Ints w A n c xs) : Sl InE (fun b => ∃ o, A = some ⟨b, o, none⟩) w A n c xs := by
  refine ⟨h.1, h.2.1, xs, h.1, fun hne => ?_, fun i r x hr hx => by rw [hr] at hx; exact Option.some.inj hx⟩
  have hn : 0 < n := by
    rcases Nat.eq_zero_or_pos n with h0 | h0
    · exfalso; apply hne
      have : xs = [] := List.eq_nil_of_length_eq_zero (by rw [h.1, h0])
      rw [this]; rfl
    · exact h0
  obtain ⟨b, off, e, hc⟩ := h.2.2 hn
  refine ⟨b, off, e, ⟨off, e⟩, fun j u hu => ?_⟩
  rw [flatIn, List.getElem?_map] at hu
  obtain ⟨y, hy, rfl⟩ := Option.map_eq_some_iff.1 hu
  have hj := (List.getElem?_eq_some_iff.1 hy).1
  have e1 := hc j (by have := h.1; omega)
  rw [List.getD_eq_getElem?_getD, hy] at e1
  exact e1
theorem Sl.intsIn {ok : Nat → Prop} {w : World} {A : Option Addr} {n c : Nat} {xs : List Int} (h : Sl InE ok w A n c xs) : Ints w A n c xs := by
  obtain ⟨h1, h2, raw, h3, h4, h5⟩ := h
  have er : raw = xs := List.ext_getElem (by omega) fun i a b => h5 i _ _ (List.getElem?_eq_getElem a) (List.getElem?_eq_getElem b)
  subst er
  refine ⟨h1, h2, fun hn => ?_⟩
  obtain ⟨b, off, e, -, hc⟩ := h4 (by rw [flatIn]; intro e; have : raw.length = 0 := by simpa using congrArg List.length e
                                      omega)
  refine ⟨b, off, e, fun i hi => ?_⟩
  have hi' : i < raw.length := by omega
  exact hc i _ (by rw [flatIn, List.getElem?_map, List.getElem?_eq_getElem hi', List.getD_eq_getElem?_getD, List.getElem?_eq_getElem hi']; rfl)
theorem wpList_append_rw {ops : Array Oper} {rest : List Oper} {o : Oper} {a : Act} {Q : Exit → Act → World → Prop} (w : World) (hgd : o.guard = none) (s y : Operand)
    (ho : o.op = .call { callee := .builtin .append, args := #[s, y], argTypes := #[28, 28] })
    (ok : Nat → Prop) (base : Nat) (v : Value) (n : Nat) (l : List (List Int)) (hv : a.eval s = v) (hown : Own RwE 25 ok w base v n l)
    (b : Nat) (x : SlV) (xs : List Int) (hy : a.eval y = .slice (some ⟨b, 0, none⟩) 1 1) (hcell : w.cell? ⟨b, 0, none⟩ = some (.slice x.1 x.2.1 x.2.2)) (hrel : Sl InE (fun b => ok b ∧ some b ≠ v.ownBlock) w x.1 x.2.1 x.2.2 xs)
    (h63 : n + 1 ≤ 1000000) (hbase : base ≤ w.heap.size)
    (h : ∀ A' c' w', Own RwE 25 ok w' base (.slice A' (n + 1) c') (n + 1) (l ++ [xs]) → w.grownBy w' v.ownBlock → ((Value.slice A' (n + 1) c').ownBlock = v.ownBlock ∨ (Value.slice A' (n + 1) c').ownBlock = some w.heap.size) → wpList Try.prog ops Q rest (a.put o.dst (.slice A' (n + 1) c')) w') : wpList Try.prog ops Q (o :: rest) a w := by
  have hinf : (Try.prog.info? 25).map (fun i => (i.zero, i.size, i.bytes)) = some (some (.slice none 0 0), 1, 24) := by kernel_rfl
  obtain ⟨i, hi, hz⟩ := Option.map_eq_some_iff.1 hinf
  simp only [Prod.mk.injEq] at hz
  refine wpList_append_E (E := RwE) w hgd s y 28 25 ho i (.slice none 0 0) 24 (by kernel_rfl) hi hz.1 hz.2.1 hz.2.2 rfl ok base v n l hv hown b x xs hy (fun j u hu => ?_) hrel (by simp [maxLen]; omega) (by omega) hbase h
  cases j with
  | zero => simp [RwE] at hu; subst hu; exact hcell
  | succ j => simp [RwE] at hu
theorem wpList_append_cl {ops : Array Oper} {rest : List Oper} {o : Oper} {a : Act} {Q : Exit → Act → World → Prop} (w : World) (hgd : o.guard = none) (s y : Operand)
    (ho : o.op = .call { callee := .builtin .append, args := #[s, y], argTypes := #[29, 29] })
    (ok : Nat → Prop) (base : Nat) (v : Value) (n : Nat) (l : List (Nat × Nat × SlV)) (hv : a.eval s = v) (hown : Own ClE 44 ok w base v n l)
    (b : Nat) (p q : Nat) (x : SlV) (hy : a.eval y = .slice (some ⟨b, 0, none⟩) 1 1) (hcell : Blk w b 44 #[.int .i64 (p : Int), .int .i64 (q : Int), .slice x.1 x.2.1 x.2.2])
    (h63 : n + 1 ≤ 1000000) (hbase : base ≤ w.heap.size)
    (h : ∀ A' c' w', Own ClE 44 ok w' base (.slice A' (n + 1) c') (n + 1) (l ++ [(p, q, x)]) → w.grownBy w' v.ownBlock → ((Value.slice A' (n + 1) c').ownBlock = v.ownBlock ∨ (Value.slice A' (n + 1) c').ownBlock = some w.heap.size) → wpList Try.prog ops Q rest (a.put o.dst (.slice A' (n + 1) c')) w') : wpList Try.prog ops Q (o :: rest) a w := by
  have hinf : (Try.prog.info? 44).map (fun i => (i.zero, i.size, i.bytes)) = some (some (.agg #[.int .i64 0, .int .i64 0, .slice none 0 0]), 3, 40) := by kernel_rfl
  obtain ⟨i, hi, hz⟩ := Option.map_eq_some_iff.1 hinf
  simp only [Prod.mk.injEq] at hz
  refine wpList_append_E (E := ClE) w hgd s y 29 44 ho i (.agg #[.int .i64 0, .int .i64 0, .slice none 0 0]) 40 (by kernel_rfl) hi hz.1 hz.2.1 hz.2.2 rfl ok base v n l hv hown b (p, q, x) (p, q, x) hy (fun j u hu => ?_) rfl (by simp [maxLen]; omega) (by omega) hbase h
  rw [hcell.cell j]
  rw [List.getElem?_toArray]; exact hu
end Go.Proofs.Ythkldiehokblcaa

