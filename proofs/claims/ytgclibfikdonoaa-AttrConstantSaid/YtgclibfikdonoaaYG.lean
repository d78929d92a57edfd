/- attr.Calc: the value of an expression. -/
import Derived.Test.YtgclibfikdonoaaYR
namespace Go.Proofs.Ytgclibfikdonoaa
open Go.RowKit

def addL (l : List Nat) : Nat := l.foldl (fun o n => (o + n % 1000003 + 1000003) % 1000003) 0
def mulL (l : List Nat) : Nat := l.foldl (fun o n => (o * (n % 1000003) % 1000003 + 1000003) % 1000003) 1
def maxL (l : List Nat) : Nat := l.foldl Nat.max 0
def calcOp (k : Nat) (l : List Nat) : Nat :=
  if k = 2 then addL l else if k = 3 then mulL l else if k = 4 then maxL l else if k = 5 then (if l.getD 0 0 < l.getD 1 0 then 1 else 0) else if k = 6 then (if l.getD 0 0 = 0 then l.getD 2 0 else l.getD 1 0) else 0
mutual
def Ex.calc (get : Nat → Nat → Nat) : Ex → Nat
  | .mk k n a b args => if k = 0 then n else if k = 1 then get a b else calcOp k (Ex.calcs get args)
def Ex.calcs (get : Nat → Nat → Nat) : List Ex → List Nat
  | [] => []
  | t :: ts => t.calc get :: Ex.calcs get ts
end
section
variable {get : Nat → Nat → Nat}
theorem Ex.calcs_map (l : List Ex) : Ex.calcs get l = l.map (Ex.calc get) := by
  induction l with
  | nil => rfl
  | cons t ts ih => simp only [Ex.calcs, ih, List.map_cons]
theorem addL_snoc (l : List Nat) (n : Nat) : addL (l ++ [n]) = (addL l + n % 1000003 + 1000003) % 1000003 := by simp [addL]
theorem mulL_snoc (l : List Nat) (n : Nat) : mulL (l ++ [n]) = (mulL l * (n % 1000003) % 1000003 + 1000003) % 1000003 := by simp [mulL]
theorem maxL_snoc (l : List Nat) (n : Nat) : maxL (l ++ [n]) = Nat.max (maxL l) n := by simp [maxL]
theorem addL_lt (l : List Nat) : addL l < 1000003 := by
  rcases List.eq_nil_or_concat l with rfl | ⟨a, b, rfl⟩
  · simp [addL]
  · rw [List.concat_eq_append, addL_snoc]; exact Nat.mod_lt _ (by omega)
theorem mulL_lt (l : List Nat) : mulL l < 1000003 := by
  rcases List.eq_nil_or_concat l with rfl | ⟨a, b, rfl⟩
  · simp [mulL]
  · rw [List.concat_eq_append, mulL_snoc]; exact Nat.mod_lt _ (by omega)
theorem foldl_max_lt (l : List Nat) (M : Nat) : ∀ o, o < M → (∀ x ∈ l, x < M) → l.foldl Nat.max o < M := by
  induction l with
  | nil => intro o h _; simpa using h
  | cons a l ih =>
    intro o h hl
    rw [List.foldl_cons]
    refine ih _ ?_ fun x hx => hl x (List.mem_cons_of_mem _ hx)
    have := hl a (List.mem_cons_self ..)
    show max o a < M
    omega
theorem maxL_lt (l : List Nat) (h : ∀ x ∈ l, x < 1000003) : maxL l < 1000003 := foldl_max_lt l _ 0 (by omega) h
theorem calcOp_lt (k : Nat) (l : List Nat) (h : ∀ x ∈ l, x < 1000003) : calcOp k l < 1000003 := by
  have hd : ∀ i, l.getD i 0 < 1000003 := fun i => by
    rw [List.getD_eq_getElem?_getD]
    cases e : l[i]? with
    | none => simp
    | some x => exact h x (List.mem_of_getElem? e)
  unfold calcOp
  split
  · exact addL_lt l
  split
  · exact mulL_lt l
  split
  · exact maxL_lt l h
  split
  · split <;> omega
  split
  · split
    · exact hd 2
    · exact hd 1
  · omega
theorem Ex.calc_lt (hg : ∀ a b, get a b < 1000003) {d : Nat} {t : Ex} (h : Ex.Ok d t) : t.calc get < 1000003 := by
  induction h with
  | const d n h => simpa [Ex.calc] using h
  | value d a b => simpa [Ex.calc] using hg a b
  | node d k args h2 h7 hn hm h5 h6 hk ih =>
    rw [Ex.calc, if_neg (by omega), if_neg (by omega)]
    refine calcOp_lt k _ fun x hx => ?_
    rw [Ex.calcs_map] at hx
    obtain ⟨t, ht, rfl⟩ := List.mem_map.1 hx
    exact ih t ht
end
end Go.Proofs.Ytgclibfikdonoaa
