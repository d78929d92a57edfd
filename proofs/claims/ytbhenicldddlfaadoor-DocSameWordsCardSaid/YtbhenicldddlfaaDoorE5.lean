/- Texts DS, laid together. -/
import Derived.Test.YtbhenicldddlfaaDoorE4


namespace Go.Proofs.YtbhenicldddlfaaDoor
open Go.RowKit

/-! ### ints as elements; layouts -/
def IntE : Elem Int Int where
  k := 1
  cells s := [.int .i64 s]
  rel _ _ r x := r = x
  pos := by omega
  len _ := rfl
  one r u hu := by simp at hu; subst hu; rfl
  agr h _ := h
  mono h _ := h
theorem Sl.ints {ok : Nat → Prop} {w : World} {A : Option Addr} {n c : Nat} {xs : List Int} (h : Sl IntE ok w A n c xs) : Ints w A n c xs := by
  refine ⟨h.len, h.le, fun hn => ?_⟩
  obtain ⟨b, off, r, x, e, -⟩ := h.at_ hn
  refine ⟨b, off, e, fun i hi => ?_⟩
  obtain ⟨b', off', r', x', e', _, _, hx, hr, hc⟩ := h.at_ hi
  rw [e] at e'
  obtain ⟨rfl, rfl⟩ : b = b' ∧ off = off' := by simpa using e'
  have := hc 0 (.int .i64 r') rfl
  simp only [IntE, Nat.mul_one, Nat.add_zero] at this
  rw [this, show r' = x' from hr, List.getD_eq_getElem?_getD, hx]
  rfl
theorem Ints.sl {ok : Nat → Prop} {w : World} {A : Option Addr} {n c : Nat} {xs : List Int} (h : Ints w A n c xs) (hk : ∀ b off, A = some ⟨b, off, none⟩ → 0 < n → ok b) : Sl IntE ok w A n c xs := by
  obtain ⟨h1, h2, h3⟩ := h
  refine ⟨h1, h2, xs, h1, fun hne => ?_, fun i r x hr hx => by rw [hr] at hx; exact Option.some.inj hx⟩
  have hfl : flat IntE xs = xs.map fun x => Value.int .i64 x := by
    unfold flat; clear h1 h3 hne
    induction xs with
    | nil => rfl
    | cons a l ih => rw [List.flatMap_cons, List.map_cons, ih]; rfl
  rw [hfl] at hne ⊢
  have hn : 0 < n := by
    rcases Nat.eq_zero_or_pos n with e | e
    · exfalso; apply hne; rw [List.length_eq_zero_iff.1 (h1.trans e)]; rfl
    · exact e
  obtain ⟨b, off, e, hc⟩ := h3 hn
  refine ⟨b, off, e, hk b off e hn, fun j u hu => ?_⟩
  have hj : j < xs.length := by have := (List.getElem?_eq_some_iff.1 hu).1; simpa using this
  rw [hc j (by omega), ← hu, List.getElem?_map, List.getD_eq_getElem?_getD, List.getElem?_eq_getElem hj]
  rfl
/-- a layout, as it lies in a list -/
structure Lz where
  ex : Nat
  ln : Nat
  ch : List Int
  tx : ByteArray
def Ly.z (L : Ly) : Lz := ⟨L.ex, L.ln, L.ch, ⟨L.tx.toArray⟩⟩
abbrev LzV := Nat × Nat × SlV × ByteArray
def LzE : Elem Lz LzV where
  k := 4
  cells v := [.int .i64 (v.1 : Int), .int .i64 (v.2.1 : Int), .slice v.2.2.1.1 v.2.2.1.2.1 v.2.2.1.2.2, .string v.2.2.2]
  rel ok w v x := v.1 = x.ex ∧ v.2.1 = x.ln ∧ v.2.2.2 = x.tx ∧ Sl IntE ok w v.2.2.1.1 v.2.2.1.2.1 v.2.2.1.2.2 x.ch
  pos := by omega
  len _ := rfl
  one r u hu := by simp at hu; rcases hu with rfl | rfl | rfl | rfl <;> rfl
  agr h k := ⟨h.1, h.2.1, h.2.2.1, h.2.2.2.agr k⟩
  mono h k := ⟨h.1, h.2.1, h.2.2.1, h.2.2.2.mono k⟩
theorem lz_info : (Tryd.prog.info? 34).map (fun i => (i.zero, i.size, i.bytes)) = some (some (.agg #[.int .i64 0, .int .i64 0, .slice none 0 0, .string ⟨#[]⟩]), 4, 56) := by kernel_rfl
theorem wpList_append_lz {ops : Array Oper} {rest : List Oper} {o : Oper} {a : Act} {Q : Exit → Act → World → Prop} (w : World) (hgd : o.guard = none) (s y : Operand)
    (ho : o.op = .call { callee := .builtin .append, args := #[s, y], argTypes := #[23, 23] })
    (ok : Nat → Prop) (base : Nat) (v : Value) (n : Nat) (l : List Lz) (hv : a.eval s = v) (hown : Own LzE 34 ok w base v n l)
    (b : Nat) (r : LzV) (x : Lz) (hy : a.eval y = .slice (some ⟨b, 0, none⟩) 1 1) (hcell : ∀ j u, (LzE.cells r)[j]? = some u → w.cell? ⟨b, j, none⟩ = some u) (hrel : LzE.rel (fun b => ok b ∧ some b ≠ v.ownBlock) w r x)
    (h63 : n + 1 ≤ 1000000) (hbase : base ≤ w.heap.size)
    (h : ∀ A' c' w', Own LzE 34 ok w' base (.slice A' (n + 1) c') (n + 1) (l ++ [x]) → w.grownBy w' v.ownBlock → ((Value.slice A' (n + 1) c').ownBlock = v.ownBlock ∨ (Value.slice A' (n + 1) c').ownBlock = some w.heap.size) → wpList Tryd.prog ops Q rest (a.put o.dst (.slice A' (n + 1) c')) w') :
    wpList Tryd.prog ops Q (o :: rest) a w := by
  obtain ⟨i, hi, hz⟩ := Option.map_eq_some_iff.1 lz_info
  simp only [Prod.mk.injEq] at hz
  exact wpList_append_E (E := LzE) w hgd s y 23 34 ho i (.agg #[.int .i64 0, .int .i64 0, .slice none 0 0, .string ⟨#[]⟩]) 56 (by kernel_rfl) hi hz.1 hz.2.1 hz.2.2 rfl ok base v n l hv hown b r x hy hcell hrel (by simp [maxLen]; omega) (by omega) hbase h

/-! ### plain: how many groups; the layouts of all numbers -/
def grpN (ops : List Opr) : Nat := (ops.filter (·.grp)).length
theorem grpN_take {ops : List Opr} {j : Nat} {o : Opr} (h : ops[j]? = some o) : grpN (ops.take (j + 1)) = grpN (ops.take j) + if o.grp = true then 1 else 0 := by
  have hl := List.getElem?_eq_some_iff.1 h
  unfold grpN
  rw [List.take_succ_eq_append_getElem hl.1, hl.2, List.filter_append, List.length_append]
  congr 1
  by_cases hg : o.grp = true <;> simp [hg]
theorem grpN_le (ops : List Opr) : grpN ops ≤ ops.length := List.length_filter_le _ _
def layM (W : Nat) (ops : List Opr) (m : Nat) : Ly := setF W (maskP m) ops 0 0 0
def okM (W : Nat) (ops : List Opr) (m : Nat) : Bool := decide (m / 2 ^ (layM W ops m).k = 0)
def allN (W : Nat) (ops : List Opr) (n : Nat) : List Lz := ((List.range n).filter (okM W ops)).map fun m => (layM W ops m).z
theorem allN_succ (W : Nat) (ops : List Opr) (n : Nat) : allN W ops (n + 1) = allN W ops n ++ if okM W ops n = true then [(layM W ops n).z] else [] := by
  unfold allN
  rw [List.range_succ, List.filter_append, List.map_append]
  by_cases h : okM W ops n = true <;> simp [h]
theorem allN_len (W : Nat) (ops : List Opr) (n : Nat) : (allN W ops n).length ≤ n := by
  unfold allN
  rw [List.length_map]
  exact Nat.le_trans (List.length_filter_le _ _) (by simp)
end Go.Proofs.YtbhenicldddlfaaDoor

