/- Texts BF, laid together. -/
import Derived.Test.YtbfcnfgkccgbiaaGreatDoorBA
import Derived.Test.YtbfcnfgkccgbiaaGreatDoorPC



namespace Go.Proofs.YtbfcnfgkccgbiaaGreatDoor
open Go.RowKit

def KyE : Elem Ky Ky where
  k := 4
  cells x := [.bool x.1.1, .int .i64 (x.1.2 : Int), .int .i64 (x.2.1 : Int), .int .i64 (x.2.2 : Int)]
  rel _ _ r x := r = x
  pos := by omega
  len _ := rfl
  one r u hu := by simp at hu; rcases hu with rfl | rfl | rfl | rfl <;> rfl
  agr h _ := h
  mono h _ := h
def kyVal (x : Ky) : Value := .agg #[.bool x.1.1, .int .i64 (x.1.2 : Int), .int .i64 (x.2.1 : Int), .int .i64 (x.2.2 : Int)]
def PkE : Elem (Nat × List Ky) (Nat × SlV) where
  k := 2
  cells r := [.int .i64 (r.1 : Int), .slice r.2.1 r.2.2.1 r.2.2.2]
  rel ok w r x := r.1 = x.1 ∧ Sl KyE ok w r.2.1 r.2.2.1 r.2.2.2 x.2
  pos := by omega
  len _ := rfl
  one r u hu := by simp at hu; rcases hu with rfl | rfl <;> rfl
  agr h k := ⟨h.1, h.2.agr k⟩
  mono h k := ⟨h.1, h.2.mono k⟩
theorem ky_info : (Tryz.prog.info? 180).map (fun i => (i.zero, i.size, i.bytes)) = some (some (.agg #[.bool false, .int .i64 0, .int .i64 0, .int .i64 0]), 4, 32) := by kernel_rfl
theorem step_append_ky {ops : Array Oper} {o : Oper} {a : Act} {K : Act → World → Prop} {Q : Exit → Act → World → Prop} {F : Prop} (w : World) (hgd : o.guard = none) (s y : Operand)
    (ho : o.op = .call { callee := .builtin .append, args := #[s, y], argTypes := #[182, 182] })
    (ok : Nat → Prop) (base : Nat) (v : Value) (n : Nat) (l : List Ky) (hv : a.eval s = v) (hown : Own KyE 180 ok w base v n l)
    (b : Nat) (r : Ky) (x : Ky) (hy : a.eval y = .slice (some ⟨b, 0, none⟩) 1 1) (hcell : Blk w b 180 (KyE.cells r).toArray) (hrel : KyE.rel (fun b => ok b ∧ some b ≠ v.ownBlock) w r x)
    (h63 : n + 1 ≤ 1000000) (hbase : base ≤ w.heap.size)
    (h : ∀ A' c' w', Own KyE 180 ok w' base (.slice A' (n + 1) c') (n + 1) (l ++ [x]) → w.grownBy w' v.ownBlock → ((Value.slice A' (n + 1) c').ownBlock = v.ownBlock ∨ (Value.slice A' (n + 1) c').ownBlock = some w.heap.size) → K (a.put o.dst (.slice A' (n + 1) c')) w') :
    if Region.wanted o (yielded ops a.tmps) = true then Oper.wp Tryz.prog o a w K Q else F := by
  obtain ⟨i, hi, hz⟩ := Option.map_eq_some_iff.1 ky_info
  simp only [Prod.mk.injEq] at hz
  refine step_append_E (E := KyE) w hgd s y 182 180 ho i (.agg #[.bool false, .int .i64 0, .int .i64 0, .int .i64 0]) 32 (by kernel_rfl) hi hz.1 hz.2.1 hz.2.2 rfl ok base v n l hv hown b r x hy (fun j u hu => ?_) hrel (by simp [maxLen]; omega) (by omega) hbase h
  rw [hcell.cell j, List.getElem?_toArray]; exact hu
theorem wpList_append_ky {ops : Array Oper} {rest : List Oper} {o : Oper} {a : Act} {Q : Exit → Act → World → Prop} (w : World) (hgd : o.guard = none) (s y : Operand)
    (ho : o.op = .call { callee := .builtin .append, args := #[s, y], argTypes := #[182, 182] })
    (ok : Nat → Prop) (base : Nat) (v : Value) (n : Nat) (l : List Ky) (hv : a.eval s = v) (hown : Own KyE 180 ok w base v n l)
    (b : Nat) (r : Ky) (x : Ky) (hy : a.eval y = .slice (some ⟨b, 0, none⟩) 1 1) (hcell : Blk w b 180 (KyE.cells r).toArray) (hrel : KyE.rel (fun b => ok b ∧ some b ≠ v.ownBlock) w r x)
    (h63 : n + 1 ≤ 1000000) (hbase : base ≤ w.heap.size)
    (h : ∀ A' c' w', Own KyE 180 ok w' base (.slice A' (n + 1) c') (n + 1) (l ++ [x]) → w.grownBy w' v.ownBlock → ((Value.slice A' (n + 1) c').ownBlock = v.ownBlock ∨ (Value.slice A' (n + 1) c').ownBlock = some w.heap.size) → wpList Tryz.prog ops Q rest (a.put o.dst (.slice A' (n + 1) c')) w') : wpList Tryz.prog ops Q (o :: rest) a w := by
  obtain ⟨i, hi, hz⟩ := Option.map_eq_some_iff.1 ky_info
  simp only [Prod.mk.injEq] at hz
  refine wpList_append_E (E := KyE) w hgd s y 182 180 ho i (.agg #[.bool false, .int .i64 0, .int .i64 0, .int .i64 0]) 32 (by kernel_rfl) hi hz.1 hz.2.1 hz.2.2 rfl ok base v n l hv hown b r x hy (fun j u hu => ?_) hrel (by simp [maxLen]; omega) (by omega) hbase h
  rw [hcell.cell j, List.getElem?_toArray]; exact hu
theorem pk_info : (Tryz.prog.info? 187).map (fun i => (i.zero, i.size, i.bytes)) = some (some (.agg #[.int .i64 0, .slice none 0 0]), 2, 32) := by kernel_rfl
theorem step_append_pk {ops : Array Oper} {o : Oper} {a : Act} {K : Act → World → Prop} {Q : Exit → Act → World → Prop} {F : Prop} (w : World) (hgd : o.guard = none) (s y : Operand)
    (ho : o.op = .call { callee := .builtin .append, args := #[s, y], argTypes := #[184, 184] })
    (ok : Nat → Prop) (base : Nat) (v : Value) (n : Nat) (l : List (Nat × List Ky)) (hv : a.eval s = v) (hown : Own PkE 187 ok w base v n l)
    (b : Nat) (r : (Nat × SlV)) (x : (Nat × List Ky)) (hy : a.eval y = .slice (some ⟨b, 0, none⟩) 1 1) (hcell : Blk w b 187 (PkE.cells r).toArray) (hrel : PkE.rel (fun b => ok b ∧ some b ≠ v.ownBlock) w r x)
    (h63 : n + 1 ≤ 1000000) (hbase : base ≤ w.heap.size)
    (h : ∀ A' c' w', Own PkE 187 ok w' base (.slice A' (n + 1) c') (n + 1) (l ++ [x]) → w.grownBy w' v.ownBlock → ((Value.slice A' (n + 1) c').ownBlock = v.ownBlock ∨ (Value.slice A' (n + 1) c').ownBlock = some w.heap.size) → K (a.put o.dst (.slice A' (n + 1) c')) w') :
    if Region.wanted o (yielded ops a.tmps) = true then Oper.wp Tryz.prog o a w K Q else F := by
  obtain ⟨i, hi, hz⟩ := Option.map_eq_some_iff.1 pk_info
  simp only [Prod.mk.injEq] at hz
  refine step_append_E (E := PkE) w hgd s y 184 187 ho i (.agg #[.int .i64 0, .slice none 0 0]) 32 (by kernel_rfl) hi hz.1 hz.2.1 hz.2.2 rfl ok base v n l hv hown b r x hy (fun j u hu => ?_) hrel (by simp [maxLen]; omega) (by omega) hbase h
  rw [hcell.cell j, List.getElem?_toArray]; exact hu
theorem wpList_append_pk {ops : Array Oper} {rest : List Oper} {o : Oper} {a : Act} {Q : Exit → Act → World → Prop} (w : World) (hgd : o.guard = none) (s y : Operand)
    (ho : o.op = .call { callee := .builtin .append, args := #[s, y], argTypes := #[184, 184] })
    (ok : Nat → Prop) (base : Nat) (v : Value) (n : Nat) (l : List (Nat × List Ky)) (hv : a.eval s = v) (hown : Own PkE 187 ok w base v n l)
    (b : Nat) (r : (Nat × SlV)) (x : (Nat × List Ky)) (hy : a.eval y = .slice (some ⟨b, 0, none⟩) 1 1) (hcell : Blk w b 187 (PkE.cells r).toArray) (hrel : PkE.rel (fun b => ok b ∧ some b ≠ v.ownBlock) w r x)
    (h63 : n + 1 ≤ 1000000) (hbase : base ≤ w.heap.size)
    (h : ∀ A' c' w', Own PkE 187 ok w' base (.slice A' (n + 1) c') (n + 1) (l ++ [x]) → w.grownBy w' v.ownBlock → ((Value.slice A' (n + 1) c').ownBlock = v.ownBlock ∨ (Value.slice A' (n + 1) c').ownBlock = some w.heap.size) → wpList Tryz.prog ops Q rest (a.put o.dst (.slice A' (n + 1) c')) w') : wpList Tryz.prog ops Q (o :: rest) a w := by
  obtain ⟨i, hi, hz⟩ := Option.map_eq_some_iff.1 pk_info
  simp only [Prod.mk.injEq] at hz
  refine wpList_append_E (E := PkE) w hgd s y 184 187 ho i (.agg #[.int .i64 0, .slice none 0 0]) 32 (by kernel_rfl) hi hz.1 hz.2.1 hz.2.2 rfl ok base v n l hv hown b r x hy (fun j u hu => ?_) hrel (by simp [maxLen]; omega) (by omega) hbase h
  rw [hcell.cell j, List.getElem?_toArray]; exact hu
end Go.Proofs.YtbfcnfgkccgbiaaGreatDoor

