/- Texts BM, laid together. -/
import Derived.Test.YtbfcnfgkccgbiaaGreatDoorBF
import Derived.Test.YtbfcnfgkccgbiaaGreatDoorBI
import Derived.Test.YtbfcnfgkccgbiaaGreatDoorBD




namespace Go.Proofs.YtbfcnfgkccgbiaaGreatDoor
open Go.RowKit

abbrev KyI := Bool × Int × Int × Int
abbrev PkI := Int × List Int
abbrev NdI := KyI × List PkI
/-- a forest: its root, its nodes -/
abbrev FoI := Int × List NdI
def kyCs (x : KyI) : List Value := [.bool x.1, .int .i64 x.2.1, .int .i64 x.2.2.1, .int .i64 x.2.2.2]
def FpE : Elem PkI (Int × SlV) where
  k := 2
  cells r := [.int .i64 r.1, .slice r.2.1 r.2.2.1 r.2.2.2]
  rel ok w r x := r.1 = x.1 ∧ Sl InE ok w r.2.1 r.2.2.1 r.2.2.2 x.2
  pos := by omega
  len _ := rfl
  one r u hu := by simp at hu; rcases hu with rfl | rfl <;> rfl
  agr h k := ⟨h.1, h.2.agr k⟩
  mono h k := ⟨h.1, h.2.mono k⟩
def NdE : Elem NdI (KyI × SlV) where
  k := 5
  cells r := [.bool r.1.1, .int .i64 r.1.2.1, .int .i64 r.1.2.2.1, .int .i64 r.1.2.2.2, .slice r.2.1 r.2.2.1 r.2.2.2]
  rel ok w r x := r.1 = x.1 ∧ Sl FpE ok w r.2.1 r.2.2.1 r.2.2.2 x.2
  pos := by omega
  len _ := rfl
  one r u hu := by simp at hu; rcases hu with rfl | rfl | rfl | rfl | rfl <;> rfl
  agr h k := ⟨h.1, h.2.agr k⟩
  mono h k := ⟨h.1, h.2.mono k⟩
def FoR (ok : Nat → Prop) (w : World) (v : Value) (f : FoI) : Prop := ∃ A n c, v = .agg #[.slice A n c, .int .i64 f.1] ∧ Sl NdE ok w A n c f.2
section
variable {ok ok' : Nat → Prop} {w w' : World} {v : Value} {f : FoI}
theorem FoR.via (h : FoR ok w v f) (hb : Below w.heap.size w w') : FoR ok w' v f := by
  obtain ⟨A, n, c, h1, h2⟩ := h; exact ⟨A, n, c, h1, h2.via hb⟩
theorem FoR.mono (h : FoR ok w v f) (hm : ∀ b, b < w.heap.size → ok b → ok' b) : FoR ok' w v f := by
  obtain ⟨A, n, c, h1, h2⟩ := h; exact ⟨A, n, c, h1, h2.mono hm⟩
theorem FoR.nil (ok : Nat → Prop) (w : World) (r : Int) : FoR ok w (.agg #[.slice none 0 0, .int .i64 r]) (r, []) := ⟨none, 0, 0, rfl, Sl.nil 0⟩
end
theorem fp_info : (Tryz.prog.info? 91).map (fun i => (i.zero, i.size, i.bytes)) = some (some (.agg #[.int .i64 0, .slice none 0 0]), 2, 32) := by kernel_rfl
theorem step_append_fp {ops : Array Oper} {o : Oper} {a : Act} {K : Act → World → Prop} {Q : Exit → Act → World → Prop} {F : Prop} (w : World) (hgd : o.guard = none) (s y : Operand)
    (ho : o.op = .call { callee := .builtin .append, args := #[s, y], argTypes := #[87, 87] })
    (ok : Nat → Prop) (base : Nat) (v : Value) (n : Nat) (l : List PkI) (hv : a.eval s = v) (hown : Own FpE 91 ok w base v n l)
    (b : Nat) (r : (Int × SlV)) (x : PkI) (hy : a.eval y = .slice (some ⟨b, 0, none⟩) 1 1) (hcell : Blk w b 91 (FpE.cells r).toArray) (hrel : FpE.rel (fun b => ok b ∧ some b ≠ v.ownBlock) w r x)
    (h63 : n + 1 ≤ 1000000) (hbase : base ≤ w.heap.size)
    (h : ∀ A' c' w', Own FpE 91 ok w' base (.slice A' (n + 1) c') (n + 1) (l ++ [x]) → w.grownBy w' v.ownBlock → ((Value.slice A' (n + 1) c').ownBlock = v.ownBlock ∨ (Value.slice A' (n + 1) c').ownBlock = some w.heap.size) → K (a.put o.dst (.slice A' (n + 1) c')) w') :
    if Region.wanted o (yielded ops a.tmps) = true then Oper.wp Tryz.prog o a w K Q else F := by
  obtain ⟨i, hi, hz⟩ := Option.map_eq_some_iff.1 fp_info
  simp only [Prod.mk.injEq] at hz
  refine step_append_E (E := FpE) w hgd s y 87 91 ho i (.agg #[.int .i64 0, .slice none 0 0]) 32 (by kernel_rfl) hi hz.1 hz.2.1 hz.2.2 rfl ok base v n l hv hown b r x hy (fun j u hu => ?_) hrel (by simp [maxLen]; omega) (by omega) hbase h
  rw [hcell.cell j, List.getElem?_toArray]; exact hu
theorem wpList_append_fp {ops : Array Oper} {rest : List Oper} {o : Oper} {a : Act} {Q : Exit → Act → World → Prop} (w : World) (hgd : o.guard = none) (s y : Operand)
    (ho : o.op = .call { callee := .builtin .append, args := #[s, y], argTypes := #[87, 87] })
    (ok : Nat → Prop) (base : Nat) (v : Value) (n : Nat) (l : List PkI) (hv : a.eval s = v) (hown : Own FpE 91 ok w base v n l)
    (b : Nat) (r : (Int × SlV)) (x : PkI) (hy : a.eval y = .slice (some ⟨b, 0, none⟩) 1 1) (hcell : Blk w b 91 (FpE.cells r).toArray) (hrel : FpE.rel (fun b => ok b ∧ some b ≠ v.ownBlock) w r x)
    (h63 : n + 1 ≤ 1000000) (hbase : base ≤ w.heap.size)
    (h : ∀ A' c' w', Own FpE 91 ok w' base (.slice A' (n + 1) c') (n + 1) (l ++ [x]) → w.grownBy w' v.ownBlock → ((Value.slice A' (n + 1) c').ownBlock = v.ownBlock ∨ (Value.slice A' (n + 1) c').ownBlock = some w.heap.size) → wpList Tryz.prog ops Q rest (a.put o.dst (.slice A' (n + 1) c')) w') : wpList Tryz.prog ops Q (o :: rest) a w := by
  obtain ⟨i, hi, hz⟩ := Option.map_eq_some_iff.1 fp_info
  simp only [Prod.mk.injEq] at hz
  refine wpList_append_E (E := FpE) w hgd s y 87 91 ho i (.agg #[.int .i64 0, .slice none 0 0]) 32 (by kernel_rfl) hi hz.1 hz.2.1 hz.2.2 rfl ok base v n l hv hown b r x hy (fun j u hu => ?_) hrel (by simp [maxLen]; omega) (by omega) hbase h
  rw [hcell.cell j, List.getElem?_toArray]; exact hu
theorem nd_info : (Tryz.prog.info? 89).map (fun i => (i.zero, i.size, i.bytes)) = some (some (.agg #[.bool false, .int .i64 0, .int .i64 0, .int .i64 0, .slice none 0 0]), 5, 56) := by kernel_rfl
theorem step_append_nd {ops : Array Oper} {o : Oper} {a : Act} {K : Act → World → Prop} {Q : Exit → Act → World → Prop} {F : Prop} (w : World) (hgd : o.guard = none) (s y : Operand)
    (ho : o.op = .call { callee := .builtin .append, args := #[s, y], argTypes := #[32, 32] })
    (ok : Nat → Prop) (base : Nat) (v : Value) (n : Nat) (l : List NdI) (hv : a.eval s = v) (hown : Own NdE 89 ok w base v n l)
    (b : Nat) (r : (KyI × SlV)) (x : NdI) (hy : a.eval y = .slice (some ⟨b, 0, none⟩) 1 1) (hcell : Blk w b 89 (NdE.cells r).toArray) (hrel : NdE.rel (fun b => ok b ∧ some b ≠ v.ownBlock) w r x)
    (h63 : n + 1 ≤ 1000000) (hbase : base ≤ w.heap.size)
    (h : ∀ A' c' w', Own NdE 89 ok w' base (.slice A' (n + 1) c') (n + 1) (l ++ [x]) → w.grownBy w' v.ownBlock → ((Value.slice A' (n + 1) c').ownBlock = v.ownBlock ∨ (Value.slice A' (n + 1) c').ownBlock = some w.heap.size) → K (a.put o.dst (.slice A' (n + 1) c')) w') :
    if Region.wanted o (yielded ops a.tmps) = true then Oper.wp Tryz.prog o a w K Q else F := by
  obtain ⟨i, hi, hz⟩ := Option.map_eq_some_iff.1 nd_info
  simp only [Prod.mk.injEq] at hz
  refine step_append_E (E := NdE) w hgd s y 32 89 ho i (.agg #[.bool false, .int .i64 0, .int .i64 0, .int .i64 0, .slice none 0 0]) 56 (by kernel_rfl) hi hz.1 hz.2.1 hz.2.2 rfl ok base v n l hv hown b r x hy (fun j u hu => ?_) hrel (by simp [maxLen]; omega) (by omega) hbase h
  rw [hcell.cell j, List.getElem?_toArray]; exact hu
theorem wpList_append_nd {ops : Array Oper} {rest : List Oper} {o : Oper} {a : Act} {Q : Exit → Act → World → Prop} (w : World) (hgd : o.guard = none) (s y : Operand)
    (ho : o.op = .call { callee := .builtin .append, args := #[s, y], argTypes := #[32, 32] })
    (ok : Nat → Prop) (base : Nat) (v : Value) (n : Nat) (l : List NdI) (hv : a.eval s = v) (hown : Own NdE 89 ok w base v n l)
    (b : Nat) (r : (KyI × SlV)) (x : NdI) (hy : a.eval y = .slice (some ⟨b, 0, none⟩) 1 1) (hcell : Blk w b 89 (NdE.cells r).toArray) (hrel : NdE.rel (fun b => ok b ∧ some b ≠ v.ownBlock) w r x)
    (h63 : n + 1 ≤ 1000000) (hbase : base ≤ w.heap.size)
    (h : ∀ A' c' w', Own NdE 89 ok w' base (.slice A' (n + 1) c') (n + 1) (l ++ [x]) → w.grownBy w' v.ownBlock → ((Value.slice A' (n + 1) c').ownBlock = v.ownBlock ∨ (Value.slice A' (n + 1) c').ownBlock = some w.heap.size) → wpList Tryz.prog ops Q rest (a.put o.dst (.slice A' (n + 1) c')) w') : wpList Tryz.prog ops Q (o :: rest) a w := by
  obtain ⟨i, hi, hz⟩ := Option.map_eq_some_iff.1 nd_info
  simp only [Prod.mk.injEq] at hz
  refine wpList_append_E (E := NdE) w hgd s y 32 89 ho i (.agg #[.bool false, .int .i64 0, .int .i64 0, .int .i64 0, .slice none 0 0]) 56 (by kernel_rfl) hi hz.1 hz.2.1 hz.2.2 rfl ok base v n l hv hown b r x hy (fun j u hu => ?_) hrel (by simp [maxLen]; omega) (by omega) hbase h
  rw [hcell.cell j, List.getElem?_toArray]; exact hu
/-! ### the forest that both compute -/
def ndI (x : Nd) : NdI := ((x.1.1.1, (x.1.1.2 : Int), (x.1.2.1 : Int), (x.1.2.2 : Int)), x.2.map fun p => ((p.1 : Int), intsN p.2))
def foI (D : Ky → Bool) (R : List Ru) (L : List Ky) (root : Ky) : FoI := ((idxK L root : Int), L.map fun k => ndI (ndF D R L k))
/-- what a forest over the parts D is, of at most most packs -/
inductive IsFo (D : Ky → Bool) (R : List Ru) (root : Ky) (most : Nat) : FoI → Bool → Prop
  | none : D root = false → IsFo D R root most (-1, []) true
  | large : D root = true → (∀ L, IsNds D R root L → most < totP D R L) → IsFo D R root most (0, []) false
  | fits {L : List Ky} : D root = true → IsNds D R root L → totP D R L ≤ most → IsFo D R root most (foI D R L root) true
theorem IsFo.uniq {D : Ky → Bool} {R : List Ru} {root : Ky} {most : Nat} {f f' : FoI} {b b' : Bool} (h : IsFo D R root most f b) (h' : IsFo D R root most f' b') : f = f' ∧ b = b' := by
  cases h with
  | none h1 => cases h' with
    | none => exact ⟨rfl, rfl⟩
    | large k1 => rw [h1] at k1; cases k1
    | fits k1 => rw [h1] at k1; cases k1
  | large h1 h2 => cases h' with
    | none k1 => rw [h1] at k1; cases k1
    | large => exact ⟨rfl, rfl⟩
    | fits k1 k2 k3 => have := h2 _ k2; omega
  | fits h1 h2 h3 => cases h' with
    | none k1 => rw [h1] at k1; cases k1
    | large k1 k2 => have := k2 _ h2; omega
    | fits k1 k2 k3 => rw [h2.uniq k2]; exact ⟨rfl, rfl⟩
end Go.Proofs.YtbfcnfgkccgbiaaGreatDoor

