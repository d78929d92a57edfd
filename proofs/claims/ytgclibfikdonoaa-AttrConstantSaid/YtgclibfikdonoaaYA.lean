/- Expressions, equations, attributes: as plain data and in memory. -/
import Derived.Test.YtgclibfikdonoaaKR
namespace Go.Proofs.Ytgclibfikdonoaa
open Go.RowKit

theorem attr_info : (Try.prog.info? 74).map (fun i => (i.zero, i.size, i.bytes)) = some (some (.agg #[.int .i64 0, .bool false]), 2, 16) := by kernel_rfl
theorem ref_info : (Try.prog.info? 25).map (fun i => (i.zero, i.size, i.bytes)) = some (some (.agg #[.int .i64 0, .int .i64 0]), 2, 16) := by kernel_rfl
theorem expr_info : (Try.prog.info? 28).map (fun i => (i.zero, i.size, i.bytes)) = some (some (.agg #[.int .i64 0, .int .i64 0, .int .i64 0, .int .i64 0, .slice none 0 0]), 5, 56) := by kernel_rfl
theorem eq_info : (Try.prog.info? 41).map (fun i => (i.zero, i.size, i.bytes)) = some (some (.agg #[.int .i64 0, .int .i64 0, .int .i64 0, .int .i64 0, .int .i64 0, .int .i64 0, .int .i64 0, .slice none 0 0]), 8, 80) := by kernel_rfl

/-! ### attributes: the nonterminal, inherited or not -/
abbrev At := Nat × Bool
def AtE : Elem At At where
  k := 2
  cells s := [.int .i64 (s.1 : Int), .bool s.2]
  rel _ _ r x := r = x
  pos := by omega
  len _ := rfl
  one r u hu := by simp at hu; rcases hu with rfl | rfl <;> rfl
  agr h _ := h
  mono h _ := h

/-! ### occurrences: the position, the attribute -/
abbrev Rf := Nat × Nat
def RfE : Elem Rf Rf where
  k := 2
  cells s := [.int .i64 (s.1 : Int), .int .i64 (s.2 : Int)]
  rel _ _ r x := r = x
  pos := by omega
  len _ := rfl
  one r u hu := by simp at hu; rcases hu with rfl | rfl <;> rfl
  agr h _ := h
  mono h _ := h

/-! ### expressions -/
inductive Ex where
  | mk (kind n at_ attr : Nat) (args : List Ex)
def Ex.kind : Ex → Nat | .mk k _ _ _ _ => k
def Ex.n : Ex → Nat | .mk _ n _ _ _ => n
def Ex.at_ : Ex → Nat | .mk _ _ a _ _ => a
def Ex.attr : Ex → Nat | .mk _ _ _ b _ => b
def Ex.args : Ex → List Ex | .mk _ _ _ _ xs => xs

abbrev ExV := Nat × Nat × Nat × Nat × SlV
def exCells (r : ExV) : List Value := [.int .i64 (r.1 : Int), .int .i64 (r.2.1 : Int), .int .i64 (r.2.2.1 : Int), .int .i64 (r.2.2.2.1 : Int), .slice r.2.2.2.2.1 r.2.2.2.2.2.1 r.2.2.2.2.2.2]

inductive ExR (ok : Nat → Prop) (w : World) : ExV → Ex → Prop
  | mk (k m a b : Nat) (A : Option Addr) (n c : Nat) (args : List Ex) (raw : List ExV) (hl : args.length = n) (hc : n ≤ c) (hr : raw.length = n) (hcel : Cel ok w A (raw.flatMap exCells))
      (hk : ∀ (i : Nat) (x : ExV) (t : Ex), raw[i]? = some x → args[i]? = some t → ExR ok w x t) : ExR ok w (k, m, a, b, A, n, c) (.mk k m a b args)

theorem ExR.agr {ok : Nat → Prop} {w w' : World} {v : ExV} {t : Ex} (h : ExR ok w v t) (k : Agr ok w w') : ExR ok w' v t := by
  induction h with
  | mk k m a b A n c args raw hl hc hr hcel _ ih => exact .mk k m a b A n c args raw hl hc hr (hcel.agr ‹_›) ih
theorem ExR.mono {ok ok' : Nat → Prop} {w : World} {v : ExV} {t : Ex} (h : ExR ok w v t) (k : ∀ b, b < w.heap.size → ok b → ok' b) : ExR ok' w v t := by
  induction h with
  | mk k m a b A n c args raw hl hc hr hcel _ ih => exact .mk k m a b A n c args raw hl hc hr (hcel.mono ‹_›) ih

def ExE : Elem Ex ExV where
  k := 5
  cells := exCells
  rel := ExR
  pos := by omega
  len _ := rfl
  one r u hu := by simp [exCells] at hu; rcases hu with rfl | rfl | rfl | rfl | rfl <;> rfl
  agr h k := h.agr k
  mono h k := h.mono k

section
variable {ok ok' : Nat → Prop} {w w' : World} {v : ExV} {t : Ex}
theorem ExR.via (h : ExR ok w v t) (hb : Below w.heap.size w w') : ExR ok w' v t := h.agr (Agr.below hb)
theorem ExR.al (h : ExR ok w v t) (o : Obj) : ExR ok (w.alloc o) v t := h.agr (Agr.below ((Below.refl w.heap.size w).alloc (Nat.le_refl _) o))
theorem ExR.dr (h : ExR ok w v t) : ExR ok w.drew v t := h.agr (Agr.below ((Below.refl w.heap.size w).drew))
theorem ExR.parts (h : ExR ok w v t) : v.1 = t.kind ∧ v.2.1 = t.n ∧ v.2.2.1 = t.at_ ∧ v.2.2.2.1 = t.attr ∧ Sl ExE ok w v.2.2.2.2.1 v.2.2.2.2.2.1 v.2.2.2.2.2.2 t.args := by
  cases h with
  | mk k m a b A n c args raw hl hc hr hcel hk => exact ⟨rfl, rfl, rfl, rfl, hl, hc, raw, hr, hcel, hk⟩
theorem ExR.of (k m a b : Nat) {A : Option Addr} {n c : Nat} {args : List Ex} (h : Sl ExE ok w A n c args) : ExR ok w (k, m, a, b, A, n, c) (.mk k m a b args) := by
  obtain ⟨h1, h2, raw, h3, h4, h5⟩ := h
  exact .mk k m a b A n c args raw h1 h2 h3 h4 h5
theorem ExR.far {p : Addr} (h : ExR ok w v t) (u : Value) (hk : ∀ b, ok b → b ≠ p.block) : ExR ok (w.setCell p u) v t := h.agr (Agr.setCell u hk)
end
/-- the value of an expression -/
def exVal (v : ExV) : Value := .agg #[.int .i64 (v.1 : Int), .int .i64 (v.2.1 : Int), .int .i64 (v.2.2.1 : Int), .int .i64 (v.2.2.2.1 : Int), .slice v.2.2.2.2.1 v.2.2.2.2.2.1 v.2.2.2.2.2.2]

/-! ### equations: the rule, the occurrence, the expression -/
abbrev Qe := Nat × Rf × Ex
def QeE : Elem Qe (Nat × Rf × ExV) where
  k := 8
  cells r := .int .i64 (r.1 : Int) :: .int .i64 (r.2.1.1 : Int) :: .int .i64 (r.2.1.2 : Int) :: exCells r.2.2
  rel ok w r x := r.1 = x.1 ∧ r.2.1 = x.2.1 ∧ ExR ok w r.2.2 x.2.2
  pos := by omega
  len _ := rfl
  one r u hu := by simp [exCells] at hu; rcases hu with rfl | rfl | rfl | rfl | rfl | rfl | rfl | rfl <;> rfl
  agr h k := ⟨h.1, h.2.1, h.2.2.agr k⟩
  mono h k := ⟨h.1, h.2.1, h.2.2.mono k⟩

/-! ### size -/
mutual
def Ex.size : Ex → Nat
  | .mk _ _ _ _ ks => Ex.sizes ks + 1
def Ex.sizes : List Ex → Nat
  | [] => 0
  | t :: ts => t.size + Ex.sizes ts
end
theorem Ex.size_pos (t : Ex) : 0 < t.size := by cases t; simp [Ex.size]
theorem Ex.size_mem {t : Ex} {ks : List Ex} (h : t ∈ ks) : t.size ≤ Ex.sizes ks := by
  induction ks with
  | nil => cases h
  | cons a ks ih =>
    rcases List.mem_cons.1 h with rfl | h
    · simp [Ex.sizes]
    · have := ih h; simp only [Ex.sizes]; omega
theorem Ex.size_arg {t x : Ex} (h : x ∈ t.args) : x.size < t.size := by
  cases t with
  | mk k m a b ks => have := Ex.size_mem (ks := ks) h; simp only [Ex.size]; omega

/-- an expression of depth d at the most that is well formed -/
inductive Ex.Ok : Nat → Ex → Prop
  | const (d n : Nat) (h : n < 1000003) : Ex.Ok d (.mk 0 n 0 0 [])
  | value (d a b : Nat) : Ex.Ok d (.mk 1 0 a b [])
  | node (d k : Nat) (args : List Ex) (h2 : 2 ≤ k) (h7 : k < 7) (hn : 1 ≤ args.length) (hm : args.length ≤ 3) (h5 : k = 5 → args.length = 2) (h6 : k = 6 → args.length = 3)
      (hk : ∀ t ∈ args, Ex.Ok d t) : Ex.Ok (d + 1) (.mk k 0 0 0 args)

/-! ### appending -/
theorem step_append_ex {ops : Array Oper} {o : Oper} {a : Act} {K : Act → World → Prop} {Q : Exit → Act → World → Prop} {F : Prop} (w : World) (hgd : o.guard = none) (s y : Operand)
    (ho : o.op = .call { callee := .builtin .append, args := #[s, y], argTypes := #[26, 26] })
    (ok : Nat → Prop) (base : Nat) (v : Value) (n : Nat) (l : List Ex) (hv : a.eval s = v) (hown : Own ExE 28 ok w base v n l)
    (b : Nat) (r : ExV) (x : Ex) (hy : a.eval y = .slice (some ⟨b, 0, none⟩) 1 1) (hcell : Blk w b 28 #[.int .i64 (r.1 : Int), .int .i64 (r.2.1 : Int), .int .i64 (r.2.2.1 : Int), .int .i64 (r.2.2.2.1 : Int), .slice r.2.2.2.2.1 r.2.2.2.2.2.1 r.2.2.2.2.2.2]) (hrel : ExR (fun b => ok b ∧ some b ≠ v.ownBlock) w r x)
    (h63 : n + 1 ≤ 1000000) (hbase : base ≤ w.heap.size)
    (h : ∀ A' c' w', Own ExE 28 ok w' base (.slice A' (n + 1) c') (n + 1) (l ++ [x]) → w.grownBy w' v.ownBlock → ((Value.slice A' (n + 1) c').ownBlock = v.ownBlock ∨ (Value.slice A' (n + 1) c').ownBlock = some w.heap.size) → K (a.put o.dst (.slice A' (n + 1) c')) w') :
    if Region.wanted o (yielded ops a.tmps) = true then Oper.wp Try.prog o a w K Q else F := by
  obtain ⟨i, hi, hz⟩ := Option.map_eq_some_iff.1 expr_info
  simp only [Prod.mk.injEq] at hz
  refine step_append_E (E := ExE) w hgd s y 26 28 ho i (.agg #[.int .i64 0, .int .i64 0, .int .i64 0, .int .i64 0, .slice none 0 0]) 56 (by kernel_rfl) hi hz.1 hz.2.1 hz.2.2 rfl ok base v n l hv hown b r x hy (fun j u hu => ?_) hrel (by simp [maxLen]; omega) (by omega) hbase h
  rw [hcell.cell j]
  rw [List.getElem?_toArray]; exact hu
theorem step_append_qe {ops : Array Oper} {o : Oper} {a : Act} {K : Act → World → Prop} {Q : Exit → Act → World → Prop} {F : Prop} (w : World) (hgd : o.guard = none) (s y : Operand)
    (ho : o.op = .call { callee := .builtin .append, args := #[s, y], argTypes := #[36, 36] })
    (ok : Nat → Prop) (base : Nat) (v : Value) (n : Nat) (l : List Qe) (hv : a.eval s = v) (hown : Own QeE 41 ok w base v n l)
    (b : Nat) (q : Nat) (f : Rf) (r : ExV) (x : Ex) (hy : a.eval y = .slice (some ⟨b, 0, none⟩) 1 1) (hcell : Blk w b 41 #[.int .i64 (q : Int), .int .i64 (f.1 : Int), .int .i64 (f.2 : Int), .int .i64 (r.1 : Int), .int .i64 (r.2.1 : Int), .int .i64 (r.2.2.1 : Int), .int .i64 (r.2.2.2.1 : Int), .slice r.2.2.2.2.1 r.2.2.2.2.2.1 r.2.2.2.2.2.2]) (hrel : ExR (fun b => ok b ∧ some b ≠ v.ownBlock) w r x)
    (h63 : n + 1 ≤ 1000000) (hbase : base ≤ w.heap.size)
    (h : ∀ A' c' w', Own QeE 41 ok w' base (.slice A' (n + 1) c') (n + 1) (l ++ [(q, f, x)]) → w.grownBy w' v.ownBlock → ((Value.slice A' (n + 1) c').ownBlock = v.ownBlock ∨ (Value.slice A' (n + 1) c').ownBlock = some w.heap.size) → K (a.put o.dst (.slice A' (n + 1) c')) w') :
    if Region.wanted o (yielded ops a.tmps) = true then Oper.wp Try.prog o a w K Q else F := by
  obtain ⟨i, hi, hz⟩ := Option.map_eq_some_iff.1 eq_info
  simp only [Prod.mk.injEq] at hz
  refine step_append_E (E := QeE) w hgd s y 36 41 ho i (.agg #[.int .i64 0, .int .i64 0, .int .i64 0, .int .i64 0, .int .i64 0, .int .i64 0, .int .i64 0, .slice none 0 0]) 80 (by kernel_rfl) hi hz.1 hz.2.1 hz.2.2 rfl ok base v n l hv hown b (q, f, r) (q, f, x) hy (fun j u hu => ?_) ⟨rfl, rfl, hrel⟩ (by simp [maxLen]; omega) (by omega) hbase h
  rw [hcell.cell j]
  rw [List.getElem?_toArray]; exact hu
theorem wpList_append_at {ops : Array Oper} {rest : List Oper} {o : Oper} {a : Act} {Q : Exit → Act → World → Prop} (w : World) (hgd : o.guard = none) (s y : Operand)
    (ho : o.op = .call { callee := .builtin .append, args := #[s, y], argTypes := #[35, 35] })
    (ok : Nat → Prop) (base : Nat) (v : Value) (n : Nat) (l : List At) (hv : a.eval s = v) (hown : Own AtE 74 ok w base v n l)
    (b : Nat) (x : At) (hy : a.eval y = .slice (some ⟨b, 0, none⟩) 1 1) (hcell : Blk w b 74 #[.int .i64 (x.1 : Int), .bool x.2])
    (h63 : n + 1 ≤ 1000000) (hbase : base ≤ w.heap.size)
    (h : ∀ A' c' w', Own AtE 74 ok w' base (.slice A' (n + 1) c') (n + 1) (l ++ [x]) → w.grownBy w' v.ownBlock → ((Value.slice A' (n + 1) c').ownBlock = v.ownBlock ∨ (Value.slice A' (n + 1) c').ownBlock = some w.heap.size) → wpList Try.prog ops Q rest (a.put o.dst (.slice A' (n + 1) c')) w') : wpList Try.prog ops Q (o :: rest) a w := by
  obtain ⟨i, hi, hz⟩ := Option.map_eq_some_iff.1 attr_info
  simp only [Prod.mk.injEq] at hz
  refine wpList_append_E (E := AtE) w hgd s y 35 74 ho i (.agg #[.int .i64 0, .bool false]) 16 (by kernel_rfl) hi hz.1 hz.2.1 hz.2.2 rfl ok base v n l hv hown b x x hy (fun j u hu => ?_) rfl (by simp [maxLen]; omega) (by omega) hbase h
  rw [hcell.cell j]
  rw [List.getElem?_toArray]; exact hu
theorem wpList_append_rf {ops : Array Oper} {rest : List Oper} {o : Oper} {a : Act} {Q : Exit → Act → World → Prop} (w : World) (hgd : o.guard = none) (s y : Operand)
    (ho : o.op = .call { callee := .builtin .append, args := #[s, y], argTypes := #[43, 43] })
    (ok : Nat → Prop) (base : Nat) (v : Value) (n : Nat) (l : List Rf) (hv : a.eval s = v) (hown : Own RfE 25 ok w base v n l)
    (b : Nat) (x : Rf) (hy : a.eval y = .slice (some ⟨b, 0, none⟩) 1 1) (hcell : Blk w b 25 #[.int .i64 (x.1 : Int), .int .i64 (x.2 : Int)])
    (h63 : n + 1 ≤ 1000000) (hbase : base ≤ w.heap.size)
    (h : ∀ A' c' w', Own RfE 25 ok w' base (.slice A' (n + 1) c') (n + 1) (l ++ [x]) → w.grownBy w' v.ownBlock → ((Value.slice A' (n + 1) c').ownBlock = v.ownBlock ∨ (Value.slice A' (n + 1) c').ownBlock = some w.heap.size) → wpList Try.prog ops Q rest (a.put o.dst (.slice A' (n + 1) c')) w') : wpList Try.prog ops Q (o :: rest) a w := by
  obtain ⟨i, hi, hz⟩ := Option.map_eq_some_iff.1 ref_info
  simp only [Prod.mk.injEq] at hz
  refine wpList_append_E (E := RfE) w hgd s y 43 25 ho i (.agg #[.int .i64 0, .int .i64 0]) 16 (by kernel_rfl) hi hz.1 hz.2.1 hz.2.2 rfl ok base v n l hv hown b x x hy (fun j u hu => ?_) rfl (by simp [maxLen]; omega) (by omega) hbase h
  rw [hcell.cell j]
  rw [List.getElem?_toArray]; exact hu
end Go.Proofs.Ytgclibfikdonoaa
