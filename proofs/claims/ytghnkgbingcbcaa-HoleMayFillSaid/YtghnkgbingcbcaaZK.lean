/- The empty table of Best. -/
import Derived.Test.YtghnkgbingcbcaaZJ
import Derived.Test.YtghnkgbingcbcaaGE
namespace Go.Proofs.Ytghnkgbingcbcaa
open Go.RowKit

def SlE : Elem SlV SlV where
  k := 1
  cells s := [.slice s.1 s.2.1 s.2.2]
  rel _ _ r x := r = x
  pos := by omega
  len _ := rfl
  one r u hu := by simp at hu; subst hu; rfl
  agr h _ := h
  mono h _ := h
theorem rows_info : (Try.prog.info? 72).map (fun i => (i.zero, i.size, i.bytes)) = some (some (.slice none 0 0), 1, 24) := by kernel_rfl
theorem row_info : (Try.prog.info? 73).map (fun i => (i.zero, i.size, i.bytes)) = some (some (.slice none 0 0), 1, 24) := by kernel_rfl
theorem mk_wrows (n : Nat) (hn : n ≤ 1000000) : ∀ w : World, (Instr.makeSlice 72 (.int .i64 ((n : Int) + 1)) (.int .i64 ((n : Int) + 1))).run Try.prog w = .ok (.slice (some ⟨w.heap.size, 0, none⟩) (n + 1) (n + 1)) (w.alloc (.cells (mkCells (.slice none 0 0) (n + 1)) 73)) := by
  intro w
  obtain ⟨i, hi, hz, hs, hb⟩ := info_parts row_info
  have := run_make (P := Try.prog) w 72 73 i _ Try.underlying72 hi hz .i64 .i64 ((n : Int) + 1) ((n : Int) + 1) (by omega) (by omega) (by rw [hb]; omega) (by omega)
  rw [show ((n : Int) + 1).toNat = n + 1 from by omega, hs, Nat.mul_one] at this
  exact this
theorem wpList_append_rows {ops : Array Oper} {rest : List Oper} {o : Oper} {a : Act} {Q : Exit → Act → World → Prop} (w : World) (hgd : o.guard = none) (s y : Operand)
    (ho : o.op = .call { callee := .builtin .append, args := #[s, y], argTypes := #[69, 69] }) (base : Nat) (v : Value) (n : Nat) (l : List SlV) (hv : a.eval s = v) (hown : Own SlE 72 (fun _ => False) w base v n l)
    (b : Nat) (x : SlV) (hy : a.eval y = .slice (some ⟨b, 0, none⟩) 1 1) (hcell : w.cell? ⟨b, 0, none⟩ = some (.slice x.1 x.2.1 x.2.2))
    (h63 : n + 1 ≤ 1000000) (hbase : base ≤ w.heap.size)
    (h : ∀ A' c' w', Own SlE 72 (fun _ => False) w' base (.slice A' (n + 1) c') (n + 1) (l ++ [x]) → w.grownBy w' v.ownBlock → ((Value.slice A' (n + 1) c').ownBlock = v.ownBlock ∨ (Value.slice A' (n + 1) c').ownBlock = some w.heap.size) → wpList Try.prog ops Q rest (a.put o.dst (.slice A' (n + 1) c')) w') : wpList Try.prog ops Q (o :: rest) a w := by
  obtain ⟨i, hi, hz, hs, hb⟩ := info_parts rows_info
  exact wpList_append_E w hgd s y _ _ ho i _ 24 Try.underlying69 hi hz hs hb rfl (fun _ => False) base v n l hv hown b x x hy (fun j u hu => by
    cases j with
    | zero => simp [SlE] at hu; subst hu; exact hcell
    | succ j => simp [SlE] at hu) rfl (by unfold maxLen; omega) (by omega) hbase h

/-- the first k nonterminals have their rows; all that lies below hi -/
structure IR (w : World) (bc bg n hi k : Nat) (rb : Nat → Nat) (cb : Nat → Nat → Nat) (cs : Value → Array Value) (gcs : Array Value) (v : Value) (wr : World) : Prop where
  hc : Blk wr bc 71 (cs v)
  hg : Blk wr bg 28 gcs
  own : Own SlE 72 (fun _ => False) wr (bc + 1) v k ((List.range k).map fun a => (some ⟨rb a, 0, none⟩, n + 1, n + 1))
  mid : ∀ a i, a < k → i ≤ n → wr.cell? ⟨rb a, i, none⟩ = some (.slice (some ⟨cb a i, 0, none⟩) (n + 1) (n + 1))
  row : ∀ a i, a < k → i ≤ n → WRow (fun _ => False) wr (cb a i) n (fun _ => Way.no)
  inj : ∀ a i a' i', a < k → i ≤ n → a' < k → i' ≤ n → cb a i = cb a' i' → a = a' ∧ i = i'
  ne : ∀ a a' i, a < k → a' < k → i ≤ n → rb a ≠ cb a' i
  lb : ∀ a, a < k → bc < rb a ∧ rb a < hi
  lc : ∀ a i, a < k → i ≤ n → bc < cb a i ∧ cb a i < hi
  vb : ∀ b, v.ownBlock = some b → b < hi ∧ ∀ a, a < k → b ≠ rb a ∧ ∀ i, i ≤ n → b ≠ cb a i
  bel : Below w.heap.size w wr
  l0 : w.heap.size ≤ bg
  l1 : bg < bc
  l2 : bc < hi
  l3 : hi ≤ wr.heap.size
section
variable {w wr wa : World} {bc bg n hi k : Nat} {rb : Nat → Nat} {cb : Nat → Nat → Nat} {cs : Value → Array Value} {gcs : Array Value} {v : Value}
theorem IR.below (h : IR w bc bg n hi k rb cb cs gcs v wr) (hb : Below hi wr wa) : IR w bc bg n hi k rb cb cs gcs v wa := by
  have l0 := h.l0; have l1 := h.l1; have l2 := h.l2; have l3 := h.l3
  refine ⟨h.hc.below hb h.l2, h.hg.below hb (by omega), h.own.agr ?_, fun a i ha hi => (hb.cell (p := ⟨rb a, i, none⟩) (h.lb a ha).2).trans (h.mid a i ha hi), fun a i ha hi => (h.row a i ha hi).agr (hb.block _ (h.lc a i ha hi).2) (fun b h => h.elim), h.inj, h.ne, h.lb, h.lc, h.vb, h.bel.trans (hb.mono (by omega)), l0, l1, l2, Nat.le_trans l3 hb.size⟩
  intro b hb' _
  rcases hb' with hb' | hb'
  · exact hb'.elim
  · exact hb.block b (h.vb b hb'.symm).1
theorem IR.up {hi' : Nat} (h : IR w bc bg n hi k rb cb cs gcs v wr) (h1 : hi ≤ hi') (h2 : hi' ≤ wr.heap.size) : IR w bc bg n hi' k rb cb cs gcs v wr :=
  ⟨h.hc, h.hg, h.own, h.mid, h.row, h.inj, h.ne, fun a ha => ⟨(h.lb a ha).1, by have := (h.lb a ha).2; omega⟩, fun a i ha hi => ⟨(h.lc a i ha hi).1, by have := (h.lc a i ha hi).2; omega⟩, fun b hb => ⟨by have := (h.vb b hb).1; omega, (h.vb b hb).2⟩, h.bel, h.l0, h.l1, by have := h.l2; omega, h2⟩
end
/-- the rows of nonterminal k: block R, of which the first i places are made -/
structure JR (w : World) (bc bg n hi k : Nat) (rb : Nat → Nat) (cb : Nat → Nat → Nat) (cs : Value → Array Value) (gcs : Array Value) (v : Value) (R i : Nat) (ck : Nat → Nat) (wr : World) : Prop where
  ir : IR w bc bg n hi k rb cb cs gcs v wr
  top : ∃ C : Array Value, Blk wr R 73 C ∧ C.size = n + 1 ∧ ∀ a, a < i → C[a]? = some (.slice (some ⟨ck a, 0, none⟩) (n + 1) (n + 1))
  row : ∀ a, a < i → WRow (fun _ => False) wr (ck a) n (fun _ => Way.no)
  inj : ∀ a a', a < i → a' < i → ck a = ck a' → a = a'
  lo : hi ≤ R
  lc : ∀ a, a < i → R < ck a ∧ ck a < wr.heap.size
section
variable {w wr wa : World} {bc bg n hi k R i : Nat} {rb : Nat → Nat} {cb : Nat → Nat → Nat} {cs : Value → Array Value} {gcs : Array Value} {v : Value} {ck : Nat → Nat}
theorem JR.start (h : IR w bc bg n hi k rb cb cs gcs v wr) (ck : Nat → Nat) : JR w bc bg n hi k rb cb cs gcs v wr.heap.size 0 ck (wr.alloc (.cells (mkCells (.slice none 0 0) (n + 1)) 73)) :=
  ⟨h.below ((Below.refl hi wr).alloc h.l3 _), ⟨_, Blk.new wr _ _, mkCells_size _ _, fun a h => by omega⟩, fun a h => by omega, fun a a' h => by omega, h.l3, fun a h => by omega⟩
/-- one place more -/
theorem JR.next (h : JR w bc bg n hi k rb cb cs gcs v R i ck wr) (hi' : i ≤ n) :
    JR w bc bg n hi k rb cb cs gcs v R (i + 1) (fun a => if a = i then wr.heap.size else ck a) ((wr.alloc (.cells (wayCells n) 78)).setCell ⟨R, i, none⟩ (.slice (some ⟨wr.heap.size, 0, none⟩) (n + 1) (n + 1))) := by
  obtain ⟨hir, ⟨C, c1, c2, c3⟩, hrow, hinj, hlo, hlc⟩ := h
  have hR := c1.lt
  have e1 : Below hi wr ((wr.alloc (.cells (wayCells n) 78)).setCell ⟨R, i, none⟩ (.slice (some ⟨wr.heap.size, 0, none⟩) (n + 1) (n + 1))) := ((Below.refl hi wr).alloc hir.l3 _).setCell hlo _
  refine ⟨hir.below e1, ⟨_, (c1.al (.cells (wayCells n) 78)).set_ i (.slice (some ⟨wr.heap.size, 0, none⟩) (n + 1) (n + 1)), by simp [c2], fun a ha => ?_⟩, fun a ha => ?_, fun a a' ha ha' e => ?_, hlo, fun a ha => ?_⟩
  · rw [Array.getElem?_setIfInBounds]
    by_cases e : a = i
    · subst e; rw [if_pos rfl, if_pos (by omega), if_pos rfl]
    · rw [if_neg (Ne.symm e), if_neg e]; exact c3 a (by omega)
  · by_cases e : a = i
    · subst e; rw [if_pos rfl]
      exact (WRow.made _ wr n).agr (Below.heap_setCell _ _ _ _ (by show wr.heap.size ≠ R; omega)) (fun b h => h.elim)
    · rw [if_neg e]
      have hl := hlc a (by omega)
      exact ((hrow a (by omega)).al (.cells (wayCells n) 78)).agr (Below.heap_setCell _ _ _ _ (by show ck a ≠ R; omega)) (fun b h => h.elim)
  · by_cases e1 : a = i <;> by_cases e2 : a' = i
    · omega
    · rw [if_pos e1, if_neg e2] at e; have := (hlc a' (by omega)).2; omega
    · rw [if_neg e1, if_pos e2] at e; have := (hlc a (by omega)).2; omega
    · rw [if_neg e1, if_neg e2] at e; exact hinj a a' (by omega) (by omega) e
  · rw [World.size_setCell, World.size_alloc]
    by_cases e : a = i
    · subst e; rw [if_pos rfl]; omega
    · rw [if_neg e]; have := hlc a (by omega); omega
/-- the rows are hung into the table -/
theorem JR.hang (h : JR w bc bg n hi k rb cb cs gcs v R (n + 1) ck wr) {w1 : World} {A' : Option Addr} {c' : Nat} (o : Obj)
    (hown : Own SlE 72 (fun _ => False) w1 (bc + 1) (.slice A' (k + 1) c') (k + 1) ((List.range k).map (fun a => (some ⟨rb a, 0, none⟩, n + 1, n + 1)) ++ [(some ⟨R, 0, none⟩, n + 1, n + 1)]))
    (hg : (wr.alloc o).grownBy w1 v.ownBlock) (ha : (Value.slice A' (k + 1) c').ownBlock = v.ownBlock ∨ (Value.slice A' (k + 1) c').ownBlock = some (wr.alloc o).heap.size) (hcs : ∀ u, (cs v).setIfInBounds 8 u = cs u) :
    IR w bc bg n w1.heap.size (k + 1) (fun a => if a = k then R else rb a) (fun a i => if a = k then ck i else cb a i) cs gcs (.slice A' (k + 1) c') (w1.setCell ⟨bc, 8, none⟩ (.slice A' (k + 1) c')) := by
  obtain ⟨hir, ⟨C, c1, c2, c3⟩, hrow, hinj, hlo, hlc⟩ := h
  have hR := c1.lt
  have l1 := hir.l1; have l2 := hir.l2; have l3 := hir.l3; have l0 := hir.l0
  have hsz : (wr.alloc o).heap.size = wr.heap.size + 1 := World.size_alloc _ _
  have hs1 := hg.size
  have hvR : v.ownBlock ≠ some R := fun e => by have := (hir.vb R e).1; omega
  have hvb : ∀ b, v.ownBlock = some b → b ≠ bc ∧ b ≠ bg := fun b e => by have := (hir.own.lt b e).1; omega
  -- a block that is not v's own is as it was
  have same : ∀ b, b < wr.heap.size → v.ownBlock ≠ some b → b ≠ bc → (w1.setCell ⟨bc, 8, none⟩ (.slice A' (k + 1) c')).heap[b]? = wr.heap[b]? := fun b hb hv hne => by
    rw [Below.heap_setCell _ _ _ _ (by show b ≠ bc; exact hne), hg.block b (by omega) (fun e => hv e.symm)]
    exact Below.heap_alloc wr o b hb
  refine ⟨?_, ?_, ?_, ?_, ?_, ?_, ?_, ?_, ?_, ?_, ?_, l0, l1, by omega, by simp⟩
  · have e := ((hir.hc.al o).grown hg (fun e => (hvb bc e.symm).1 rfl)).set_ 8 (.slice A' (k + 1) c')
    rwa [hcs] at e
  · exact ((hir.hg.al o).grown hg (fun e => (hvb bg e.symm).2 rfl)).far (by show bg ≠ bc; omega) _
  · have e := hown.setCell (p := ⟨bc, 8, none⟩) (.slice A' (k + 1) c') (fun b h => h.elim) (by show bc < bc + 1; omega)
    rw [List.range_succ, List.map_append, List.map_singleton, if_pos rfl]
    have e2 : (List.range k).map (fun a => ((some ⟨if a = k then R else rb a, 0, none⟩, n + 1, n + 1) : SlV)) = (List.range k).map (fun a => (some ⟨rb a, 0, none⟩, n + 1, n + 1)) :=
      List.map_congr_left fun a ha => by rw [if_neg (by have := List.mem_range.1 ha; omega)]
    rw [e2]; exact e
  · intro a i ha hi2
    by_cases e : a = k
    · subst e
      rw [if_pos rfl, if_pos rfl]
      have hb := same R hR hvR (by omega)
      rw [World.cell?_of_block (w := wr) (a := ⟨R, i, none⟩) hb, c1.cell]
      exact c3 i (by omega)
    · rw [if_neg e, if_neg e]
      have hl := hir.lb a (by omega)
      have hb := same (rb a) (by omega) (fun e2 => ((hir.vb _ e2).2 a (by omega)).1 rfl) (by omega)
      rw [World.cell?_of_block (w := wr) (a := ⟨rb a, i, none⟩) hb]
      exact hir.mid a i (by omega) hi2
  · intro a i ha hi2
    by_cases e : a = k
    · subst e
      rw [if_pos rfl]
      have hl := hlc i (by omega)
      exact (hrow i (by omega)).agr (same (ck i) hl.2 (fun e2 => by have := (hir.vb _ e2).1; omega) (by omega)) (fun b h => h.elim)
    · rw [if_neg e]
      have hl := hir.lc a i (by omega) hi2
      exact (hir.row a i (by omega) hi2).agr (same (cb a i) (by omega) (fun e2 => ((hir.vb _ e2).2 a (by omega)).2 i hi2 rfl) (by omega)) (fun b h => h.elim)
  · intro a i a' i' ha hi2 ha' hi2' e
    by_cases e1 : a = k <;> by_cases e2 : a' = k
    · rw [if_pos e1, if_pos e2] at e; exact ⟨by omega, hinj i i' (by omega) (by omega) e⟩
    · rw [if_pos e1, if_neg e2] at e; have := (hlc i (by omega)).1; have := (hir.lc a' i' (by omega) hi2').2; omega
    · rw [if_neg e1, if_pos e2] at e; have := (hlc i' (by omega)).1; have := (hir.lc a i (by omega) hi2).2; omega
    · rw [if_neg e1, if_neg e2] at e; exact hir.inj a i a' i' (by omega) hi2 (by omega) hi2' e
  · intro a a' i ha ha' hi2
    by_cases e1 : a = k <;> by_cases e2 : a' = k
    · rw [if_pos e1, if_pos e2]; have := (hlc i (by omega)).1; omega
    · rw [if_pos e1, if_neg e2]; have := (hir.lc a' i (by omega) hi2).2; omega
    · rw [if_neg e1, if_pos e2]; have := (hlc i (by omega)).1; have := (hir.lb a (by omega)).2; omega
    · rw [if_neg e1, if_neg e2]; exact hir.ne a a' i (by omega) (by omega) hi2
  · intro a ha
    by_cases e : a = k
    · rw [if_pos e]; omega
    · rw [if_neg e]; have := hir.lb a (by omega); omega
  · intro a i ha hi2
    by_cases e : a = k
    · rw [if_pos e]; have := hlc i (by omega); omega
    · rw [if_neg e]; have := hir.lc a i (by omega) hi2; omega
  · intro b hb
    have hb1 := (hown.lt b hb).2
    have key : v.ownBlock = some b ∨ b = wr.heap.size + 1 := by
      rcases ha with e | e
      · left; rw [← e]; exact hb
      · right; rw [hb, hsz] at e; exact Option.some.inj e
    refine ⟨hb1, fun a hak => ⟨?_, fun i hi2 => ?_⟩⟩
    · by_cases e : a = k
      · rw [if_pos e]
        rcases key with e2 | e2
        · have := (hir.vb b e2).1; omega
        · omega
      · rw [if_neg e]
        rcases key with e2 | e2
        · exact ((hir.vb b e2).2 a (by omega)).1
        · have := (hir.lb a (by omega)).2; omega
    · by_cases e : a = k
      · rw [if_pos e]
        have := hlc i (by omega)
        rcases key with e2 | e2
        · have := (hir.vb b e2).1; omega
        · omega
      · rw [if_neg e]
        rcases key with e2 | e2
        · exact ((hir.vb b e2).2 a (by omega)).2 i hi2
        · have := (hir.lc a i (by omega) hi2).2; omega
  · exact ((hir.bel.al o).grown hg (by have := hir.bel.size; omega) fun j hj => by have := (hir.own.lt j hj).1; omega).setCell (by show w.heap.size ≤ bc; omega) _
end
end Go.Proofs.Ytghnkgbingcbcaa
