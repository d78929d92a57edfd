/- Texts ZK, ZL, ZM, ZN, laid together. -/
import Derived.Test.YtghnkgbingcbcaaZ2
import Derived.Test.YtghnkgbingcbcaaG1
import Derived.Test.YtghnkgbingcbcaaC4



namespace Go.Proofs.Ytghnkgbingcbcaa
open Go.RowKit

def SlE : Elem SlV SlV where
  k := 1
  cells s := [.slice s.1 s.2.1 s.2.2]
  rel _ _ r x := r = x
  pos := by omega
  len _ := rfl
  one r u hu := by simp at hu; subst hu; rfl
  agr h _ := h
  mono h _ := h
theorem rows_info : (Try.prog.info? 72).map (fun i => (i.zero, i.size, i.bytes)) = some (some (.slice none 0 0), 1, 24) := by kernel_rfl
theorem row_info : (Try.prog.info? 73).map (fun i => (i.zero, i.size, i.bytes)) = some (some (.slice none 0 0), 1, 24) := by kernel_rfl
theorem mk_wrows (n : Nat) (hn : n ≤ 1000000) : ∀ w : World, (Instr.makeSlice 72 (.int .i64 ((n : Int) + 1)) (.int .i64 ((n : Int) + 1))).run Try.prog w = .ok (.slice (some ⟨w.heap.size, 0, none⟩) (n + 1) (n + 1)) (w.alloc (.cells (mkCells (.slice none 0 0) (n + 1)) 73)) := by
  intro w
  obtain ⟨i, hi, hz, hs, hb⟩ := info_parts row_info
  have := run_make (P := Try.prog) w 72 73 i _ Try.underlying72 hi hz .i64 .i64 ((n : Int) + 1) ((n : Int) + 1) (by omega) (by omega) (by rw [hb]; omega) (by omega)
  rw [show ((n : Int) + 1).toNat = n + 1 from by omega, hs, Nat.mul_one] at this
  exact this
theorem wpList_append_rows {ops : Array Oper} {rest : List Oper} {o : Oper} {a : Act} {Q : Exit → Act → World → Prop} (w : World) (hgd : o.guard = none) (s y : Operand)
    (ho : o.op = .call { callee := .builtin .append, args := #[s, y], argTypes := #[69, 69] }) (base : Nat) (v : Value) (n : Nat) (l : List SlV) (hv : a.eval s = v) (hown : Own SlE 72 (fun _ => False) w base v n l)
    (b : Nat) (x : SlV) (hy : a.eval y = .slice (some ⟨b, 0, none⟩) 1 1) (hcell : w.cell? ⟨b, 0, none⟩ = some (.slice x.1 x.2.1 x.2.2))
    (h63 : n + 1 ≤ 1000000) (hbase : base ≤ w.heap.size)
    (h : ∀ A' c' w', Own SlE 72 (fun _ => False) w' base (.slice A' (n + 1) c') (n + 1) (l ++ [x]) → w.grownBy w' v.ownBlock → ((Value.slice A' (n + 1) c').ownBlock = v.ownBlock ∨ (Value.slice A' (n + 1) c').ownBlock = some w.heap.size) → wpList Try.prog ops Q rest (a.put o.dst (.slice A' (n + 1) c')) w') : wpList Try.prog ops Q (o :: rest) a w := by
  obtain ⟨i, hi, hz, hs, hb⟩ := info_parts rows_info
  exact wpList_append_E w hgd s y _ _ ho i _ 24 Try.underlying69 hi hz hs hb rfl (fun _ => False) base v n l hv hown b x x hy (fun j u hu => by
    cases j with
    | zero => simp [SlE] at hu; subst hu; exact hcell
    | succ j => simp [SlE] at hu) rfl (by unfold maxLen; omega) (by omega) hbase h

/-- the first k nonterminals have their rows; all that lies below hi -/
structure IR (w : World) (bc bg n hi k : Nat) (rb : Nat → Nat) (cb : Nat → Nat → Nat) (cs : Value → Array Value) (gcs : Array Value) (v : Value) (wr : World) : Prop where
  hc : Blk wr bc 71 (cs v)
  hg : Blk wr bg 28 gcs
  own : Own SlE 72 (fun _ => False) wr (bc + 1) v k ((List.range k).map fun a => (some ⟨rb a, 0, none⟩, n + 1, n + 1))
  mid : ∀ a i, a < k → i ≤ n → wr.cell? ⟨rb a, i, none⟩ = some (.slice (some ⟨cb a i, 0, none⟩) (n + 1) (n + 1))
  row : ∀ a i, a < k → i ≤ n → WRow (fun _ => False) wr (cb a i) n (fun _ => Way.no)
  inj : ∀ a i a' i', a < k → i ≤ n → a' < k → i' ≤ n → cb a i = cb a' i' → a = a' ∧ i = i'
  ne : ∀ a a' i, a < k → a' < k → i ≤ n → rb a ≠ cb a' i
  lb : ∀ a, a < k → bc < rb a ∧ rb a < hi
  lc : ∀ a i, a < k → i ≤ n → bc < cb a i ∧ cb a i < hi
  vb : ∀ b, v.ownBlock = some b → b < hi ∧ ∀ a, a < k → b ≠ rb a ∧ ∀ i, i ≤ n → b ≠ cb a i
  bel : Below w.heap.size w wr
  l0 : w.heap.size ≤ bg
  l1 : bg < bc
  l2 : bc < hi
  l3 : hi ≤ wr.heap.size
section
variable {w wr wa : World} {bc bg n hi k : Nat} {rb : Nat → Nat} {cb : Nat → Nat → Nat} {cs : Value → Array Value} {gcs : Array Value} {v : Value}
theorem IR.below (h : IR w bc bg n hi k rb cb cs gcs v wr) (hb : Below hi wr wa) : IR w bc bg n hi k rb cb cs gcs v wa := by
  have l0 := h.l0; have l1 := h.l1; have l2 := h.l2; have l3 := h.l3
  refine ⟨h.hc.below hb h.l2, h.hg.below hb (by omega), h.own.agr ?_, fun a i ha hi => (hb.cell (p := ⟨rb a, i, none⟩) (h.lb a ha).2).trans (h.mid a i ha hi), fun a i ha hi => (h.row a i ha hi).agr (hb.block _ (h.lc a i ha hi).2) (fun b h => h.elim), h.inj, h.ne, h.lb, h.lc, h.vb, h.bel.trans (hb.mono (by omega)), l0, l1, l2, Nat.le_trans l3 hb.size⟩
  intro b hb' _
  rcases hb' with hb' | hb'
  · exact hb'.elim
  · exact hb.block b (h.vb b hb'.symm).1
theorem IR.up {hi' : Nat} (h : IR w bc bg n hi k rb cb cs gcs v wr) (h1 : hi ≤ hi') (h2 : hi' ≤ wr.heap.size) : IR w bc bg n hi' k rb cb cs gcs v wr :=
  ⟨h.hc, h.hg, h.own, h.mid, h.row, h.inj, h.ne, fun a ha => ⟨(h.lb a ha).1, by have := (h.lb a ha).2; omega⟩, fun a i ha hi => ⟨(h.lc a i ha hi).1, by have := (h.lc a i ha hi).2; omega⟩, fun b hb => ⟨by have := (h.vb b hb).1; omega, (h.vb b hb).2⟩, h.bel, h.l0, h.l1, by have := h.l2; omega, h2⟩
end
/-- the rows of nonterminal k: block R, of which the first i places are made -/
structure JR (w : World) (bc bg n hi k : Nat) (rb : Nat → Nat) (cb : Nat → Nat → Nat) (cs : Value → Array Value) (gcs : Array Value) (v : Value) (R i : Nat) (ck : Nat → Nat) (wr : World) : Prop where
  ir : IR w bc bg n hi k rb cb cs gcs v wr
  top : ∃ C : Array Value, Blk wr R 73 C ∧ C.size = n + 1 ∧ ∀ a, a < i → C[a]? = some (.slice (some ⟨ck a, 0, none⟩) (n + 1) (n + 1))
  row : ∀ a, a < i → WRow (fun _ => False) wr (ck a) n (fun _ => Way.no)
  inj : ∀ a a', a < i → a' < i → ck a = ck a' → a = a'
  lo : hi ≤ R
  lc : ∀ a, a < i → R < ck a ∧ ck a < wr.heap.size
section
variable {w wr wa : World} {bc bg n hi k R i : Nat} {rb : Nat → Nat} {cb : Nat → Nat → Nat} {cs : Value → Array Value} {gcs : Array Value} {v : Value} {ck : Nat → Nat}
theorem JR.start (h : IR w bc bg n hi k rb cb cs gcs v wr) (ck : Nat → Nat) : JR w bc bg n hi k rb cb cs gcs v wr.heap.size 0 ck (wr.alloc (.cells (mkCells (.slice none 0 0) (n + 1)) 73)) :=
  ⟨h.below ((Below.refl hi wr).alloc h.l3 _), ⟨_, Blk.new wr _ _, mkCells_size _ _, fun a h => by omega⟩, fun a h => by omega, fun a a' h => by omega, h.l3, fun a h => by omega⟩
/-- one place more -/
theorem JR.next (h : JR w bc bg n hi k rb cb cs gcs v R i ck wr) (hi' : i ≤ n) :
    JR w bc bg n hi k rb cb cs gcs v R (i + 1) (fun a => if a = i then wr.heap.size else ck a) ((wr.alloc (.cells (wayCells n) 78)).setCell ⟨R, i, none⟩ (.slice (some ⟨wr.heap.size, 0, none⟩) (n + 1) (n + 1))) := by
  obtain ⟨hir, ⟨C, c1, c2, c3⟩, hrow, hinj, hlo, hlc⟩ := h
  have hR := c1.lt
  have e1 : Below hi wr ((wr.alloc (.cells (wayCells n) 78)).setCell ⟨R, i, none⟩ (.slice (some ⟨wr.heap.size, 0, none⟩) (n + 1) (n + 1))) := ((Below.refl hi wr).alloc hir.l3 _).setCell hlo _
  refine ⟨hir.below e1, ⟨_, (c1.al (.cells (wayCells n) 78)).set_ i (.slice (some ⟨wr.heap.size, 0, none⟩) (n + 1) (n + 1)), by simp [c2], fun a ha => ?_⟩, fun a ha => ?_, fun a a' ha ha' e => ?_, hlo, fun a ha => ?_⟩
  · rw [Array.getElem?_setIfInBounds]
    by_cases e : a = i
    · subst e; rw [if_pos rfl, if_pos (by omega), if_pos rfl]
    · rw [if_neg (Ne.symm e), if_neg e]; exact c3 a (by omega)
  · by_cases e : a = i
    · subst e; rw [if_pos rfl]
      exact (WRow.made _ wr n).agr (Below.heap_setCell _ _ _ _ (by show wr.heap.size ≠ R; omega)) (fun b h => h.elim)
    · rw [if_neg e]
      have hl := hlc a (by omega)
      exact ((hrow a (by omega)).al (.cells (wayCells n) 78)).agr (Below.heap_setCell _ _ _ _ (by show ck a ≠ R; omega)) (fun b h => h.elim)
  · by_cases e1 : a = i <;> by_cases e2 : a' = i
    · omega
    · rw [if_pos e1, if_neg e2] at e; have := (hlc a' (by omega)).2; omega
    · rw [if_neg e1, if_pos e2] at e; have := (hlc a (by omega)).2; omega
    · rw [if_neg e1, if_neg e2] at e; exact hinj a a' (by omega) (by omega) e
  · rw [World.size_setCell, World.size_alloc]
    by_cases e : a = i
    · subst e; rw [if_pos rfl]; omega
    · rw [if_neg e]; have := hlc a (by omega); omega
/-- the rows are hung into the table -/
theorem JR.hang (h : JR w bc bg n hi k rb cb cs gcs v R (n + 1) ck wr) {w1 : World} {A' : Option Addr} {c' : Nat} (o : Obj)
    (hown : Own SlE 72 (fun _ => False) w1 (bc + 1) (.slice A' (k + 1) c') (k + 1) ((List.range k).map (fun a => (some ⟨rb a, 0, none⟩, n + 1, n + 1)) ++ [(some ⟨R, 0, none⟩, n + 1, n + 1)]))
    (hg : (wr.alloc o).grownBy w1 v.ownBlock) (ha : (Value.slice A' (k + 1) c').ownBlock = v.ownBlock ∨ (Value.slice A' (k + 1) c').ownBlock = some (wr.alloc o).heap.size) (hcs : ∀ u, (cs v).setIfInBounds 8 u = cs u) :
    IR w bc bg n w1.heap.size (k + 1) (fun a => if a = k then R else rb a) (fun a i => if a = k then ck i else cb a i) cs gcs (.slice A' (k + 1) c') (w1.setCell ⟨bc, 8, none⟩ (.slice A' (k + 1) c')) := by
  obtain ⟨hir, ⟨C, c1, c2, c3⟩, hrow, hinj, hlo, hlc⟩ := h
  have hR := c1.lt
  have l1 := hir.l1; have l2 := hir.l2; have l3 := hir.l3; have l0 := hir.l0
  have hsz : (wr.alloc o).heap.size = wr.heap.size + 1 := World.size_alloc _ _
  have hs1 := hg.size
  have hvR : v.ownBlock ≠ some R := fun e => by have := (hir.vb R e).1; omega
  have hvb : ∀ b, v.ownBlock = some b → b ≠ bc ∧ b ≠ bg := fun b e => by have := (hir.own.lt b e).1; omega
  -- a block that is not v's own is as it was
  have same : ∀ b, b < wr.heap.size → v.ownBlock ≠ some b → b ≠ bc → (w1.setCell ⟨bc, 8, none⟩ (.slice A' (k + 1) c')).heap[b]? = wr.heap[b]? := fun b hb hv hne => by
    rw [Below.heap_setCell _ _ _ _ (by show b ≠ bc; exact hne), hg.block b (by omega) (fun e => hv e.symm)]
    exact Below.heap_alloc wr o b hb
  refine ⟨?_, ?_, ?_, ?_, ?_, ?_, ?_, ?_, ?_, ?_, ?_, l0, l1, by omega, by simp⟩
  · have e := ((hir.hc.al o).grown hg (fun e => (hvb bc e.symm).1 rfl)).set_ 8 (.slice A' (k + 1) c')
    rwa [hcs] at e
  · exact ((hir.hg.al o).grown hg (fun e => (hvb bg e.symm).2 rfl)).far (by show bg ≠ bc; omega) _
  · have e := hown.setCell (p := ⟨bc, 8, none⟩) (.slice A' (k + 1) c') (fun b h => h.elim) (by show bc < bc + 1; omega)
    rw [List.range_succ, List.map_append, List.map_singleton, if_pos rfl]
    have e2 : (List.range k).map (fun a => ((some ⟨if a = k then R else rb a, 0, none⟩, n + 1, n + 1) : SlV)) = (List.range k).map (fun a => (some ⟨rb a, 0, none⟩, n + 1, n + 1)) :=
      List.map_congr_left fun a ha => by rw [if_neg (by have := List.mem_range.1 ha; omega)]
    rw [e2]; exact e
  · intro a i ha hi2
    by_cases e : a = k
    · subst e
      rw [if_pos rfl, if_pos rfl]
      have hb := same R hR hvR (by omega)
      rw [World.cell?_of_block (w := wr) (a := ⟨R, i, none⟩) hb, c1.cell]
      exact c3 i (by omega)
    · rw [if_neg e, if_neg e]
      have hl := hir.lb a (by omega)
      have hb := same (rb a) (by omega) (fun e2 => ((hir.vb _ e2).2 a (by omega)).1 rfl) (by omega)
      rw [World.cell?_of_block (w := wr) (a := ⟨rb a, i, none⟩) hb]
      exact hir.mid a i (by omega) hi2
  · intro a i ha hi2
    by_cases e : a = k
    · subst e
      rw [if_pos rfl]
      have hl := hlc i (by omega)
      exact (hrow i (by omega)).agr (same (ck i) hl.2 (fun e2 => by have := (hir.vb _ e2).1; omega) (by omega)) (fun b h => h.elim)
    · rw [if_neg e]
      have hl := hir.lc a i (by omega) hi2
      exact (hir.row a i (by omega) hi2).agr (same (cb a i) (by omega) (fun e2 => ((hir.vb _ e2).2 a (by omega)).2 i hi2 rfl) (by omega)) (fun b h => h.elim)
  · intro a i a' i' ha hi2 ha' hi2' e
    by_cases e1 : a = k <;> by_cases e2 : a' = k
    · rw [if_pos e1, if_pos e2] at e; exact ⟨by omega, hinj i i' (by omega) (by omega) e⟩
    · rw [if_pos e1, if_neg e2] at e; have := (hlc i (by omega)).1; have := (hir.lc a' i' (by omega) hi2').2; omega
    · rw [if_neg e1, if_pos e2] at e; have := (hlc i' (by omega)).1; have := (hir.lc a i (by omega) hi2).2; omega
    · rw [if_neg e1, if_neg e2] at e; exact hir.inj a i a' i' (by omega) hi2 (by omega) hi2' e
  · intro a a' i ha ha' hi2
    by_cases e1 : a = k <;> by_cases e2 : a' = k
    · rw [if_pos e1, if_pos e2]; have := (hlc i (by omega)).1; omega
    · rw [if_pos e1, if_neg e2]; have := (hir.lc a' i (by omega) hi2).2; omega
    · rw [if_neg e1, if_pos e2]; have := (hlc i (by omega)).1; have := (hir.lb a (by omega)).2; omega
    · rw [if_neg e1, if_neg e2]; exact hir.ne a a' i (by omega) (by omega) hi2
  · intro a ha
    by_cases e : a = k
    · rw [if_pos e]; omega
    · rw [if_neg e]; have := hir.lb a (by omega); omega
  · intro a i ha hi2
    by_cases e : a = k
    · rw [if_pos e]; have := hlc i (by omega); omega
    · rw [if_neg e]; have := hir.lc a i (by omega) hi2; omega
  · intro b hb
    have hb1 := (hown.lt b hb).2
    have key : v.ownBlock = some b ∨ b = wr.heap.size + 1 := by
      rcases ha with e | e
      · left; rw [← e]; exact hb
      · right; rw [hb, hsz] at e; exact Option.some.inj e
    refine ⟨hb1, fun a hak => ⟨?_, fun i hi2 => ?_⟩⟩
    · by_cases e : a = k
      · rw [if_pos e]
        rcases key with e2 | e2
        · have := (hir.vb b e2).1; omega
        · omega
      · rw [if_neg e]
        rcases key with e2 | e2
        · exact ((hir.vb b e2).2 a (by omega)).1
        · have := (hir.lb a (by omega)).2; omega
    · by_cases e : a = k
      · rw [if_pos e]
        have := hlc i (by omega)
        rcases key with e2 | e2
        · have := (hir.vb b e2).1; omega
        · omega
      · rw [if_neg e]
        rcases key with e2 | e2
        · exact ((hir.vb b e2).2 a (by omega)).2 i hi2
        · have := (hir.lc a i (by omega) hi2).2; omega
  · exact ((hir.bel.al o).grown hg (by have := hir.bel.size; omega) fun j hj => by have := (hir.own.lt j hj).1; omega).setCell (by show w.heap.size ≤ bc; omega) _
end
end Go.Proofs.Ytghnkgbingcbcaa



namespace Go.Proofs.Ytghnkgbingcbcaa
open Go.RowKit

/-- where the table lies -/
structure BSt (w : World) (bc bg ob N n B0 : Nat) (rb : Nat → Nat) (cb : Nat → Nat → Nat) : Prop where
  inj : ∀ a i a' i', a < N → i ≤ n → a' < N → i' ≤ n → cb a i = cb a' i' → a = a' ∧ i = i'
  n1 : ∀ a a' i, a < N → a' < N → i ≤ n → rb a ≠ cb a' i
  n2 : ∀ a i, a < N → i ≤ n → ob ≠ cb a i
  lc : ∀ a i, a < N → i ≤ n → bc < cb a i ∧ cb a i < B0
  l0 : w.heap.size ≤ bg
  l1 : bg < bc
structure BRel (w : World) (bc bg ob oo N n B0 : Nat) (rb : Nat → Nat) (cb : Nat → Nat → Nat) (ca gcs : Array Value) (st : WSt) (wr : World) : Prop where
  hc : Blk wr bc 71 ca
  hg : Blk wr bg 28 gcs
  bt : BestR (fun b => B0 ≤ b) wr ob oo N n rb cb st
  bel : Below w.heap.size w wr
  l3 : B0 ≤ wr.heap.size
section
variable {w wr wa : World} {bc bg ob oo N n B0 : Nat} {rb : Nat → Nat} {cb : Nat → Nat → Nat} {ca gcs : Array Value} {st : WSt}
theorem BRel.via (h : BRel w bc bg ob oo N n B0 rb cb ca gcs st wr) (hb : Below wr.heap.size wr wa) : BRel w bc bg ob oo N n B0 rb cb ca gcs st wa :=
  ⟨h.hc.via hb, h.hg.via hb, h.bt.via hb, h.bel.via hb, Nat.le_trans h.l3 hb.size⟩
theorem BRel.dr (h : BRel w bc bg ob oo N n B0 rb cb ca gcs st wr) : BRel w bc bg ob oo N n B0 rb cb ca gcs st wr.drew := h.via ((Below.refl _ _).drew)
theorem BRel.put (hs : BSt w bc bg ob N n B0 rb cb) (h : BRel w bc bg ob oo N n B0 rb cb ca gcs st wr) {a i j : Nat} (ha : a < N) (hi : i ≤ n) (hj : j ≤ n) {v : WyV} {y : Way} (hv : WayR (fun b => B0 ≤ b) wr v y) :
    BRel w bc bg ob oo N n B0 rb cb ca gcs (updS st a i j y) (World.put4 wr (cb a i) (j * 4) v) := by
  have hl := hs.lc a i ha hi
  have l0 := hs.l0; have l1 := hs.l1
  refine ⟨(heap_put4 (by omega)).trans h.hc, (heap_put4 (by omega)).trans h.hg, ⟨fun k hk => ?_, fun k i' hk hi' => ?_, fun k i' hk hi' => ?_⟩, below_put4 h.bel (by omega), by rw [size_put4]; exact h.l3⟩
  · rw [World.cell?_of_block (w := wr) (a := ⟨ob, oo + k, none⟩) (heap_put4 (hs.n2 a i ha hi))]; exact h.bt.top k hk
  · rw [World.cell?_of_block (w := wr) (a := ⟨rb k, i', none⟩) (heap_put4 (hs.n1 k a i hk ha hi))]; exact h.bt.mid k i' hk hi'
  · by_cases e : k = a ∧ i' = i
    · obtain ⟨rfl, rfl⟩ := e
      have e2 : updS st k i' j y k i' = upd (st k i') j y := by
        funext q
        by_cases eq : q = j
        · subst eq; rw [updS_same, upd_same]
        · rw [updS_ne _ _ (fun h => eq h.2.2), upd_ne _ _ eq]
      rw [e2]
      exact (h.bt.row k i' hk hi').put hj hv fun x hx => by omega
    · have e2 : updS st a i j y k i' = st k i' := by
        funext q; exact updS_ne _ _ fun h => e ⟨h.1, h.2.1⟩
      rw [e2]
      exact (h.bt.row k i' hk hi').agr (heap_put4 fun h => e (hs.inj k i' a i hk hi' ha hi h)) (agr_put4 fun x hx => by omega)
end
theorem IR.fin {w wr : World} {bc bg n hi N c : Nat} {A : Option Addr} {rb : Nat → Nat} {cb : Nat → Nat → Nat} {cs : Value → Array Value} {gcs : Array Value} (h : IR w bc bg n hi N rb cb cs gcs (.slice A N c) wr) (hN : 1 ≤ N) :
    ∃ ob oo, A = some ⟨ob, oo, none⟩ ∧ BSt w bc bg ob N n wr.heap.size rb cb ∧ BRel w bc bg ob oo N n wr.heap.size rb cb (cs (.slice A N c)) gcs (fun _ _ _ => Way.no) wr := by
  have hS : Sl SlE (fun _ => True) wr A N c _ := h.own.toSl (fun _ _ h => h.elim) (fun _ _ => trivial)
  obtain ⟨ob, oo, -, -, rfl, -⟩ := hS.at_ (i := 0) (by omega)
  have hv := h.vb ob rfl
  have l3 := h.l3
  refine ⟨ob, oo, rfl, ⟨h.inj, h.ne, fun a i ha hi => (hv.2 a ha).2 i hi, fun a i ha hi => ⟨(h.lc a i ha hi).1, by have := (h.lc a i ha hi).2; omega⟩, h.l0, h.l1⟩, h.hc, h.hg, ⟨fun k hk => ?_, fun k i hk hi => h.mid k i hk hi, fun k i hk hi => (h.row k i hk hi).mono fun b _ h => h.elim⟩, h.bel, Nat.le_refl _⟩
  obtain ⟨b', o', r, x, e, -, -, hx, hr, hc⟩ := hS.at_ hk
  cases e
  have hc0 := hc 0 _ rfl
  simp only [SlE, Nat.mul_one, Nat.add_zero] at hc0
  rw [hc0]
  have hrx : r = x := hr
  rw [hrx]
  rw [List.getElem?_map, List.getElem?_range hk] at hx
  simp at hx
  rw [← hx]
end Go.Proofs.Ytghnkgbingcbcaa



namespace Go.Proofs.Ytghnkgbingcbcaa
open Go.RowKit

set_option maxHeartbeats 400000 in
theorem clone_c (A : Option Addr) (n c : Nat) (xs : List Int) (w : World) (h : Ints w A n c xs) (hn : n ≤ 17592186044416) :
    Calls Try.prog 30 #[.slice A n c] w fun e w' => ∃ v, e = .returned v ∧ OwnI w' w.heap.size v n xs ∧ Below w.heap.size w w' := by
  have he := fun wx => Lib.run_eql_slice_nil (P := Try.prog) wx 22 3 A n c 0 0 Try.underlying22
  rcases A with _ | ad
  · obtain ⟨rfl, rfl⟩ := h.isNone
    go_enter Try.func30, Try.ntmps30
    go_wp2
    go_ret
    exact ⟨_, rfl, OwnI.nil _ _, Below.refl _ _⟩
  · go_enter Try.func30, Try.ntmps30
    go_wp2_with (at_builtin; refine wpList_append_ints _ rfl (.tmp 5) (.tmp 6) rfl w.heap.size (.slice (some ⟨w.heap.size, 0, none⟩) 0 0) 0 [] rfl (World.ownsRow_lit w #[] 0 (Nat.le_refl _) (by omega) rfl) (some ad) n c xs rfl (h.keep ((Below.refl w.heap.size w).alloc (Nat.le_refl _) _) (Nat.le_refl _)) (by omega) (by simp) ?_; intro Av1 cv1 w1 hown1 hg1 hat1)
    go_ret
    exact ⟨_, rfl, by simpa using hown1, ((Below.refl _ _).alloc (Nat.le_refl _) _).grown hg1 (by simp) (by simp [Value.ownBlock])⟩

theorem clone_s (A : Option Addr) (n c : Nat) (xs : List Int) (w : World) (h : Ints w A n c xs) (hn : n ≤ 17592186044416) :
    Calls Try.prog 30 #[.slice A n c] w fun e w' => ∃ B d, e = .returned (.slice B n d) ∧ OwnI w' w.heap.size (.slice B n d) n xs ∧ Below w.heap.size w w' :=
  (clone_c A n c xs w h hn).mono fun e w' ⟨v, he, ho, hb⟩ => by
    obtain ⟨B, d, rfl, _⟩ := ho.form
    exact ⟨B, d, he, ho, hb⟩

theorem rule_short {p : Pm} {st : WSt} (hp : p.Ok) (hst : ∀ N i j, Bnd 2000000000 (st N i j)) (i : Nat) (l : List Sy) (j : Nat) : (p.rule st i l j).w.length ≤ 2000 := by
  by_cases hl : l = []
  · subst hl
    rw [Pm.rule, ruleW, if_pos rfl]
    split <;> simp [Way.no]
  · rw [Pm.rule, ruleW, if_neg hl]
    exact (Bnd.ruleAt (M := 2000000000) (by omega) (fun s k j _ _ _ => Bnd.sym hp.c0 hp.c1 hp.c2 hp.len (by omega) hst s k j) l j).short
/-- what has been seen: the first k rules -/
def V4 (rules : List Ru) (n k : Nat) : Ru → Nat → Nat → Prop := fun r i j => (∃ k', k' < k ∧ rules[k']? = some r) ∧ i ≤ j ∧ j ≤ n
/-- .. and rule r0 up to row i0, place j0 -/
def V6 (rules : List Ru) (n k : Nat) (r0 : Ru) (i0 j0 : Nat) : Ru → Nat → Nat → Prop := fun r i j => V4 rules n k r i j ∨ (r = r0 ∧ i ≤ j ∧ j ≤ n ∧ (i < i0 ∨ (i = i0 ∧ j < j0)))

def BestP (w : World) (p : Pm) (s : Nat) (e : Ending) (w' : World) : Prop :=
  ∃ st, Good p st ∧ Fixd p.c0 p.c1 p.c2 p.rules p.w st p.w.length ∧ Below w.heap.size w w' ∧
    ((e = .returned (.tuple #[.int .i64 0, .slice none 0 0, .int .i64 5]) ∧ (st s 0 p.w.length).ok = false) ∨
     (e = .returned (.tuple #[.int .i64 0, .slice none 0 0, .int .i64 2]) ∧ (st s 0 p.w.length).ok = true ∧ 2000 < (st s 0 p.w.length).size) ∨
     ∃ A n c, e = .returned (.tuple #[.int .i64 (st s 0 p.w.length).cost, .slice A n c, .int .i64 0]) ∧ (st s 0 p.w.length).ok = true ∧ (st s 0 p.w.length).size ≤ 2000 ∧ Ints w' A n c (st s 0 p.w.length).w)
set_option maxRecDepth 100000 in
set_option maxHeartbeats 16000000 in
theorem best_c (ok : Nat → Prop) (g : Gr) (Ag : Option Addr) (ng cg : Nat) (A : Option Addr) (n c : Nat) (xs : List Int) (c0 c1 c2 : Int) (w : World) (hg : GrOk g) (hl : Sl RuE ok w Ag ng cg g.rules) (hx : Ints w A n c xs) (hn : n ≤ 12) (hxt : ∀ x ∈ xs, 0 ≤ x ∧ x < (g.terms : Int))
    (h0 : 1 ≤ c0 ∧ c0 ≤ 100) (h1 : 1 ≤ c1 ∧ c1 ≤ 100) (h2 : 1 ≤ c2 ∧ c2 ≤ 100) :
    Calls Try.prog 6 #[grVal g Ag ng cg, .slice A n c, .agg #[.int .i64 c0, .int .i64 c1, .int .i64 c2]] w (BestP w ⟨c0, c1, c2, g.nons, g.rules, xs⟩ g.start) := by
  have hxl := hx.len
  have HXL := Lib.hid hxl
  have HX0 := Lib.hid hx
  have HL0 := Lib.hid hl
  have hp : Pm.Ok ⟨c0, c1, c2, g.nons, g.rules, xs⟩ := ⟨h0, h1, h2, hg.ok.nons.2, hg.ok.left, fun r hr => (hg.ok.right r hr).1, fun r hr s hs hb => by
    have := (hg.ok.right r hr).2 s hs
    rw [Gr.okSy, if_pos hb] at this
    have := hg.ok.terms.2; omega, by show xs.length ≤ 12; omega⟩
  have HP := Lib.hid hp
  have HGO := Lib.hid hg
  have HXT := Lib.hid hxt
  have hB := (((Below.refl w.heap.size w).al (.cells #[.int .i64 (g.terms : Int), .int .i64 (g.nons : Int), .int .i64 (g.start : Int), .slice Ag ng cg] 28)).al (.cells #[.int .i64 c0, .int .i64 c1, .int .i64 c2] 30))
  have B0 := (Blk.new w 28 #[.int .i64 (g.terms : Int), .int .i64 (g.nons : Int), .int .i64 (g.start : Int), .slice Ag ng cg]).al (.cells #[.int .i64 c0, .int .i64 c1, .int .i64 c2] 30)
  have B1 := Blk.new (w.alloc (.cells #[.int .i64 (g.terms : Int), .int .i64 (g.nons : Int), .int .i64 (g.start : Int), .slice Ag ng cg] 28)) 30 #[.int .i64 c0, .int .i64 c1, .int .i64 c2]
  rw [World.size_alloc] at B1
  have HL := Lib.hid (hl.via hB)
  have HX := Lib.hid (hx.keep hB (Nat.le_refl _))
  have HB := Lib.hid hB
  have HB0 := Lib.hid B0
  have HB1 := Lib.hid B1
  simp only [grVal]
  clear hl hx hB B0 B1 hxl hp hg hxt
  go_enter Try.func6, Try.ntmps6
  go_wp2_with fail
  generalize (w.alloc (.cells #[.int .i64 (g.terms : Int), .int .i64 (g.nons : Int), .int .i64 (g.start : Int), .slice Ag ng cg] 28)).alloc (.cells #[.int .i64 c0, .int .i64 c1, .int .i64 c2] 30) = W at *
  refine (check_c ok g Ag ng cg W HGO.out HL.out).mono ?_
  rintro e w1 ⟨rfl, hb⟩
  have HL1 := Lib.hid (HL.out.via hb)
  have HX1 := Lib.hid (HX.out.keep hb (Nat.le_refl _))
  have HBB := Lib.hid (HB.out.via hb)
  have B0 := HB0.out.via hb
  have HB1' := Lib.hid (HB1.out.via hb)
  have HB0' := Lib.hid B0
  clear hb HL HX HB HB0 HB1
  have cB0 := B0.cell
  have fB0 := B0.frozen
  have lB0 := B0.lt
  go_wp2_with fail
  clear cB0 fB0 lB0
  refine (word_ok g Ag ng cg A n c 12 xs w1 HX1.out hn (by omega) HXT.out).mono ?_
  rintro e w2 ⟨rfl, hb⟩
  have HL2 := Lib.hid (HL1.out.via hb)
  have HX2 := Lib.hid (HX1.out.keep hb (Nat.le_refl _))
  have HB2 := Lib.hid (HBB.out.via hb)
  have B0 := HB0'.out.via hb
  have B1 := HB1'.out.via hb
  clear hb HL1 HX1 HBB HB0' HB1'
  have cB0 := B0.cell
  have fB0 := B0.frozen
  have lB0 := B0.lt
  have cB1 := B1.cell
  have fB1 := B1.frozen
  have lB1 := B1.lt
  go_wp2_with fail
  refine (containsB_c (some ⟨w.heap.size + 1, 0, none⟩) 3 3 [c0, c1, c2] w2 ⟨rfl, Nat.le_refl _, fun _ => ⟨_, 0, rfl, fun i hi => by
    match i, hi with
    | 0, _ => exact (B1.cell 0).trans rfl
    | 1, _ => exact (B1.cell 1).trans rfl
    | 2, _ => exact (B1.cell 2).trans rfl⟩⟩ (by omega) (fun x hx => by simp at hx; rcases hx with rfl | rfl | rfl <;> assumption)).mono ?_
  rintro e w3 ⟨rfl, rfl⟩
  go_wp2_with fail
  have HIR := Lib.hid (show IR w w2.heap.size w.heap.size n (w2.heap.size + 1) 0 (fun _ => 0) (fun _ _ => 0) (fun v => #[.int .i64 (g.terms : Int), .int .i64 (g.nons : Int), .int .i64 (g.start : Int), .slice Ag ng cg, .slice A n c, .int .i64 c0, .int .i64 c1, .int .i64 c2, v]) #[.int .i64 (g.terms : Int), .int .i64 (g.nons : Int), .int .i64 (g.start : Int), .slice Ag ng cg] (.slice none 0 0)
      (w2.alloc (.cells #[.int .i64 (g.terms : Int), .int .i64 (g.nons : Int), .int .i64 (g.start : Int), .slice Ag ng cg, .slice A n c, .int .i64 c0, .int .i64 c1, .int .i64 c2, .slice none 0 0] 71)) from
    ⟨Blk.new w2 _ _, B0.al _, Own.nil _ _, fun a i h => by omega, fun a i h => by omega, fun a i a' i' h => by omega, fun a a' i h => by omega, fun a h => by omega, fun a i h => by omega, fun b h => (by cases h), HB2.out.al _, Nat.le_refl _, B0.lt, by omega, by simp⟩)
  have HX3 := Lib.hid (HX2.out.alloc (.cells #[.int .i64 (g.terms : Int), .int .i64 (g.nons : Int), .int .i64 (g.start : Int), .slice Ag ng cg, .slice A n c, .int .i64 c0, .int .i64 c1, .int .i64 c2, .slice none 0 0] 71))
  have HL3 := Lib.hid (HL2.out.al (.cells #[.int .i64 (g.terms : Int), .int .i64 (g.nons : Int), .int .i64 (g.start : Int), .slice Ag ng cg, .slice A n c, .int .i64 c0, .int .i64 c1, .int .i64 c2, .slice none 0 0] 71))
  have hW3 : w2.heap.size + 1 ≤ (w2.alloc (.cells #[.int .i64 (g.terms : Int), .int .i64 (g.nons : Int), .int .i64 (g.start : Int), .slice Ag ng cg, .slice A n c, .int .i64 c0, .int .i64 c1, .int .i64 c2, .slice none 0 0] 71)).heap.size := by simp
  have hbb : w.heap.size < w2.heap.size := B0.lt
  clear HX2 HL2 HB2
  clear cB0 fB0 lB0 cB1 fB1 lB1
  clear B0 B1
  generalize w2.alloc (.cells #[.int .i64 (g.terms : Int), .int .i64 (g.nons : Int), .int .i64 (g.start : Int), .slice Ag ng cg, .slice A n c, .int .i64 c0, .int .i64 c1, .int .i64 c2, .slice none 0 0] 71) = W3 at *
  generalize w2.heap.size = bc at *
  have gn1 : g.nons ≤ 10 := HGO.out.ok.nons.2
  go_loopw [41] (fun q wr => ∃ (k hi : Nat) (rb : Nat → Nat) (cb : Nat → Nat → Nat) (Av : Option Addr) (cv : Nat), q = .int .i64 k ∧ k ≤ g.nons ∧ IR w bc w.heap.size n hi k rb cb (fun v => #[.int .i64 (g.terms : Int), .int .i64 (g.nons : Int), .int .i64 (g.start : Int), .slice Ag ng cg, .slice A n c, .int .i64 c0, .int .i64 c1, .int .i64 c2, v]) #[.int .i64 (g.terms : Int), .int .i64 (g.nons : Int), .int .i64 (g.start : Int), .slice Ag ng cg] (.slice Av k cv) wr ∧ Below bc W3 wr) (fun q _ => g.nons - (intOf q).toNat)
  case atStart => exact ⟨0, _, _, _, none, 0, rfl, Nat.zero_le _, HIR.out, Below.refl _ _⟩
  case round =>
    obtain ⟨k, hi, rb, cb, Av, cv, rfl, hk, hir, hbw⟩ := hrel
    clear HIR
    by_cases hlt : k < g.nons
    · have HJ0 := Lib.hid (JR.start hir (fun _ => 0))
      have HBW := Lib.hid (hbw.alloc (Nat.le_of_lt hir.hc.lt) (.cells (mkCells (.slice none 0 0) (n + 1)) 73))
      have hmk := mk_wrows n (by omega)
      have hlr := Lib.hid (show bc < wr.heap.size from hir.hc.lt)
      clear hir hbw
      go_wp2_with fail
      clear hmk
      generalize wr.alloc (.cells (mkCells (.slice none 0 0) (n + 1)) 73) = W4 at *
      generalize wr.heap.size = R at *
      obtain ⟨wo, rfl⟩ : ∃ wo : World, wo = wr := ⟨_, rfl⟩
      go_loopw [49] (fun q wr => ∃ (i : Nat) (ck : Nat → Nat), q = .int .i64 i ∧ i ≤ n + 1 ∧ JR w bc w.heap.size n hi k rb cb (fun v => #[.int .i64 (g.terms : Int), .int .i64 (g.nons : Int), .int .i64 (g.start : Int), .slice Ag ng cg, .slice A n c, .int .i64 c0, .int .i64 c1, .int .i64 c2, v]) #[.int .i64 (g.terms : Int), .int .i64 (g.nons : Int), .int .i64 (g.start : Int), .slice Ag ng cg] (.slice Av k cv) R i ck wr ∧ Below bc W3 wr) (fun q _ => n + 1 - (intOf q).toNat)
      case atStart => exact ⟨0, _, rfl, Nat.zero_le _, HJ0.out, HBW.out⟩
      case round =>
        obtain ⟨i, ck, rfl, hi2, hjr, hbw⟩ := hrel
        clear HJ0 HBW
        by_cases hin : i ≤ n
        · have hms := mk_ways n (by omega)
          have hRl0 : R < wr.heap.size := by obtain ⟨C, C1, -⟩ := hjr.top; exact C1.lt
          have hjn := hjr.next hin
          rw [World.setCell_alloc_past _ R i _ hRl0] at hjn
          have HJN := Lib.hid hjn
          have hRl := hjr.lo
          have hbR : bc ≤ R := by have := hjr.ir.l2; omega
          have hbn := ((hbw.alloc (by have := hjr.ir.l3; have := hjr.ir.l2; omega) (.cells (wayCells n) 78)).setCell (p := ⟨R, i, none⟩) hbR (.slice (some ⟨wr.heap.size, 0, none⟩) (n + 1) (n + 1)))
          rw [World.setCell_alloc_past _ R i _ hRl0] at hbn
          have HBN := Lib.hid hbn
          obtain ⟨C, C1, C2, -⟩ := hjr.top
          have cR : ∃ u, wr.cell? ⟨R, i, none⟩ = some u := ⟨C[i]'(by omega), by rw [C1.cell]; exact Array.getElem?_eq_getElem (by omega)⟩
          obtain ⟨u, cR⟩ := cR
          have fR := C1.frozen i
          have lR := C1.lt
          have i0 : (0 : Int) ≤ (i : Int) := by omega
          have i1 : (i : Int) < (n : Int) + 1 := by omega
          clear hjr C1 C2 hbw hjn hbn hRl0
          go_wp2_with fail
          exact ⟨⟨i + 1, _, by go_num, by omega, HJN.out, HBN.out⟩, by simp [intOf]; omega⟩
        · have HIN := Lib.hid (show i = n + 1 by omega)
          have hbc := hjr.ir.hc
          have hown := hjr.ir.own
          have hl3 := hjr.ir.l3
          have hl2 := hjr.ir.l2
          have HJ := Lib.hid hjr
          have HBW := Lib.hid hbw
          have HOWN := Lib.hid (hown.al (.cells #[.slice (some ⟨R, 0, none⟩) (n + 1) (n + 1)] 72))
          have hlB := hbc.lt
          have cB : ∀ q, wr.cell? ⟨bc, q, none⟩ = #[.int .i64 (g.terms : Int), .int .i64 (g.nons : Int), .int .i64 (g.start : Int), .slice Ag ng cg, .slice A n c, .int .i64 c0, .int .i64 c1, .int .i64 c2, .slice Av k cv][q]? := hbc.cell
          have Bnew := Blk.new wr 72 #[.slice (some ⟨R, 0, none⟩) (n + 1) (n + 1)]
          have HNE := Lib.hid (show some bc ≠ (Value.slice Av k cv).ownBlock from fun e => by have := (hown.lt bc e.symm).1; omega)
          have HBA := Lib.hid (hbc.al (.cells #[.slice (some ⟨R, 0, none⟩) (n + 1) (n + 1)] 72))
          have HOB := Lib.hid (show ∀ j, (Value.slice Av k cv).ownBlock = some j → bc ≤ j from fun j e => by have := (hown.lt j e).1; omega)
          clear hjr hbw hbc hown
          go_wp2_with (at_builtin; refine wpList_append_rows _ rfl (.tmp 64) (.tmp 66) rfl (bc + 1) (.slice Av k cv) k _ rfl HOWN.out wr.heap.size (some ⟨R, 0, none⟩, n + 1, n + 1) rfl ((Bnew.cell 0).trans rfl) (by omega) (by simp; omega) ?_; intro A' c' w5 ho1 hg1 ha1; have Bw5 := HBA.out.grown hg1 HNE.out; have c5 := Bw5.cell; have f5 := Bw5.frozen; have l5 := Bw5.lt)
          have HF := Lib.hid (JR.hang (by rw [← HIN.out]; exact HJ.out) (.cells #[.slice (some ⟨R, 0, none⟩) (n + 1) (n + 1)] 72) ho1 hg1 ha1 (fun u => rfl))
          have HBF := Lib.hid (((HBW.out.alloc (Nat.le_of_lt hlB) (.cells #[.slice (some ⟨R, 0, none⟩) (n + 1) (n + 1)] 72)).grown hg1 (by simp; omega) HOB.out).setCell (p := ⟨bc, 8, none⟩) (Nat.le_refl _) (.slice A' (k + 1) c'))
          clear ho1 hg1 ha1 Bw5 c5 f5 l5 cB Bnew
          exact ⟨⟨k + 1, _, _, _, A', c', by go_num, by omega, HF.out, HBF.out⟩, by simp [intOf]; omega⟩
    · obtain rfl : k = g.nons := by omega
      obtain ⟨ob, oo, rfl, hst, hbr⟩ := hir.fin HGO.out.ok.nons.1
      have hlb : bc < wr.heap.size := hir.hc.lt
      generalize hB0 : wr.heap.size = BZ at *
      have HST := Lib.hid hst
      have HBR := Lib.hid (show BRel w bc w.heap.size ob oo g.nons n BZ rb cb #[.int .i64 (g.terms : Int), .int .i64 (g.nons : Int), .int .i64 (g.start : Int), .slice Ag ng cg, .slice A n c, .int .i64 c0, .int .i64 c1, .int .i64 c2, .slice (some ⟨ob, oo, none⟩) g.nons cv] #[.int .i64 (g.terms : Int), .int .i64 (g.nons : Int), .int .i64 (g.start : Int), .slice Ag ng cg] (fun _ _ _ => Way.no) wr from hbr)
      clear hir hst hbr hbw
      obtain ⟨p, hp⟩ : ∃ p : Pm, p = ⟨c0, c1, c2, g.nons, g.rules, xs⟩ := ⟨_, rfl⟩
      have HPN := Lib.hid (show p.w.length = n by rw [hp]; exact HXL.out)
      have HPNO := Lib.hid (show p.nons = g.nons by rw [hp])
      have HPR := Lib.hid (show p.rules = g.rules by rw [hp])
      have HPO := Lib.hid (show p.Ok by rw [hp]; exact HP.out)
      have HRW := Lib.hid (show ∀ st i l, ruleW c0 c1 c2 xs st n i l = p.rule st i l from fun st i l => by rw [hp, Pm.rule, HXL.out])

      have HPP := Lib.hid hp
      have HGD := Lib.hid (Good.start p)
      clear hp
      go_wp2_with fail
      clear hB0
      go_loopg [14] (2 * total big 8 p.nons p.w.length (fun _ _ _ => Way.no) + 1) (fun gk a wx => ∃ st ag, a = .bool ag ∧ Good p st ∧ BRel w bc w.heap.size ob oo g.nons n BZ rb cb #[.int .i64 (g.terms : Int), .int .i64 (g.nons : Int), .int .i64 (g.start : Int), .slice Ag ng cg, .slice A n c, .int .i64 c0, .int .i64 c1, .int .i64 c2, .slice (some ⟨ob, oo, none⟩) g.nons cv] #[.int .i64 (g.terms : Int), .int .i64 (g.nons : Int), .int .i64 (g.start : Int), .slice Ag ng cg] st wx ∧ (ag = false → Fixd p.c0 p.c1 p.c2 p.rules p.w st p.w.length) ∧ gk = 2 * total big 8 p.nons p.w.length st + (if ag then 1 else 0))
      case atStart => exact ⟨_, true, rfl, HGD.out, HBR.out, fun h => (by cases h), rfl⟩
      case round =>
        obtain ⟨st, ag, rfl, hgd, hbr, hfx, hgk⟩ := hrel
        clear HBR HGD
        cases ag with
        | false =>
          have HGD := Lib.hid hgd
          have HBR := Lib.hid hbr
          have HFX := Lib.hid (hfx rfl)
          clear hgd hbr hfx hgk
          go_upto_region 37 with fail
          have hsn := HGO.out.ok.start
          have t1 := HBR.out.bt.top g.start hsn
          have t2 := HBR.out.bt.mid g.start 0 hsn (Nat.zero_le _)
          obtain ⟨⟨xc, xs_, ⟨xA, xn, xcc⟩, xo⟩, hxr, d0, d1, d2, d3⟩ := (HBR.out.bt.row g.start 0 hsn (Nat.zero_le _)).at_ (Nat.le_refl n)
          simp only at d0 d1 d2 d3
          have l1 := World.block_lt_of_cell? wr _ t1
          have l2 := World.block_lt_of_cell? wr _ t2
          have l3 := World.block_lt_of_cell? wr _ d0
          simp only at l1 l2 l3
          have SOF := Lib.hid (show ∀ w', Below wr.heap.size wr w' → ((∀ i, w'.cell? ⟨bc, i, none⟩ = #[.int .i64 (g.terms : Int), .int .i64 (g.nons : Int), .int .i64 (g.start : Int), .slice Ag ng cg, .slice A n c, .int .i64 c0, .int .i64 c1, .int .i64 c2, .slice (some ⟨ob, oo, none⟩) g.nons cv][i]?) ∧ (∀ i, w'.cell? ⟨w.heap.size, i, none⟩ = #[.int .i64 (g.terms : Int), .int .i64 (g.nons : Int), .int .i64 (g.start : Int), .slice Ag ng cg][i]?) ∧ w'.cell? ⟨ob, oo + g.start, none⟩ = some (.slice (some ⟨rb g.start, 0, none⟩) (n + 1) (n + 1)) ∧ w'.cell? ⟨rb g.start, 0, none⟩ = some (.slice (some ⟨cb g.start 0, 0, none⟩) (n + 1) (n + 1)) ∧ w'.cell? ⟨cb g.start 0, n * 4, none⟩ = some (.int .i64 xc) ∧ w'.cell? ⟨cb g.start 0, n * 4 + 1, none⟩ = some (.int .i64 xs_) ∧ w'.cell? ⟨cb g.start 0, n * 4 + 2, none⟩ = some (.slice xA xn xcc) ∧ w'.cell? ⟨cb g.start 0, n * 4 + 3, none⟩ = some (.bool xo) ∧ Below wr.heap.size wr w') from fun w' hb => ⟨(HBR.out.hc.via hb).cell, (HBR.out.hg.via hb).cell, (hb.cell (p := ⟨ob, oo + g.start, none⟩) l1).trans t1, (hb.cell (p := ⟨rb g.start, 0, none⟩) l2).trans t2, (hb.cell (p := ⟨cb g.start 0, n * 4, none⟩) l3).trans d0, (hb.cell (p := ⟨cb g.start 0, n * 4 + 1, none⟩) l3).trans d1, (hb.cell (p := ⟨cb g.start 0, n * 4 + 2, none⟩) l3).trans d2, (hb.cell (p := ⟨cb g.start 0, n * 4 + 3, none⟩) l3).trans d3, hb⟩)
          have hb0 := (Below.refl wr.heap.size wr).drew
          have j0 : (0 : Int) ≤ (g.start : Int) := by omega
          have j1 : (g.start : Int) < (g.nons : Int) := by omega
          have j2 : (0 : Int) < (n : Int) + 1 := by omega
          have j3 : (n : Int) < (n : Int) + 1 := by omega
          have j4 : (0 : Int) ≤ (n : Int) := by omega
          clear t1 t2 d0 d1 d2 d3 l1 l2 l3
          go_region_held3 (fun w' => (∀ i, w'.cell? ⟨bc, i, none⟩ = #[.int .i64 (g.terms : Int), .int .i64 (g.nons : Int), .int .i64 (g.start : Int), .slice Ag ng cg, .slice A n c, .int .i64 c0, .int .i64 c1, .int .i64 c2, .slice (some ⟨ob, oo, none⟩) g.nons cv][i]?) ∧ (∀ i, w'.cell? ⟨w.heap.size, i, none⟩ = #[.int .i64 (g.terms : Int), .int .i64 (g.nons : Int), .int .i64 (g.start : Int), .slice Ag ng cg][i]?) ∧ w'.cell? ⟨ob, oo + g.start, none⟩ = some (.slice (some ⟨rb g.start, 0, none⟩) (n + 1) (n + 1)) ∧ w'.cell? ⟨rb g.start, 0, none⟩ = some (.slice (some ⟨cb g.start 0, 0, none⟩) (n + 1) (n + 1)) ∧ w'.cell? ⟨cb g.start 0, n * 4, none⟩ = some (.int .i64 xc) ∧ w'.cell? ⟨cb g.start 0, n * 4 + 1, none⟩ = some (.int .i64 xs_) ∧ w'.cell? ⟨cb g.start 0, n * 4 + 2, none⟩ = some (.slice xA xn xcc) ∧ w'.cell? ⟨cb g.start 0, n * 4 + 3, none⟩ = some (.bool xo) ∧ Below wr.heap.size wr w') (exact SOF.out _ (by first | assumption | exact ((Below.refl wr.heap.size wr).al _).drew)) (fail)
          have Bx := (Blk.new wr 78 #[.int .i64 xc, .int .i64 xs_, .slice xA xn xcc, .bool xo]).dr
          have HXR := Lib.hid ((hxr.al (.cells #[.int .i64 xc, .int .i64 xs_, .slice xA xn xcc, .bool xo] 78)).dr)
          have HBF := Lib.hid ((HBR.out.bel.al (.cells #[.int .i64 xc, .int .i64 xs_, .slice xA xn xcc, .bool xo] 78)).drew)
          clear hb0 SOF hxr j0 j1 j2 j3 j4 hsn HBR
          generalize (wr.alloc (.cells #[.int .i64 xc, .int .i64 xs_, .slice xA xn xcc, .bool xo] 78)).drew = W9 at *
          generalize wr.heap.size = bx at *
          obtain ⟨hc1, hs1, ho1, hw1⟩ := HXR.out
          simp only at hc1 hs1 ho1 hw1
          have HC1 := Lib.hid hc1
          have HS1 := Lib.hid hs1
          have HO1 := Lib.hid ho1
          have HW1 := Lib.hid hw1
          clear hc1 hs1 ho1 hw1 HXR
          cases xo with
          | false =>
            have cBx := Bx.cell
            have fBx := Bx.frozen
            have lBx := Bx.lt
            go_wp2_with fail
            go_ret3
            rw [← HPP.out]
            exact ⟨st, HGD.out, HFX.out, HBF.out, Or.inl ⟨rfl, by rw [HPN.out, ← HO1.out]⟩⟩
          | true =>
            by_cases hsz : 2000 < xs_
            · have cBx := Bx.cell
              have fBx := Bx.frozen
              have lBx := Bx.lt
              go_wp2_with fail
              go_ret3
              rw [← HPP.out]
              exact ⟨st, HGD.out, HFX.out, HBF.out, Or.inr (Or.inl ⟨rfl, by rw [HPN.out, ← HO1.out], by rw [HPN.out, ← HS1.out]; exact hsz⟩)⟩
            · have e9 : decide ((2000 : Int) < xs_) = false := by simpa using hsz
              have HSZ := Lib.hid hsz
              clear hsz
              have HIX := Lib.hid (show ∀ w', Below W9.heap.size W9 w' → Ints w' xA xn xcc (st g.start 0 n).w from fun w' hb => HW1.out.ints.keep hb (Nat.le_refl _))
              have hxn : xn ≤ 17592186044416 := by
                have hb := (HGD.out.frm HPO.out g.start 0 n HO1.out.symm).bnd.short
                have := HW1.out.len; omega
              have cBx := Bx.cell
              have fBx := Bx.frozen
              have lBx := Bx.lt
              go_upto_region 42 with fail
              have SO9 := Lib.hid (show ∀ w', Below W9.heap.size W9 w' → ((∀ i, w'.cell? ⟨bx, i, none⟩ = #[.int .i64 xc, .int .i64 xs_, .slice xA xn xcc, .bool true][i]?) ∧ Below W9.heap.size W9 w') from fun w' hb => ⟨(Bx.via hb).cell, hb⟩)
              clear cBx fBx lBx
              clear Bx e9
              have hb0 := (Below.refl W9.heap.size W9).drew
              go_region_held3 (fun w' => (∀ i, w'.cell? ⟨bx, i, none⟩ = #[.int .i64 xc, .int .i64 xs_, .slice xA xn xcc, .bool true][i]?) ∧ Below W9.heap.size W9 w') (exact SO9.out _ (by assumption)) (first
                | (go_at_call 30; (with_reducible refine (clone_s xA xn xcc (st g.start 0 n).w _ (HIX.out _ (by assumption)) hxn).mono ?_); rintro ee wn ⟨Bc, dc, rfl, hoc, hbn⟩; have hbm : Below W9.heap.size W9 wn := Below.via (by assumption) hbn))
              have HOC := Lib.hid hoc.toInts
              have HBE := Lib.hid (HBF.out.via hbm)
              clear hb0 hbm hbn hoc
              go_wp2_with fail
              go_ret3
              rw [← HPP.out]
              refine ⟨st, HGD.out, HFX.out, HBE.out, Or.inr (Or.inr ⟨Bc, xn, dc, ?_, by rw [HPN.out, ← HO1.out], by rw [HPN.out, ← HS1.out]; have := HSZ.out; omega, by rw [HPN.out]; exact HOC.out⟩)⟩
              rw [HPN.out, ← HC1.out]; rfl
        | true =>
          have HGD := Lib.hid hgd
          have HBR := Lib.hid hbr
          have HGK := Lib.hid hgk
          have Bg := hbr.hg
          clear hgd hbr hfx hgk
          have cBg := Bg.cell
          have fBg := Bg.frozen
          have lBg := Bg.lt
          go_wp2_with fail
          have hng := HL0.out.len
          have hng32 : ng ≤ 32 := by have := HGO.out.ok.count; omega
          have HNG := Lib.hid hng
          clear hng
          have HPG := Lib.hid (show Prg p st st false (V4 g.rules n 0) from Prg.mono (Prg.start st) fun r i j h => by obtain ⟨⟨k', hk', _⟩, _⟩ := h; omega)
          clear cBg fBg lBg
          clear Bg
          obtain ⟨wo, rfl⟩ : ∃ wo : World, wo = wr := ⟨_, rfl⟩
          go_loopw [14, 75] (fun a q wr => ∃ (k : Nat) (st1 : WSt) (ag : Bool), q = .int .i64 k ∧ k ≤ ng ∧ a = .bool ag ∧ Good p st1 ∧ BRel w bc w.heap.size ob oo g.nons n BZ rb cb #[.int .i64 (g.terms : Int), .int .i64 (g.nons : Int), .int .i64 (g.start : Int), .slice Ag ng cg, .slice A n c, .int .i64 c0, .int .i64 c1, .int .i64 c2, .slice (some ⟨ob, oo, none⟩) g.nons cv] #[.int .i64 (g.terms : Int), .int .i64 (g.nons : Int), .int .i64 (g.start : Int), .slice Ag ng cg] st1 wr ∧ Prg p st st1 ag (V4 g.rules n k)) (fun _ q _ => ng - (intOf q).toNat)
          case atStart => exact ⟨0, st, false, rfl, Nat.zero_le _, rfl, HGD.out, HBR.out, HPG.out⟩
          case round =>
            obtain ⟨k, st1, ag, rfl, hk, rfl, hgd1, hbr1, hpg1⟩ := hrel
            clear HPG HBR HGD
            by_cases hkn : k < ng
            · obtain ⟨b1, o1, ⟨sl, sA, sn, sc⟩, ⟨sl', rhs⟩, hAg, -, hbb, hy, ⟨hx1, hx2⟩, hc⟩ := HL0.out.at_ hkn
              simp only at hx1 hx2
              obtain rfl : sl = sl' := hx1
              subst hAg
              have d0 := (hbr1.bel.cell (p := ⟨b1, o1 + k * RuE.k + 0, none⟩) hbb).trans (hc 0 _ rfl)
              have d1 := (hbr1.bel.cell (p := ⟨b1, o1 + k * RuE.k + 1, none⟩) hbb).trans (hc 1 _ rfl)
              simp only [RuE, Nat.add_zero] at d0 d1
              have i0 : (0 : Int) ≤ (k : Int) := by omega
              have i1 : (k : Int) < (ng : Int) := by omega
              have hmem := List.mem_of_getElem? hy
              have hsl : sl < g.nons := HGO.out.ok.left _ hmem
              have HRT := Lib.hid (HGO.out.ok.right _ hmem)
              have HMEM := Lib.hid (show (sl, rhs) ∈ p.rules by rw [HPR.out]; exact hmem)
              have HY := Lib.hid hy
              have HSR := Lib.hid hx2
              have HGD1 := Lib.hid hgd1
              have HMID := Lib.hid (Mid.start hgd1 (sl, rhs))
              have HBR1 := Lib.hid (hbr1.via ((Below.refl wr.heap.size wr).al (.cells #[.int .i64 (sl : Int), .slice sA sn sc] 75)))
              have HPG1 := Lib.hid (show Prg p st st1 ag (V6 g.rules n k (sl, rhs) 0 0) from Prg.mono hpg1 fun r i j h => by
                rcases h with h | ⟨_, _, _, h⟩
                · exact h
                · omega)
              have HBK := Lib.hid (Blk.new wr 75 #[.int .i64 (sl : Int), .slice sA sn sc])
              have hbrl : BZ ≤ wr.heap.size := hbr1.l3
              clear hc hy hx2 hgd1 hbr1 hpg1 hmem hbb
              go_wp2_with fail
              clear d0 d1
              generalize wr.alloc (.cells #[.int .i64 (sl : Int), .slice sA sn sc] 75) = W4 at *
              generalize wr.heap.size = brx at *
              obtain ⟨wp, rfl⟩ : ∃ wp : World, wp = wr := ⟨_, rfl⟩
              go_loopw [14, 82] (fun a q wr => ∃ (i : Nat) (st2 : WSt) (ag : Bool), q = .int .i64 i ∧ i ≤ n + 1 ∧ a = .bool ag ∧ Mid p st1 (sl, rhs) i 0 st2 ∧ BRel w bc w.heap.size ob oo g.nons n BZ rb cb #[.int .i64 (g.terms : Int), .int .i64 (g.nons : Int), .int .i64 (g.start : Int), .slice (some ⟨b1, o1, none⟩) ng cg, .slice A n c, .int .i64 c0, .int .i64 c1, .int .i64 c2, .slice (some ⟨ob, oo, none⟩) g.nons cv] #[.int .i64 (g.terms : Int), .int .i64 (g.nons : Int), .int .i64 (g.start : Int), .slice (some ⟨b1, o1, none⟩) ng cg] st2 wr ∧ Blk wr brx 75 #[.int .i64 (sl : Int), .slice sA sn sc] ∧ Prg p st st2 ag (V6 g.rules n k (sl, rhs) i 0)) (fun _ q _ => n + 1 - (intOf q).toNat)
              case atStart => exact ⟨0, st1, ag, rfl, Nat.zero_le _, rfl, HMID.out, HBR1.out, HBK.out, HPG1.out⟩
              case round =>
                obtain ⟨i, st2, ag2, rfl, hi, rfl, hmid, hbr2, hbk, hpg2⟩ := hrel
                clear HMID HBR1 HBK HPG1
                by_cases hin : i ≤ n
                · have HM2 := Lib.hid hmid
                  have HB2 := Lib.hid hbr2
                  have HK2 := Lib.hid hbk
                  have HP2 := Lib.hid hpg2
                  have HS2 := Lib.hid (show ag2 = false → st2 = st from fun h => (hpg2.no h).1)
                  have Bk := hbk
                  clear hmid hbr2 hbk hpg2
                  have cBk := Bk.cell
                  have fBk := Bk.frozen
                  have lBk := Bk.lt
                  go_wp2_with fail
                  clear cBk fBk lBk
                  clear Bk
                  refine (rule_c (fun b => BZ ≤ b) bc ⟨g.terms, g.nons, g.start, (some ⟨b1, o1, none⟩), ng, cg, A, n, c, c0, c1, c2, some ⟨ob, oo, none⟩, g.nons, cv⟩ xs sl sn sc i oo ob sA rhs rb cb st2 wr HB2.out.hc (HX0.out.keep HB2.out.bel (Nat.le_refl _)) h0 h1 h2 hn hin rfl HB2.out.bt ok (HSR.out.via HB2.out.bel) (fun s hs hb => by have := HRT.out.2 s hs; rw [Gr.okSy, if_neg (by simp [hb])] at this; exact this) HRT.out.1 (fun N i j => HM2.out.bnds HGD1.out HPO.out HMEM.out N i j)).mono ?_
                  rintro e w5 ⟨bw, rfl, hbw, hrow, hb5⟩
                  have HROW := Lib.hid (show WRow (fun b => BZ ≤ b) w5 bw n (p.rule st2 i rhs) from by
                    have e := HRW.out st2 i rhs
                    rw [← e]
                    exact hrow.mono fun b _ hz => by
                      have := HB2.out.l3
                      rcases hz.1 with h | h
                      · exact h
                      · exact Nat.le_trans this h)
                  have HBW := Lib.hid (show BZ ≤ bw from Nat.le_trans HB2.out.l3 hbw)
                  have HB5 := Lib.hid (HB2.out.via hb5)
                  have HK5 := Lib.hid (HK2.out.via hb5)
                  have HP5 := Lib.hid (show Prg p st st2 ag2 (V6 g.rules n k (sl, rhs) i 0) from HP2.out)
                  clear hb5 hrow hbw HB2 HK2 HP2
                  go_wp2_with fail
                  obtain ⟨wq, rfl⟩ : ∃ wq : World, wq = wr := ⟨_, rfl⟩
                  have HM6 := Lib.hid (show Mid p st1 (sl, rhs) i 0 st2 from HM2.out)
                  go_loopw [14, 90] (fun a q wr => ∃ (j : Nat) (st3 : WSt) (ag : Bool), q = .int .i64 j ∧ j ≤ n + 1 ∧ a = .bool ag ∧ Mid p st1 (sl, rhs) i j st3 ∧ BRel w bc w.heap.size ob oo g.nons n BZ rb cb #[.int .i64 (g.terms : Int), .int .i64 (g.nons : Int), .int .i64 (g.start : Int), .slice (some ⟨b1, o1, none⟩) ng cg, .slice A n c, .int .i64 c0, .int .i64 c1, .int .i64 c2, .slice (some ⟨ob, oo, none⟩) g.nons cv] #[.int .i64 (g.terms : Int), .int .i64 (g.nons : Int), .int .i64 (g.start : Int), .slice (some ⟨b1, o1, none⟩) ng cg] st3 wr ∧ Blk wr brx 75 #[.int .i64 (sl : Int), .slice sA sn sc] ∧ WRow (fun b => BZ ≤ b) wr bw n (p.rule st2 i rhs) ∧ (ag = false → st2 = st) ∧ Prg p st st3 ag (V6 g.rules n k (sl, rhs) i j)) (fun _ q _ => n + 1 - (intOf q).toNat)
                  case atStart => exact ⟨0, st2, ag2, rfl, Nat.zero_le _, rfl, HM6.out, HB5.out, HK5.out, HROW.out, HS2.out, HP5.out⟩
                  case round =>
                    obtain ⟨j, st3, ag3, rfl, hj, rfl, hm3, hb3, hk3, hr3, hs3, hp3⟩ := hrel
                    clear HM6 HB5 HK5 HROW HS2 HP5
                    by_cases hjn : j ≤ n
                    · obtain ⟨⟨xc, xs_, ⟨xA, xn, xcc⟩, xo⟩, hxr, e0, e1, e2, e3⟩ := hr3.at_ hjn
                      simp only at e0 e1 e2 e3
                      have HM3 := Lib.hid hm3
                      have HB3 := Lib.hid (hb3.via ((Below.refl wr.heap.size wr).al (.cells #[.int .i64 xc, .int .i64 xs_, .slice xA xn xcc, .bool xo] 78)))
                      have HK3 := Lib.hid (hk3.al (.cells #[.int .i64 xc, .int .i64 xs_, .slice xA xn xcc, .bool xo] 78))
                      have HR3 := Lib.hid (hr3.al (.cells #[.int .i64 xc, .int .i64 xs_, .slice xA xn xcc, .bool xo] 78))
                      have HXR := Lib.hid (hxr.al (.cells #[.int .i64 xc, .int .i64 xs_, .slice xA xn xcc, .bool xo] 78))
                      have HBX := Lib.hid (Blk.new wr 78 #[.int .i64 xc, .int .i64 xs_, .slice xA xn xcc, .bool xo])
                      have HS3 := Lib.hid hs3
                      have HP3 := Lib.hid hp3
                      have j0 : (0 : Int) ≤ (j : Int) := by omega
                      have j1 : (j : Int) < (n : Int) + 1 := by omega
                      have j2 : (0 : Int) ≤ (i : Int) := by omega
                      have j3 : (i : Int) < (n : Int) + 1 := by omega
                      have j4 : (0 : Int) ≤ (sl : Int) := by omega
                      have j5 : (sl : Int) < (g.nons : Int) := by omega
                      clear hm3 hb3 hk3 hr3 hxr hs3 hp3
                      go_upto_region 32 with fail
                      clear e0 e1 e2 e3
                      generalize wr.alloc (.cells #[.int .i64 xc, .int .i64 xs_, .slice xA xn xcc, .bool xo] 78) = W6 at *
                      generalize wr.heap.size = bxx at *
                      have t1 := HB3.out.bt.top sl hsl
                      have t2 := HB3.out.bt.mid sl i hsl hin
                      obtain ⟨⟨tc, ts, ⟨tA, tn, tcc⟩, tk⟩, htr, d0, d1, d2, d3⟩ := (HB3.out.bt.row sl i hsl hin).at_ hjn
                      simp only at d0 d1 d2 d3
                      have l1 := World.block_lt_of_cell? W6 _ t1
                      have l2 := World.block_lt_of_cell? W6 _ t2
                      have l3 := World.block_lt_of_cell? W6 _ d0
                      simp only at l1 l2 l3
                      have SOF := Lib.hid (show ∀ w', Below W6.heap.size W6 w' → ((∀ i, w'.cell? ⟨bc, i, none⟩ = #[.int .i64 (g.terms : Int), .int .i64 (g.nons : Int), .int .i64 (g.start : Int), .slice (some ⟨b1, o1, none⟩) ng cg, .slice A n c, .int .i64 c0, .int .i64 c1, .int .i64 c2, .slice (some ⟨ob, oo, none⟩) g.nons cv][i]?) ∧ (∀ i, w'.cell? ⟨brx, i, none⟩ = #[.int .i64 (sl : Int), .slice sA sn sc][i]?) ∧ (∀ i, w'.cell? ⟨bxx, i, none⟩ = #[.int .i64 xc, .int .i64 xs_, .slice xA xn xcc, .bool xo][i]?) ∧ w'.cell? ⟨ob, oo + sl, none⟩ = some (.slice (some ⟨rb sl, 0, none⟩) (n + 1) (n + 1)) ∧ w'.cell? ⟨rb sl, i, none⟩ = some (.slice (some ⟨cb sl i, 0, none⟩) (n + 1) (n + 1)) ∧ w'.cell? ⟨cb sl i, j * 4, none⟩ = some (.int .i64 tc) ∧ w'.cell? ⟨cb sl i, j * 4 + 1, none⟩ = some (.int .i64 ts) ∧ w'.cell? ⟨cb sl i, j * 4 + 2, none⟩ = some (.slice tA tn tcc) ∧ w'.cell? ⟨cb sl i, j * 4 + 3, none⟩ = some (.bool tk) ∧ Below W6.heap.size W6 w') from fun w' hb => ⟨(HB3.out.hc.via hb).cell, (HK3.out.via hb).cell, (HBX.out.via hb).cell, (hb.cell (p := ⟨ob, oo + sl, none⟩) l1).trans t1, (hb.cell (p := ⟨rb sl, i, none⟩) l2).trans t2, (hb.cell (p := ⟨cb sl i, j * 4, none⟩) l3).trans d0, (hb.cell (p := ⟨cb sl i, j * 4 + 1, none⟩) l3).trans d1, (hb.cell (p := ⟨cb sl i, j * 4 + 2, none⟩) l3).trans d2, (hb.cell (p := ⟨cb sl i, j * 4 + 3, none⟩) l3).trans d3, hb⟩)
                      have FX := Lib.hid (show ∀ w', Below W6.heap.size W6 w' → WayR (fun b => BZ ≤ b) w' (xc, xs_, (xA, xn, xcc), xo) (p.rule st2 i rhs j) from fun w' hb => HXR.out.via hb)
                      have FT := Lib.hid (show ∀ w', Below W6.heap.size W6 w' → WayR _ w' (tc, ts, (tA, tn, tcc), tk) (st3 sl i j) from fun w' hb => htr.via hb)
                      have HSH := Lib.hid (rule_short HPO.out (fun N i j => HM2.out.bnds HGD1.out HPO.out HMEM.out N i j) i rhs j)
                      have hb0 := (Below.refl W6.heap.size W6).drew
                      clear t1 t2 d0 d1 d2 d3 l1 l2 l3 htr
                      cases hles : lessW (p.rule st2 i rhs j) (st3 sl i j) with
                      | true =>
                        have HLES := Lib.hid hles
                        clear hles
                        go_region_held3 (fun w' => (∀ i, w'.cell? ⟨bc, i, none⟩ = #[.int .i64 (g.terms : Int), .int .i64 (g.nons : Int), .int .i64 (g.start : Int), .slice (some ⟨b1, o1, none⟩) ng cg, .slice A n c, .int .i64 c0, .int .i64 c1, .int .i64 c2, .slice (some ⟨ob, oo, none⟩) g.nons cv][i]?) ∧ (∀ i, w'.cell? ⟨brx, i, none⟩ = #[.int .i64 (sl : Int), .slice sA sn sc][i]?) ∧ (∀ i, w'.cell? ⟨bxx, i, none⟩ = #[.int .i64 xc, .int .i64 xs_, .slice xA xn xcc, .bool xo][i]?) ∧ w'.cell? ⟨ob, oo + sl, none⟩ = some (.slice (some ⟨rb sl, 0, none⟩) (n + 1) (n + 1)) ∧ w'.cell? ⟨rb sl, i, none⟩ = some (.slice (some ⟨cb sl i, 0, none⟩) (n + 1) (n + 1)) ∧ w'.cell? ⟨cb sl i, j * 4, none⟩ = some (.int .i64 tc) ∧ w'.cell? ⟨cb sl i, j * 4 + 1, none⟩ = some (.int .i64 ts) ∧ w'.cell? ⟨cb sl i, j * 4 + 2, none⟩ = some (.slice tA tn tcc) ∧ w'.cell? ⟨cb sl i, j * 4 + 3, none⟩ = some (.bool tk) ∧ Below W6.heap.size W6 w') (exact SOF.out _ (by assumption)) (first
                          | (go_at_call 29; (with_reducible refine (less_b _ _ xc xs_ xA xn xcc xo tc ts tA tn tcc tk (p.rule st2 i rhs j) (st3 sl i j) true _ (FX.out _ (by assumption)) (FT.out _ (by assumption)) HSH.out HLES.out).mono ?_); rintro ee wl ⟨rfl, hbl⟩; have hbz : Below W6.heap.size W6 wl := Below.via (by assumption) hbl))
                        obtain ⟨s1, s2, s3, s4, s5, s6, s7, s8, s9, -⟩ := SOF.out wl hbz
                        have HB7 := Lib.hid (HB3.out.via hbz)
                        have HK7 := Lib.hid (HK3.out.via hbz)
                        have HR7 := Lib.hid (HR3.out.via hbz)
                        have HX7 := Lib.hid (FX.out wl hbz)
                        have fr := (HB7.out.bt.row sl i hsl hin).frozen
                        have HLC := Lib.hid (HST.out.lc sl i hsl hin)
                        clear hb0 hbl hbz SOF FX FT HB3 HK3 HR3 HXR HBX
                        go_upto_region 33 with fail
                        go_region
                        have hlc := HLC.out
                        have HWB := Lib.hid (show bw ≠ cb sl i by have := HBW.out; omega)
                        have HXB := Lib.hid (show brx ≠ cb sl i by omega)
                        have HZB := Lib.hid (show ∀ x, BZ ≤ x → x ≠ cb sl i from fun x hx => by omega)
                        have HB8 := Lib.hid ((HB7.out.put HST.out hsl hin hjn HX7.out).dr)
                        have HK8 := Lib.hid (show Blk (World.put4 wl (cb sl i) (j * 4) (xc, xs_, (xA, xn, xcc), xo)).drew brx 75 #[.int .i64 (sl : Int), .slice sA sn sc] from (heap_put4 HXB.out).trans HK7.out)
                        have HR8 := Lib.hid ((HR7.out.agr (heap_put4 (o := j * 4) (v := (xc, xs_, (xA, xn, xcc), xo)) HWB.out) (agr_put4 HZB.out)).dr)
                        have HM8 := Lib.hid (show Mid p st1 (sl, rhs) i (j + 1) (updS st3 sl i j (p.rule st2 i rhs j)) from Mid.put HPO.out HMEM.out HGD1.out HM2.out HM3.out (by rw [HPN.out]; exact hin) HLES.out)
                        have HP8 := Lib.hid (show Prg p st (updS st3 sl i j (p.rule st2 i rhs j)) true (V6 g.rules n k (sl, rhs) i (j + 1)) from Prg.put HPO.out HMEM.out HGD1.out HM2.out HM3.out HP3.out (by rw [HPN.out]; exact hin) (by rw [HPN.out]; exact hjn) HLES.out)
                        clear s1 s2 s3 s4 s5 s6 s7 s8 s9 fr hlc
                        simp only [World.put4] at HB8 HK8 HR8
                        go_wp2_with fail
                        exact ⟨⟨j + 1, updS st3 sl i j (p.rule st2 i rhs j), true, by go_num, by omega, rfl, HM8.out, HB8.out, HK8.out, HR8.out, fun h => (by cases h), HP8.out⟩, by simp [intOf]; omega⟩
                      | false =>
                        have HLES := Lib.hid hles
                        clear hles
                        go_region_held3 (fun w' => (∀ i, w'.cell? ⟨bc, i, none⟩ = #[.int .i64 (g.terms : Int), .int .i64 (g.nons : Int), .int .i64 (g.start : Int), .slice (some ⟨b1, o1, none⟩) ng cg, .slice A n c, .int .i64 c0, .int .i64 c1, .int .i64 c2, .slice (some ⟨ob, oo, none⟩) g.nons cv][i]?) ∧ (∀ i, w'.cell? ⟨brx, i, none⟩ = #[.int .i64 (sl : Int), .slice sA sn sc][i]?) ∧ (∀ i, w'.cell? ⟨bxx, i, none⟩ = #[.int .i64 xc, .int .i64 xs_, .slice xA xn xcc, .bool xo][i]?) ∧ w'.cell? ⟨ob, oo + sl, none⟩ = some (.slice (some ⟨rb sl, 0, none⟩) (n + 1) (n + 1)) ∧ w'.cell? ⟨rb sl, i, none⟩ = some (.slice (some ⟨cb sl i, 0, none⟩) (n + 1) (n + 1)) ∧ w'.cell? ⟨cb sl i, j * 4, none⟩ = some (.int .i64 tc) ∧ w'.cell? ⟨cb sl i, j * 4 + 1, none⟩ = some (.int .i64 ts) ∧ w'.cell? ⟨cb sl i, j * 4 + 2, none⟩ = some (.slice tA tn tcc) ∧ w'.cell? ⟨cb sl i, j * 4 + 3, none⟩ = some (.bool tk) ∧ Below W6.heap.size W6 w') (exact SOF.out _ (by assumption)) (first
                          | (go_at_call 29; (with_reducible refine (less_b _ _ xc xs_ xA xn xcc xo tc ts tA tn tcc tk (p.rule st2 i rhs j) (st3 sl i j) false _ (FX.out _ (by assumption)) (FT.out _ (by assumption)) HSH.out HLES.out).mono ?_); rintro ee wl ⟨rfl, hbl⟩; have hbz : Below W6.heap.size W6 wl := Below.via (by assumption) hbl))
                        have HB7 := Lib.hid (HB3.out.via hbz)
                        have HK7 := Lib.hid (HK3.out.via hbz)
                        have HR7 := Lib.hid (HR3.out.via hbz)
                        have HM7 := Lib.hid (Mid.skip HGD1.out HM2.out HM3.out HLES.out)
                        have HP7 := Lib.hid (show Prg p st st3 ag3 (V6 g.rules n k (sl, rhs) i (j + 1)) from Prg.skip (r := (sl, rhs)) (i := i) (j := j) HP3.out HS3.out HLES.out fun r' i' j' h => by
                          rcases h with h | ⟨h1, h2, h3, h4⟩
                          · exact Or.inl (Or.inl h)
                          · by_cases e : i' = i ∧ j' = j
                            · exact Or.inr ⟨h1, e.1, e.2⟩
                            · exact Or.inl (Or.inr ⟨h1, h2, h3, by omega⟩))
                        clear hb0 hbl hbz SOF FX FT HB3 HK3 HR3 HXR HBX
                        go_wp2_with fail
                        exact ⟨⟨j + 1, st3, ag3, by go_num, by omega, rfl, HM7.out, HB7.out, HK7.out, HR7.out, HS3.out, HP7.out⟩, by simp [intOf]; omega⟩
                    · have HJN := Lib.hid (show j = n + 1 by omega)
                      have HM7 := Lib.hid (show Mid p st1 (sl, rhs) (i + 1) 0 st3 from Mid.row (by rw [HPN.out, ← HJN.out]; exact hm3))
                      have HP7 := Lib.hid (show Prg p st st3 ag3 (V6 g.rules n k (sl, rhs) (i + 1) 0) from Prg.mono hp3 fun r' i' j' h => by
                        have := HJN.out
                        rcases h with h | ⟨h1, h2, h3, h4⟩
                        · exact Or.inl h
                        · exact Or.inr ⟨h1, h2, h3, by omega⟩)
                      have HB7 := Lib.hid hb3
                      have HK7 := Lib.hid hk3
                      clear hm3 hb3 hk3 hr3 hs3 hp3
                      go_wp2_with fail
                      exact ⟨⟨i + 1, st3, ag3, by go_num, by omega, rfl, HM7.out, HB7.out, HK7.out, HP7.out⟩, by simp [intOf]; omega⟩
                · have HIN := Lib.hid (show i = n + 1 by omega)
                  have HG7 := Lib.hid (show Good p st2 from Mid.end_ HPO.out HMEM.out HGD1.out (by rw [HPN.out, ← HIN.out]; exact hmid))
                  have HP7 := Lib.hid (show Prg p st st2 ag2 (V4 g.rules n (k + 1)) from Prg.mono hpg2 fun r' i' j' h => by
                    obtain ⟨⟨k', hk', hr'⟩, h2, h3⟩ := h
                    have := HIN.out
                    by_cases e : k' = k
                    · subst e
                      rw [HY.out] at hr'
                      exact Or.inr ⟨(Option.some.inj hr').symm, h2, h3, by omega⟩
                    · exact Or.inl ⟨⟨k', by omega, hr'⟩, h2, h3⟩)
                  have HB7 := Lib.hid hbr2
                  clear hmid hbr2 hbk hpg2
                  go_wp2_with fail
                  exact ⟨⟨k + 1, st2, ag2, by go_num, by omega, rfl, HG7.out, HB7.out, HP7.out⟩, by simp [intOf]; omega⟩
            · have HKN := Lib.hid (show k = ng by omega)
              have HG8 := Lib.hid hgd1
              have HB8 := Lib.hid hbr1
              have HP8 := Lib.hid hpg1
              clear hgd1 hbr1 hpg1
              go_wp2_with fail
              go_roundg (2 * total big 8 p.nons p.w.length st1 + (if ag then 1 else 0))
              case measure =>
                rw [HGK.out]
                cases ag with
                | false => obtain ⟨rfl, -⟩ := HP8.out.no rfl; simp
                | true => have := HP8.out.yes rfl; simp; omega
              case rel =>
                refine ⟨st1, ag, rfl, HG8.out, HB8.out, fun ha => ?_, rfl⟩
                obtain ⟨rfl, hv⟩ := HP8.out.no ha
                intro r hr i j hij hjn
                rw [HPR.out] at hr
                rw [HPN.out] at hjn
                obtain ⟨k', hk', e⟩ := List.getElem_of_mem hr
                exact hv r i j ⟨⟨k', by rw [HKN.out, ← HNG.out]; exact hk', by rw [List.getElem?_eq_getElem hk', e]⟩, hij, hjn⟩
end Go.Proofs.Ytghnkgbingcbcaa




namespace Go.Proofs.Ytghnkgbingcbcaa
open Go.RowKit

def listG : Gr := ⟨1, 1, 0, [(0, [(false, 0), (true, 0)]), (0, [(true, 0)])]⟩
def ListGP (w : World) (e : Ending) (w' : World) : Prop := ∃ A, e = .returned (grVal listG A 2 2) ∧ Sl RuE (fun _ => True) w' A 2 2 listG.rules ∧ Below w.heap.size w w'
theorem Sl.ofBlk {α ρ : Type} {E : Elem α ρ} {ok : Nat → Prop} {w : World} {b n : Nat} {t : TypeId} {cs : Array Value} {l : List α} (h : Blk w b t cs) (raw : List ρ) (hcs : cs.toList = flat E raw) (hl : l.length = n) (hr : raw.length = n) (hok : ok b)
    (hrel : ∀ (i : Nat) (r : ρ) (x : α), raw[i]? = some r → l[i]? = some x → E.rel ok w r x) : Sl E ok w (some ⟨b, 0, none⟩) n n l :=
  ⟨hl, Nat.le_refl _, raw, hr, fun _ => ⟨b, 0, rfl, hok, fun j u hu => by rw [Nat.zero_add, h.cell]; rw [← hcs] at hu; simpa using hu⟩, hrel⟩
set_option maxRecDepth 100000 in
set_option maxHeartbeats 1000000 in
theorem list_c (w : World) : Calls Try.prog 7 #[] w (ListGP w) := by
  go_enter Try.func7, Try.ntmps7
  go_wp2_with fail
  obtain ⟨w1, hw1⟩ : ∃ w1, w1 = (w.alloc (.cells #[.int .i64 1, .int .i64 1, .int .i64 0, .slice (some ⟨w.heap.size + 1 + 1 + 1 + 1, 0, none⟩) 2 2] 28)).alloc (.cells #[.bool true, .int .i64 0] 48) := ⟨_, rfl⟩
  have hz : w1.heap.size = w.heap.size + 1 + 1 := by rw [hw1]; simp
  have hb1 : Below w.heap.size w w1 := by rw [hw1]; exact ((Below.refl _ _).al _).al _
  rw [← hw1]
  have b2 := ((Blk.new w1 48 #[.bool false, .int .i64 0, .bool true, .int .i64 0]).al (.cells #[.bool true, .int .i64 0] 48)).al (.cells #[.int .i64 0, .slice (some ⟨w.heap.size + 1 + 1, 0, none⟩) 2 2, .int .i64 0, .slice (some ⟨w.heap.size + 1 + 1 + 1, 0, none⟩) 1 1] 75)
  have b3 := (Blk.new (w1.alloc (.cells #[.bool false, .int .i64 0, .bool true, .int .i64 0] 48)) 48 #[.bool true, .int .i64 0]).al (.cells #[.int .i64 0, .slice (some ⟨w.heap.size + 1 + 1, 0, none⟩) 2 2, .int .i64 0, .slice (some ⟨w.heap.size + 1 + 1 + 1, 0, none⟩) 1 1] 75)
  have b4 := Blk.new ((w1.alloc (.cells #[.bool false, .int .i64 0, .bool true, .int .i64 0] 48)).alloc (.cells #[.bool true, .int .i64 0] 48)) 75 #[.int .i64 0, .slice (some ⟨w.heap.size + 1 + 1, 0, none⟩) 2 2, .int .i64 0, .slice (some ⟨w.heap.size + 1 + 1 + 1, 0, none⟩) 1 1]
  simp only [World.size_alloc, hz] at b2 b3 b4
  refine bodyPost_ret (v := .agg #[.int .i64 1, .int .i64 1, .int .i64 0, .slice (some ⟨w.heap.size + 1 + 1 + 1 + 1, 0, none⟩) 2 2]) ?_ rfl ⟨some ⟨w.heap.size + 1 + 1 + 1 + 1, 0, none⟩, rfl, ?_, ((hb1.al _).al _).al _⟩
  · rw [hw1]; simp [results, Try.results7, go_sem]
  · generalize ((w1.alloc (.cells #[.bool false, .int .i64 0, .bool true, .int .i64 0] 48)).alloc (.cells #[.bool true, .int .i64 0] 48)).alloc (.cells #[.int .i64 0, .slice (some ⟨w.heap.size + 1 + 1, 0, none⟩) 2 2, .int .i64 0, .slice (some ⟨w.heap.size + 1 + 1 + 1, 0, none⟩) 1 1] 75) = W at *
    refine Sl.ofBlk b4 [(0, some ⟨w.heap.size + 1 + 1, 0, none⟩, 2, 2), (0, some ⟨w.heap.size + 1 + 1 + 1, 0, none⟩, 1, 1)] rfl rfl rfl trivial fun i r x hr hx => ?_
    match i, hr, hx with
    | 0, hr, hx =>
      simp [listG] at hr hx; subst hr; subst hx
      exact ⟨rfl, Sl.ofBlk b2 [(false, 0), (true, 0)] rfl rfl rfl trivial fun i r x hr hx => Option.some.inj (hr.symm.trans hx)⟩
    | 1, hr, hx =>
      simp [listG] at hr hx; subst hr; subst hx
      exact ⟨rfl, Sl.ofBlk b3 [(true, 0)] rfl rfl rfl trivial fun i r x hr hx => Option.some.inj (hr.symm.trans hx)⟩
    | i + 2, hr, hx => simp at hr

/-! ### plain facts -/
theorem listG_ok : GrOk listG := by
  refine ⟨⟨by simp [listG], by simp [listG], by simp [listG], by simp [listG], ?_, ?_⟩, by simp [listG]⟩
  · intro r hr; simp [listG] at hr; rcases hr with rfl | rfl <;> simp [listG]
  · intro r hr; simp [listG] at hr
    rcases hr with rfl | rfl
    · refine ⟨by simp, fun s hs => ?_⟩; simp at hs; rcases hs with rfl | rfl <;> simp [Gr.okSy, listG]
    · refine ⟨by simp, fun s hs => ?_⟩; simp at hs; subst hs; simp [Gr.okSy, listG]
theorem Dv.ne {rules : List Ru} (hr : ∀ r ∈ rules, r.2 ≠ []) {l : List Sy} {v : List Int} (h : Dv rules l v) : l ≠ [] → v ≠ [] := by
  induction h with
  | nil => intro h; exact absurd rfl h
  | term t _ _ => intro _; simp
  | non N hm h1 h2 ih1 _ => intro _; have := ih1 (hr _ hm); simp [this]
theorem MadeG.grOk {g : Gr} (h : MadeG g) : GrOk g :=
  ⟨⟨⟨h.terms.1, by have := h.terms.2; omega⟩, ⟨h.nons.1, by have := h.nons.2; omega⟩, h.start, by have := h.count; omega, fun r hr => (h.ok r hr).1, fun r hr => ⟨by have := (h.ok r hr).2.1; omega, fun s hs => (h.ok r hr).2.2 s hs⟩⟩, h.nodup⟩
theorem Der.dv {g : Gr} {s : Sy} {t : Tr} (h : Der g s t) : Dv g.rules [s] (t.word.map fun i : Nat => (i : Int)) := by
  induction h with
  | leaf t => exact Dv.letter t
  | node r N rhs ks hr hl _ ih =>
    have key : ∀ (rhs : List Sy) (ks : List Tr), ks.length = rhs.length → (∀ (j : Nat) (s : Sy) (t : Tr), rhs[j]? = some s → ks[j]? = some t → Dv g.rules [s] (t.word.map fun i : Nat => (i : Int))) → Dv g.rules rhs ((Tr.words ks).map fun i : Nat => (i : Int)) := by
      intro rhs
      induction rhs with
      | nil => intro ks hl _; rw [List.length_eq_zero_iff.1 hl]; exact .nil
      | cons s rhs ih2 =>
        intro ks hl h
        cases ks with
        | nil => simp at hl
        | cons t ks =>
          have h1 := h 0 s t rfl rfl
          have h2 := ih2 ks (by simpa using hl) fun j s' t' hs ht => h (j + 1) s' t' (by simpa using hs) (by simpa using ht)
          have := h1.append h2
          simpa [Tr.words] using this
    rw [Tr.word]
    exact Dv.one (List.mem_of_getElem? hr) (key rhs ks hl ih)
/-- what Best says of the grammar list and the empty word, each operation at 2 -/
theorem best_list {w : World} {e : Ending} {w' : World} (h : BestP w ⟨2, 2, 2, 1, listG.rules, []⟩ 0 e w') : ∃ A n c, e = .returned (.tuple #[.int .i64 2, .slice A n c, .int .i64 0]) ∧ Below w.heap.size w w' := by
  obtain ⟨st, hg, hf, hb, h⟩ := h
  have hd : Dv listG.rules [(false, 0)] [0] := Dv.one (rhs := [(true, 0)]) (by simp [listG]) (Dv.letter 0)
  have ha : Al (2 : Int) 2 2 [] [0] 2 := Al.ins 0 .nil
  obtain ⟨h1, h2⟩ := hf.least hd ha
  obtain ⟨-, -, v, h3, h4, h5, -⟩ := hg.snd 0 0 0 h1
  have hne := h3.ne (fun r hr => by simp [listG] at hr; rcases hr with rfl | rfl <;> simp) (by simp)
  have hcost : (st 0 0 0).cost = 2 * (v.length : Int) := by
    have : ∀ (v : List Int) (k : Int), Al (2 : Int) 2 2 [] v k → k = 2 * (v.length : Int) := by
      intro v
      induction v with
      | nil => intro k h; cases h; rfl
      | cons x v ih => intro k h; cases h with | ins _ h => rw [ih _ h]; simp; omega
    exact this v _ h4
  have hvl : 1 ≤ v.length := by
    rcases Nat.eq_zero_or_pos v.length with e | e
    · exact absurd (List.length_eq_zero_iff.1 e) hne
    · exact e
  have k1 : (st 0 0 0).ok = true := h1
  have k2 : (st 0 0 0).cost ≤ 2 := h2
  have k5 : (st 0 0 0).size = (v.length : Int) := h5
  rcases h with ⟨_, h⟩ | ⟨_, _, h⟩ | ⟨A, n, c, rfl, _, _, _⟩
  · rw [show (st 0 0 0).ok = false from h] at k1; cases k1
  · have k6 : 2000 < (st 0 0 0).size := h
    omega
  · refine ⟨A, n, c, ?_, hb⟩
    show Ending.returned (.tuple #[.int .i64 (st 0 0 0).cost, .slice A n c, .int .i64 0]) = _
    rw [show (st 0 0 0).cost = 2 by omega]
end Go.Proofs.Ytghnkgbingcbcaa

