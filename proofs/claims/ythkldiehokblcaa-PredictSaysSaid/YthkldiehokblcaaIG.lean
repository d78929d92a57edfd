/- Texts IG, laid together. -/
import Derived.Test.YthkldiehokblcaaMF
import Derived.Test.YthkldiehokblcaaC1
import Derived.Maps.RangeWalk




namespace Go.Proofs.Ythkldiehokblcaa
open Go.RowKit
open Go.MapKept
open Go.ChangeMaps (setBlock heap_setBlock_same heap_setBlock_other)
open Go.WideElems (Fit rd rg rd_key rd_mk other_key)

def kn (n : Nat) : Value := .int .i64 (n : Int)
theorem kn_inj (x y : Nat) (h : kn x = kn y) : x = y := by
  unfold kn at h
  injection h with _ h
  omega
theorem kn_key (n : Nat) (h : n < 1000) : keyOf Try.prog 3 (kn n) = some (.int .i64 (n : Int)) :=
  Maps.keyOf_int_mk Try.underlying3 (by
    have hmin : IntKind.i64.min = -9223372036854775808 := rfl
    have hmax : IntKind.i64.max = 9223372036854775807 := rfl
    simp only [Lit.wf, Bool.and_eq_true, decide_eq_true_eq]; omega)
theorem mib_keyed : Maps.Keyed Try.prog 3 := Maps.int_keyed Try.underlying3
/-- block b is the map that is true at just the numbers of f -/
def SetM (w : World) (b : Nat) (f : Nat → Bool) : Prop := MapK Try.prog 3 kn w b (fun n => if f n then some (.bool true) else none) ∧ ∀ n, f n = true → n < 100
section
variable {w w' : World} {b : Nat} {f : Nat → Bool}
theorem SetM.lt (h : SetM w b f) : b < w.heap.size := h.1.lt
theorem SetM.agr_ (h : SetM w b f) (e : w'.heap[b]? = w.heap[b]?) : SetM w' b f := ⟨h.1.agr_ e, h.2⟩
theorem SetM.via (h : SetM w b f) (hb : Below w.heap.size w w') : SetM w' b f := h.agr_ (hb.block b h.lt)
theorem SetM.grown {row : Option Nat} (h : SetM w b f) (hb : w.grownBy w' row) (hg : some b ≠ row) : SetM w' b f := h.agr_ (hb.block b h.lt hg)
theorem SetM.ext {g : Nat → Bool} (h : SetM w b f) (e : ∀ n, f n = g n) : SetM w b g := by rw [← funext e]; exact h
theorem SetM.made (w : World) : SetM (w.alloc (.map #[] 0)) w.heap.size (fun _ => false) := ⟨(MapK.made w _ _ _).ext fun y => by simp, fun _ h => by cases h⟩
theorem SetM.look (h : SetM w b f) (n : Nat) (hn : n < 1000) : (Instr.lookup 79 (.map (some b)) (.int .i64 (n : Int)) false).run Try.prog w = .ok (.bool (f n)) w := by
  have := h.1.look false mib_keyed Try.underlying79 (z := .bool false) (by kernel_rfl) n (kn_key n hn)
  simp only [Bool.false_eq_true, if_false] at this
  rw [show (.int .i64 (n : Int) : Value) = kn n from rfl, this]
  cases f n <;> rfl
theorem SetM.put (h : SetM w b f) (n : Nat) (hn : n < 100) : ∃ w', (Instr.mapUpdate 79 (.map (some b)) (.int .i64 (n : Int)) (.bool true)).run Try.prog w = .ok () w' ∧ SetM w' b (fun k => f k || k == n) ∧ w.grownBy w' (some b) ∧ w'.heap.size = w.heap.size := by
  obtain ⟨w', h1, h2, h3, h4⟩ := h.1.store mib_keyed Try.underlying79 kn_inj n (.bool true) (kn_key n (by omega)) (fun es clock he => Nat.lt_of_le_of_lt (h.1.room id 100 (fun y hy => h.2 y (by by_cases hf : f y = true; exact hf; rw [if_neg hf] at hy; exact absurd rfl hy)) (fun x y _ _ e => e) es clock he) (by simp [maxLen]))
  refine ⟨w', h1, ⟨h2.ext fun y => ?_, fun k hk => ?_⟩, h3, h4⟩
  · by_cases hy : y = n
    · subst hy; simp
    · have : (y == n) = false := by simpa using hy
      simp [hy, this]
  · simp only [Bool.or_eq_true, beq_iff_eq] at hk
    rcases hk with hk | hk
    · exact h.2 k hk
    · omega
/-- storing what is there turns nothing -/
theorem SetM.again (h : SetM w b f) (n : Nat) (hf : f n = true) : (Instr.mapUpdate 79 (.map (some b)) (.int .i64 (n : Int)) (.bool true)).run Try.prog w = .ok () w := by
  have hn := h.2 n hf
  obtain ⟨es, clock, hb, F, hk, hff0⟩ := h.1
  have hff : ∀ (y : Nat) (v : Value), (if f y = true then some (Value.bool true) else none) = some v ↔ ∃ x ∈ es.toList, x.key = kn y ∧ x.val = v := hff0
  have hkey := kn_key n (by omega)
  obtain ⟨x, hx, hx1, hx2⟩ := (hff n (.bool true)).1 (by rw [if_pos hf])
  rcases mib_keyed.find w hkey es.toList F.keys with ⟨h1, h2⟩ | ⟨j, e0, h1, h2, h3⟩
  · exact absurd hx1 (h2 x hx)
  · have hj : es[j]? = some e0 := by simpa using h2
    have he0 : e0 ∈ es.toList := List.mem_of_getElem? h2
    have hv : e0.val = .bool true := by
      have := (hff n e0.val).2 ⟨e0, he0, h3, rfl⟩
      rw [if_pos hf] at this
      exact (Option.some.inj this).symm
    have hrun : (Instr.mapUpdate 79 (.map (some b)) (kn n) (.bool true)).run Try.prog w = .ok () (setBlock w b (.map (es.modify j (fun e' => { e' with key := kn n, val := .bool true })) clock)) := by
      simp [Instr.mapUpdate, run_underlying Try.underlying79, MapKept.run_getObj_map hb, mib_keyed.check w false hkey, h1, hj, h3, mib_keyed.stays w hkey, MapKept.run_setObj_map _ hb, Result.andThen, setBlock]
    have hes : es.modify j (fun e' => { e' with key := kn n, val := .bool true }) = es := by
      apply Array.toList_inj.1
      rw [Array.toList_modify, ChangeMaps.modify_eq_set _ _ _ _ h2]
      have : ({ e0 with key := kn n, val := .bool true } : MapEntry) = e0 := by
        cases e0; simp only at h3 hv; subst h3; subst hv; rfl
      rw [this]
      obtain ⟨hl, he⟩ := List.getElem?_eq_some_iff.1 h2
      conv => lhs; rw [← he]
      exact List.set_getElem_self hl
    rw [hes] at hrun
    have hw : setBlock w b (.map es clock) = w := by
      unfold setBlock
      have hlt := (Array.getElem?_eq_some_iff.1 hb)
      have : w.heap.setIfInBounds b (.map es clock) = w.heap := by
        apply Array.ext_getElem?
        intro i
        rw [Array.getElem?_setIfInBounds]
        split
        · rename_i e; subst e; rw [hb]; simp [hlt.1]
        · rfl
      rw [this]
    rw [hw] at hrun
    exact hrun
end
/-- block r is an iterator over the set in block bm; what is still to come -/
def RngS (w : World) (r bm : Nat) (left : Nat → Bool) (cnt : Nat) : Prop :=
  ∃ since seen c0 es clock, w.heap[r]? = some (.mapIter (some bm) since seen c0) ∧ w.heap[bm]? = some (.map es clock) ∧ (∀ x ∈ es.toList, x.born < since) ∧ since ≤ c0 ∧ since ≤ clock ∧ (es.toList.map (·.born)).Nodup ∧ (∀ x ∈ es.toList, ∀ y ∈ es.toList, x.key = y.key → x = y) ∧
    (∀ x ∈ es.toList, ∃ n : Nat, n < 100 ∧ x.key = kn n ∧ x.val = .bool true) ∧ (∀ n, left n = true ↔ ∃ x ∈ (leftOf es seen).toList, x.key = kn n) ∧ (leftOf es seen).size = cnt
/-- how many entries the iterator in block r has still to hand out -/
def World.rngLeft (w : World) (r : Nat) : Nat := match w.heap[r]? with
  | some (.mapIter (some bm) _ seen _) => match w.heap[bm]? with
    | some (.map es _) => (leftOf es seen).size
    | _ => 0
  | _ => 0
section
variable {w w' : World} {r bm cnt : Nat} {left : Nat → Bool}
theorem RngS.left_eq (h : RngS w r bm left cnt) : World.rngLeft w r = cnt := by
  obtain ⟨since, seen, c0, es, clock, h1, h2, -, -, -, -, -, -, -, h3⟩ := h
  unfold World.rngLeft
  rw [h1]
  simp only [h2]
  exact h3
theorem RngS.lt (h : RngS w r bm left cnt) : r < w.heap.size ∧ bm < w.heap.size := by
  obtain ⟨since, seen, c0, es, clock, h1, h2, -⟩ := h
  exact ⟨(Array.getElem?_eq_some_iff.1 h1).1, (Array.getElem?_eq_some_iff.1 h2).1⟩
theorem RngS.agr_ (h : RngS w r bm left cnt) (e1 : w'.heap[r]? = w.heap[r]?) (e2 : w'.heap[bm]? = w.heap[bm]?) : RngS w' r bm left cnt := by
  obtain ⟨since, seen, c0, es, clock, h1, h2, h3⟩ := h
  exact ⟨since, seen, c0, es, clock, e1.trans h1, e2.trans h2, h3⟩
theorem RngS.via (h : RngS w r bm left cnt) (hb : Below w.heap.size w w') : RngS w' r bm left cnt := h.agr_ (hb.block r h.lt.1) (hb.block bm h.lt.2)
theorem RngS.grown {row : Option Nat} (h : RngS w r bm left cnt) (hb : w.grownBy w' row) (h1 : some r ≠ row) (h2 : some bm ≠ row) : RngS w' r bm left cnt := h.agr_ (hb.block r h.lt.1 h1) (hb.block bm h.lt.2 h2)
theorem SetM.range {b : Nat} {f : Nat → Bool} (h : SetM w b f) : ∃ w', (Instr.range 79 (.map (some b))).run Try.prog w = .ok (.pointer (some ⟨w.heap.size, 0, none⟩)) w' ∧ (∃ cnt, RngS w' w.heap.size b f cnt) ∧ Below w.heap.size w w' ∧ w'.heap.size = w.heap.size + 1 := by
  obtain ⟨es, clock, hb, F, hk, hff0⟩ := h.1
  have hff : ∀ (y : Nat) (v : Value), (if f y = true then some (Value.bool true) else none) = some v ↔ ∃ x ∈ es.toList, x.key = kn y ∧ x.val = v := hff0
  have hst := F.stamped
  refine ⟨_, run_range_map w _ _ _ b es clock Try.underlying79 hb, ⟨_, clock, #[], clock, es, clock, by rw [heap_alloc_new], by rw [heap_alloc_old w _ (Array.getElem?_eq_some_iff.1 hb).1, hb], hst.1, Nat.le_refl _, Nat.le_refl _, hst.2.1, ?_, ?_, ?_, rfl⟩, (Below.refl _ _).alloc (Nat.le_refl _) _, by simp⟩
  · have hp : es.toList.Pairwise (fun x y => x.key ≠ y.key) := ((stamped_iff es clock).1 hst).2.2
    intro x hx y hy e
    obtain ⟨i, hi⟩ := List.mem_iff_getElem?.1 hx
    obtain ⟨j, hj⟩ := List.mem_iff_getElem?.1 hy
    obtain ⟨hil, hi⟩ := List.getElem?_eq_some_iff.1 hi
    obtain ⟨hjl, hj⟩ := List.getElem?_eq_some_iff.1 hj
    rcases Nat.lt_trichotomy i j with hij | hij | hij
    · exact absurd (by rw [hi, hj]; exact e) (List.pairwise_iff_getElem.1 hp i j hil hjl hij)
    · subst hij; exact hi.symm.trans hj
    · exact absurd (by rw [hi, hj]; exact e.symm) (List.pairwise_iff_getElem.1 hp j i hjl hil hij)
  · intro x hx
    obtain ⟨n, hn⟩ := hk x hx
    have h1 := (hff n x.val).2 ⟨x, hx, hn, rfl⟩
    by_cases hf : f n = true
    · rw [if_pos hf] at h1
      exact ⟨n, h.2 n hf, hn, (Option.some.inj h1).symm⟩
    · rw [if_neg hf] at h1; cases h1
  · intro n
    constructor
    · intro hf
      obtain ⟨x, hx, h1, -⟩ := (hff n (.bool true)).1 (by rw [if_pos hf])
      exact ⟨x, by simpa [leftOf] using hx, h1⟩
    · rintro ⟨x, hx, h1⟩
      have hx' : x ∈ es.toList := by simpa [leftOf] using hx
      have h2 := (hff n x.val).2 ⟨x, hx', h1, rfl⟩
      by_cases hf : f n = true
      · exact hf
      · rw [if_neg hf] at h2; cases h2
theorem sb_same {w : World} {r : Nat} {o o' : Obj} (h : w.heap[r]? = some o) : (setBlock w r o').heap[r]? = some o' := by
  unfold setBlock
  have := (Array.getElem?_eq_some_iff.1 h).1
  simp [this]
theorem sb_other {w : World} {r i : Nat} {o' : Obj} (h : i ≠ r) : (setBlock w r o').heap[i]? = w.heap[i]? := by
  unfold setBlock
  simp [Ne.symm h]
theorem RngS.next (h : RngS w r bm left cnt) (hne : r ≠ bm) (ty : TypeId) : ((∀ n, left n = false) ∧ (Instr.next (.pointer (some ⟨r, 0, none⟩)) false ty).run Try.prog w = .ok (.tuple #[.bool false]) w) ∨
    ∃ (n : Nat) (w' : World) (cnt' : Nat), left n = true ∧ n < 100 ∧ (Instr.next (.pointer (some ⟨r, 0, none⟩)) false ty).run Try.prog w = .ok (.tuple #[.bool true, .int .i64 (n : Int), .bool true]) w' ∧ RngS w' r bm (fun k => left k && k != n) cnt' ∧ cnt' < cnt ∧ w.grownBy w' (some r) ∧ w'.heap.size = w.heap.size ∧
      (Instr.entry (.pointer (some ⟨r, 0, none⟩))).run Try.prog w' = .ok (.tuple #[.int .i64 (n : Int), .bool true]) w' := by
  obtain ⟨since, seen, c0, es, clock, h1, h2, h3, h4, h5, h6, h7, h8, h9, h10⟩ := h
  rcases run_next_at (P := Try.prog) w ty r bm since c0 seen es clock h1 h2 h3 h4 with ⟨h0, hrun⟩ | ⟨e, he, w1, hw1, hrun⟩
  · refine Or.inl ⟨fun n => ?_, hrun⟩
    cases hl : left n with
    | false => rfl
    | true =>
      obtain ⟨x, hx, -⟩ := (h9 n).1 hl
      rw [Array.eq_empty_of_size_eq_zero h0] at hx
      simp at hx
  · have hee : e ∈ es.toList := by
      simp [leftOf] at he ⊢; exact he.1
    obtain ⟨n, hn100, hnk, hnv⟩ := h8 e hee
    have hl : left n = true := (h9 n).2 ⟨e, he, hnk⟩
    have hw1h : w1.heap = w.heap := by rcases hw1 with rfl | rfl <;> rfl
    have g1 : w1.heap[r]? = some (.mapIter (some bm) since seen c0) := by rw [hw1h]; exact h1
    have g2 : w1.heap[bm]? = some (.map es clock) := by rw [hw1h]; exact h2
    have k1 : (setBlock w1 r (.mapIter (some bm) since (seen.push e.born) clock)).heap[r]? = some (.mapIter (some bm) since (seen.push e.born) clock) := sb_same g1
    have k2 : (setBlock w1 r (.mapIter (some bm) since (seen.push e.born) clock)).heap[bm]? = some (.map es clock) := (sb_other (Ne.symm hne)).trans g2
    have hin : ∀ x, x ∈ (leftOf es (seen.push e.born)).toList ↔ x ∈ (leftOf es seen).toList ∧ x.born ≠ e.born := by
      intro x
      simp only [leftOf, Array.toList_filter, List.mem_filter, contains_push, Bool.not_eq_true', Bool.or_eq_false_iff, beq_eq_false_iff_ne, ne_eq]
      constructor
      · rintro ⟨a, b, c⟩; exact ⟨⟨a, b⟩, c⟩
      · rintro ⟨⟨a, b⟩, c⟩; exact ⟨a, b, c⟩
    have hlt : (leftOf es (seen.push e.born)).size < cnt := by
      rw [← h10]
      have := filter_lt (fun x : MapEntry => !seen.contains x.born) (fun x : MapEntry => !(seen.push e.born).contains x.born) (fun x hx => by
        simp only [contains_push, Bool.not_eq_true', Bool.or_eq_false_iff] at hx ⊢
        exact hx.1) e (by simp [leftOf] at he ⊢; exact he.2) (by simp) es.toList hee
      rw [← Array.length_toList, ← Array.length_toList]
      simpa [leftOf, Array.toList_filter] using this
    refine Or.inr ⟨n, _, (leftOf es (seen.push e.born)).size, hl, hn100, by rw [hrun, hnk, hnv]; rfl, ⟨since, seen.push e.born, clock, es, clock, k1, k2, h3, h5, h5, h6, h7, h8, fun k => ?_, rfl⟩, hlt, ?_, by simp [setBlock, hw1h], ?_⟩
    · rw [Bool.and_eq_true, bne_iff_ne, h9 k]
      constructor
      · rintro ⟨⟨x, hx, hxk⟩, hkn⟩
        refine ⟨x, (hin x).2 ⟨hx, fun hb => hkn ?_⟩, hxk⟩
        have hxe : x ∈ es.toList := by simp [leftOf] at hx ⊢; exact hx.1
        have : x = e := by
          have f1 := find_born e es.toList h6 hee
          have f2 := find_born x es.toList h6 hxe
          rw [hb] at f2
          exact Option.some.inj (f2.symm.trans f1)
        subst this
        exact kn_inj _ _ (hxk.symm.trans hnk)
      · rintro ⟨x, hx, hxk⟩
        obtain ⟨a, b⟩ := (hin x).1 hx
        refine ⟨⟨x, a, hxk⟩, fun hkn => b ?_⟩
        have hxe : x ∈ es.toList := by simp [leftOf] at a ⊢; exact a.1
        rw [h7 x hxe e hee (by rw [hxk, hnk, hkn])]
    · refine ⟨by rcases hw1 with rfl | rfl <;> rfl, by rcases hw1 with rfl | rfl <;> rfl, by rcases hw1 with rfl | rfl <;> rfl, by simp [setBlock, hw1h], fun i _ hi => ?_⟩
      exact (sb_other (fun e => hi (by rw [e]))).trans (by rw [hw1h])
    · rw [run_entry_at _ r bm since seen es clock e k1 k2 hee h6, hnk, hnv]; rfl
end
section
variable {ops : Array Oper} {rest : List Oper} {o : Oper} {a : Act} {Q : Exit → Act → World → Prop} {w : World}
theorem wpList_range_S (hg : o.guard = none) (m : Operand) (hop : o.op = Op.range 79 m) (b : Nat) (f : Nat → Bool) (hm : a.eval m = .map (some b)) (h : SetM w b f)
    (hK : ∀ w' cnt, RngS w' w.heap.size b f cnt → Below w.heap.size w w' → w'.heap.size = w.heap.size + 1 → wpList Try.prog ops Q rest (a.put o.dst (.pointer (some ⟨w.heap.size, 0, none⟩))) w') : wpList Try.prog ops Q (o :: rest) a w := by
  refine wpList_plain hg fun K' hK' => ?_
  obtain ⟨w', hrun, ⟨cnt, r1⟩, r2, r3⟩ := h.range
  unfold Oper.wp
  simp [execOp, hop, hm, hrun, Result.andThen]
  exact hK' _ _ (hK w' cnt r1 r2 r3)
theorem wpList_next_S (hg : o.guard = none) (it : Operand) (hop : o.op = Op.next it false) (r bm : Nat) (left : Nat → Bool) (cnt : Nat) (hit : a.eval it = .pointer (some ⟨r, 0, none⟩)) (h : RngS w r bm left cnt) (hne : r ≠ bm)
    (hDone : (∀ n, left n = false) → wpList Try.prog ops Q rest (a.put o.dst (.tuple #[.bool false])) w)
    (hMore : ∀ (n : Nat) (w' : World) (cnt' : Nat), left n = true → n < 100 → RngS w' r bm (fun k => left k && k != n) cnt' → cnt' < cnt → w.grownBy w' (some r) → w'.heap.size = w.heap.size → (Instr.entry (.pointer (some ⟨r, 0, none⟩))).run Try.prog w' = .ok (.tuple #[.int .i64 (n : Int), .bool true]) w' →
      wpList Try.prog ops Q rest (a.put o.dst (.tuple #[.bool true, .int .i64 (n : Int), .bool true])) w') : wpList Try.prog ops Q (o :: rest) a w := by
  refine wpList_plain hg fun K' hK' => ?_
  unfold Oper.wp
  rcases h.next hne o.type with ⟨hl, hrun⟩ | ⟨n, w', cnt', h1, h2, hrun, h3, h4, h5, h6, h7⟩
  · simp [execOp, hop, hit, hrun, Result.andThen]
    exact hK' _ _ (hDone hl)
  · simp [execOp, hop, hit, hrun, Result.andThen]
    exact hK' _ _ (hMore n w' cnt' h1 h2 h3 h4 h5 h6 h7)
theorem wpList_put_S (hg : o.guard = none) (m x y : Operand) (hop : o.op = Op.mapUpdate 79 m x y) (b : Nat) (f : Nat → Bool) (n : Nat) (hm : a.eval m = .map (some b)) (hx : a.eval x = .int .i64 (n : Int)) (hy : a.eval y = .bool true) (h : SetM w b f) (hn : n < 100)
    (hK : ∀ w', SetM w' b (fun k => f k || k == n) → w.grownBy w' (some b) → w'.heap.size = w.heap.size → wpList Try.prog ops Q rest (a.put o.dst undef) w') : wpList Try.prog ops Q (o :: rest) a w := by
  refine wpList_plain hg fun K' hK' => ?_
  obtain ⟨w', hrun, r1, r2, r3⟩ := h.put n hn
  unfold Oper.wp
  simp [execOp, hop, hm, hx, hy, hrun, Result.andThen]
  exact hK' _ _ (hK w' r1 r2 r3)
end
end Go.Proofs.Ythkldiehokblcaa

