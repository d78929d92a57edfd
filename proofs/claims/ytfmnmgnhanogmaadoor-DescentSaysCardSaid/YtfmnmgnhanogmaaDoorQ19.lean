/- Texts BL, SA, BJ, laid together. -/
import Derived.Test.YtfmnmgnhanogmaaDoorQ12
import Derived.Test.YtfmnmgnhanogmaaDoorQ1
import Derived.Test.YtfmnmgnhanogmaaDoorQ4
import Derived.Test.YtfmnmgnhanogmaaDoorQ7
import Derived.Test.YtfmnmgnhanogmaaDoorQ18
import Derived.Maps.RangeWalk




namespace Go.Proofs.YtfmnmgnhanogmaaDoor
open Go.RowKit
open Go.MapKept
open Go.ChangeMaps (setBlock heap_setBlock_same heap_setBlock_other)
open Go.WideElems (Fit rd rg rd_key rd_mk other_key)

/-- block r is an iterator over the map in block bm, which holds just what f says; what is still to come -/
def RngK {κ : Type} (kk : κ → Value) (f : κ → Option Value) (w : World) (r bm : Nat) (left : κ → Bool) (cnt : Nat) : Prop :=
  ∃ since seen c0 es clock, w.heap[r]? = some (.mapIter (some bm) since seen c0) ∧ w.heap[bm]? = some (.map es clock) ∧ (∀ x ∈ es.toList, x.born < since) ∧ since ≤ c0 ∧ since ≤ clock ∧ (es.toList.map (·.born)).Nodup ∧ (∀ x ∈ es.toList, ∀ y ∈ es.toList, x.key = y.key → x = y) ∧
    (∀ x ∈ es.toList, ∃ y, x.key = kk y ∧ f y = some x.val) ∧ (∀ y, left y = true ↔ ∃ x ∈ (leftOf es seen).toList, x.key = kk y) ∧ (leftOf es seen).size = cnt
def World.rngLeftK (w : World) (r : Nat) : Nat := match w.heap[r]? with
  | some (.mapIter (some bm) _ seen _) => match w.heap[bm]? with
    | some (.map es _) => (leftOf es seen).size
    | _ => 0
  | _ => 0
theorem sbK_same {w : World} {r : Nat} {o o' : Obj} (h : w.heap[r]? = some o) : (setBlock w r o').heap[r]? = some o' := by
  unfold setBlock
  have := (Array.getElem?_eq_some_iff.1 h).1
  simp [this]
theorem sbK_other {w : World} {r i : Nat} {o' : Obj} (h : i ≠ r) : (setBlock w r o').heap[i]? = w.heap[i]? := by
  unfold setBlock
  simp [Ne.symm h]
section
variable {κ : Type} {P : Program} {k : TypeId} {kk : κ → Value} {f : κ → Option Value} {w w' : World} {r bm cnt : Nat} {left : κ → Bool}
theorem RngK.left_eq (h : RngK kk f w r bm left cnt) : World.rngLeftK w r = cnt := by
  obtain ⟨since, seen, c0, es, clock, h1, h2, -, -, -, -, -, -, -, h3⟩ := h
  unfold World.rngLeftK
  rw [h1]
  simp only [h2]
  exact h3
theorem RngK.lt (h : RngK kk f w r bm left cnt) : r < w.heap.size ∧ bm < w.heap.size := by
  obtain ⟨since, seen, c0, es, clock, h1, h2, -⟩ := h
  exact ⟨(Array.getElem?_eq_some_iff.1 h1).1, (Array.getElem?_eq_some_iff.1 h2).1⟩
theorem RngK.agr_ (h : RngK kk f w r bm left cnt) (e1 : w'.heap[r]? = w.heap[r]?) (e2 : w'.heap[bm]? = w.heap[bm]?) : RngK kk f w' r bm left cnt := by
  obtain ⟨since, seen, c0, es, clock, h1, h2, h3⟩ := h
  exact ⟨since, seen, c0, es, clock, e1.trans h1, e2.trans h2, h3⟩
theorem RngK.via (h : RngK kk f w r bm left cnt) (hb : Below w.heap.size w w') : RngK kk f w' r bm left cnt := h.agr_ (hb.block r h.lt.1) (hb.block bm h.lt.2)
theorem RngK.grown {row : Option Nat} (h : RngK kk f w r bm left cnt) (hb : w.grownBy w' row) (h1 : some r ≠ row) (h2 : some bm ≠ row) : RngK kk f w' r bm left cnt := h.agr_ (hb.block r h.lt.1 h1) (hb.block bm h.lt.2 h2)
theorem MapK.range {b : Nat} {t e : TypeId} (h : MapK P k kk w b f) (ht : P.underlying t = some (.map k e)) : ∃ w', (Instr.range t (.map (some b))).run P w = .ok (.pointer (some ⟨w.heap.size, 0, none⟩)) w' ∧ (∃ cnt, RngK kk f w' w.heap.size b (fun y => (f y).isSome) cnt) ∧ Below w.heap.size w w' ∧ w'.heap.size = w.heap.size + 1 := by
  obtain ⟨es, clock, hb, F, hk, hff⟩ := h
  have hst := F.stamped
  refine ⟨_, run_range_map w _ _ _ b es clock ht hb, ⟨_, clock, #[], clock, es, clock, by rw [heap_alloc_new], by rw [heap_alloc_old w _ (Array.getElem?_eq_some_iff.1 hb).1, hb], hst.1, Nat.le_refl _, Nat.le_refl _, hst.2.1, ?_, ?_, ?_, rfl⟩, (Below.refl _ _).alloc (Nat.le_refl _) _, by simp⟩
  · have hp : es.toList.Pairwise (fun x y => x.key ≠ y.key) := ((stamped_iff es clock).1 hst).2.2
    intro x hx y hy e
    obtain ⟨i, hi⟩ := List.mem_iff_getElem?.1 hx
    obtain ⟨j, hj⟩ := List.mem_iff_getElem?.1 hy
    obtain ⟨hil, hi⟩ := List.getElem?_eq_some_iff.1 hi
    obtain ⟨hjl, hj⟩ := List.getElem?_eq_some_iff.1 hj
    rcases Nat.lt_trichotomy i j with hij | hij | hij
    · exact absurd (by rw [hi, hj]; exact e) (List.pairwise_iff_getElem.1 hp i j hil hjl hij)
    · subst hij; exact hi.symm.trans hj
    · exact absurd (by rw [hi, hj]; exact e.symm) (List.pairwise_iff_getElem.1 hp j i hjl hil hij)
  · intro x hx
    obtain ⟨y, hy⟩ := hk x hx
    exact ⟨y, hy, (hff y x.val).2 ⟨x, hx, hy, rfl⟩⟩
  · intro y
    constructor
    · intro hf
      obtain ⟨v, hv⟩ := Option.isSome_iff_exists.1 hf
      obtain ⟨x, hx, h1, -⟩ := (hff y v).1 hv
      exact ⟨x, by simpa [leftOf] using hx, h1⟩
    · rintro ⟨x, hx, h1⟩
      have hx' : x ∈ es.toList := by simpa [leftOf] using hx
      have h2 := (hff y x.val).2 ⟨x, hx', h1, rfl⟩
      show (f y).isSome = true
      rw [h2]; rfl
theorem RngK.next [DecidableEq κ] (h : RngK kk f w r bm left cnt) (hinj : ∀ x y, kk x = kk y → x = y) (hne : r ≠ bm) (ty : TypeId) : ((∀ y, left y = false) ∧ (Instr.next (.pointer (some ⟨r, 0, none⟩)) false ty).run P w = .ok (.tuple #[.bool false]) w) ∨
    ∃ (y : κ) (v : Value) (w' : World) (cnt' : Nat), left y = true ∧ f y = some v ∧ (Instr.next (.pointer (some ⟨r, 0, none⟩)) false ty).run P w = .ok (.tuple #[.bool true, kk y, v]) w' ∧ RngK kk f w' r bm (fun z => left z && decide (z ≠ y)) cnt' ∧ cnt' < cnt ∧ w.grownBy w' (some r) ∧ w'.heap.size = w.heap.size ∧
      (Instr.entry (.pointer (some ⟨r, 0, none⟩))).run P w' = .ok (.tuple #[kk y, v]) w' := by
  obtain ⟨since, seen, c0, es, clock, h1, h2, h3, h4, h5, h6, h7, h8, h9, h10⟩ := h
  rcases run_next_at (P := P) w ty r bm since c0 seen es clock h1 h2 h3 h4 with ⟨h0, hrun⟩ | ⟨e, he, w1, hw1, hrun⟩
  · refine Or.inl ⟨fun n => ?_, hrun⟩
    cases hl : left n with
    | false => rfl
    | true =>
      obtain ⟨x, hx, -⟩ := (h9 n).1 hl
      rw [Array.eq_empty_of_size_eq_zero h0] at hx
      simp at hx
  · have hee : e ∈ es.toList := by
      simp [leftOf] at he ⊢; exact he.1
    obtain ⟨y, hnk, hnv⟩ := h8 e hee
    have hl : left y = true := (h9 y).2 ⟨e, he, hnk⟩
    have hw1h : w1.heap = w.heap := by rcases hw1 with rfl | rfl <;> rfl
    have g1 : w1.heap[r]? = some (.mapIter (some bm) since seen c0) := by rw [hw1h]; exact h1
    have g2 : w1.heap[bm]? = some (.map es clock) := by rw [hw1h]; exact h2
    have k1 : (setBlock w1 r (.mapIter (some bm) since (seen.push e.born) clock)).heap[r]? = some (.mapIter (some bm) since (seen.push e.born) clock) := sbK_same g1
    have k2 : (setBlock w1 r (.mapIter (some bm) since (seen.push e.born) clock)).heap[bm]? = some (.map es clock) := (sbK_other (Ne.symm hne)).trans g2
    have hin : ∀ x, x ∈ (leftOf es (seen.push e.born)).toList ↔ x ∈ (leftOf es seen).toList ∧ x.born ≠ e.born := by
      intro x
      simp only [leftOf, Array.toList_filter, List.mem_filter, contains_push, Bool.not_eq_true', Bool.or_eq_false_iff, beq_eq_false_iff_ne, ne_eq]
      constructor
      · rintro ⟨a, b, c⟩; exact ⟨⟨a, b⟩, c⟩
      · rintro ⟨⟨a, b⟩, c⟩; exact ⟨a, b, c⟩
    have hlt : (leftOf es (seen.push e.born)).size < cnt := by
      rw [← h10]
      have := filter_lt (fun x : MapEntry => !seen.contains x.born) (fun x : MapEntry => !(seen.push e.born).contains x.born) (fun x hx => by
        simp only [contains_push, Bool.not_eq_true', Bool.or_eq_false_iff] at hx ⊢
        exact hx.1) e (by simp [leftOf] at he ⊢; exact he.2) (by simp) es.toList hee
      rw [← Array.length_toList, ← Array.length_toList]
      simpa [leftOf, Array.toList_filter] using this
    refine Or.inr ⟨y, e.val, _, (leftOf es (seen.push e.born)).size, hl, hnv, by rw [hrun, hnk], ⟨since, seen.push e.born, clock, es, clock, k1, k2, h3, h5, h5, h6, h7, h8, fun z => ?_, rfl⟩, hlt, ?_, by simp [setBlock, hw1h], ?_⟩
    · rw [Bool.and_eq_true, decide_eq_true_eq, h9 z]
      constructor
      · rintro ⟨⟨x, hx, hxk⟩, hkn⟩
        refine ⟨x, (hin x).2 ⟨hx, fun hb => hkn ?_⟩, hxk⟩
        have hxe : x ∈ es.toList := by simp [leftOf] at hx ⊢; exact hx.1
        have : x = e := by
          have f1 := find_born e es.toList h6 hee
          have f2 := find_born x es.toList h6 hxe
          rw [hb] at f2
          exact Option.some.inj (f2.symm.trans f1)
        subst this
        exact hinj _ _ (hxk.symm.trans hnk)
      · rintro ⟨x, hx, hxk⟩
        obtain ⟨a, b⟩ := (hin x).1 hx
        refine ⟨⟨x, a, hxk⟩, fun hkn => b ?_⟩
        have hxe : x ∈ es.toList := by simp [leftOf] at a ⊢; exact a.1
        rw [h7 x hxe e hee (by rw [hxk, hnk, hkn])]
    · refine ⟨by rcases hw1 with rfl | rfl <;> rfl, by rcases hw1 with rfl | rfl <;> rfl, by rcases hw1 with rfl | rfl <;> rfl, by simp [setBlock, hw1h], fun i _ hi => ?_⟩
      exact (sbK_other (fun e => hi (by rw [e]))).trans (by rw [hw1h])
    · rw [run_entry_at _ r bm since seen es clock e k1 k2 hee h6, hnk]
end
section
variable {κ : Type} {P : Program} {k : TypeId} {kk : κ → Value} {f : κ → Option Value} {ops : Array Oper} {rest : List Oper} {o : Oper} {a : Act} {Q : Exit → Act → World → Prop} {w : World}
/-- 'm[k] = v' in a list of operations -/
theorem wpList_put_K [DecidableEq κ] {e : TypeId} (hg : o.guard = none) (K : Maps.Keyed P k) (t : TypeId) (ht : P.underlying t = some (.map k e)) (hinj : ∀ x y, kk x = kk y → x = y) (m x y : Operand) (hop : o.op = Op.mapUpdate t m x y) (b : Nat) (n : κ) (val : Value) (hm : a.eval m = .map (some b)) (hx : a.eval x = kk n) (hy : a.eval y = val) (h : MapK P k kk w b f) {kl : Lit} (hkey : keyOf P k (kk n) = some kl)
    (hroom : ∀ es clock, w.heap[b]? = some (.map es clock) → es.size < maxLen)
    (hK : ∀ w', MapK P k kk w' b (fun z => if z = n then some val else f z) → w.grownBy w' (some b) → w'.heap.size = w.heap.size → wpList P ops Q rest (a.put o.dst undef) w') : wpList P ops Q (o :: rest) a w := by
  refine wpList_plain hg fun K' hK' => ?_
  obtain ⟨w', hrun, r1, r2, r3⟩ := h.store K ht hinj n val hkey hroom
  unfold Oper.wp
  simp [execOp, hop, hm, hx, hy, hrun, Result.andThen]
  exact hK' _ _ (hK w' r1 r2 r3)
end
/-! ### 'm[k], x = v, y': the entry is laid first, its value later -/
theorem findIdx_born {A : Array MapEntry} {l : List MapEntry} (hA : A.toList = l) {j : Nat} {e0 : MapEntry} (hn : (l.map (·.born)).Nodup) (hj : l[j]? = some e0) : A.findIdx? (fun e => (e.born : Int) == ((e0.born : Nat) : Int)) = some j := by
  subst hA
  generalize hA : A.toList = l at *
  obtain rfl : A = l.toArray := by rw [← hA]
  rw [List.findIdx?_toArray, List.findIdx?_eq_some_iff_getElem]
  obtain ⟨hjl, he⟩ := List.getElem?_eq_some_iff.1 hj
  refine ⟨hjl, by rw [he]; simp, fun i hi => ?_⟩
  have h1 : (l[i]'(by omega)).born ≠ e0.born := fun e => by
    rw [List.nodup_iff_pairwise_ne, List.pairwise_map] at hn
    have := List.pairwise_iff_getElem.1 hn i j (by omega) hjl hi
    rw [he] at this
    exact this e
  simp only [beq_iff_eq]
  omega
section
variable {κ : Type} [DecidableEq κ] {P : Program} {k : TypeId} {kk : κ → Value} {f : κ → Option Value} {w w' : World} {b : Nat} {t e : TypeId}
theorem MapK.entry (h : MapK P k kk w b f) (K : Maps.Keyed P k) (ht : P.underlying t = some (.map k e)) (hinj : ∀ x y, kk x = kk y → x = y) (y : κ) (val : Value) {kl : Lit} (hkey : keyOf P k (kk y) = some kl) {z : Value} (hz : (zeroValue e).run P w = .ok z w)
    (hroom : ∀ es clock, w.heap[b]? = some (.map es clock) → es.size < maxLen) :
    ∃ (w1 : World) (st : Nat) (v0 : Value), (Instr.mapEntry t (.map (some b)) (kk y)).run P w = .ok (.tuple #[v0, .int .i64 (st : Int)]) w1 ∧ w.grownBy w1 (some b) ∧ w1.heap.size = w.heap.size ∧
      ∀ w1' : World, w1'.heap[b]? = w1.heap[b]? → ∃ w2, (Instr.entryStore t (.map (some b)) (.int .i64 (st : Int)) val).run P w1' = .ok () w2 ∧ MapK P k kk w2 b (fun x => if x = y then some val else f x) ∧ w1'.grownBy w2 (some b) ∧ w2.heap.size = w1'.heap.size := by
  obtain ⟨w', hrunS, hS, -, -⟩ := h.store K ht hinj y val hkey hroom
  obtain ⟨es, clock, hb, F, hk, hf⟩ := h
  have hst := F.stamped
  rcases K.find w hkey es.toList F.keys with ⟨h1, h2⟩ | ⟨j, e0, h1, h2, h3⟩
  · have hr2 : (Instr.mapUpdate t (.map (some b)) (kk y) val).run P w = .ok () (setBlock w b (.map (es.push ⟨kk y, val, clock⟩) (clock + 1))) := by
      simp [Instr.mapUpdate, run_underlying ht, MapKept.run_getObj_map hb, K.check w false hkey, h1, MapKept.run_setObj_map _ hb, Result.andThen, setBlock]
    rw [hrunS] at hr2
    have hw2 : w' = setBlock w b (.map (es.push ⟨kk y, val, clock⟩) (clock + 1)) := by injection hr2
    have hr1 : (Instr.mapEntry t (.map (some b)) (kk y)).run P w = .ok (.tuple #[z, .int .i64 (clock : Int)]) (setBlock w b (.map (es.push ⟨kk y, z, clock⟩) (clock + 1))) := by
      simp [Instr.mapEntry, run_underlying ht, MapKept.run_getObj_map hb, K.check w false hkey, h1, hz, MapKept.run_setObj_map _ hb, Result.andThen, setBlock, goInt]
    refine ⟨_, clock, z, hr1, ⟨rfl, rfl, rfl, by simp [setBlock], fun i _ hi => sbK_other (fun e => hi (by rw [e]))⟩, by simp [setBlock], fun w1' hb1 => ?_⟩
    rw [sbK_same hb] at hb1
    have hfi : (es.push ⟨kk y, z, clock⟩).findIdx? (fun e => (e.born : Int) == ((clock : Nat) : Int)) = some es.size := by
      have hn : ((es.push ⟨kk y, z, clock⟩).toList.map (·.born)).Nodup := by
        simp only [Array.toList_push, List.map_append, List.map_cons, List.map_nil]
        rw [List.nodup_append]
        refine ⟨hst.2.1, by simp, fun a ha c hc e => ?_⟩
        simp only [List.mem_singleton] at hc
        subst hc
        obtain ⟨x, hx, rfl⟩ := List.mem_map.1 ha
        have := hst.1 x hx
        omega
      exact findIdx_born (l := (es.push ⟨kk y, z, clock⟩).toList) rfl (j := es.size) (e0 := ⟨kk y, z, clock⟩) hn (by simp)
    have hmod : (es.push ⟨kk y, z, clock⟩).modify es.size (fun e => { e with val := val }) = es.push ⟨kk y, val, clock⟩ := by
      apply Array.toList_inj.1
      rw [Array.toList_modify, ChangeMaps.modify_eq_set _ _ _ (⟨kk y, z, clock⟩ : MapEntry) (by simp)]
      simp
    have hrE : (Instr.entryStore t (.map (some b)) (.int .i64 (clock : Int)) val).run P w1' = .ok () (setBlock w1' b (.map (es.push ⟨kk y, val, clock⟩) (clock + 1))) := by
      simp [Instr.entryStore, MapKept.run_getObj_map hb1, asInt, asIntOf, hfi, hmod, MapKept.run_setObj_map _ hb1, Result.andThen, setBlock]
    refine ⟨_, hrE, hS.agr_ ?_, ⟨rfl, rfl, rfl, by simp [setBlock], fun i _ hi => sbK_other (fun e => hi (by rw [e]))⟩, by simp [setBlock]⟩
    rw [sbK_same hb1, hw2, sbK_same hb]
  · have hj : es[j]? = some e0 := by simpa using h2
    have hr2 : (Instr.mapUpdate t (.map (some b)) (kk y) val).run P w = .ok () (setBlock w b (.map (es.modify j (fun e' => { e' with key := kk y, val := val })) clock)) := by
      simp [Instr.mapUpdate, run_underlying ht, MapKept.run_getObj_map hb, K.check w false hkey, h1, hj, h3, K.stays w hkey, MapKept.run_setObj_map _ hb, Result.andThen, setBlock]
    rw [hrunS] at hr2
    have hw2 : w' = setBlock w b (.map (es.modify j (fun e' => { e' with key := kk y, val := val })) clock) := by injection hr2
    have hr1 : (Instr.mapEntry t (.map (some b)) (kk y)).run P w = .ok (.tuple #[e0.val, .int .i64 (e0.born : Int)]) (setBlock w b (.map (es.modify j (fun e' => { e' with key := kk y })) clock)) := by
      simp [Instr.mapEntry, run_underlying ht, MapKept.run_getObj_map hb, K.check w false hkey, h1, hj, h3, K.stays w hkey, MapKept.run_setObj_map _ hb, Result.andThen, setBlock, goInt]
    refine ⟨_, e0.born, e0.val, hr1, ⟨rfl, rfl, rfl, by simp [setBlock], fun i _ hi => sbK_other (fun e => hi (by rw [e]))⟩, by simp [setBlock], fun w1' hb1 => ?_⟩
    rw [sbK_same hb] at hb1
    have hl1 : (es.modify j (fun e' => { e' with key := kk y })).toList = es.toList.set j { e0 with key := kk y } := by rw [Array.toList_modify, ChangeMaps.modify_eq_set _ _ _ _ h2]
    have hjl : j < es.toList.length := (List.getElem?_eq_some_iff.1 h2).1
    have hfi : (es.modify j (fun e' => { e' with key := kk y })).findIdx? (fun e => (e.born : Int) == ((e0.born : Nat) : Int)) = some j := by
      have hn : ((es.modify j (fun e' => { e' with key := kk y })).toList.map (·.born)).Nodup := by
        rw [hl1, List.map_set]
        have : (es.toList.map (·.born)).set j e0.born = es.toList.map (·.born) := by
          have e1 : (es.toList.map (·.born))[j]? = some e0.born := by rw [List.getElem?_map, h2]; rfl
          obtain ⟨e2, e3⟩ := List.getElem?_eq_some_iff.1 e1
          conv => lhs; rw [← e3]
          exact List.set_getElem_self e2
        show ((es.toList.map (·.born)).set j e0.born).Nodup
        rw [this]; exact hst.2.1
      exact findIdx_born (l := (es.modify j (fun e' => { e' with key := kk y })).toList) rfl (j := j) (e0 := { e0 with key := kk y }) hn (by rw [hl1, List.getElem?_set_self hjl])
    have hmod : (es.modify j (fun e' => { e' with key := kk y })).modify j (fun e => { e with val := val }) = es.modify j (fun e' => { e' with key := kk y, val := val }) := by
      apply Array.toList_inj.1
      rw [Array.toList_modify, hl1, ChangeMaps.modify_eq_set _ _ _ ({ e0 with key := kk y } : MapEntry) (by rw [List.getElem?_set_self hjl]), Array.toList_modify, ChangeMaps.modify_eq_set _ _ _ _ h2]
      simp
    have hrE : (Instr.entryStore t (.map (some b)) (.int .i64 (e0.born : Int)) val).run P w1' = .ok () (setBlock w1' b (.map (es.modify j (fun e' => { e' with key := kk y, val := val })) clock)) := by
      simp [Instr.entryStore, MapKept.run_getObj_map hb1, asInt, asIntOf, hfi, hmod, MapKept.run_setObj_map _ hb1, Result.andThen, setBlock]
    refine ⟨_, hrE, hS.agr_ ?_, ⟨rfl, rfl, rfl, by simp [setBlock], fun i _ hi => sbK_other (fun e => hi (by rw [e]))⟩, by simp [setBlock]⟩
    rw [sbK_same hb1, hw2, sbK_same hb]
end
end Go.Proofs.YtfmnmgnhanogmaaDoor




namespace Go.Proofs.YtfmnmgnhanogmaaDoor
open Go.RowKit

theorem laidOutK : laidOutB Tryd.prog = true := by kernel_rfl
theorem kyVal_inj (x y : Ky) (h : kyVal x = kyVal y) : x = y := by
  obtain ⟨⟨a, b⟩, c, d⟩ := x
  obtain ⟨⟨a', b'⟩, c', d'⟩ := y
  simp [kyVal] at h
  obtain ⟨h1, h2, h3, h4⟩ := h
  simp only [Prod.mk.injEq]
  exact ⟨⟨h1, by omega⟩, by omega, by omega⟩
theorem key_keyed : Maps.Keyed Tryd.prog 73 :=
  Maps.Keyed.of_law (deep_law_laid laidOutK (m := 4) (by omega) (of_decide_eq_true (by kernel_rfl)) (by kernel_rfl) (by rw [Tryd.underlying73]))
theorem key_key (x : Ky) (h1 : x.1.2 ≤ 1000000000) (h2 : x.2.1 ≤ 1000000000) (h3 : x.2.2 ≤ 1000000000) : ∃ l, keyOf Tryd.prog 73 (kyVal x) = some l := by
  have hc : Tryd.prog.cellsOf 73 = 4 := by kernel_rfl
  have hy : Tryd.prog.cellsOf 54 = 2 := by kernel_rfl
  have hi : Tryd.prog.cellsOf 3 = 1 := by kernel_rfl
  have hb : Tryd.prog.cellsOf 4 = 1 := by kernel_rfl
  have w1 : (Lit.int .i64 (x.1.2 : Int)).wf = true := WalkArith.wf_i64 (by omega)
  have w2 : (Lit.int .i64 (x.2.1 : Int)).wf = true := WalkArith.wf_i64 (by omega)
  have w3 : (Lit.int .i64 (x.2.2 : Int)).wf = true := WalkArith.wf_i64 (by omega)
  have hf : (kyVal x).formed Tryd.prog 73 = true := by simp [Value.formed, Tryd.underlying73, hc, kyVal]
  have hk : Tryd.prog.keyLits (Tryd.prog.types.size + 1) 73 [.bool x.1.1, .int .i64 (x.1.2 : Int), .int .i64 (x.2.1 : Int), .int .i64 (x.2.2 : Int)] = some [.bool x.1.1, .int .i64 (x.1.2 : Int), .int .i64 (x.2.1 : Int), .int .i64 (x.2.2 : Int)] := by
    have e : Tryd.prog.types.size + 1 = (Tryd.prog.types.size - 2) + 1 + 1 + 1 := by have : 2 ≤ Tryd.prog.types.size := of_decide_eq_true (by kernel_rfl); omega
    rw [e]
    generalize Tryd.prog.types.size - 2 = d
    simp [Program.keyLits, Tryd.underlying73, Tryd.underlying54, Tryd.underlying3, Tryd.underlying4, hc, hy, hi, hb, w1, w2, w3]
    rw [if_pos (fun i hi => by rcases i with _ | _ | i <;> first | (simp; done) | omega)]
    rfl
  refine ⟨.string (keyBytes [.bool x.1.1, .int .i64 (x.1.2 : Int), .int .i64 (x.2.1 : Int), .int .i64 (x.2.2 : Int)]), ?_⟩
  unfold keyOf
  rw [Tryd.underlying73]
  simp only [hf, Bool.and_true]
  rw [if_pos (by kernel_rfl)]
  show Option.map _ (Tryd.prog.keyLits _ _ [.bool x.1.1, .int .i64 (x.1.2 : Int), .int .i64 (x.2.1 : Int), .int .i64 (x.2.2 : Int)]) = _
  rw [hk]; rfl
end Go.Proofs.YtfmnmgnhanogmaaDoor




namespace Go.Proofs.YtfmnmgnhanogmaaDoor
open Go.RowKit

set_option maxRecDepth 100000 in
theorem enters_pk : ∀ (args : Array Value) (w : World), (callFunc 76 args).run Tryd.prog w = .ok (.enter 76 args) w :=
  enters_c (c := _) (fn := Tryd.f76) rfl (by kernel_rfl) rfl
theorem Own.lower {α ρ : Type} {E : Elem α ρ} {e : TypeId} {ok : Nat → Prop} {w : World} {B B' n : Nat} {v : Value} {l : List α} (h : Own E e ok w B v n l) (hb : B' ≤ B) : Own E e ok w B' v n l := by
  obtain ⟨h1, raw, h3, h4, h5⟩ := h
  refine ⟨h1, raw, h3, ⟨h4.1, ?_⟩, h5⟩
  rcases h4.2 with h0 | ⟨g, cap, cur, hv, hg, hr⟩
  · exact Or.inl h0
  · exact Or.inr ⟨g, cap, cur, hv, Nat.le_trans hb hg, hr⟩
/-- between the rounds of core.Packs -/
structure PkB (W0 w : World) (bk bo bw be : Nat) (k : Ky) (A : Option Addr) (n c ob oo N oc : Nat) (base : Nat) (v : Value) (out : List (Nat × List Ky)) : Prop where
  bel : Below W0.heap.size W0 w
  kb : Blk w bk 73 (kyC k)
  wb : Blk w bw 25 #[.slice A n c]
  eb : Blk w be 63 #[.slice (some ⟨ob, oo, none⟩) N oc]
  outb : Blk w bo 121 #[v]
  own : Own PkE 125 (fun b => base ≤ b) w base v out.length out
  ne : bk ≠ bo ∧ bw ≠ bo ∧ be ≠ bo
  lt : bo < base
  nr : some bk ≠ v.ownBlock ∧ some bw ≠ v.ownBlock ∧ some be ≠ v.ownBlock ∧ some bo ≠ v.ownBlock
  ge : W0.heap.size ≤ bo ∧ W0.heap.size ≤ base ∧ base ≤ w.heap.size
section
variable {W0 w w' : World} {fid bk bo bi bw be bf : Nat} {k : Ky} {rn : Nat} {A : Option Addr} {n c ob oo N oc base : Nat} {v v' : Value} {out : List (Nat × List Ky)}
theorem PkB.via (h : PkB W0 w bk bo bw be k A n c ob oo N oc base v out) (hb : Below w.heap.size w w') : PkB W0 w' bk bo bw be k A n c ob oo N oc base v out :=
  ⟨h.bel.via hb, h.kb.via hb, h.wb.via hb, h.eb.via hb, h.outb.via hb, h.own.via hb, h.ne, h.lt, h.nr, h.ge.1, h.ge.2.1, Nat.le_trans h.ge.2.2 hb.size⟩
theorem PkB.toM (h : PkB W0 w bk bo bw be k A n c ob oo N oc base v out) (hi : Blk w bi 3 #[.int .i64 (rn : Int)]) (hf : Blk w bf 141 #[.func (.func fid) #[] #[.pointer (some ⟨bk, 0, none⟩), .pointer (some ⟨bo, 0, none⟩), .pointer (some ⟨bi, 0, none⟩), .pointer (some ⟨bw, 0, none⟩), .pointer (some ⟨be, 0, none⟩), .pointer (some ⟨bf, 0, none⟩)]])
    (n1 : bi ≠ bo) (n2 : bf ≠ bo) (n3 : some bi ≠ v.ownBlock) (n4 : some bf ≠ v.ownBlock) : PkM W0 w fid bk bo bi bw be bf k rn A n c ob oo N oc base v out :=
  ⟨h.bel, h.kb, hi, h.wb, h.eb, hf, h.outb, h.own, ⟨h.ne.1, n1, h.ne.2.1, h.ne.2.2, n2⟩, h.lt, ⟨h.nr.1, n3, h.nr.2.1, h.nr.2.2.1, n4, h.nr.2.2.2⟩, h.ge⟩
theorem PkM.toB (h : PkM W0 w fid bk bo bi bw be bf k rn A n c ob oo N oc base v out) : PkB W0 w bk bo bw be k A n c ob oo N oc base v out :=
  ⟨h.bel, h.kb, h.wb, h.eb, h.outb, h.own, ⟨h.ne.1, h.ne.2.2.1, h.ne.2.2.2.1⟩, h.lt, ⟨h.nr.1, h.nr.2.2.1, h.nr.2.2.2.1, h.nr.2.2.2.2.2⟩, h.ge⟩
end
def PacksP (w : World) (ps : List (Nat × List Ky)) (e : Ending) (w' : World) : Prop :=
  ∃ A c, e = .returned (.slice A ps.length c) ∧ Own PkE 125 (fun b => w.heap.size ≤ b) w' w.heap.size (.slice A ps.length c) ps.length ps ∧ Below w.heap.size w w'
set_option maxRecDepth 100000 in
set_option maxHeartbeats 4000000 in
theorem packs_c (ok : Nat → Prop) (g : Gr) (Ag : Option Addr) (ng cg : Nat) (A : Option Addr) (n c ob oo N oc : Nat) (rb ro rc : Nat → Nat) (xs : List Int) (E : EnS) (k : Ky) (w : World) (hg : g.Ok) (hN : g.nons = N) (hl : Sl RuE ok w Ag ng cg g.rules) (hx : Ints w A n c xs) (hE : EnV w ob oo N n rb ro rc E) (hT : TabW w) (hsup : SupE n E) (hn : n ≤ 12) (hk : k.2.1 ≤ n ∧ k.2.2 ≤ n) :
    Calls Tryd.prog 59 #[grVal g Ag ng cg, .slice A n c, .slice (some ⟨ob, oo, none⟩) N oc, kyVal k] w (PacksP w (packsF (dOf xs E) g.rules k)) := by
  subst hN
  obtain ⟨⟨kb, kN⟩, ki, kj⟩ := k
  have hng := hl.len
  have hgc := hg.count
  have hlen : ∀ m, m < ng → (packT (dOf xs E) g.rules ((kb, kN), ki, kj) m).length + 28561 ≤ 1000000 := fun m hm => by
    have := packT_len (D := dOf xs E) (k := ((kb, kN), ki, kj)) m (fun u hu => (hg.right u hu).1) (by simpa using (show kj ≤ 12 by have := hk.2; simp only at this; omega))
    omega
  have HO := Lib.hid (hl.mono (ok' := fun b => b < w.heap.size) fun b hb _ => hb)
  have HX := Lib.hid hx
  have HE := Lib.hid hE
  have HT := Lib.hid hT
  have HS := Lib.hid hsup
  have HLEN := Lib.hid hlen
  have HG := Lib.hid hg
  have HKI := Lib.hid hk
  simp only at hk
  obtain ⟨w1, hw1⟩ : ∃ w1, w1 = w.alloc (.cells #[.int .i64 (g.terms : Int), .int .i64 (g.nons : Int), .int .i64 (g.start : Int), .slice Ag ng cg] 24) := ⟨_, rfl⟩
  have hb5 := (((((Below.refl w.heap.size w).al (.cells #[.int .i64 (g.terms : Int), .int .i64 (g.nons : Int), .int .i64 (g.start : Int), .slice Ag ng cg] 24)).al (.cells #[.slice A n c] 25)).al (.cells #[.slice (some ⟨ob, oo, none⟩) g.nons oc] 63)).al (.cells (kyC ((kb, kN), ki, kj)) 73)).al (.cells #[.slice none 0 0] 121)
  have BW := (((Blk.newAt (w.alloc (.cells #[.int .i64 (g.terms : Int), .int .i64 (g.nons : Int), .int .i64 (g.start : Int), .slice Ag ng cg] 24)) 25 #[.slice A n c] (w.heap.size + 1) (by simp)).al (.cells #[.slice (some ⟨ob, oo, none⟩) g.nons oc] 63)).al (.cells (kyC ((kb, kN), ki, kj)) 73)).al (.cells #[.slice none 0 0] 121)
  have BE := ((Blk.newAt ((w.alloc (.cells #[.int .i64 (g.terms : Int), .int .i64 (g.nons : Int), .int .i64 (g.start : Int), .slice Ag ng cg] 24)).alloc (.cells #[.slice A n c] 25)) 63 #[.slice (some ⟨ob, oo, none⟩) g.nons oc] (w.heap.size + 1 + 1) (by simp)).al (.cells (kyC ((kb, kN), ki, kj)) 73)).al (.cells #[.slice none 0 0] 121)
  have BK := (Blk.newAt (((w.alloc (.cells #[.int .i64 (g.terms : Int), .int .i64 (g.nons : Int), .int .i64 (g.start : Int), .slice Ag ng cg] 24)).alloc (.cells #[.slice A n c] 25)).alloc (.cells #[.slice (some ⟨ob, oo, none⟩) g.nons oc] 63)) 73 (kyC ((kb, kN), ki, kj)) (w.heap.size + 1 + 1 + 1) (by simp)).al (.cells #[.slice none 0 0] 121)
  have BO := Blk.newAt ((((w.alloc (.cells #[.int .i64 (g.terms : Int), .int .i64 (g.nons : Int), .int .i64 (g.start : Int), .slice Ag ng cg] 24)).alloc (.cells #[.slice A n c] 25)).alloc (.cells #[.slice (some ⟨ob, oo, none⟩) g.nons oc] 63)).alloc (.cells (kyC ((kb, kN), ki, kj)) 73)) 121 #[.slice none 0 0] (w.heap.size + 1 + 1 + 1 + 1) (by simp)
  have HM := Lib.hid (show PkB w _ (w.heap.size + 1 + 1 + 1) (w.heap.size + 1 + 1 + 1 + 1) (w.heap.size + 1) (w.heap.size + 1 + 1) ((kb, kN), ki, kj) A n c ob oo g.nons oc (w.heap.size + 5) (.slice none 0 0) (packT (dOf xs E) g.rules ((kb, kN), ki, kj) 0) from
    ⟨hb5, BK, BW, BE, BO, Own.nil _ _, by omega, by omega, by simp [Value.ownBlock], by omega, by omega, by simp⟩)
  simp only [kyC] at HM
  clear hl hx hE hT hsup hb5 BW BE BK BO hw1 hlen hg
  simp only [grVal, kyVal]
  go_enter Tryd.func59, Tryd.ntmps59
  go_wp2_with fail
  have HSZ := Lib.hid (show (((((w.alloc (.cells #[.int .i64 (g.terms : Int), .int .i64 (g.nons : Int), .int .i64 (g.start : Int), .slice Ag ng cg] 24)).alloc (.cells #[.slice A n c] 25)).alloc (.cells #[.slice (some ⟨ob, oo, none⟩) g.nons oc] 63)).alloc (.cells #[.bool kb, .int .i64 (kN : Int), .int .i64 (ki : Int), .int .i64 (kj : Int)] 73)).alloc (.cells #[.slice none 0 0] 121)).heap.size = w.heap.size + 5 by simp)
  generalize (((((w.alloc (.cells #[.int .i64 (g.terms : Int), .int .i64 (g.nons : Int), .int .i64 (g.start : Int), .slice Ag ng cg] 24)).alloc (.cells #[.slice A n c] 25)).alloc (.cells #[.slice (some ⟨ob, oo, none⟩) g.nons oc] 63)).alloc (.cells #[.bool kb, .int .i64 (kN : Int), .int .i64 (ki : Int), .int .i64 (kj : Int)] 73)).alloc (.cells #[.slice none 0 0] 121)) = W at *
  generalize w.heap.size + 1 + 1 + 1 + 1 = bo at *
  generalize w.heap.size + 1 + 1 + 1 = bk at *
  generalize w.heap.size + 1 + 1 = be at *
  generalize w.heap.size + 1 = bw at *
  generalize w.heap.size + 5 = base at *
  go_loopw [16] (fun q wr => ∃ (i : Nat) (v : Value), q = .int .i64 i ∧ i ≤ ng ∧ PkB w wr bk bo bw be ((kb, kN), ki, kj) A n c ob oo g.nons oc base v (packT (dOf xs E) g.rules ((kb, kN), ki, kj) i)) (fun q _ => ng - (intOf q).toNat)
  case atStart => exact ⟨0, _, rfl, Nat.zero_le _, HM.out⟩
  case round =>
    obtain ⟨i, v, rfl, hi, hM⟩ := hrel
    clear HM HSZ
    by_cases him : i < ng
    · obtain ⟨b1, o1, ⟨sl, sA, sn, sc⟩, ⟨sl', rhs⟩, hAg, -, hbb, hy, ⟨hx1, hx2⟩, hcel⟩ := HO.out.at_ him
      simp only at hx1 hx2
      obtain rfl : sl = sl' := hx1
      subst hAg
      have d0 := (hM.bel.cell (p := ⟨b1, o1 + i * RuE.k + 0, none⟩) hbb).trans (hcel 0 _ rfl)
      have d1 := (hM.bel.cell (p := ⟨b1, o1 + i * RuE.k + 1, none⟩) hbb).trans (hcel 1 _ rfl)
      simp only [RuE, Nat.add_zero] at d0 d1
      have i0 : (0 : Int) ≤ (i : Int) := by omega
      have i1 : (i : Int) < (ng : Int) := by omega
      have BK0 := hM.kb
      simp only [kyC] at BK0
      have hbx := ((Below.refl wr.heap.size wr).al (.cells #[.int .i64 (i : Int)] 3)).al (.cells #[.int .i64 (sl : Int), .slice sA sn sc] 77)
      have BK := BK0.via hbx
      have BI := (Blk.new wr 3 #[.int .i64 (i : Int)]).al (.cells #[.int .i64 (sl : Int), .slice sA sn sc] 77)
      have BR := Blk.newAt (wr.alloc (.cells #[.int .i64 (i : Int)] 3)) 77 #[.int .i64 (sl : Int), .slice sA sn sc] (wr.heap.size + 1) (by simp)
      have HM2 := Lib.hid (hM.via hbx)
      have HY := Lib.hid hy
      have HR := Lib.hid hx2
      have HWR := Lib.hid (show bo < wr.heap.size ∧ (∀ b, v.ownBlock = some b → b < wr.heap.size) from ⟨hM.outb.lt, fun b e => (hM.own.lt b e).2⟩)
      have HBK := Lib.hid BK
      have HBI := Lib.hid BI
      have HBR := Lib.hid BR
      have hpn := packT_next (D := dOf xs E) g.rules ((kb, kN), ki, kj) i
      clear hcel hx2 hM BK0 hbx
      by_cases hcond : sl = kN ∧ kb = false
      · obtain ⟨rfl, rfl⟩ := hcond
        have e1 : ((sl : Int) != (sl : Int)) = false := by simp
        have HPN := Lib.hid (show packT (dOf xs E) g.rules ((false, sl), ki, kj) (i + 1) = packT (dOf xs E) g.rules ((false, sl), ki, kj) i ++ (waysF (dOf xs E) rhs ki kj).map fun p => (i, [] ++ p) from by
          rw [hpn, packN, hy]; simp)
        clear hpn hy
        have cBK := BK.cell
        have fBK := BK.frozen
        have lBK := BK.lt
        have cBR := BR.cell
        have fBR := BR.frozen
        have lBR := BR.lt
        have cBI := BI.cell
        have fBI := BI.frozen
        have lBI := BI.lt
        go_upto_region 6 with fail
        clear cBK fBK lBK cBR fBR lBR cBI fBI lBI
        clear BK BR BI d0 d1
        have HS4 := Lib.hid (show ((wr.alloc (.cells #[.int .i64 (i : Int)] 3)).alloc (.cells #[.int .i64 (sl : Int), .slice sA sn sc] 77)).heap.size = wr.heap.size + 2 by simp)
        generalize (wr.alloc (.cells #[.int .i64 (i : Int)] 3)).alloc (.cells #[.int .i64 (sl : Int), .slice sA sn sc] 77) = W4 at *
        have hmf : ∀ (fn : Fn) (first cap : Array Value) (w : World), (Instr.makeFunc fn first cap).run Tryd.prog w = .ok (.func fn first cap) w := fun _ _ _ _ => rfl
        go_upto_region 8 with fail
        clear hmf
        have hax := (Below.refl W4.heap.size W4).al (.cells #[.func (.func 76) #[] #[.pointer (some ⟨bk, 0, none⟩), .pointer (some ⟨bo, 0, none⟩), .pointer (some ⟨wr.heap.size, 0, none⟩), .pointer (some ⟨bw, 0, none⟩), .pointer (some ⟨be, 0, none⟩), .pointer (some ⟨W4.heap.size, 0, none⟩)]] 141)
        have BF := Blk.new W4 141 #[.func (.func 76) #[] #[.pointer (some ⟨bk, 0, none⟩), .pointer (some ⟨bo, 0, none⟩), .pointer (some ⟨wr.heap.size, 0, none⟩), .pointer (some ⟨bw, 0, none⟩), .pointer (some ⟨be, 0, none⟩), .pointer (some ⟨W4.heap.size, 0, none⟩)]]
        have HM5 := Lib.hid (HM2.out.via hax)
        have HBI5 := Lib.hid (HBI.out.via hax)
        have BR := HBR.out.via hax
        have BK := HBK.out.via hax
        have HBF := Lib.hid BF
        have HAX := Lib.hid hax
        clear hax HM2 HBI HBR HBK
        generalize W4.alloc (.cells #[.func (.func 76) #[] #[.pointer (some ⟨bk, 0, none⟩), .pointer (some ⟨bo, 0, none⟩), .pointer (some ⟨wr.heap.size, 0, none⟩), .pointer (some ⟨bw, 0, none⟩), .pointer (some ⟨be, 0, none⟩), .pointer (some ⟨W4.heap.size, 0, none⟩)]] 141) = W5 at *
        generalize hbf : W4.heap.size = bf at *
        have HBFE := Lib.hid hbf
        clear hbf
        have cBF := BF.cell
        have fBF := BF.frozen
        have lBF := BF.lt
        have cBR := BR.cell
        have fBR := BR.frozen
        have lBR := BR.lt
        have cBK := BK.cell
        have fBK := BK.frozen
        have lBK := BK.lt
        iterate 18 go_step
        clear cBF fBF lBF cBR fBR lBR cBK fBK lBK
        have hru := HG.out.right _ (List.mem_of_getElem? HY.out)
        have hM := HM5.out.toM (fid := 76) HBI5.out HBF.out (by have := HWR.out.1; omega) (by have := HWR.out.1; have := HS4.out; omega) (fun e => by have := HWR.out.2 _ e.symm; omega) (fun e => by have := HWR.out.2 _ e.symm; have := HS4.out; omega)
        refine (pk1_n w 76 (Lib.hid rfl) enters_pk bk bo wr.heap.size bw be bf ((false, sl), ki, kj) i A n c ob oo g.nons oc rb ro rc xs E base HX.out HE.out HT.out HS.out hn hk.2 rhs W5 sA sn sc ki none 0 0 [] v _ (fun s hs hf => by have := hru.2 s hs; simpa [Gr.okSy, hf] using this) hk.1 HR.out (Sl.nil 0) ?_ (by have h1 := hru.1; simp only [List.length_nil] at h1 ⊢; omega) hM).mono ?_
        · have h1 := HLEN.out i him
          have h2 := ways_len (D := dOf xs E) (l := rhs) (i := ki) (j := kj) (by omega)
          have h3 : 13 ^ rhs.length ≤ 28561 := Nat.le_trans (Nat.pow_le_pow_right (by omega) hru.1) (by decide)
          simp only
          omega
        rintro e w6 ⟨⟨u, rfl⟩, v6, hM6, -⟩
        have HM6 := Lib.hid hM6.toB
        rw [← HPN.out] at HM6
        clear hM6 hM hru HM5 HBI5 HBF HAX BF BR BK HPN
        go_wp2_with fail
        exact ⟨⟨i + 1, v6, by go_num, by omega, HM6.out⟩, by simp [intOf]; omega⟩
      · have HPN := Lib.hid (show packT (dOf xs E) g.rules ((kb, kN), ki, kj) (i + 1) = packT (dOf xs E) g.rules ((kb, kN), ki, kj) i from by
          rw [hpn, packN, hy]; simp only [hcond, if_false, List.append_nil])
        have hcc : ((sl : Int) != (kN : Int)) = true ∨ (((sl : Int) != (kN : Int)) = false ∧ kb = true) := by
          by_cases e : sl = kN
          · right
            refine ⟨by simp [e], ?_⟩
            cases kb with
            | true => rfl
            | false => exact absurd ⟨e, rfl⟩ hcond
          · left; simp; omega
        clear hpn hy hcond
        rcases hcc with e1 | ⟨e1, rfl⟩
        · have cBK := BK.cell
          have fBK := BK.frozen
          have lBK := BK.lt
          have cBR := BR.cell
          have fBR := BR.frozen
          have lBR := BR.lt
          have cBI := BI.cell
          have fBI := BI.frozen
          have lBI := BI.lt
          go_wp2_with fail
          exact ⟨⟨i + 1, v, by go_num, by omega, by rw [HPN.out]; exact HM2.out⟩, by simp [intOf]; omega⟩
        · have cBK := BK.cell
          have fBK := BK.frozen
          have lBK := BK.lt
          have cBR := BR.cell
          have fBR := BR.frozen
          have lBR := BR.lt
          have cBI := BI.cell
          have fBI := BI.frozen
          have lBI := BI.lt
          go_wp2_with fail
          exact ⟨⟨i + 1, v, by go_num, by omega, by rw [HPN.out]; exact HM2.out⟩, by simp [intOf]; omega⟩
    · obtain rfl : i = ng := by omega
      have HMF := Lib.hid hM
      have BO := hM.outb
      clear hM
      have cBO := BO.cell
      have fBO := BO.frozen
      have lBO := BO.lt
      go_wp2_with fail
      go_ret
      have hw := HMF.out.own
      obtain ⟨A', c', rfl, hc'⟩ := hw.form
      have he : packsF (dOf xs E) g.rules ((kb, kN), ki, kj) = packT (dOf xs E) g.rules ((kb, kN), ki, kj) i := by unfold packsF; rw [hng]
      rw [PacksP, he]
      have hge := HMF.out.ge
      exact ⟨A', c', rfl, (hw.mono (ok' := fun b => w.heap.size ≤ b) fun b _ hb => by omega).lower (by omega), HMF.out.bel⟩
end Go.Proofs.YtfmnmgnhanogmaaDoor

