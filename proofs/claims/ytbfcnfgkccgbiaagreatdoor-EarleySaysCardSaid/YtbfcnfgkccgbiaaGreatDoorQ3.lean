/- Texts BL, VB, KP, laid together. -/
import Derived.Test.YtbfcnfgkccgbiaaGreatDoorQ2
import Derived.Test.YtbfcnfgkccgbiaaGreatDoorQ1
import Derived.Maps.RangeWalk
import Derived.Laws.StructEq




namespace Go.Proofs.YtbfcnfgkccgbiaaGreatDoor
open Go.RowKit
open Go.MapKept
open Go.ChangeMaps (setBlock heap_setBlock_same heap_setBlock_other)
open Go.WideElems (Fit rd rg rd_key rd_mk other_key)

/-- block r is an iterator over the map in block bm, which holds just what f says; what is still to come -/
def RngK {κ : Type} (kk : κ → Value) (f : κ → Option Value) (w : World) (r bm : Nat) (left : κ → Bool) (cnt : Nat) : Prop :=
  ∃ since seen c0 es clock, w.heap[r]? = some (.mapIter (some bm) since seen c0) ∧ w.heap[bm]? = some (.map es clock) ∧ (∀ x ∈ es.toList, x.born < since) ∧ since ≤ c0 ∧ since ≤ clock ∧ (es.toList.map (·.born)).Nodup ∧ (∀ x ∈ es.toList, ∀ y ∈ es.toList, x.key = y.key → x = y) ∧
    (∀ x ∈ es.toList, ∃ y, x.key = kk y ∧ f y = some x.val) ∧ (∀ y, left y = true ↔ ∃ x ∈ (leftOf es seen).toList, x.key = kk y) ∧ (leftOf es seen).size = cnt
def World.rngLeftK (w : World) (r : Nat) : Nat := match w.heap[r]? with
  | some (.mapIter (some bm) _ seen _) => match w.heap[bm]? with
    | some (.map es _) => (leftOf es seen).size
    | _ => 0
  | _ => 0
theorem sbK_same {w : World} {r : Nat} {o o' : Obj} (h : w.heap[r]? = some o) : (setBlock w r o').heap[r]? = some o' := by
  unfold setBlock
  have := (Array.getElem?_eq_some_iff.1 h).1
  simp [this]
theorem sbK_other {w : World} {r i : Nat} {o' : Obj} (h : i ≠ r) : (setBlock w r o').heap[i]? = w.heap[i]? := by
  unfold setBlock
  simp [Ne.symm h]
section
variable {κ : Type} {P : Program} {k : TypeId} {kk : κ → Value} {f : κ → Option Value} {w w' : World} {r bm cnt : Nat} {left : κ → Bool}
theorem RngK.left_eq (h : RngK kk f w r bm left cnt) : World.rngLeftK w r = cnt := by
  obtain ⟨since, seen, c0, es, clock, h1, h2, -, -, -, -, -, -, -, h3⟩ := h
  unfold World.rngLeftK
  rw [h1]
  simp only [h2]
  exact h3
theorem RngK.lt (h : RngK kk f w r bm left cnt) : r < w.heap.size ∧ bm < w.heap.size := by
  obtain ⟨since, seen, c0, es, clock, h1, h2, -⟩ := h
  exact ⟨(Array.getElem?_eq_some_iff.1 h1).1, (Array.getElem?_eq_some_iff.1 h2).1⟩
theorem RngK.agr_ (h : RngK kk f w r bm left cnt) (e1 : w'.heap[r]? = w.heap[r]?) (e2 : w'.heap[bm]? = w.heap[bm]?) : RngK kk f w' r bm left cnt := by
  obtain ⟨since, seen, c0, es, clock, h1, h2, h3⟩ := h
  exact ⟨since, seen, c0, es, clock, e1.trans h1, e2.trans h2, h3⟩
theorem RngK.via (h : RngK kk f w r bm left cnt) (hb : Below w.heap.size w w') : RngK kk f w' r bm left cnt := h.agr_ (hb.block r h.lt.1) (hb.block bm h.lt.2)
theorem RngK.grown {row : Option Nat} (h : RngK kk f w r bm left cnt) (hb : w.grownBy w' row) (h1 : some r ≠ row) (h2 : some bm ≠ row) : RngK kk f w' r bm left cnt := h.agr_ (hb.block r h.lt.1 h1) (hb.block bm h.lt.2 h2)
theorem MapK.range {b : Nat} {t e : TypeId} (h : MapK P k kk w b f) (ht : P.underlying t = some (.map k e)) : ∃ w', (Instr.range t (.map (some b))).run P w = .ok (.pointer (some ⟨w.heap.size, 0, none⟩)) w' ∧ (∃ cnt, RngK kk f w' w.heap.size b (fun y => (f y).isSome) cnt) ∧ Below w.heap.size w w' ∧ w'.heap.size = w.heap.size + 1 := by
  obtain ⟨es, clock, hb, F, hk, hff⟩ := h
  have hst := F.stamped
  refine ⟨_, run_range_map w _ _ _ b es clock ht hb, ⟨_, clock, #[], clock, es, clock, by rw [heap_alloc_new], by rw [heap_alloc_old w _ (Array.getElem?_eq_some_iff.1 hb).1, hb], hst.1, Nat.le_refl _, Nat.le_refl _, hst.2.1, ?_, ?_, ?_, rfl⟩, (Below.refl _ _).alloc (Nat.le_refl _) _, by simp⟩
  · have hp : es.toList.Pairwise (fun x y => x.key ≠ y.key) := ((stamped_iff es clock).1 hst).2.2
    intro x hx y hy e
    obtain ⟨i, hi⟩ := List.mem_iff_getElem?.1 hx
    obtain ⟨j, hj⟩ := List.mem_iff_getElem?.1 hy
    obtain ⟨hil, hi⟩ := List.getElem?_eq_some_iff.1 hi
    obtain ⟨hjl, hj⟩ := List.getElem?_eq_some_iff.1 hj
    rcases Nat.lt_trichotomy i j with hij | hij | hij
    · exact absurd (by rw [hi, hj]; exact e) (List.pairwise_iff_getElem.1 hp i j hil hjl hij)
    · subst hij; exact hi.symm.trans hj
    · exact absurd (by rw [hi, hj]; exact e.symm) (List.pairwise_iff_getElem.1 hp j i hjl hil hij)
  · intro x hx
    obtain ⟨y, hy⟩ := hk x hx
    exact ⟨y, hy, (hff y x.val).2 ⟨x, hx, hy, rfl⟩⟩
  · intro y
    constructor
    · intro hf
      obtain ⟨v, hv⟩ := Option.isSome_iff_exists.1 hf
      obtain ⟨x, hx, h1, -⟩ := (hff y v).1 hv
      exact ⟨x, by simpa [leftOf] using hx, h1⟩
    · rintro ⟨x, hx, h1⟩
      have hx' : x ∈ es.toList := by simpa [leftOf] using hx
      have h2 := (hff y x.val).2 ⟨x, hx', h1, rfl⟩
      show (f y).isSome = true
      rw [h2]; rfl
theorem RngK.next [DecidableEq κ] (h : RngK kk f w r bm left cnt) (hinj : ∀ x y, kk x = kk y → x = y) (hne : r ≠ bm) (ty : TypeId) : ((∀ y, left y = false) ∧ (Instr.next (.pointer (some ⟨r, 0, none⟩)) false ty).run P w = .ok (.tuple #[.bool false]) w) ∨
    ∃ (y : κ) (v : Value) (w' : World) (cnt' : Nat), left y = true ∧ f y = some v ∧ (Instr.next (.pointer (some ⟨r, 0, none⟩)) false ty).run P w = .ok (.tuple #[.bool true, kk y, v]) w' ∧ RngK kk f w' r bm (fun z => left z && decide (z ≠ y)) cnt' ∧ cnt' < cnt ∧ w.grownBy w' (some r) ∧ w'.heap.size = w.heap.size ∧
      (Instr.entry (.pointer (some ⟨r, 0, none⟩))).run P w' = .ok (.tuple #[kk y, v]) w' := by
  obtain ⟨since, seen, c0, es, clock, h1, h2, h3, h4, h5, h6, h7, h8, h9, h10⟩ := h
  rcases run_next_at (P := P) w ty r bm since c0 seen es clock h1 h2 h3 h4 with ⟨h0, hrun⟩ | ⟨e, he, w1, hw1, hrun⟩
  · refine Or.inl ⟨fun n => ?_, hrun⟩
    cases hl : left n with
    | false => rfl
    | true =>
      obtain ⟨x, hx, -⟩ := (h9 n).1 hl
      rw [Array.eq_empty_of_size_eq_zero h0] at hx
      simp at hx
  · have hee : e ∈ es.toList := by
      simp [leftOf] at he ⊢; exact he.1
    obtain ⟨y, hnk, hnv⟩ := h8 e hee
    have hl : left y = true := (h9 y).2 ⟨e, he, hnk⟩
    have hw1h : w1.heap = w.heap := by rcases hw1 with rfl | rfl <;> rfl
    have g1 : w1.heap[r]? = some (.mapIter (some bm) since seen c0) := by rw [hw1h]; exact h1
    have g2 : w1.heap[bm]? = some (.map es clock) := by rw [hw1h]; exact h2
    have k1 : (setBlock w1 r (.mapIter (some bm) since (seen.push e.born) clock)).heap[r]? = some (.mapIter (some bm) since (seen.push e.born) clock) := sbK_same g1
    have k2 : (setBlock w1 r (.mapIter (some bm) since (seen.push e.born) clock)).heap[bm]? = some (.map es clock) := (sbK_other (Ne.symm hne)).trans g2
    have hin : ∀ x, x ∈ (leftOf es (seen.push e.born)).toList ↔ x ∈ (leftOf es seen).toList ∧ x.born ≠ e.born := by
      intro x
      simp only [leftOf, Array.toList_filter, List.mem_filter, contains_push, Bool.not_eq_true', Bool.or_eq_false_iff, beq_eq_false_iff_ne, ne_eq]
      constructor
      · rintro ⟨a, b, c⟩; exact ⟨⟨a, b⟩, c⟩
      · rintro ⟨⟨a, b⟩, c⟩; exact ⟨a, b, c⟩
    have hlt : (leftOf es (seen.push e.born)).size < cnt := by
      rw [← h10]
      have := filter_lt (fun x : MapEntry => !seen.contains x.born) (fun x : MapEntry => !(seen.push e.born).contains x.born) (fun x hx => by
        simp only [contains_push, Bool.not_eq_true', Bool.or_eq_false_iff] at hx ⊢
        exact hx.1) e (by simp [leftOf] at he ⊢; exact he.2) (by simp) es.toList hee
      rw [← Array.length_toList, ← Array.length_toList]
      simpa [leftOf, Array.toList_filter] using this
    refine Or.inr ⟨y, e.val, _, (leftOf es (seen.push e.born)).size, hl, hnv, by rw [hrun, hnk], ⟨since, seen.push e.born, clock, es, clock, k1, k2, h3, h5, h5, h6, h7, h8, fun z => ?_, rfl⟩, hlt, ?_, by simp [setBlock, hw1h], ?_⟩
    · rw [Bool.and_eq_true, decide_eq_true_eq, h9 z]
      constructor
      · rintro ⟨⟨x, hx, hxk⟩, hkn⟩
        refine ⟨x, (hin x).2 ⟨hx, fun hb => hkn ?_⟩, hxk⟩
        have hxe : x ∈ es.toList := by simp [leftOf] at hx ⊢; exact hx.1
        have : x = e := by
          have f1 := find_born e es.toList h6 hee
          have f2 := find_born x es.toList h6 hxe
          rw [hb] at f2
          exact Option.some.inj (f2.symm.trans f1)
        subst this
        exact hinj _ _ (hxk.symm.trans hnk)
      · rintro ⟨x, hx, hxk⟩
        obtain ⟨a, b⟩ := (hin x).1 hx
        refine ⟨⟨x, a, hxk⟩, fun hkn => b ?_⟩
        have hxe : x ∈ es.toList := by simp [leftOf] at a ⊢; exact a.1
        rw [h7 x hxe e hee (by rw [hxk, hnk, hkn])]
    · refine ⟨by rcases hw1 with rfl | rfl <;> rfl, by rcases hw1 with rfl | rfl <;> rfl, by rcases hw1 with rfl | rfl <;> rfl, by simp [setBlock, hw1h], fun i _ hi => ?_⟩
      exact (sbK_other (fun e => hi (by rw [e]))).trans (by rw [hw1h])
    · rw [run_entry_at _ r bm since seen es clock e k1 k2 hee h6, hnk]
end
section
variable {κ : Type} {P : Program} {k : TypeId} {kk : κ → Value} {f : κ → Option Value} {ops : Array Oper} {rest : List Oper} {o : Oper} {a : Act} {Q : Exit → Act → World → Prop} {w : World}
theorem wpList_range_K (hg : o.guard = none) (t e : TypeId) (ht : P.underlying t = some (.map k e)) (m : Operand) (hop : o.op = Op.range t m) (b : Nat) (hm : a.eval m = .map (some b)) (h : MapK P k kk w b f)
    (hK : ∀ w' cnt, RngK kk f w' w.heap.size b (fun y => (f y).isSome) cnt → Below w.heap.size w w' → w'.heap.size = w.heap.size + 1 → wpList P ops Q rest (a.put o.dst (.pointer (some ⟨w.heap.size, 0, none⟩))) w') : wpList P ops Q (o :: rest) a w := by
  refine wpList_plain hg fun K' hK' => ?_
  obtain ⟨w', hrun, ⟨cnt, r1⟩, r2, r3⟩ := h.range ht
  unfold Oper.wp
  simp [execOp, hop, hm, hrun, Result.andThen]
  exact hK' _ _ (hK w' cnt r1 r2 r3)
theorem wpList_next_K [DecidableEq κ] (hg : o.guard = none) (it : Operand) (hop : o.op = Op.next it false) (r bm : Nat) (left : κ → Bool) (cnt : Nat) (hit : a.eval it = .pointer (some ⟨r, 0, none⟩)) (h : RngK kk f w r bm left cnt) (hinj : ∀ x y, kk x = kk y → x = y) (hne : r ≠ bm)
    (hDone : (∀ n, left n = false) → wpList P ops Q rest (a.put o.dst (.tuple #[.bool false])) w)
    (hMore : ∀ (y : κ) (v : Value) (w' : World) (cnt' : Nat), left y = true → f y = some v → RngK kk f w' r bm (fun z => left z && decide (z ≠ y)) cnt' → cnt' < cnt → w.grownBy w' (some r) → w'.heap.size = w.heap.size → (Instr.entry (.pointer (some ⟨r, 0, none⟩))).run P w' = .ok (.tuple #[kk y, v]) w' →
      wpList P ops Q rest (a.put o.dst (.tuple #[.bool true, kk y, v])) w') : wpList P ops Q (o :: rest) a w := by
  refine wpList_plain hg fun K' hK' => ?_
  unfold Oper.wp
  rcases h.next (P := P) hinj hne o.type with ⟨hl, hrun⟩ | ⟨y, v, w', cnt', h1, h2, hrun, h3, h4, h5, h6, h7⟩
  · simp [execOp, hop, hit, hrun, Result.andThen]
    exact hK' _ _ (hDone hl)
  · simp [execOp, hop, hit, hrun, Result.andThen]
    exact hK' _ _ (hMore y v w' cnt' h1 h2 h3 h4 h5 h6 h7)
/-- 'm[k] = v' in a list of operations -/
theorem wpList_put_K [DecidableEq κ] {e : TypeId} (hg : o.guard = none) (K : Maps.Keyed P k) (t : TypeId) (ht : P.underlying t = some (.map k e)) (hinj : ∀ x y, kk x = kk y → x = y) (m x y : Operand) (hop : o.op = Op.mapUpdate t m x y) (b : Nat) (n : κ) (val : Value) (hm : a.eval m = .map (some b)) (hx : a.eval x = kk n) (hy : a.eval y = val) (h : MapK P k kk w b f) {kl : Lit} (hkey : keyOf P k (kk n) = some kl)
    (hroom : ∀ es clock, w.heap[b]? = some (.map es clock) → es.size < maxLen)
    (hK : ∀ w', MapK P k kk w' b (fun z => if z = n then some val else f z) → w.grownBy w' (some b) → w'.heap.size = w.heap.size → wpList P ops Q rest (a.put o.dst undef) w') : wpList P ops Q (o :: rest) a w := by
  refine wpList_plain hg fun K' hK' => ?_
  obtain ⟨w', hrun, r1, r2, r3⟩ := h.store K ht hinj n val hkey hroom
  unfold Oper.wp
  simp [execOp, hop, hm, hx, hy, hrun, Result.andThen]
  exact hK' _ _ (hK w' r1 r2 r3)
end
/-! ### 'm[k], x = v, y': the entry is laid first, its value later -/
theorem findIdx_born {A : Array MapEntry} {l : List MapEntry} (hA : A.toList = l) {j : Nat} {e0 : MapEntry} (hn : (l.map (·.born)).Nodup) (hj : l[j]? = some e0) : A.findIdx? (fun e => (e.born : Int) == ((e0.born : Nat) : Int)) = some j := by
  subst hA
  generalize hA : A.toList = l at *
  obtain rfl : A = l.toArray := by rw [← hA]
  rw [List.findIdx?_toArray, List.findIdx?_eq_some_iff_getElem]
  obtain ⟨hjl, he⟩ := List.getElem?_eq_some_iff.1 hj
  refine ⟨hjl, by rw [he]; simp, fun i hi => ?_⟩
  have h1 : (l[i]'(by omega)).born ≠ e0.born := fun e => by
    rw [List.nodup_iff_pairwise_ne, List.pairwise_map] at hn
    have := List.pairwise_iff_getElem.1 hn i j (by omega) hjl hi
    rw [he] at this
    exact this e
  simp only [beq_iff_eq]
  omega
section
variable {κ : Type} [DecidableEq κ] {P : Program} {k : TypeId} {kk : κ → Value} {f : κ → Option Value} {w w' : World} {b : Nat} {t e : TypeId}
theorem MapK.entry (h : MapK P k kk w b f) (K : Maps.Keyed P k) (ht : P.underlying t = some (.map k e)) (hinj : ∀ x y, kk x = kk y → x = y) (y : κ) (val : Value) {kl : Lit} (hkey : keyOf P k (kk y) = some kl) {z : Value} (hz : (zeroValue e).run P w = .ok z w)
    (hroom : ∀ es clock, w.heap[b]? = some (.map es clock) → es.size < maxLen) :
    ∃ (w1 : World) (st : Nat) (v0 : Value), (Instr.mapEntry t (.map (some b)) (kk y)).run P w = .ok (.tuple #[v0, .int .i64 (st : Int)]) w1 ∧ w.grownBy w1 (some b) ∧ w1.heap.size = w.heap.size ∧
      ∀ w1' : World, w1'.heap[b]? = w1.heap[b]? → ∃ w2, (Instr.entryStore t (.map (some b)) (.int .i64 (st : Int)) val).run P w1' = .ok () w2 ∧ MapK P k kk w2 b (fun x => if x = y then some val else f x) ∧ w1'.grownBy w2 (some b) ∧ w2.heap.size = w1'.heap.size := by
  obtain ⟨w', hrunS, hS, -, -⟩ := h.store K ht hinj y val hkey hroom
  obtain ⟨es, clock, hb, F, hk, hf⟩ := h
  have hst := F.stamped
  rcases K.find w hkey es.toList F.keys with ⟨h1, h2⟩ | ⟨j, e0, h1, h2, h3⟩
  · have hr2 : (Instr.mapUpdate t (.map (some b)) (kk y) val).run P w = .ok () (setBlock w b (.map (es.push ⟨kk y, val, clock⟩) (clock + 1))) := by
      simp [Instr.mapUpdate, run_underlying ht, MapKept.run_getObj_map hb, K.check w false hkey, h1, MapKept.run_setObj_map _ hb, Result.andThen, setBlock]
    rw [hrunS] at hr2
    have hw2 : w' = setBlock w b (.map (es.push ⟨kk y, val, clock⟩) (clock + 1)) := by injection hr2
    have hr1 : (Instr.mapEntry t (.map (some b)) (kk y)).run P w = .ok (.tuple #[z, .int .i64 (clock : Int)]) (setBlock w b (.map (es.push ⟨kk y, z, clock⟩) (clock + 1))) := by
      simp [Instr.mapEntry, run_underlying ht, MapKept.run_getObj_map hb, K.check w false hkey, h1, hz, MapKept.run_setObj_map _ hb, Result.andThen, setBlock, goInt]
    refine ⟨_, clock, z, hr1, ⟨rfl, rfl, rfl, by simp [setBlock], fun i _ hi => sbK_other (fun e => hi (by rw [e]))⟩, by simp [setBlock], fun w1' hb1 => ?_⟩
    rw [sbK_same hb] at hb1
    have hfi : (es.push ⟨kk y, z, clock⟩).findIdx? (fun e => (e.born : Int) == ((clock : Nat) : Int)) = some es.size := by
      have hn : ((es.push ⟨kk y, z, clock⟩).toList.map (·.born)).Nodup := by
        simp only [Array.toList_push, List.map_append, List.map_cons, List.map_nil]
        rw [List.nodup_append]
        refine ⟨hst.2.1, by simp, fun a ha c hc e => ?_⟩
        simp only [List.mem_singleton] at hc
        subst hc
        obtain ⟨x, hx, rfl⟩ := List.mem_map.1 ha
        have := hst.1 x hx
        omega
      exact findIdx_born (l := (es.push ⟨kk y, z, clock⟩).toList) rfl (j := es.size) (e0 := ⟨kk y, z, clock⟩) hn (by simp)
    have hmod : (es.push ⟨kk y, z, clock⟩).modify es.size (fun e => { e with val := val }) = es.push ⟨kk y, val, clock⟩ := by
      apply Array.toList_inj.1
      rw [Array.toList_modify, ChangeMaps.modify_eq_set _ _ _ (⟨kk y, z, clock⟩ : MapEntry) (by simp)]
      simp
    have hrE : (Instr.entryStore t (.map (some b)) (.int .i64 (clock : Int)) val).run P w1' = .ok () (setBlock w1' b (.map (es.push ⟨kk y, val, clock⟩) (clock + 1))) := by
      simp [Instr.entryStore, MapKept.run_getObj_map hb1, asInt, asIntOf, hfi, hmod, MapKept.run_setObj_map _ hb1, Result.andThen, setBlock]
    refine ⟨_, hrE, hS.agr_ ?_, ⟨rfl, rfl, rfl, by simp [setBlock], fun i _ hi => sbK_other (fun e => hi (by rw [e]))⟩, by simp [setBlock]⟩
    rw [sbK_same hb1, hw2, sbK_same hb]
  · have hj : es[j]? = some e0 := by simpa using h2
    have hr2 : (Instr.mapUpdate t (.map (some b)) (kk y) val).run P w = .ok () (setBlock w b (.map (es.modify j (fun e' => { e' with key := kk y, val := val })) clock)) := by
      simp [Instr.mapUpdate, run_underlying ht, MapKept.run_getObj_map hb, K.check w false hkey, h1, hj, h3, K.stays w hkey, MapKept.run_setObj_map _ hb, Result.andThen, setBlock]
    rw [hrunS] at hr2
    have hw2 : w' = setBlock w b (.map (es.modify j (fun e' => { e' with key := kk y, val := val })) clock) := by injection hr2
    have hr1 : (Instr.mapEntry t (.map (some b)) (kk y)).run P w = .ok (.tuple #[e0.val, .int .i64 (e0.born : Int)]) (setBlock w b (.map (es.modify j (fun e' => { e' with key := kk y })) clock)) := by
      simp [Instr.mapEntry, run_underlying ht, MapKept.run_getObj_map hb, K.check w false hkey, h1, hj, h3, K.stays w hkey, MapKept.run_setObj_map _ hb, Result.andThen, setBlock, goInt]
    refine ⟨_, e0.born, e0.val, hr1, ⟨rfl, rfl, rfl, by simp [setBlock], fun i _ hi => sbK_other (fun e => hi (by rw [e]))⟩, by simp [setBlock], fun w1' hb1 => ?_⟩
    rw [sbK_same hb] at hb1
    have hl1 : (es.modify j (fun e' => { e' with key := kk y })).toList = es.toList.set j { e0 with key := kk y } := by rw [Array.toList_modify, ChangeMaps.modify_eq_set _ _ _ _ h2]
    have hjl : j < es.toList.length := (List.getElem?_eq_some_iff.1 h2).1
    have hfi : (es.modify j (fun e' => { e' with key := kk y })).findIdx? (fun e => (e.born : Int) == ((e0.born : Nat) : Int)) = some j := by
      have hn : ((es.modify j (fun e' => { e' with key := kk y })).toList.map (·.born)).Nodup := by
        rw [hl1, List.map_set]
        have : (es.toList.map (·.born)).set j e0.born = es.toList.map (·.born) := by
          have e1 : (es.toList.map (·.born))[j]? = some e0.born := by rw [List.getElem?_map, h2]; rfl
          obtain ⟨e2, e3⟩ := List.getElem?_eq_some_iff.1 e1
          conv => lhs; rw [← e3]
          exact List.set_getElem_self e2
        show ((es.toList.map (·.born)).set j e0.born).Nodup
        rw [this]; exact hst.2.1
      exact findIdx_born (l := (es.modify j (fun e' => { e' with key := kk y })).toList) rfl (j := j) (e0 := { e0 with key := kk y }) hn (by rw [hl1, List.getElem?_set_self hjl])
    have hmod : (es.modify j (fun e' => { e' with key := kk y })).modify j (fun e => { e with val := val }) = es.modify j (fun e' => { e' with key := kk y, val := val }) := by
      apply Array.toList_inj.1
      rw [Array.toList_modify, hl1, ChangeMaps.modify_eq_set _ _ _ ({ e0 with key := kk y } : MapEntry) (by rw [List.getElem?_set_self hjl]), Array.toList_modify, ChangeMaps.modify_eq_set _ _ _ _ h2]
      simp
    have hrE : (Instr.entryStore t (.map (some b)) (.int .i64 (e0.born : Int)) val).run P w1' = .ok () (setBlock w1' b (.map (es.modify j (fun e' => { e' with key := kk y, val := val })) clock)) := by
      simp [Instr.entryStore, MapKept.run_getObj_map hb1, asInt, asIntOf, hfi, hmod, MapKept.run_setObj_map _ hb1, Result.andThen, setBlock]
    refine ⟨_, hrE, hS.agr_ ?_, ⟨rfl, rfl, rfl, by simp [setBlock], fun i _ hi => sbK_other (fun e => hi (by rw [e]))⟩, by simp [setBlock]⟩
    rw [sbK_same hb1, hw2, sbK_same hb]
end
end Go.Proofs.YtbfcnfgkccgbiaaGreatDoor



namespace Go.Proofs.YtbfcnfgkccgbiaaGreatDoor
open Go.RowKit
open Go.MapKept
open Go.ChangeMaps (setBlock heap_setBlock_same heap_setBlock_other)
open Go.WideElems (Fit rd rg rd_key rd_mk other_key)

/-- block r is an iterator over the map in block bm: the keys of 'need' are still to come; cnt have come -/
def RngI {κ : Type} (kk : κ → Value) (w : World) (r bm : Nat) (need : κ → Bool) (cnt : Nat) : Prop :=
  ∃ since seen c0 es clock, w.heap[r]? = some (.mapIter (some bm) since seen c0) ∧ w.heap[bm]? = some (.map es clock) ∧ (∀ b ∈ seen.toList, b < c0 ∧ ∃ x ∈ es.toList, x.born = b) ∧ c0 ≤ clock ∧ seen.toList.Nodup ∧
    (∀ y, need y = true → ∃ x ∈ es.toList, x.key = kk y ∧ x.born < since ∧ seen.contains x.born = false) ∧ seen.size = cnt
def World.rngSeen (w : World) (r : Nat) : Nat := match w.heap[r]? with
  | some (.mapIter (some _) _ seen _) => seen.size
  | _ => 0
section
variable {κ : Type} {P : Program} {k : TypeId} {kk : κ → Value} {f : κ → Option Value} {w w' : World} {r bm cnt : Nat} {need : κ → Bool}
theorem RngI.cnt_eq (h : RngI kk w r bm need cnt) : World.rngSeen w r = cnt := by
  obtain ⟨since, seen, c0, es, clock, h1, -, -, -, -, -, h2⟩ := h
  unfold World.rngSeen
  rw [h1]
  exact h2
theorem RngI.lt (h : RngI kk w r bm need cnt) : r < w.heap.size ∧ bm < w.heap.size := by
  obtain ⟨since, seen, c0, es, clock, h1, h2, -⟩ := h
  exact ⟨(Array.getElem?_eq_some_iff.1 h1).1, (Array.getElem?_eq_some_iff.1 h2).1⟩
theorem RngI.agr_ (h : RngI kk w r bm need cnt) (e1 : w'.heap[r]? = w.heap[r]?) (e2 : w'.heap[bm]? = w.heap[bm]?) : RngI kk w' r bm need cnt := by
  obtain ⟨since, seen, c0, es, clock, h1, h2, h3⟩ := h
  exact ⟨since, seen, c0, es, clock, e1.trans h1, e2.trans h2, h3⟩
theorem RngI.via (h : RngI kk w r bm need cnt) (hb : Below w.heap.size w w') : RngI kk w' r bm need cnt := h.agr_ (hb.block r h.lt.1) (hb.block bm h.lt.2)
theorem RngI.le {n : Nat} (h : RngI kk w r bm need cnt) (hn : ∀ es clock, w.heap[bm]? = some (.map es clock) → es.size ≤ n) : cnt ≤ n := by
  obtain ⟨since, seen, c0, es, clock, h1, h2, h3, h4, h5, h6, h7⟩ := h
  have h8 := hn _ _ h2
  have key : ∀ (l : List Nat) (m : List Nat), l.Nodup → (∀ x ∈ l, x ∈ m) → l.length ≤ m.length := by
    intro l
    induction l with
    | nil => intro m _ _; simp
    | cons a l ih =>
      intro m hnd hs
      obtain ⟨p, q, rfl⟩ := List.append_of_mem (hs a (List.mem_cons_self ..))
      have := ih (p ++ q) (List.nodup_cons.1 hnd).2 fun x hx => by
        have h1 := hs x (List.mem_cons_of_mem _ hx)
        have h2 : x ≠ a := fun e => (List.nodup_cons.1 hnd).1 (e ▸ hx)
        simp only [List.mem_append, List.mem_cons] at h1 ⊢
        rcases h1 with h1 | h1 | h1
        · exact Or.inl h1
        · exact absurd h1 h2
        · exact Or.inr h1
      simp only [List.length_append, List.length_cons] at this ⊢; omega
  have := key seen.toList (es.toList.map (·.born)) h5 fun b hb => by
    obtain ⟨-, x, hx, e⟩ := h3 b hb
    exact List.mem_map.2 ⟨x, hx, e⟩
  simp at this; omega
theorem MapK.rangeI {b : Nat} {t e : TypeId} (h : MapK P k kk w b f) (ht : P.underlying t = some (.map k e)) : ∃ w', (Instr.range t (.map (some b))).run P w = .ok (.pointer (some ⟨w.heap.size, 0, none⟩)) w' ∧ RngI kk w' w.heap.size b (fun y => (f y).isSome) 0 ∧ Below w.heap.size w w' ∧ w'.heap.size = w.heap.size + 1 := by
  obtain ⟨es, clock, hb, F, hk, hff⟩ := h
  have hst := F.stamped
  refine ⟨_, run_range_map w _ _ _ b es clock ht hb, ⟨clock, #[], clock, es, clock, by rw [heap_alloc_new], by rw [heap_alloc_old w _ (Array.getElem?_eq_some_iff.1 hb).1, hb], by simp, Nat.le_refl _, by simp, ?_, rfl⟩, (Below.refl _ _).alloc (Nat.le_refl _) _, by simp⟩
  intro y hy
  obtain ⟨v, hv⟩ := Option.isSome_iff_exists.1 hy
  obtain ⟨x, hx, h1, -⟩ := (hff y v).1 hv
  exact ⟨x, hx, h1, hst.1 x hx, by simp⟩
theorem RngI.next [DecidableEq κ] (h : RngI kk w r bm need cnt) (hm : MapK P k kk w bm f) (hinj : ∀ x y, kk x = kk y → x = y) (hne : r ≠ bm) (ty : TypeId) :
    ((∀ y, need y = false) ∧ ∃ w1 : World, (w1 = w ∨ w1 = w.drew) ∧ (Instr.next (.pointer (some ⟨r, 0, none⟩)) false ty).run P w = .ok (.tuple #[.bool false]) w1) ∨
    ∃ (y : κ) (v : Value) (w' : World), f y = some v ∧ (Instr.next (.pointer (some ⟨r, 0, none⟩)) false ty).run P w = .ok (.tuple #[.bool true, kk y, v]) w' ∧ RngI kk w' r bm (fun z => need z && decide (z ≠ y)) (cnt + 1) ∧ w.grownBy w' (some r) ∧ w'.heap.size = w.heap.size ∧
      (Instr.entry (.pointer (some ⟨r, 0, none⟩))).run P w' = .ok (.tuple #[kk y, v]) w' := by
  obtain ⟨since, seen, c0, es, clock, h1, h2, h3, h4, h5, h6, h7⟩ := h
  obtain ⟨es', clock', hb, F, hk, hff⟩ := hm
  rw [h2] at hb
  cases hb
  have hst := F.stamped
  have hp : es.toList.Pairwise (fun x y => x.key ≠ y.key) := ((stamped_iff es clock).1 hst).2.2
  have huniq : ∀ x ∈ es.toList, ∀ y ∈ es.toList, x.key = y.key → x = y := by
    intro x hx y hy e
    obtain ⟨i, hi⟩ := List.mem_iff_getElem?.1 hx
    obtain ⟨j, hj⟩ := List.mem_iff_getElem?.1 hy
    obtain ⟨hil, hi⟩ := List.getElem?_eq_some_iff.1 hi
    obtain ⟨hjl, hj⟩ := List.getElem?_eq_some_iff.1 hj
    rcases Nat.lt_trichotomy i j with hij | hij | hij
    · exact absurd (by rw [hi, hj]; exact e) (List.pairwise_iff_getElem.1 hp i j hil hjl hij)
    · subst hij; exact hi.symm.trans hj
    · exact absurd (by rw [hi, hj]; exact e.symm) (List.pairwise_iff_getElem.1 hp j i hjl hil hij)
  have htest : (!seen.isEmpty && !es.isEmpty && es.all (fun x => decide (x.born ≥ c0))) = false := by
    rcases Nat.eq_zero_or_pos seen.size with h0 | h0
    · simp [Array.isEmpty, h0]
    · obtain ⟨hb1, x, hx, hxb⟩ := h3 seen[0] (by simp)
      have hall : es.all (fun x => decide (x.born ≥ c0)) = false := by
        rw [Bool.eq_false_iff]
        intro hA
        rw [Array.all_eq_true_iff_forall_mem] at hA
        have := hA x (by simpa using hx)
        simp at this
        omega
      rw [hall, Bool.and_false]
  simp only [Instr.next, getObj, Sem.run_bind, Sem.run, h1, h2, Result.andThen, htest, Bool.false_eq_true, if_false]
  -- the candidates
  generalize hLe : Array.filter (fun e => !seen.contains e.born) es = Lf
  have hLm : ∀ x, x ∈ Lf ↔ x ∈ es.toList ∧ seen.contains x.born = false := by
    intro x
    rw [← hLe]
    simp [Array.mem_filter]
  generalize hOl : Lf.filter (fun x => decide (x.born < since)) = Ol
  generalize hNw : Lf.filter (fun x => decide (x.born ≥ since)) = Nw
  have hOm : ∀ x, x ∈ Ol ↔ (x ∈ es.toList ∧ seen.contains x.born = false) ∧ x.born < since := fun x => by rw [← hOl, Array.mem_filter, hLm]; simp
  have hNm : ∀ x, x ∈ Nw → (x ∈ es.toList ∧ seen.contains x.born = false) := fun x hx => by rw [← hNw, Array.mem_filter, hLm] at hx; exact hx.1
  generalize hC : (if Ol.isEmpty = true then #[none] else #[]) ++ Array.map some (Ol ++ Nw) = C
  have hCm : ∀ c ∈ C, c = none ∧ Ol.isEmpty = true ∨ ∃ e, c = some e ∧ e ∈ es.toList ∧ seen.contains e.born = false := by
    intro c hc
    rw [← hC, Array.mem_append] at hc
    rcases hc with hc | hc
    · by_cases h0 : Ol.isEmpty = true
      · rw [if_pos h0] at hc; exact Or.inl ⟨by simpa using hc, h0⟩
      · rw [if_neg h0] at hc; simp at hc
    · obtain ⟨e, he, rfl⟩ := Array.mem_map.1 hc
      rw [Array.mem_append] at he
      rcases he with he | he
      · exact Or.inr ⟨e, rfl, ((hOm e).1 he).1⟩
      · exact Or.inr ⟨e, rfl, hNm e he⟩
  have hCs : 0 < C.size := by
    rw [← hC]
    by_cases h0 : Ol.isEmpty = true
    · rw [if_pos h0]; simp; omega
    · rw [if_neg h0]
      have : Ol.size ≠ 0 := fun e => h0 (by simp [Array.isEmpty, e])
      simp; omega
  have hch : ∃ (j : Nat) (w1 : World), j < C.size ∧ (w1 = w ∨ w1 = w.drew) ∧ (choose (Question.mapNext C.size)).run P w = .ok j w1 := by
    by_cases hf : C.size ≤ 1
    · exact ⟨0, w, by omega, Or.inl rfl, by simp [choose, Sem.run, Question.forced, hf]⟩
    · exact ⟨_, w.drew, Nat.mod_lt _ (by omega), Or.inr rfl, by
        simp only [choose, Sem.run, Question.forced, decide_eq_true_eq, hf, if_false, Question.cut]
        rfl⟩
  obtain ⟨j, w1, hj, hw1, hrun⟩ := hch
  have hw1h : w1.heap = w.heap := by rcases hw1 with rfl | rfl <;> rfl
  simp only [hrun]
  rcases hCm C[j] (Array.getElem_mem hj) with ⟨hc, h0⟩ | ⟨e, hc, hee, hes⟩
  · refine Or.inl ⟨fun y => ?_, w1, hw1, ?_⟩
    · cases hy : need y with
      | false => rfl
      | true =>
        obtain ⟨x, hx, -, hx2, hx3⟩ := h6 y hy
        have : x ∈ Ol := (hOm x).2 ⟨⟨hx, hx3⟩, hx2⟩
        have hO0 : Ol = #[] := Array.isEmpty_iff.1 h0
        rw [hO0] at this
        simp at this
    · rw [Array.getElem?_eq_getElem hj, hc]; rfl
  · obtain ⟨y, hyk⟩ := hk e hee
    have hfy : f y = some e.val := (hff y e.val).2 ⟨e, hee, hyk, rfl⟩
    have g1 : w1.heap[r]? = some (.mapIter (some bm) since seen c0) := by rw [hw1h]; exact h1
    have g2 : w1.heap[bm]? = some (.map es clock) := by rw [hw1h]; exact h2
    have k1 : (setBlock w1 r (.mapIter (some bm) since (seen.push e.born) clock)).heap[r]? = some (.mapIter (some bm) since (seen.push e.born) clock) := sbK_same g1
    have k2 : (setBlock w1 r (.mapIter (some bm) since (seen.push e.born) clock)).heap[bm]? = some (.map es clock) := (sbK_other (Ne.symm hne)).trans g2
    refine Or.inr ⟨y, e.val, setBlock w1 r (.mapIter (some bm) since (seen.push e.born) clock), hfy, ?_, ⟨since, seen.push e.born, clock, es, clock, k1, k2, ?_, Nat.le_refl _, ?_, ?_, by simp [h7]⟩, ?_, by simp [setBlock, hw1h], ?_⟩
    · rw [Array.getElem?_eq_getElem hj, hc, ← hyk]
      simp only [Sem.run_bind, run_setObj_at g1, Result.andThen]
      rfl
    · intro b hb
      simp only [Array.toList_push, List.mem_append, List.mem_singleton] at hb
      rcases hb with hb | rfl
      · have := h3 b hb; exact ⟨by omega, this.2⟩
      · exact ⟨hst.1 e hee, e, hee, rfl⟩
    · rw [Array.toList_push, List.nodup_append]
      refine ⟨h5, by simp, fun a ha b hb e' => ?_⟩
      simp only [List.mem_singleton] at hb
      subst hb
      subst e'
      have : seen.contains e.born = true := by rw [Array.contains_iff_mem]; simpa using ha
      rw [hes] at this
      cases this
    · intro z hz
      rw [Bool.and_eq_true, decide_eq_true_eq] at hz
      obtain ⟨x, hx, hx1, hx2, hx3⟩ := h6 z hz.1
      refine ⟨x, hx, hx1, hx2, ?_⟩
      rw [contains_push, hx3, Bool.false_or]
      rw [beq_eq_false_iff_ne]
      intro hbn
      have hxe : x = e := by
        have f1 := find_born e es.toList hst.2.1 hee
        have f2 := find_born x es.toList hst.2.1 hx
        first
          | (rw [hbn] at f2; exact Option.some.inj (f2.symm.trans f1))
          | (rw [← hbn] at f2; exact Option.some.inj (f2.symm.trans f1))
      subst hxe
      exact hz.2 (hinj _ _ (hx1.symm.trans hyk))
    · refine ⟨by rcases hw1 with rfl | rfl <;> rfl, by rcases hw1 with rfl | rfl <;> rfl, by rcases hw1 with rfl | rfl <;> rfl, by simp [setBlock, hw1h], fun i _ hi => ?_⟩
      exact (sbK_other (fun e => hi (by rw [e]))).trans (by rw [hw1h])
    · rw [run_entry_at _ r bm since seen es clock e k1 k2 hee hst.2.1, hyk]
/-- 'm[k] = v' beside a range over m -/
theorem MapK.storeI [DecidableEq κ] {b : Nat} {t e : TypeId} (h : MapK P k kk w b f) (K : Maps.Keyed P k) (ht : P.underlying t = some (.map k e)) (hinj : ∀ x y, kk x = kk y → x = y) (y : κ) (val : Value) {kl : Lit} (hkey : keyOf P k (kk y) = some kl)
    (hroom : ∀ es clock, w.heap[b]? = some (.map es clock) → es.size < maxLen) :
    ∃ w', (Instr.mapUpdate t (.map (some b)) (kk y) val).run P w = .ok () w' ∧ MapK P k kk w' b (fun x => if x = y then some val else f x) ∧ w.grownBy w' (some b) ∧ w'.heap.size = w.heap.size ∧
      (∀ r need cnt, r ≠ b → RngI kk w r b need cnt → RngI kk w' r b need cnt) := by
  obtain ⟨w', hrunS, hS, hg, hsz⟩ := h.store K ht hinj y val hkey hroom
  refine ⟨w', hrunS, hS, hg, hsz, ?_⟩
  rintro r need cnt hne ⟨since, seen, c0, es, clock, h1, hb, h3, h4, h5, h6, h7⟩
  obtain ⟨es', clock', hb', F, hk, hf⟩ := h
  rw [hb] at hb'
  cases hb'
  have hr : w'.heap[r]? = some (.mapIter (some b) since seen c0) := (hg.block r (Array.getElem?_eq_some_iff.1 h1).1 (fun e => hne (Option.some.inj e))).trans h1
  rcases K.find w hkey es.toList F.keys with ⟨n1, n2⟩ | ⟨j, e0, n1, n2, n3⟩
  · have hr2 : (Instr.mapUpdate t (.map (some b)) (kk y) val).run P w = .ok () (setBlock w b (.map (es.push ⟨kk y, val, clock⟩) (clock + 1))) := by
      simp [Instr.mapUpdate, run_underlying ht, MapKept.run_getObj_map hb, K.check w false hkey, n1, MapKept.run_setObj_map _ hb, Result.andThen, setBlock]
    rw [hrunS] at hr2
    have hw2 : w' = setBlock w b (.map (es.push ⟨kk y, val, clock⟩) (clock + 1)) := by injection hr2
    have hbb : w'.heap[b]? = some (.map (es.push ⟨kk y, val, clock⟩) (clock + 1)) := by rw [hw2]; exact heap_setBlock_same hb _
    refine ⟨since, seen, c0, _, _, hr, hbb, fun b hb => ?_, by omega, h5, fun z hz => ?_, h7⟩
    · obtain ⟨a, x, hx, hxb⟩ := h3 b hb
      exact ⟨a, x, by simp [hx], hxb⟩
    · obtain ⟨x, hx, hx1⟩ := h6 z hz
      exact ⟨x, by simp [hx], hx1⟩
  · have hj : es[j]? = some e0 := by simpa using n2
    have hr2 : (Instr.mapUpdate t (.map (some b)) (kk y) val).run P w = .ok () (setBlock w b (.map (es.modify j (fun e' => { e' with key := kk y, val := val })) clock)) := by
      simp [Instr.mapUpdate, run_underlying ht, MapKept.run_getObj_map hb, K.check w false hkey, n1, hj, n3, K.stays w hkey, MapKept.run_setObj_map _ hb, Result.andThen, setBlock]
    rw [hrunS] at hr2
    have hw2 : w' = setBlock w b (.map (es.modify j (fun e' => { e' with key := kk y, val := val })) clock) := by injection hr2
    have hbb : w'.heap[b]? = some (.map (es.modify j (fun e' => { e' with key := kk y, val := val })) clock) := by rw [hw2]; exact heap_setBlock_same hb _
    have hlist : (es.modify j (fun e' => { e' with key := kk y, val := val })).toList = es.toList.set j { e0 with key := kk y, val := val } := by rw [Array.toList_modify, ChangeMaps.modify_eq_set _ _ _ _ n2]
    have hjl : j < es.toList.length := (List.getElem?_eq_some_iff.1 n2).1
    have keep : ∀ x ∈ es.toList, ∃ x' ∈ (es.modify j (fun e' => { e' with key := kk y, val := val })).toList, x'.born = x.born ∧ x'.key = x.key := by
      intro x hx
      rw [hlist]
      obtain ⟨i, hi⟩ := List.mem_iff_getElem?.1 hx
      by_cases hij : j = i
      · subst hij
        rw [n2] at hi
        obtain rfl := Option.some.inj hi
        exact ⟨{ e0 with key := kk y, val := val }, List.mem_iff_getElem?.2 ⟨j, by rw [List.getElem?_set_self hjl]⟩, rfl, n3.symm⟩
      · exact ⟨x, List.mem_iff_getElem?.2 ⟨i, by rw [List.getElem?_set_ne hij]; exact hi⟩, rfl, rfl⟩
    refine ⟨since, seen, c0, _, _, hr, hbb, fun b hb => ?_, h4, h5, fun z hz => ?_, h7⟩
    · obtain ⟨a, x, hx, hxb⟩ := h3 b hb
      obtain ⟨x', hx', e1, -⟩ := keep x hx
      exact ⟨a, x', hx', e1.trans hxb⟩
    · obtain ⟨x, hx, hx1, hx2, hx3⟩ := h6 z hz
      obtain ⟨x', hx', e1, e2⟩ := keep x hx
      exact ⟨x', hx', e2.trans hx1, by omega, by rw [e1]; exact hx3⟩
end
section
variable {κ : Type} {P : Program} {k : TypeId} {kk : κ → Value} {f : κ → Option Value} {ops : Array Oper} {rest : List Oper} {o : Oper} {a : Act} {Q : Exit → Act → World → Prop} {w : World}
theorem wpList_range_I (hg : o.guard = none) (t e : TypeId) (ht : P.underlying t = some (.map k e)) (m : Operand) (hop : o.op = Op.range t m) (b : Nat) (hm : a.eval m = .map (some b)) (h : MapK P k kk w b f)
    (hK : ∀ w', RngI kk w' w.heap.size b (fun y => (f y).isSome) 0 → Below w.heap.size w w' → w'.heap.size = w.heap.size + 1 → wpList P ops Q rest (a.put o.dst (.pointer (some ⟨w.heap.size, 0, none⟩))) w') : wpList P ops Q (o :: rest) a w := by
  refine wpList_plain hg fun K' hK' => ?_
  obtain ⟨w', hrun, r1, r2, r3⟩ := h.rangeI ht
  unfold Oper.wp
  simp [execOp, hop, hm, hrun, Result.andThen]
  exact hK' _ _ (hK w' r1 r2 r3)
theorem wpList_next_I [DecidableEq κ] (hg : o.guard = none) (it : Operand) (hop : o.op = Op.next it false) (r bm : Nat) (need : κ → Bool) (cnt : Nat) (hit : a.eval it = .pointer (some ⟨r, 0, none⟩)) (h : RngI kk w r bm need cnt) (hm : MapK P k kk w bm f) (hinj : ∀ x y, kk x = kk y → x = y) (hne : r ≠ bm)
    (hDone : ∀ w', (∀ n, need n = false) → Below w.heap.size w w' → w'.heap = w.heap → wpList P ops Q rest (a.put o.dst (.tuple #[.bool false])) w')
    (hMore : ∀ (y : κ) (v : Value) (w' : World), f y = some v → RngI kk w' r bm (fun z => need z && decide (z ≠ y)) (cnt + 1) → w.grownBy w' (some r) → w'.heap.size = w.heap.size → (Instr.entry (.pointer (some ⟨r, 0, none⟩))).run P w' = .ok (.tuple #[kk y, v]) w' →
      wpList P ops Q rest (a.put o.dst (.tuple #[.bool true, kk y, v])) w') : wpList P ops Q (o :: rest) a w := by
  refine wpList_plain hg fun K' hK' => ?_
  unfold Oper.wp
  rcases h.next (P := P) hm hinj hne o.type with ⟨hl, w1, hw1, hrun⟩ | ⟨y, v, w', h2, hrun, h3, h5, h6, h7⟩
  · simp [execOp, hop, hit, hrun, Result.andThen]
    refine hK' _ _ (hDone w1 hl ?_ ?_)
    · rcases hw1 with rfl | rfl
      · exact Below.refl _ _
      · exact (Below.refl _ _).drew
    · rcases hw1 with rfl | rfl <;> rfl
  · simp [execOp, hop, hit, hrun, Result.andThen]
    exact hK' _ _ (hMore y v w' h2 h3 h5 h6 h7)
/-- 'm[k] = v' beside ranges over m -/
theorem wpList_put_I [DecidableEq κ] {e : TypeId} (hg : o.guard = none) (K : Maps.Keyed P k) (t : TypeId) (ht : P.underlying t = some (.map k e)) (hinj : ∀ x y, kk x = kk y → x = y) (m x y : Operand) (hop : o.op = Op.mapUpdate t m x y) (b : Nat) (n : κ) (val : Value) (hm : a.eval m = .map (some b)) (hx : a.eval x = kk n) (hy : a.eval y = val) (h : MapK P k kk w b f) {kl : Lit} (hkey : keyOf P k (kk n) = some kl)
    (hroom : ∀ es clock, w.heap[b]? = some (.map es clock) → es.size < maxLen)
    (hK : ∀ w', MapK P k kk w' b (fun z => if z = n then some val else f z) → w.grownBy w' (some b) → w'.heap.size = w.heap.size → (∀ r need cnt, r ≠ b → RngI kk w r b need cnt → RngI kk w' r b need cnt) → wpList P ops Q rest (a.put o.dst undef) w') : wpList P ops Q (o :: rest) a w := by
  refine wpList_plain hg fun K' hK' => ?_
  obtain ⟨w', hrun, r1, r2, r3, r4⟩ := h.storeI K ht hinj n val hkey hroom
  unfold Oper.wp
  simp [execOp, hop, hm, hx, hy, hrun, Result.andThen]
  exact hK' _ _ (hK w' r1 r2 r3 r4)
end
end Go.Proofs.YtbfcnfgkccgbiaaGreatDoor




namespace Go.Proofs.YtbfcnfgkccgbiaaGreatDoor
open Go.RowKit

set_option maxHeartbeats 1000000 in
theorem snext_c1 (w0 w : World) (b : Nat) (n : Int) (A : Option Addr) (m c : Nat) (ls : List Int) (hI : Ints w0 A m c ls) (hB : Below w0.heap.size w0 w)
    (hcell : w.cell? ⟨b, 0, none⟩ = some (.slice A m c)) (hf : w.frozen? ⟨b, 0, none⟩ = false) (hn : n ≤ 1000000000) (hn1 : 1 ≤ n) :
    Calls Tryz.prog 52 #[.pointer (some ⟨b, 0, none⟩), .int .i64 n] w (NextP1 w0 w m b n) := by
  by_cases h0 : m = 0
  · have hfin : NextP1 w0 w m b n (.returned (.int .i64 0)) w := ⟨0, A, m, c, ls, rfl, by omega, by omega, Nat.le_refl _, (setCell_self hcell).symm, hI⟩
    have hfin' := Lib.hid hfin
    clear hfin hI
    subst h0
    go_enter Tryz.func52, Tryz.ntmps52
    go_wp2
    go_ret
    exact hfin'.out
  · have h1 : 0 < m := by omega
    have h2 : 1 ≤ n := hn1
    clear h0
    obtain ⟨b1, off, hA, hb1, hx⟩ := hI.at_ h1
    have hx' : w.cell? ⟨b1, off, none⟩ = some (.int .i64 (ls.getD 0 0)) := (hB.cell (p := ⟨b1, off, none⟩) hb1).trans hx
    have hcut := Ints.cut (l := 1) (m := m) hI (by omega) (Nat.le_refl _)
    have hcut' := Lib.hid hcut
    have hlo := belowI_lo (ls.getD 0 0) n h2
    have hhi := belowI_hi (ls.getD 0 0) n h2
    subst hA
    generalize ls.getD 0 0 = x at *
    clear hcut hI hB hx
    have k1 : ((m : Int) == 0) = false := by simp; omega
    have k2 : decide (n < 1) = false := by simp; omega
    go_enter Tryz.func52, Tryz.ntmps52
    go_wp2_with (go_at_call 18; refine (below_c x n _ (by omega) (by omega)).mono ?_; rintro e w' ⟨rfl, rfl⟩)
    all_goals
      go_ret
      refine ⟨_, _, _, _, (ls.take m).drop 1, rfl, hlo, hhi, Nat.sub_le _ _, rfl, ?_⟩
      simpa [*, Addr.add] using hcut'.out

/-- one number, as a natural number -/
def NextN (w0 w : World) (m0 : Nat) (b : Nat) (n : Nat) (e : Ending) (w' : World) : Prop :=
  ∃ (v : Nat) (A : Option Addr) (m c : Nat) (ls : List Int), e = .returned (.int .i64 (v : Int)) ∧ v < n ∧ m ≤ m0 ∧ w' = w.setCell ⟨b, 0, none⟩ (.slice A m c) ∧ Ints w0 A m c ls
theorem snext_n (w0 w : World) (b : Nat) (n : Nat) (q : Int) (hq : q = (n : Int)) (A : Option Addr) (m c : Nat) (ls : List Int) (hI : Ints w0 A m c ls) (hB : Below w0.heap.size w0 w)
    (hcell : w.cell? ⟨b, 0, none⟩ = some (.slice A m c)) (hf : w.frozen? ⟨b, 0, none⟩ = false) (hn : n ≤ 1000000000) (hn1 : 1 ≤ n) :
    Calls Tryz.prog 52 #[.pointer (some ⟨b, 0, none⟩), .int .i64 q] w (NextN w0 w m b n) := by
  subst hq
  refine (snext_c1 w0 w b n A m c ls hI hB hcell hf (by omega) (by omega)).mono ?_
  rintro e w' ⟨v, A', m', c', l', rfl, h2, h3, h4⟩
  exact ⟨v.toNat, A', m', c', l', by rw [Int.toNat_of_nonneg h2], by omega, h4⟩
end Go.Proofs.YtbfcnfgkccgbiaaGreatDoor

