/- Texts BL, laid together. -/
import Derived.Test.YtbfcnfgkccgbiaaGreatDoorMF
import Derived.Test.YtbfcnfgkccgbiaaGreatDoorC1
import Derived.Maps.RangeWalk




namespace Go.Proofs.YtbfcnfgkccgbiaaGreatDoor
open Go.RowKit
open Go.MapKept
open Go.ChangeMaps (setBlock heap_setBlock_same heap_setBlock_other)
open Go.WideElems (Fit rd rg rd_key rd_mk other_key)

/-- block r is an iterator over the map in block bm, which holds just what f says; what is still to come -/
def RngK {κ : Type} (kk : κ → Value) (f : κ → Option Value) (w : World) (r bm : Nat) (left : κ → Bool) (cnt : Nat) : Prop :=
  ∃ since seen c0 es clock, w.heap[r]? = some (.mapIter (some bm) since seen c0) ∧ w.heap[bm]? = some (.map es clock) ∧ (∀ x ∈ es.toList, x.born < since) ∧ since ≤ c0 ∧ since ≤ clock ∧ (es.toList.map (·.born)).Nodup ∧ (∀ x ∈ es.toList, ∀ y ∈ es.toList, x.key = y.key → x = y) ∧
    (∀ x ∈ es.toList, ∃ y, x.key = kk y ∧ f y = some x.val) ∧ (∀ y, left y = true ↔ ∃ x ∈ (leftOf es seen).toList, x.key = kk y) ∧ (leftOf es seen).size = cnt
def World.rngLeftK (w : World) (r : Nat) : Nat := match w.heap[r]? with
  | some (.mapIter (some bm) _ seen _) => match w.heap[bm]? with
    | some (.map es _) => (leftOf es seen).size
    | _ => 0
  | _ => 0
theorem sbK_same {w : World} {r : Nat} {o o' : Obj} (h : w.heap[r]? = some o) : (setBlock w r o').heap[r]? = some o' := by
  unfold setBlock
  have := (Array.getElem?_eq_some_iff.1 h).1
  simp [this]
theorem sbK_other {w : World} {r i : Nat} {o' : Obj} (h : i ≠ r) : (setBlock w r o').heap[i]? = w.heap[i]? := by
  unfold setBlock
  simp [Ne.symm h]
section
variable {κ : Type} {P : Program} {k : TypeId} {kk : κ → Value} {f : κ → Option Value} {w w' : World} {r bm cnt : Nat} {left : κ → Bool}
theorem RngK.left_eq (h : RngK kk f w r bm left cnt) : World.rngLeftK w r = cnt := by
  obtain ⟨since, seen, c0, es, clock, h1, h2, -, -, -, -, -, -, -, h3⟩ := h
  unfold World.rngLeftK
  rw [h1]
  simp only [h2]
  exact h3
theorem RngK.lt (h : RngK kk f w r bm left cnt) : r < w.heap.size ∧ bm < w.heap.size := by
  obtain ⟨since, seen, c0, es, clock, h1, h2, -⟩ := h
  exact ⟨(Array.getElem?_eq_some_iff.1 h1).1, (Array.getElem?_eq_some_iff.1 h2).1⟩
theorem RngK.agr_ (h : RngK kk f w r bm left cnt) (e1 : w'.heap[r]? = w.heap[r]?) (e2 : w'.heap[bm]? = w.heap[bm]?) : RngK kk f w' r bm left cnt := by
  obtain ⟨since, seen, c0, es, clock, h1, h2, h3⟩ := h
  exact ⟨since, seen, c0, es, clock, e1.trans h1, e2.trans h2, h3⟩
theorem RngK.via (h : RngK kk f w r bm left cnt) (hb : Below w.heap.size w w') : RngK kk f w' r bm left cnt := h.agr_ (hb.block r h.lt.1) (hb.block bm h.lt.2)
theorem RngK.grown {row : Option Nat} (h : RngK kk f w r bm left cnt) (hb : w.grownBy w' row) (h1 : some r ≠ row) (h2 : some bm ≠ row) : RngK kk f w' r bm left cnt := h.agr_ (hb.block r h.lt.1 h1) (hb.block bm h.lt.2 h2)
theorem MapK.range {b : Nat} {t e : TypeId} (h : MapK P k kk w b f) (ht : P.underlying t = some (.map k e)) : ∃ w', (Instr.range t (.map (some b))).run P w = .ok (.pointer (some ⟨w.heap.size, 0, none⟩)) w' ∧ (∃ cnt, RngK kk f w' w.heap.size b (fun y => (f y).isSome) cnt) ∧ Below w.heap.size w w' ∧ w'.heap.size = w.heap.size + 1 := by
  obtain ⟨es, clock, hb, F, hk, hff⟩ := h
  have hst := F.stamped
  refine ⟨_, run_range_map w _ _ _ b es clock ht hb, ⟨_, clock, #[], clock, es, clock, by rw [heap_alloc_new], by rw [heap_alloc_old w _ (Array.getElem?_eq_some_iff.1 hb).1, hb], hst.1, Nat.le_refl _, Nat.le_refl _, hst.2.1, ?_, ?_, ?_, rfl⟩, (Below.refl _ _).alloc (Nat.le_refl _) _, by simp⟩
  · have hp : es.toList.Pairwise (fun x y => x.key ≠ y.key) := ((stamped_iff es clock).1 hst).2.2
    intro x hx y hy e
    obtain ⟨i, hi⟩ := List.mem_iff_getElem?.1 hx
    obtain ⟨j, hj⟩ := List.mem_iff_getElem?.1 hy
    obtain ⟨hil, hi⟩ := List.getElem?_eq_some_iff.1 hi
    obtain ⟨hjl, hj⟩ := List.getElem?_eq_some_iff.1 hj
    rcases Nat.lt_trichotomy i j with hij | hij | hij
    · exact absurd (by rw [hi, hj]; exact e) (List.pairwise_iff_getElem.1 hp i j hil hjl hij)
    · subst hij; exact hi.symm.trans hj
    · exact absurd (by rw [hi, hj]; exact e.symm) (List.pairwise_iff_getElem.1 hp j i hjl hil hij)
  · intro x hx
    obtain ⟨y, hy⟩ := hk x hx
    exact ⟨y, hy, (hff y x.val).2 ⟨x, hx, hy, rfl⟩⟩
  · intro y
    constructor
    · intro hf
      obtain ⟨v, hv⟩ := Option.isSome_iff_exists.1 hf
      obtain ⟨x, hx, h1, -⟩ := (hff y v).1 hv
      exact ⟨x, by simpa [leftOf] using hx, h1⟩
    · rintro ⟨x, hx, h1⟩
      have hx' : x ∈ es.toList := by simpa [leftOf] using hx
      have h2 := (hff y x.val).2 ⟨x, hx', h1, rfl⟩
      show (f y).isSome = true
      rw [h2]; rfl
theorem RngK.next [DecidableEq κ] (h : RngK kk f w r bm left cnt) (hinj : ∀ x y, kk x = kk y → x = y) (hne : r ≠ bm) (ty : TypeId) : ((∀ y, left y = false) ∧ (Instr.next (.pointer (some ⟨r, 0, none⟩)) false ty).run P w = .ok (.tuple #[.bool false]) w) ∨
    ∃ (y : κ) (v : Value) (w' : World) (cnt' : Nat), left y = true ∧ f y = some v ∧ (Instr.next (.pointer (some ⟨r, 0, none⟩)) false ty).run P w = .ok (.tuple #[.bool true, kk y, v]) w' ∧ RngK kk f w' r bm (fun z => left z && decide (z ≠ y)) cnt' ∧ cnt' < cnt ∧ w.grownBy w' (some r) ∧ w'.heap.size = w.heap.size ∧
      (Instr.entry (.pointer (some ⟨r, 0, none⟩))).run P w' = .ok (.tuple #[kk y, v]) w' := by
  obtain ⟨since, seen, c0, es, clock, h1, h2, h3, h4, h5, h6, h7, h8, h9, h10⟩ := h
  rcases run_next_at (P := P) w ty r bm since c0 seen es clock h1 h2 h3 h4 with ⟨h0, hrun⟩ | ⟨e, he, w1, hw1, hrun⟩
  · refine Or.inl ⟨fun n => ?_, hrun⟩
    cases hl : left n with
    | false => rfl
    | true =>
      obtain ⟨x, hx, -⟩ := (h9 n).1 hl
      rw [Array.eq_empty_of_size_eq_zero h0] at hx
      simp at hx
  · have hee : e ∈ es.toList := by
      simp [leftOf] at he ⊢; exact he.1
    obtain ⟨y, hnk, hnv⟩ := h8 e hee
    have hl : left y = true := (h9 y).2 ⟨e, he, hnk⟩
    have hw1h : w1.heap = w.heap := by rcases hw1 with rfl | rfl <;> rfl
    have g1 : w1.heap[r]? = some (.mapIter (some bm) since seen c0) := by rw [hw1h]; exact h1
    have g2 : w1.heap[bm]? = some (.map es clock) := by rw [hw1h]; exact h2
    have k1 : (setBlock w1 r (.mapIter (some bm) since (seen.push e.born) clock)).heap[r]? = some (.mapIter (some bm) since (seen.push e.born) clock) := sbK_same g1
    have k2 : (setBlock w1 r (.mapIter (some bm) since (seen.push e.born) clock)).heap[bm]? = some (.map es clock) := (sbK_other (Ne.symm hne)).trans g2
    have hin : ∀ x, x ∈ (leftOf es (seen.push e.born)).toList ↔ x ∈ (leftOf es seen).toList ∧ x.born ≠ e.born := by
      intro x
      simp only [leftOf, Array.toList_filter, List.mem_filter, contains_push, Bool.not_eq_true', Bool.or_eq_false_iff, beq_eq_false_iff_ne, ne_eq]
      constructor
      · rintro ⟨a, b, c⟩; exact ⟨⟨a, b⟩, c⟩
      · rintro ⟨⟨a, b⟩, c⟩; exact ⟨a, b, c⟩
    have hlt : (leftOf es (seen.push e.born)).size < cnt := by
      rw [← h10]
      have := filter_lt (fun x : MapEntry => !seen.contains x.born) (fun x : MapEntry => !(seen.push e.born).contains x.born) (fun x hx => by
        simp only [contains_push, Bool.not_eq_true', Bool.or_eq_false_iff] at hx ⊢
        exact hx.1) e (by simp [leftOf] at he ⊢; exact he.2) (by simp) es.toList hee
      rw [← Array.length_toList, ← Array.length_toList]
      simpa [leftOf, Array.toList_filter] using this
    refine Or.inr ⟨y, e.val, _, (leftOf es (seen.push e.born)).size, hl, hnv, by rw [hrun, hnk], ⟨since, seen.push e.born, clock, es, clock, k1, k2, h3, h5, h5, h6, h7, h8, fun z => ?_, rfl⟩, hlt, ?_, by simp [setBlock, hw1h], ?_⟩
    · rw [Bool.and_eq_true, decide_eq_true_eq, h9 z]
      constructor
      · rintro ⟨⟨x, hx, hxk⟩, hkn⟩
        refine ⟨x, (hin x).2 ⟨hx, fun hb => hkn ?_⟩, hxk⟩
        have hxe : x ∈ es.toList := by simp [leftOf] at hx ⊢; exact hx.1
        have : x = e := by
          have f1 := find_born e es.toList h6 hee
          have f2 := find_born x es.toList h6 hxe
          rw [hb] at f2
          exact Option.some.inj (f2.symm.trans f1)
        subst this
        exact hinj _ _ (hxk.symm.trans hnk)
      · rintro ⟨x, hx, hxk⟩
        obtain ⟨a, b⟩ := (hin x).1 hx
        refine ⟨⟨x, a, hxk⟩, fun hkn => b ?_⟩
        have hxe : x ∈ es.toList := by simp [leftOf] at a ⊢; exact a.1
        rw [h7 x hxe e hee (by rw [hxk, hnk, hkn])]
    · refine ⟨by rcases hw1 with rfl | rfl <;> rfl, by rcases hw1 with rfl | rfl <;> rfl, by rcases hw1 with rfl | rfl <;> rfl, by simp [setBlock, hw1h], fun i _ hi => ?_⟩
      exact (sbK_other (fun e => hi (by rw [e]))).trans (by rw [hw1h])
    · rw [run_entry_at _ r bm since seen es clock e k1 k2 hee h6, hnk]
end
section
variable {κ : Type} {P : Program} {k : TypeId} {kk : κ → Value} {f : κ → Option Value} {ops : Array Oper} {rest : List Oper} {o : Oper} {a : Act} {Q : Exit → Act → World → Prop} {w : World}
theorem wpList_range_K (hg : o.guard = none) (t e : TypeId) (ht : P.underlying t = some (.map k e)) (m : Operand) (hop : o.op = Op.range t m) (b : Nat) (hm : a.eval m = .map (some b)) (h : MapK P k kk w b f)
    (hK : ∀ w' cnt, RngK kk f w' w.heap.size b (fun y => (f y).isSome) cnt → Below w.heap.size w w' → w'.heap.size = w.heap.size + 1 → wpList P ops Q rest (a.put o.dst (.pointer (some ⟨w.heap.size, 0, none⟩))) w') : wpList P ops Q (o :: rest) a w := by
  refine wpList_plain hg fun K' hK' => ?_
  obtain ⟨w', hrun, ⟨cnt, r1⟩, r2, r3⟩ := h.range ht
  unfold Oper.wp
  simp [execOp, hop, hm, hrun, Result.andThen]
  exact hK' _ _ (hK w' cnt r1 r2 r3)
theorem wpList_next_K [DecidableEq κ] (hg : o.guard = none) (it : Operand) (hop : o.op = Op.next it false) (r bm : Nat) (left : κ → Bool) (cnt : Nat) (hit : a.eval it = .pointer (some ⟨r, 0, none⟩)) (h : RngK kk f w r bm left cnt) (hinj : ∀ x y, kk x = kk y → x = y) (hne : r ≠ bm)
    (hDone : (∀ n, left n = false) → wpList P ops Q rest (a.put o.dst (.tuple #[.bool false])) w)
    (hMore : ∀ (y : κ) (v : Value) (w' : World) (cnt' : Nat), left y = true → f y = some v → RngK kk f w' r bm (fun z => left z && decide (z ≠ y)) cnt' → cnt' < cnt → w.grownBy w' (some r) → w'.heap.size = w.heap.size → (Instr.entry (.pointer (some ⟨r, 0, none⟩))).run P w' = .ok (.tuple #[kk y, v]) w' →
      wpList P ops Q rest (a.put o.dst (.tuple #[.bool true, kk y, v])) w') : wpList P ops Q (o :: rest) a w := by
  refine wpList_plain hg fun K' hK' => ?_
  unfold Oper.wp
  rcases h.next (P := P) hinj hne o.type with ⟨hl, hrun⟩ | ⟨y, v, w', cnt', h1, h2, hrun, h3, h4, h5, h6, h7⟩
  · simp [execOp, hop, hit, hrun, Result.andThen]
    exact hK' _ _ (hDone hl)
  · simp [execOp, hop, hit, hrun, Result.andThen]
    exact hK' _ _ (hMore y v w' cnt' h1 h2 h3 h4 h5 h6 h7)
/-- 'm[k] = v' in a list of operations -/
theorem wpList_put_K [DecidableEq κ] {e : TypeId} (hg : o.guard = none) (K : Maps.Keyed P k) (t : TypeId) (ht : P.underlying t = some (.map k e)) (hinj : ∀ x y, kk x = kk y → x = y) (m x y : Operand) (hop : o.op = Op.mapUpdate t m x y) (b : Nat) (n : κ) (val : Value) (hm : a.eval m = .map (some b)) (hx : a.eval x = kk n) (hy : a.eval y = val) (h : MapK P k kk w b f) {kl : Lit} (hkey : keyOf P k (kk n) = some kl)
    (hroom : ∀ es clock, w.heap[b]? = some (.map es clock) → es.size < maxLen)
    (hK : ∀ w', MapK P k kk w' b (fun z => if z = n then some val else f z) → w.grownBy w' (some b) → w'.heap.size = w.heap.size → wpList P ops Q rest (a.put o.dst undef) w') : wpList P ops Q (o :: rest) a w := by
  refine wpList_plain hg fun K' hK' => ?_
  obtain ⟨w', hrun, r1, r2, r3⟩ := h.store K ht hinj n val hkey hroom
  unfold Oper.wp
  simp [execOp, hop, hm, hx, hy, hrun, Result.andThen]
  exact hK' _ _ (hK w' r1 r2 r3)
end
/-! ### 'm[k], x = v, y': the entry is laid first, its value later -/
theorem findIdx_born {A : Array MapEntry} {l : List MapEntry} (hA : A.toList = l) {j : Nat} {e0 : MapEntry} (hn : (l.map (·.born)).Nodup) (hj : l[j]? = some e0) : A.findIdx? (fun e => (e.born : Int) == ((e0.born : Nat) : Int)) = some j := by
  subst hA
  generalize hA : A.toList = l at *
  obtain rfl : A = l.toArray := by rw [← hA]
  rw [List.findIdx?_toArray, List.findIdx?_eq_some_iff_getElem]
  obtain ⟨hjl, he⟩ := List.getElem?_eq_some_iff.1 hj
  refine ⟨hjl, by rw [he]; simp, fun i hi => ?_⟩
  have h1 : (l[i]'(by omega)).born ≠ e0.born := fun e => by
    rw [List.nodup_iff_pairwise_ne, List.pairwise_map] at hn
    have := List.pairwise_iff_getElem.1 hn i j (by omega) hjl hi
    rw [he] at this
    exact this e
  simp only [beq_iff_eq]
  omega
section
variable {κ : Type} [DecidableEq κ] {P : Program} {k : TypeId} {kk : κ → Value} {f : κ → Option Value} {w w' : World} {b : Nat} {t e : TypeId}
theorem MapK.entry (h : MapK P k kk w b f) (K : Maps.Keyed P k) (ht : P.underlying t = some (.map k e)) (hinj : ∀ x y, kk x = kk y → x = y) (y : κ) (val : Value) {kl : Lit} (hkey : keyOf P k (kk y) = some kl) {z : Value} (hz : (zeroValue e).run P w = .ok z w)
    (hroom : ∀ es clock, w.heap[b]? = some (.map es clock) → es.size < maxLen) :
    ∃ (w1 : World) (st : Nat) (v0 : Value), (Instr.mapEntry t (.map (some b)) (kk y)).run P w = .ok (.tuple #[v0, .int .i64 (st : Int)]) w1 ∧ w.grownBy w1 (some b) ∧ w1.heap.size = w.heap.size ∧
      ∀ w1' : World, w1'.heap[b]? = w1.heap[b]? → ∃ w2, (Instr.entryStore t (.map (some b)) (.int .i64 (st : Int)) val).run P w1' = .ok () w2 ∧ MapK P k kk w2 b (fun x => if x = y then some val else f x) ∧ w1'.grownBy w2 (some b) ∧ w2.heap.size = w1'.heap.size := by
  obtain ⟨w', hrunS, hS, -, -⟩ := h.store K ht hinj y val hkey hroom
  obtain ⟨es, clock, hb, F, hk, hf⟩ := h
  have hst := F.stamped
  rcases K.find w hkey es.toList F.keys with ⟨h1, h2⟩ | ⟨j, e0, h1, h2, h3⟩
  · have hr2 : (Instr.mapUpdate t (.map (some b)) (kk y) val).run P w = .ok () (setBlock w b (.map (es.push ⟨kk y, val, clock⟩) (clock + 1))) := by
      simp [Instr.mapUpdate, run_underlying ht, MapKept.run_getObj_map hb, K.check w false hkey, h1, MapKept.run_setObj_map _ hb, Result.andThen, setBlock]
    rw [hrunS] at hr2
    have hw2 : w' = setBlock w b (.map (es.push ⟨kk y, val, clock⟩) (clock + 1)) := by injection hr2
    have hr1 : (Instr.mapEntry t (.map (some b)) (kk y)).run P w = .ok (.tuple #[z, .int .i64 (clock : Int)]) (setBlock w b (.map (es.push ⟨kk y, z, clock⟩) (clock + 1))) := by
      simp [Instr.mapEntry, run_underlying ht, MapKept.run_getObj_map hb, K.check w false hkey, h1, hz, MapKept.run_setObj_map _ hb, Result.andThen, setBlock, goInt]
    refine ⟨_, clock, z, hr1, ⟨rfl, rfl, rfl, by simp [setBlock], fun i _ hi => sbK_other (fun e => hi (by rw [e]))⟩, by simp [setBlock], fun w1' hb1 => ?_⟩
    rw [sbK_same hb] at hb1
    have hfi : (es.push ⟨kk y, z, clock⟩).findIdx? (fun e => (e.born : Int) == ((clock : Nat) : Int)) = some es.size := by
      have hn : ((es.push ⟨kk y, z, clock⟩).toList.map (·.born)).Nodup := by
        simp only [Array.toList_push, List.map_append, List.map_cons, List.map_nil]
        rw [List.nodup_append]
        refine ⟨hst.2.1, by simp, fun a ha c hc e => ?_⟩
        simp only [List.mem_singleton] at hc
        subst hc
        obtain ⟨x, hx, rfl⟩ := List.mem_map.1 ha
        have := hst.1 x hx
        omega
      exact findIdx_born (l := (es.push ⟨kk y, z, clock⟩).toList) rfl (j := es.size) (e0 := ⟨kk y, z, clock⟩) hn (by simp)
    have hmod : (es.push ⟨kk y, z, clock⟩).modify es.size (fun e => { e with val := val }) = es.push ⟨kk y, val, clock⟩ := by
      apply Array.toList_inj.1
      rw [Array.toList_modify, ChangeMaps.modify_eq_set _ _ _ (⟨kk y, z, clock⟩ : MapEntry) (by simp)]
      simp
    have hrE : (Instr.entryStore t (.map (some b)) (.int .i64 (clock : Int)) val).run P w1' = .ok () (setBlock w1' b (.map (es.push ⟨kk y, val, clock⟩) (clock + 1))) := by
      simp [Instr.entryStore, MapKept.run_getObj_map hb1, asInt, asIntOf, hfi, hmod, MapKept.run_setObj_map _ hb1, Result.andThen, setBlock]
    refine ⟨_, hrE, hS.agr_ ?_, ⟨rfl, rfl, rfl, by simp [setBlock], fun i _ hi => sbK_other (fun e => hi (by rw [e]))⟩, by simp [setBlock]⟩
    rw [sbK_same hb1, hw2, sbK_same hb]
  · have hj : es[j]? = some e0 := by simpa using h2
    have hr2 : (Instr.mapUpdate t (.map (some b)) (kk y) val).run P w = .ok () (setBlock w b (.map (es.modify j (fun e' => { e' with key := kk y, val := val })) clock)) := by
      simp [Instr.mapUpdate, run_underlying ht, MapKept.run_getObj_map hb, K.check w false hkey, h1, hj, h3, K.stays w hkey, MapKept.run_setObj_map _ hb, Result.andThen, setBlock]
    rw [hrunS] at hr2
    have hw2 : w' = setBlock w b (.map (es.modify j (fun e' => { e' with key := kk y, val := val })) clock) := by injection hr2
    have hr1 : (Instr.mapEntry t (.map (some b)) (kk y)).run P w = .ok (.tuple #[e0.val, .int .i64 (e0.born : Int)]) (setBlock w b (.map (es.modify j (fun e' => { e' with key := kk y })) clock)) := by
      simp [Instr.mapEntry, run_underlying ht, MapKept.run_getObj_map hb, K.check w false hkey, h1, hj, h3, K.stays w hkey, MapKept.run_setObj_map _ hb, Result.andThen, setBlock, goInt]
    refine ⟨_, e0.born, e0.val, hr1, ⟨rfl, rfl, rfl, by simp [setBlock], fun i _ hi => sbK_other (fun e => hi (by rw [e]))⟩, by simp [setBlock], fun w1' hb1 => ?_⟩
    rw [sbK_same hb] at hb1
    have hl1 : (es.modify j (fun e' => { e' with key := kk y })).toList = es.toList.set j { e0 with key := kk y } := by rw [Array.toList_modify, ChangeMaps.modify_eq_set _ _ _ _ h2]
    have hjl : j < es.toList.length := (List.getElem?_eq_some_iff.1 h2).1
    have hfi : (es.modify j (fun e' => { e' with key := kk y })).findIdx? (fun e => (e.born : Int) == ((e0.born : Nat) : Int)) = some j := by
      have hn : ((es.modify j (fun e' => { e' with key := kk y })).toList.map (·.born)).Nodup := by
        rw [hl1, List.map_set]
        have : (es.toList.map (·.born)).set j e0.born = es.toList.map (·.born) := by
          have e1 : (es.toList.map (·.born))[j]? = some e0.born := by rw [List.getElem?_map, h2]; rfl
          obtain ⟨e2, e3⟩ := List.getElem?_eq_some_iff.1 e1
          conv => lhs; rw [← e3]
          exact List.set_getElem_self e2
        show ((es.toList.map (·.born)).set j e0.born).Nodup
        rw [this]; exact hst.2.1
      exact findIdx_born (l := (es.modify j (fun e' => { e' with key := kk y })).toList) rfl (j := j) (e0 := { e0 with key := kk y }) hn (by rw [hl1, List.getElem?_set_self hjl])
    have hmod : (es.modify j (fun e' => { e' with key := kk y })).modify j (fun e => { e with val := val }) = es.modify j (fun e' => { e' with key := kk y, val := val }) := by
      apply Array.toList_inj.1
      rw [Array.toList_modify, hl1, ChangeMaps.modify_eq_set _ _ _ ({ e0 with key := kk y } : MapEntry) (by rw [List.getElem?_set_self hjl]), Array.toList_modify, ChangeMaps.modify_eq_set _ _ _ _ h2]
      simp
    have hrE : (Instr.entryStore t (.map (some b)) (.int .i64 (e0.born : Int)) val).run P w1' = .ok () (setBlock w1' b (.map (es.modify j (fun e' => { e' with key := kk y, val := val })) clock)) := by
      simp [Instr.entryStore, MapKept.run_getObj_map hb1, asInt, asIntOf, hfi, hmod, MapKept.run_setObj_map _ hb1, Result.andThen, setBlock]
    refine ⟨_, hrE, hS.agr_ ?_, ⟨rfl, rfl, rfl, by simp [setBlock], fun i _ hi => sbK_other (fun e => hi (by rw [e]))⟩, by simp [setBlock]⟩
    rw [sbK_same hb1, hw2, sbK_same hb]
end
end Go.Proofs.YtbfcnfgkccgbiaaGreatDoor

