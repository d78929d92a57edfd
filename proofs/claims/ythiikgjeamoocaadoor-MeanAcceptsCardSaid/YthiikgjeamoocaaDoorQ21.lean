/- Texts TO, TR, TG, laid together. -/
import Derived.Test.YthiikgjeamoocaaDoorQ18
import Derived.Test.YthiikgjeamoocaaDoorQ9
import Derived.Test.YthiikgjeamoocaaDoorQ20
import Derived.Test.YthiikgjeamoocaaDoorQ11
import Derived.Laws.StructEq




namespace Go.Proofs.YthiikgjeamoocaaDoor
open Go.RowKit

theorem part_int {xs : Array Value} {o : Nat} {k : IntKind} {n : Int} (h : xs[o]? = some (.int k n)) (w : World) : (Go.part 3 xs o).run Tryd.prog w = .ok (.int k n) w := by
  have hi : Tryd.prog.underlying 3 = some (.int .i64) := by kernel_rfl
  simp [Go.part, go_sem, h]
set_option maxHeartbeats 1000000 in
theorem arr_eq (a0 a1 a2 a3 b0 b1 b2 b3 : Int) (w : World) (d : Nat) : (Op.equalIn (d + 2) 112 (.agg #[.int .i64 a0, .int .i64 a1, .int .i64 a2, .int .i64 a3]) (.agg #[.int .i64 b0, .int .i64 b1, .int .i64 b2, .int .i64 b3])).run Tryd.prog w = .ok (decide (a0 = b0 ∧ a1 = b1 ∧ a2 = b2 ∧ a3 = b3)) w := by
  have hu : Tryd.prog.underlying 112 = some (.array 4 3) := by kernel_rfl
  have hi : Tryd.prog.underlying 3 = some (.int .i64) := by kernel_rfl
  have hs : ∀ w, (sizeOf 3).run Tryd.prog w = .ok 1 w := fun w => by kernel_rfl
  have he : ∀ (a b : Int) (w : World), (Op.equalIn (d + 1) 3 (.int .i64 a) (.int .i64 b)).run Tryd.prog w = .ok (a == b) w := fun a b w => run_equalIn_int w d 3 .i64 .i64 a b hi
  unfold Op.equalIn
  simp only [Sem.run_bind, run_underlying hu, Result.andThen_ok, hs]
  have hr : List.range' 0 4 1 = [0, 1, 2, 3] := rfl
  rw [Std.Legacy.Range.forIn_eq_forIn_range']
  have hz : (Std.Legacy.Range.size [0:4]) = 4 := rfl
  simp only [hz]
  rw [show (List.range' [0:4].start 4 [0:4].step) = [0, 1, 2, 3] from rfl]
  simp only [List.forIn_cons, List.forIn_nil, Sem.run_bind, Nat.mul_one]
  have p0 : ∀ (x y z u : Int) (w : World), (Go.part 3 #[.int .i64 x, .int .i64 y, .int .i64 z, .int .i64 u] 0).run Tryd.prog w = .ok (.int .i64 x) w := fun _ _ _ _ w => part_int rfl w
  have p1 : ∀ (x y z u : Int) (w : World), (Go.part 3 #[.int .i64 x, .int .i64 y, .int .i64 z, .int .i64 u] 1).run Tryd.prog w = .ok (.int .i64 y) w := fun _ _ _ _ w => part_int rfl w
  have p2 : ∀ (x y z u : Int) (w : World), (Go.part 3 #[.int .i64 x, .int .i64 y, .int .i64 z, .int .i64 u] 2).run Tryd.prog w = .ok (.int .i64 z) w := fun _ _ _ _ w => part_int rfl w
  have p3 : ∀ (x y z u : Int) (w : World), (Go.part 3 #[.int .i64 x, .int .i64 y, .int .i64 z, .int .i64 u] 3).run Tryd.prog w = .ok (.int .i64 u) w := fun _ _ _ _ w => part_int rfl w
  by_cases h0 : a0 = b0
  · by_cases h1 : a1 = b1
    · by_cases h2 : a2 = b2
      · by_cases h3 : a3 = b3
        · simp [p0, p1, p2, p3, he, h0, h1, h2, h3]
        · have e3 : (a3 == b3) = false := by simpa using h3
          simp [p0, p1, p2, p3, he, h0, h1, h2, h3, e3]
      · have e3 : (a2 == b2) = false := by simpa using h2
        simp [p0, p1, p2, p3, he, h0, h1, h2, e3]
    · have e3 : (a1 == b1) = false := by simpa using h1
      simp [p0, p1, p2, p3, he, h0, h1, e3]
  · have e3 : (a0 == b0) = false := by simpa using h0
    simp [p0, he, h0, e3]
theorem arr_eq9 (a0 a1 a2 a3 b0 b1 b2 b3 : Int) (w : World) : (Op.equalIn 9999 112 (.agg #[.int .i64 a0, .int .i64 a1, .int .i64 a2, .int .i64 a3]) (.agg #[.int .i64 b0, .int .i64 b1, .int .i64 b2, .int .i64 b3])).run Tryd.prog w = .ok (decide (a0 = b0 ∧ a1 = b1 ∧ a2 = b2 ∧ a3 = b3)) w := arr_eq a0 a1 a2 a3 b0 b1 b2 b3 w 9997
theorem nil_eq9 (w : World) : (Op.equalIn 9999 107 (.pointer none) (.pointer none)).run Tryd.prog w = .ok true w := by
  have hu : Tryd.prog.underlying 107 = some (.pointer 110) := by kernel_rfl
  unfold Op.equalIn
  simp [go_sem, run_underlying hu]
set_option maxHeartbeats 1000000 in
theorem cd_eq (c d : Cand) (w : World) : (Op.equal 114 (cdVal c none) (cdVal d none)).run Tryd.prog w = .ok (decide (c = d)) w := by
  have h : (Op.equalIn 10000 114 (cdVal c none) (cdVal d none)).run Tryd.prog w = .ok (decide (c = d)) w := by
    obtain ⟨a, b, a0, a1, a2, a3⟩ := c
    obtain ⟨a', b', b0, b1, b2, b3⟩ := d
    unfold cdVal
    simp [go_sem, arr_eq9, nil_eq9]
    by_cases e1 : a = a'
    · by_cases e2 : b = b'
      · by_cases e3 : a0 = b0
        · by_cases e4 : a1 = b1
          · by_cases e5 : a2 = b2
            · by_cases e6 : a3 = b3
              · simp [e1, e2, e3, e4, e5, e6]
              · have n6 : ¬ (a3 : Int) = (b3 : Int) := by omega
                simp [e1, e2, e3, e4, e5, e6, n6]
            · have n6 : ¬ (a2 : Int) = (b2 : Int) := by omega
              simp [e1, e2, e3, e4, e5, n6]
          · have n6 : ¬ (a1 : Int) = (b1 : Int) := by omega
            simp [e1, e2, e3, e4, n6]
        · have n6 : ¬ (a0 : Int) = (b0 : Int) := by omega
          simp [e1, e2, e3, n6]
      · have n6 : ¬ (b : Int) = (b' : Int) := by omega
        simp [e1, e2, n6]
    · have n6 : ¬ (a : Int) = (a' : Int) := by omega
      simp [e1, n6]
  exact h
/-- the entry of a key -/
theorem ask_cd (c : Cand) (w : World) : ∀ (es : List MapEntry) (i : Nat), (∀ e ∈ es, ∃ d, e.key = cdVal d none) →
    ((Instr.findAsking 114 (cdVal c none) es i).run Tryd.prog w = .ok none w ∧ ∀ e ∈ es, e.key ≠ cdVal c none) ∨ ∃ j e, (Instr.findAsking 114 (cdVal c none) es i).run Tryd.prog w = .ok (some (i + j, e.val)) w ∧ es[j]? = some e ∧ e.key = cdVal c none
  | [], i, _ => Or.inl ⟨rfl, fun e he => absurd he List.not_mem_nil⟩
  | e :: es, i, h => by
    obtain ⟨d, hd⟩ := h e (List.mem_cons_self ..)
    by_cases hcd : c = d
    · subst hcd
      refine Or.inr ⟨0, e, ?_, rfl, hd⟩
      simp [Instr.findAsking, hd, Sem.run_bind, cd_eq]
    · have hne : e.key ≠ cdVal c none := by
        rw [hd]; intro he
        apply hcd
        obtain ⟨a, b, a0, a1, a2, a3⟩ := c
        obtain ⟨a', b', b0, b1, b2, b3⟩ := d
        simp [cdVal] at he
        simp only [Prod.mk.injEq]
        omega
      have hstep : ∀ w, (Instr.findAsking 114 (cdVal c none) (e :: es) i).run Tryd.prog w = (Instr.findAsking 114 (cdVal c none) es (i + 1)).run Tryd.prog w := fun w => by
        simp [Instr.findAsking, hd, Sem.run_bind, cd_eq, hcd]
      rcases ask_cd c w es (i + 1) (fun x hx => h x (List.mem_cons_of_mem _ hx)) with ⟨h1, h2⟩ | ⟨j, x, h1, h2, h3⟩
      · exact Or.inl ⟨(hstep w).trans h1, fun x hx => by
          rcases List.mem_cons.1 hx with rfl | hx
          · exact hne
          · exact h2 x hx⟩
      · exact Or.inr ⟨j + 1, x, (hstep w).trans (by rw [h1, show i + 1 + j = i + (j + 1) by omega]), h2, h3⟩
theorem find_cd (c : Cand) (w : World) (es : List MapEntry) (h : ∀ e ∈ es, ∃ d, e.key = cdVal d none) :
    ((Instr.findKey 114 (cdVal c none) es).run Tryd.prog w = .ok none w ∧ ∀ e ∈ es, e.key ≠ cdVal c none) ∨ ∃ j e, (Instr.findKey 114 (cdVal c none) es).run Tryd.prog w = .ok (some (j, e.val)) w ∧ es[j]? = some e ∧ e.key = cdVal c none := by
  have hu : ∃ fs, Tryd.prog.underlying 114 = some (.struct fs) := ⟨Tryd.prog.fieldsOf 114, by kernel_rfl⟩
  obtain ⟨fs, hu⟩ := hu
  have hk : ∀ (es : List MapEntry), es ≠ [] → Instr.findNow (.struct fs) (cdVal c none) es 0 = none := by
    intro es hne
    cases es with
    | nil => exact absurd rfl hne
    | cons e es => simp [Instr.findNow, Instr.sameNow]
  by_cases he : es = []
  · subst he
    refine Or.inl ⟨?_, fun e he => absurd he List.not_mem_nil⟩
    simp [Instr.findKey, Instr.findNow, run_underlying hu]
  · have hr : (Instr.findKey 114 (cdVal c none) es).run Tryd.prog w = (Instr.findAsking 114 (cdVal c none) es 0).run Tryd.prog w := by
      simp [Instr.findKey, Sem.run_bind, run_underlying hu, hk es he]
    rcases ask_cd c w es 0 h with ⟨h1, h2⟩ | ⟨j, x, h1, h2, h3⟩
    · exact Or.inl ⟨hr.trans h1, h2⟩
    · exact Or.inr ⟨j, x, hr.trans (by rw [h1, Nat.zero_add]), h2, h3⟩
theorem check_int (em : Bool) (d : Nat) (k : IntKind) (n : Int) (w : World) : (Instr.checkKey em (d + 1) 3 (.int k n)).run Tryd.prog w = .ok () w := by
  have hi : Tryd.prog.underlying 3 = some (.int .i64) := by kernel_rfl
  simp [Instr.checkKey, Sem.run_bind, run_underlying hi]
theorem check_ptr (em : Bool) (d : Nat) (p : Option Addr) (w : World) : (Instr.checkKey em (d + 1) 107 (.pointer p)).run Tryd.prog w = .ok () w := by
  have hu : Tryd.prog.underlying 107 = some (.pointer 110) := by kernel_rfl
  simp [Instr.checkKey, Sem.run_bind, run_underlying hu]
theorem check_arr (em : Bool) (d : Nat) (a0 a1 a2 a3 : Int) (w : World) : (Instr.checkKey em (d + 2) 112 (.agg #[.int .i64 a0, .int .i64 a1, .int .i64 a2, .int .i64 a3])).run Tryd.prog w = .ok () w := by
  have hu : Tryd.prog.underlying 112 = some (.array 4 3) := by kernel_rfl
  have hs : ∀ w, (sizeOf 3).run Tryd.prog w = .ok 1 w := fun w => by kernel_rfl
  unfold Instr.checkKey
  simp only [Sem.run_bind, run_underlying hu, Result.andThen_ok]
  rw [Std.Legacy.Range.forIn_eq_forIn_range']
  have hz : (Std.Legacy.Range.size [0:4]) = 4 := rfl
  simp only [hz]
  rw [show (List.range' [0:4].start 4 [0:4].step) = [0, 1, 2, 3] from rfl]
  have p0 : ∀ (w : World), (Go.part 3 #[.int .i64 a0, .int .i64 a1, .int .i64 a2, .int .i64 a3] 0).run Tryd.prog w = .ok (.int .i64 a0) w := fun w => part_int rfl w
  have p1 : ∀ (w : World), (Go.part 3 #[.int .i64 a0, .int .i64 a1, .int .i64 a2, .int .i64 a3] 1).run Tryd.prog w = .ok (.int .i64 a1) w := fun w => part_int rfl w
  have p2 : ∀ (w : World), (Go.part 3 #[.int .i64 a0, .int .i64 a1, .int .i64 a2, .int .i64 a3] 2).run Tryd.prog w = .ok (.int .i64 a2) w := fun w => part_int rfl w
  have p3 : ∀ (w : World), (Go.part 3 #[.int .i64 a0, .int .i64 a1, .int .i64 a2, .int .i64 a3] 3).run Tryd.prog w = .ok (.int .i64 a3) w := fun w => part_int rfl w
  simp [Sem.run_bind, hs, p0, p1, p2, p3, check_int]
theorem check_cd (em : Bool) (c : Cand) (w : World) : (Instr.checkKey em 10000 114 (cdVal c none)).run Tryd.prog w = .ok () w := by
  have h1 : ∀ (k : IntKind) (n : Int) (w : World), (Instr.checkKey em 9999 3 (.int k n)).run Tryd.prog w = .ok () w := fun k n w => check_int em 9998 k n w
  have h2 : ∀ (p : Option Addr) (w : World), (Instr.checkKey em 9999 107 (.pointer p)).run Tryd.prog w = .ok () w := fun p w => check_ptr em 9998 p w
  have h3 : ∀ (a0 a1 a2 a3 : Int) (w : World), (Instr.checkKey em 9999 112 (.agg #[.int .i64 a0, .int .i64 a1, .int .i64 a2, .int .i64 a3])).run Tryd.prog w = .ok () w := fun a0 a1 a2 a3 w => check_arr em 9997 a0 a1 a2 a3 w
  show (Instr.checkKey em (9999 + 1) 114 (cdVal c none)).run Tryd.prog w = .ok () w
  unfold Instr.checkKey cdVal
  simp [go_sem, h1, h2, h3]
/-- a map whose keys are just the candidates of S, its values true -/
def SeenM (w : World) (b : Nat) (S : List Cand) : Prop :=
  ∃ es clock, w.heap[b]? = some (.map es clock) ∧ (∀ x ∈ es.toList, ∃ c ∈ S, x.key = cdVal c none ∧ x.val = .bool true) ∧ ∀ c ∈ S, ∃ x ∈ es.toList, x.key = cdVal c none
theorem SeenM.made (w : World) : SeenM (w.alloc (.map #[] 0)) w.heap.size [] := ⟨#[], 0, (MapKept.heap_alloc w _).1, by simp, by simp⟩
theorem SeenM.lt {w : World} {b : Nat} {S : List Cand} (h : SeenM w b S) : b < w.heap.size := by
  obtain ⟨es, clock, hb, _⟩ := h
  exact (Array.getElem?_eq_some_iff.1 hb).1
theorem SeenM.agr_ {w w' : World} {b : Nat} {S : List Cand} (h : SeenM w b S) (e : w'.heap[b]? = w.heap[b]?) : SeenM w' b S := by
  obtain ⟨es, clock, hb, r⟩ := h
  exact ⟨es, clock, e.trans hb, r⟩
theorem SeenM.look {w : World} {b : Nat} {S : List Cand} (h : SeenM w b S) (c : Cand) : (Instr.lookup 101 (.map (some b)) (cdVal c none) false).run Tryd.prog w = .ok (.bool (decide (c ∈ S))) w := by
  obtain ⟨es, clock, hb, h1, h2⟩ := h
  have hu : Tryd.prog.underlying 101 = some (.map 114 4) := by kernel_rfl
  have hz : ∀ w, (zeroValue 4).run Tryd.prog w = .ok (.bool false) w := fun w => by kernel_rfl
  have hg : (getObj b).run Tryd.prog w = .ok (.map es clock) w := MapKept.run_getObj_map hb
  rcases find_cd c w es.toList (fun x hx => by obtain ⟨d, -, hd, -⟩ := h1 x hx; exact ⟨d, hd⟩) with ⟨hf, hno⟩ | ⟨j, x, hf, hj, hx⟩
  · have hn : c ∉ S := fun hc => by obtain ⟨x, hx, hk⟩ := h2 c hc; exact hno x hx hk
    simp [Instr.lookup, Sem.run_bind, run_underlying hu, hg, check_cd, hf, hz, hn]
  · have hm := List.mem_of_getElem? hj
    obtain ⟨d, hd, hk, hv⟩ := h1 x hm
    have hcd : c = d := by
      rw [hk] at hx
      obtain ⟨a, b, a0, a1, a2, a3⟩ := c
      obtain ⟨a', b', b0, b1, b2, b3⟩ := d
      simp [cdVal] at hx
      simp only [Prod.mk.injEq]
      omega
    have hn : c ∈ S := hcd ▸ hd
    simp [Instr.lookup, Sem.run_bind, run_underlying hu, hg, check_cd, hf, hv, hn]
theorem SeenM.store {w : World} {b : Nat} {S : List Cand} (h : SeenM w b S) (c : Cand) (hc : c ∉ S) :
    ∃ w', (Instr.mapUpdate 101 (.map (some b)) (cdVal c none) (.bool true)).run Tryd.prog w = .ok () w' ∧ SeenM w' b (S ++ [c]) ∧ w.grownBy w' (some b) ∧ w'.heap.size = w.heap.size := by
  obtain ⟨es, clock, hb, h1, h2⟩ := h
  have hu : Tryd.prog.underlying 101 = some (.map 114 4) := by kernel_rfl
  have hg : (getObj b).run Tryd.prog w = .ok (.map es clock) w := MapKept.run_getObj_map hb
  have hso : ∀ o, (setObj b o).run Tryd.prog w = .ok () (ChangeMaps.setBlock w b o) := fun o => MapKept.run_setObj_map o hb
  rcases find_cd c w es.toList (fun x hx => by obtain ⟨d, -, hd, -⟩ := h1 x hx; exact ⟨d, hd⟩) with ⟨hf, hno⟩ | ⟨j, x, hf, hj, hx⟩
  · refine ⟨ChangeMaps.setBlock w b (.map (es.push { key := cdVal c none, val := .bool true, born := clock }) (clock + 1)), ?_, ⟨_, _, ChangeMaps.heap_setBlock_same hb _, fun x hx => ?_, fun d hd => ?_⟩, ⟨rfl, rfl, rfl, by simp [ChangeMaps.setBlock], fun i _ hi => ChangeMaps.heap_setBlock_other hb _ (fun e => hi (by rw [e]))⟩, by simp [ChangeMaps.setBlock]⟩
    · simp [Instr.mapUpdate, Sem.run_bind, run_underlying hu, hg, check_cd, hf, hso]
    · simp only [Array.toList_push, List.mem_append, List.mem_singleton] at hx
      rcases hx with hx | rfl
      · obtain ⟨d, hd, hk, hv⟩ := h1 x hx
        exact ⟨d, List.mem_append_left _ hd, hk, hv⟩
      · exact ⟨c, by simp, rfl, rfl⟩
    · rcases List.mem_append.1 hd with hd | hd
      · obtain ⟨x, hx, hk⟩ := h2 d hd
        exact ⟨x, by simp [hx], hk⟩
      · rw [List.mem_singleton.1 hd]
        exact ⟨{ key := cdVal c none, val := .bool true, born := clock }, by simp, rfl⟩
  · exfalso
    obtain ⟨d, hd, hk, -⟩ := h1 x (List.mem_of_getElem? hj)
    have hcd : c = d := by
      rw [hk] at hx
      obtain ⟨a, b, a0, a1, a2, a3⟩ := c
      obtain ⟨a', b', b0, b1, b2, b3⟩ := d
      simp [cdVal] at hx
      simp only [Prod.mk.injEq]
      omega
    exact hc (hcd ▸ hd)
end Go.Proofs.YthiikgjeamoocaaDoor





namespace Go.Proofs.YthiikgjeamoocaaDoor
open Go.RowKit

/-- whose a block is -/
inductive Tg where
  | free
  | fix
  | tree
  | que
  | list (v : Nat)
  | wait (k : WtK)
abbrev OkT (tg : Nat → Tg) (b : Nat) : Prop := tg b = .tree
def wkVal (k : WtK) : Value := .agg #[.int .i64 (k.1 : Int), .int .i64 (k.2 : Int)]
/-- the lister's memory between its steps -/
structure LsM (w0 : World) (bl lb bs bw : Nat) (A : Option Addr) (n c : Nat) (root most : Int) (tg : Nat → Tg) (st : LsS) (qv : Value) (vs : Nat → Value) (F : WtK → Option Value) (w : World) : Prop where
  bel : Below w0.heap.size w0 w
  que : QuV w0.heap.size bl (.slice A n c) (.int .i64 root) (.int .i64 most) (.slice (some ⟨lb, 0, none⟩) n n) (.map (some bs)) (.map (some bw)) (OkT tg) st.q.length st.q qv w
  qtg : ∀ b, qv.ownBlock = some b → tg b = .que
  lbk : ∃ cs : Array Value, Blk w lb 108 cs ∧ cs.size = n ∧ ∀ v, v < n → cs[v]? = some (vs v)
  lst : ∀ v, v < n → Own PtE 107 (OkT tg) w w0.heap.size (vs v) (lstAt st.lists v).length (lstAt st.lists v)
  ltg : ∀ v, v < n → ∀ b, (vs v).ownBlock = some b → tg b = .list v
  seen : SeenM w bs st.seen
  wts : MapK Tryd.prog 148 wkVal w bw F
  wno : ∀ k, F k = none ↔ wGet st.waits k = []
  wrow : ∀ k V, F k = some V → Own WtE 114 (fun _ => False) w w0.heap.size V (wGet st.waits k).length (wGet st.waits k)
  wtg : ∀ k V b, F k = some V → V.ownBlock = some b → tg b = .wait k
  fix : tg bl = .fix ∧ tg lb = .fix ∧ tg bs = .fix ∧ tg bw = .fix
  ne : bl ≠ lb ∧ bl ≠ bs ∧ bl ≠ bw ∧ lb ≠ bs ∧ lb ≠ bw ∧ bs ≠ bw
  rng : ∀ b, tg b ≠ .free → w0.heap.size ≤ b ∧ b < w.heap.size
section
variable {w0 w w' : World} {bl lb bs bw : Nat} {A : Option Addr} {n c : Nat} {root most : Int} {tg : Nat → Tg} {st : LsS} {qv : Value} {vs : Nat → Value} {F : WtK → Option Value}
theorem LsM.size (h : LsM w0 bl lb bs bw A n c root most tg st qv vs F w) : w0.heap.size ≤ w.heap.size := h.bel.size
theorem LsM.via (h : LsM w0 bl lb bs bw A n c root most tg st qv vs F w) (hb : Below w.heap.size w w') : LsM w0 bl lb bs bw A n c root most tg st qv vs F w' :=
  ⟨h.bel.via hb, ⟨h.que.own.via hb, h.que.blk.via hb, h.que.ne, h.que.okq⟩, h.qtg, by
    obtain ⟨cs, h1, h2, h3⟩ := h.lbk
    exact ⟨cs, h1.via hb, h2, h3⟩, fun v hv => (h.lst v hv).via hb, h.ltg, h.seen.agr_ (hb.block bs h.seen.lt), h.wts.via hb, h.wno, fun k V hV => (h.wrow k V hV).via hb, h.wtg, h.fix, h.ne, fun b hb2 => ⟨(h.rng b hb2).1, Nat.lt_of_lt_of_le (h.rng b hb2).2 hb.size⟩⟩
/-- the queue has changed: nothing else has, but for new blocks -/
theorem LsM.setQ {S : Nat → Prop} {tg' : Nat → Tg} {q' : List QE} {qv' : Value} (h : LsM w0 bl lb bs bw A n c root most tg st qv vs F w) (hF : Frq S w w') (hS : ∀ b, S b → b < w.heap.size → b = bl ∨ tg b = .que) (hT : ∀ b, b < w.heap.size → tg' b = tg b) (hR : ∀ b, tg' b ≠ .free → w0.heap.size ≤ b ∧ b < w'.heap.size)
    (hq : QuV w0.heap.size bl (.slice A n c) (.int .i64 root) (.int .i64 most) (.slice (some ⟨lb, 0, none⟩) n n) (.map (some bs)) (.map (some bw)) (OkT tg') q'.length q' qv' w') (hqt : ∀ b, qv'.ownBlock = some b → tg' b = .que) :
    LsM w0 bl lb bs bw A n c root most tg' { st with q := q' } qv' vs F w' := by
  obtain ⟨f1, f2, f3, f4⟩ := h.fix
  have lt : ∀ b, tg b = .fix → b < w.heap.size := fun b hb => (h.rng b (by rw [hb]; exact fun e => by cases e)).2
  have ge : ∀ b, tg b = .fix → w0.heap.size ≤ b := fun b hb => (h.rng b (by rw [hb]; exact fun e => by cases e)).1
  have geq : ∀ b, tg b = .que → w0.heap.size ≤ b := fun b hb => (h.rng b (by rw [hb]; exact fun e => by cases e)).1
  have keep : ∀ b, b < w.heap.size → b ≠ bl → tg b ≠ .que → w'.heap[b]? = w.heap[b]? := fun b hb h1 h2 => hF.block b hb fun hs => by
    rcases hS b hs hb with e | e
    · exact h1 e
    · exact h2 e
  have ok : ∀ b, b < w.heap.size → OkT tg b → OkT tg' b := fun b hb hk => by rw [OkT, hT b hb]; exact hk
  have rows : ∀ (T : Tg) (V : Value), T ≠ .que → T ≠ .fix → (∀ b, V.ownBlock = some b → tg b = T) → Agr (fun b => OkT tg b ∨ some b = V.ownBlock) w w' := fun T V h1 h2 h3 b hb hlt => by
    rcases hb with hb | hb
    · exact keep b hlt (fun e => by rw [e] at hb; rw [OkT, f1] at hb; cases hb) (fun e => by rw [OkT, e] at hb; cases hb)
    · have e := h3 b hb.symm
      exact keep b hlt (fun e2 => by rw [e2, f1] at e; exact h2 e.symm) (fun e2 => by rw [e2] at e; exact h1 e.symm)
  refine ⟨⟨hF.os.trans h.bel.os, hF.tape.trans h.bel.tape, hF.output.trans h.bel.output, Nat.le_trans h.bel.size hF.size, fun b hb => ?_⟩, hq, hqt, ?_, fun v hv => ?_, fun v hv b hb => ?_, ?_, ?_, h.wno, fun k V hV => ?_, fun k V b hV hb => ?_, ?_, h.ne, hR⟩
  · exact (keep b (Nat.lt_of_lt_of_le hb h.bel.size) (fun e => by have := ge bl f1; omega) (fun e => by have := geq b e; omega)).trans (h.bel.block b hb)
  · obtain ⟨cs, h1, h2, h3⟩ := h.lbk
    exact ⟨cs, (keep lb h1.lt (Ne.symm h.ne.1) (fun e => by rw [f2] at e; cases e)).trans h1, h2, h3⟩
  · exact ((h.lst v hv).agr (rows (.list v) (vs v) (fun e => by cases e) (fun e => by cases e) (h.ltg v hv))).mono fun b hb hk => by
      by_cases hlt : b < w.heap.size
      · exact ok b hlt hk
      · exact absurd (h.rng b (by rw [OkT] at hk; rw [hk]; exact fun e => by cases e)).2 hlt
  · rw [hT b ((h.lst v hv).lt b hb).2]; exact h.ltg v hv b hb
  · exact h.seen.agr_ (keep bs h.seen.lt (Ne.symm h.ne.2.1) (fun e => by rw [f3] at e; cases e))
  · exact h.wts.agr_ (keep bw h.wts.lt (Ne.symm h.ne.2.2.1) (fun e => by rw [f4] at e; cases e))
  · have hw := h.wrow k V hV
    exact hw.agr ((rows (.wait k) V (fun e => by cases e) (fun e => by cases e) (fun b hb => h.wtg k V b hV hb)).mono fun b hb => by
      rcases hb with hb | hb
      · exact hb.elim
      · exact Or.inr hb)
  · rw [hT b ((h.wrow k V hV).lt b hb).2]; exact h.wtg k V b hV hb
  · exact ⟨(hT bl (lt bl f1)).trans f1, (hT lb (lt lb f2)).trans f2, (hT bs (lt bs f3)).trans f3, (hT bw (lt bw f4)).trans f4⟩
/-- blocks that were free get an owner -/
theorem LsM.retag {tg' : Nat → Tg} (h : LsM w0 bl lb bs bw A n c root most tg st qv vs F w) (hT : ∀ b, tg b ≠ .free → tg' b = tg b) (hR : ∀ b, tg' b ≠ .free → w0.heap.size ≤ b ∧ b < w.heap.size) : LsM w0 bl lb bs bw A n c root most tg' st qv vs F w := by
  have ok : ∀ b, OkT tg b → OkT tg' b := fun b hk => by
    have hk' : tg b = .tree := hk
    show tg' b = .tree
    rw [hT b (by rw [hk']; exact fun e => by cases e)]; exact hk'
  have tk : ∀ (T : Tg) (b : Nat), T ≠ .free → tg b = T → tg' b = T := fun T b h1 h2 => (hT b (by rw [h2]; exact h1)).trans h2
  obtain ⟨f1, f2, f3, f4⟩ := h.fix
  refine ⟨h.bel, ⟨h.que.own.mono fun b _ hk => ok b hk, h.que.blk, h.que.ne, h.que.okq⟩, fun b hb => tk _ b (fun e => by cases e) (h.qtg b hb), h.lbk, fun v hv => (h.lst v hv).mono fun b _ hk => ok b hk, fun v hv b hb => tk _ b (fun e => by cases e) (h.ltg v hv b hb), h.seen, h.wts, h.wno, h.wrow, fun k V b hV hb => tk _ b (fun e => by cases e) (h.wtg k V b hV hb), ?_, h.ne, hR⟩
  exact ⟨tk _ bl (fun e => by cases e) f1, tk _ lb (fun e => by cases e) f2, tk _ bs (fun e => by cases e) f3, tk _ bw (fun e => by cases e) f4⟩
/-- the map of what has been seen has grown -/
theorem LsM.setSeen {c0 : Cand} (h : LsM w0 bl lb bs bw A n c root most tg st qv vs F w) (hg : w.grownBy w' (some bs)) (hs : SeenM w' bs (st.seen ++ [c0])) : LsM w0 bl lb bs bw A n c root most tg { st with seen := st.seen ++ [c0] } qv vs F w' := by
  obtain ⟨f1, f2, f3, f4⟩ := h.fix
  have ge : ∀ b, tg b ≠ .free → w0.heap.size ≤ b := fun b hb => (h.rng b hb).1
  have ne : ∀ (T : Tg) (b : Nat), T ≠ .fix → tg b = T → some b ≠ some bs := fun T b h1 h2 e => by
    rw [Option.some.inj e, f3] at h2; exact h1 h2.symm
  have rows : ∀ (T : Tg) (V : Value), T ≠ .fix → (∀ b, V.ownBlock = some b → tg b = T) → Agr (fun b => OkT tg b ∨ some b = V.ownBlock) w w' := fun T V h2 h3 => Agr.grown hg fun b hb => by
    rcases hb with hb | hb
    · exact ne .tree b (fun e => by cases e) hb
    · exact ne T b h2 (h3 b hb.symm)
  have hz : w.heap.size ≤ w'.heap.size := hg.size
  refine ⟨h.bel.grown hg h.bel.size (fun b e => by rw [← Option.some.inj e]; exact ge bs (by rw [f3]; exact fun e => by cases e)), ⟨h.que.own.agr (rows .que qv (fun e => by cases e) h.qtg), h.que.blk.grown hg (fun e => h.ne.2.1 (Option.some.inj e)), h.que.ne, h.que.okq⟩, h.qtg, ?_, fun v hv => (h.lst v hv).agr (rows (.list v) (vs v) (fun e => by cases e) (h.ltg v hv)), h.ltg, hs, h.wts.grown hg (fun e => h.ne.2.2.2.2.2 (Option.some.inj e).symm), h.wno, fun k V hV => ?_, h.wtg, h.fix, h.ne, fun b hb => ⟨(h.rng b hb).1, Nat.lt_of_lt_of_le (h.rng b hb).2 hz⟩⟩
  · obtain ⟨cs, h1, h2, h3⟩ := h.lbk
    exact ⟨cs, h1.grown hg (fun e => h.ne.2.2.2.1 (Option.some.inj e)), h2, h3⟩
  · exact (h.wrow k V hV).agr ((rows (.wait k) V (fun e => by cases e) (fun b hb => h.wtg k V b hV hb)).mono fun b hb => by
      rcases hb with hb | hb
      · exact hb.elim
      · exact Or.inr hb)
/-- a list has grown -/
theorem LsM.setList {tg' : Nat → Tg} {v : Nat} {V' : Value} {L' : List CT} (h : LsM w0 bl lb bs bw A n c root most tg st qv vs F w) (hv : v < n) (hln : st.lists.length = n) (hF : Frq (fun b => b = lb ∨ some b = (vs v).ownBlock) w w') (hT : ∀ b, b < w.heap.size → tg' b = tg b) (hR : ∀ b, tg' b ≠ .free → w0.heap.size ≤ b ∧ b < w'.heap.size)
    (hb : ∃ cs : Array Value, Blk w' lb 108 cs ∧ cs.size = n ∧ ∀ u, u < n → cs[u]? = some (if u = v then V' else vs u)) (ho : Own PtE 107 (OkT tg') w' w0.heap.size V' L'.length L') (hot : ∀ b, V'.ownBlock = some b → tg' b = .list v) :
    LsM w0 bl lb bs bw A n c root most tg' { st with lists := st.lists.set v L' } qv (fun u => if u = v then V' else vs u) F w' := by
  obtain ⟨f1, f2, f3, f4⟩ := h.fix
  have lt : ∀ b, tg b = .fix → b < w.heap.size := fun b hb => (h.rng b (by rw [hb]; exact fun e => by cases e)).2
  have ge : ∀ b, tg b ≠ .free → w0.heap.size ≤ b := fun b hb => (h.rng b hb).1
  have keep : ∀ b, b < w.heap.size → b ≠ lb → tg b ≠ .list v → w'.heap[b]? = w.heap[b]? := fun b hb h1 h2 => hF.block b hb fun hs => by
    rcases hs with e | e
    · exact h1 e
    · exact h2 (h.ltg v hv b e.symm)
  have ok : ∀ b, b < w.heap.size → OkT tg b → OkT tg' b := fun b hb hk => by rw [OkT, hT b hb]; exact hk
  have rows : ∀ (T : Tg) (V : Value), T ≠ .list v → T ≠ .fix → (∀ b, V.ownBlock = some b → tg b = T) → Agr (fun b => OkT tg b ∨ some b = V.ownBlock) w w' := fun T V h1 h2 h3 b hb hlt => by
    rcases hb with hb | hb
    · exact keep b hlt (fun e => by rw [e] at hb; rw [OkT, f2] at hb; cases hb) (fun e => by rw [OkT, e] at hb; cases hb)
    · have e := h3 b hb.symm
      exact keep b hlt (fun e2 => by rw [e2, f2] at e; exact h2 e.symm) (fun e2 => by rw [e2] at e; exact h1 e.symm)
  have okm : ∀ {α ρ : Type} {E : Elem α ρ} {e : TypeId} {V : Value} {m : Nat} {l : List α}, Own E e (OkT tg) w' w0.heap.size V m l → Own E e (OkT tg') w' w0.heap.size V m l := fun hw => hw.mono fun b hb hk => by
    by_cases hlt : b < w.heap.size
    · exact ok b hlt hk
    · exact absurd (h.rng b (by rw [OkT] at hk; rw [hk]; exact fun e => by cases e)).2 hlt
  have hget : ∀ u, lstAt (st.lists.set v L') u = if u = v then L' else lstAt st.lists u := fun u => by
    unfold lstAt
    rw [List.getD_eq_getElem?_getD]
    by_cases e : u = v
    · rw [if_pos e, e, List.getElem?_set_self (by omega)]; rfl
    · rw [if_neg e, List.getElem?_set_ne (Ne.symm e), List.getD_eq_getElem?_getD]
  refine ⟨⟨hF.os.trans h.bel.os, hF.tape.trans h.bel.tape, hF.output.trans h.bel.output, Nat.le_trans h.bel.size hF.size, fun b hb => ?_⟩, ⟨okm (h.que.own.agr (rows .que qv (fun e => by cases e) (fun e => by cases e) h.qtg)), ?_, h.que.ne, h.que.okq⟩, fun b hb => ?_, hb, fun u hu => ?_, fun u hu b hb => ?_, ?_, ?_, h.wno, fun k V hV => ?_, fun k V b hV hb => ?_, ?_, h.ne, hR⟩
  · exact (keep b (Nat.lt_of_lt_of_le hb h.bel.size) (fun e => by have := ge lb (by rw [f2]; exact fun e => by cases e); omega) (fun e => by have := ge b (by rw [e]; exact fun e => by cases e); omega)).trans (h.bel.block b hb)
  · exact (keep bl h.que.blk.lt h.ne.1 (fun e => by rw [f1] at e; cases e)).trans h.que.blk
  · rw [hT b ((h.que.own.lt b hb).2)]; exact h.qtg b hb
  · show Own PtE 107 (OkT tg') w' w0.heap.size (if u = v then V' else vs u) (lstAt (st.lists.set v L') u).length (lstAt (st.lists.set v L') u)
    rw [hget]
    by_cases e : u = v
    · rw [if_pos e, if_pos e]; exact ho
    · rw [if_neg e, if_neg e]
      exact okm ((h.lst u hu).agr (rows (.list u) (vs u) (fun e2 => e (by cases e2; rfl)) (fun e => by cases e) (h.ltg u hu)))
  · by_cases e : u = v
    · simp only [if_pos e] at hb; rw [e]; exact hot b hb
    · simp only [if_neg e] at hb
      rw [hT b ((h.lst u hu).lt b hb).2]; exact h.ltg u hu b hb
  · exact h.seen.agr_ (keep bs h.seen.lt (Ne.symm h.ne.2.2.2.1) (fun e => by rw [f3] at e; cases e))
  · exact h.wts.agr_ (keep bw h.wts.lt (Ne.symm h.ne.2.2.2.2.1) (fun e => by rw [f4] at e; cases e))
  · exact (h.wrow k V hV).agr ((rows (.wait k) V (fun e => by cases e) (fun e => by cases e) (fun b hb => h.wtg k V b hV hb)).mono fun b hb => by
      rcases hb with hb | hb
      · exact hb.elim
      · exact Or.inr hb)
  · rw [hT b ((h.wrow k V hV).lt b hb).2]; exact h.wtg k V b hV hb
  · exact ⟨(hT bl (lt bl f1)).trans f1, (hT lb (lt lb f2)).trans f2, (hT bs (lt bs f3)).trans f3, (hT bw (lt bw f4)).trans f4⟩
/-- the row of one key has changed, come or gone -/
theorem LsM.setWait {tg' : Nat → Tg} {k : WtK} {W' : Wts} {F' : WtK → Option Value} (h : LsM w0 bl lb bs bw A n c root most tg st qv vs F w) (hF : Frq (fun b => b = bw ∨ tg b = .wait k) w w') (hT : ∀ b, b < w.heap.size → tg' b = tg b) (hR : ∀ b, tg' b ≠ .free → w0.heap.size ≤ b ∧ b < w'.heap.size)
    (hm : MapK Tryd.prog 148 wkVal w' bw F') (hFo : ∀ j, j ≠ k → F' j = F j) (hgo : ∀ j, j ≠ k → wGet W' j = wGet st.waits j)
    (hk : (F' k = none ∧ wGet W' k = []) ∨ ∃ V, F' k = some V ∧ wGet W' k ≠ [] ∧ Own WtE 114 (fun _ => False) w' w0.heap.size V (wGet W' k).length (wGet W' k) ∧ ∀ b, V.ownBlock = some b → tg' b = .wait k) :
    LsM w0 bl lb bs bw A n c root most tg' { st with waits := W' } qv vs F' w' := by
  obtain ⟨f1, f2, f3, f4⟩ := h.fix
  have lt : ∀ b, tg b = .fix → b < w.heap.size := fun b hb => (h.rng b (by rw [hb]; exact fun e => by cases e)).2
  have ge : ∀ b, tg b ≠ .free → w0.heap.size ≤ b := fun b hb => (h.rng b hb).1
  have keep : ∀ b, b < w.heap.size → b ≠ bw → tg b ≠ .wait k → w'.heap[b]? = w.heap[b]? := fun b hb h1 h2 => hF.block b hb fun hs => by
    rcases hs with e | e
    · exact h1 e
    · exact h2 e
  have ok : ∀ b, b < w.heap.size → OkT tg b → OkT tg' b := fun b hb hk => by rw [OkT, hT b hb]; exact hk
  have rows : ∀ (T : Tg) (V : Value), T ≠ .wait k → T ≠ .fix → (∀ b, V.ownBlock = some b → tg b = T) → Agr (fun b => OkT tg b ∨ some b = V.ownBlock) w w' := fun T V h1 h2 h3 b hb hlt => by
    rcases hb with hb | hb
    · exact keep b hlt (fun e => by rw [e] at hb; rw [OkT, f4] at hb; cases hb) (fun e => by rw [OkT, e] at hb; cases hb)
    · have e := h3 b hb.symm
      exact keep b hlt (fun e2 => by rw [e2, f4] at e; exact h2 e.symm) (fun e2 => by rw [e2] at e; exact h1 e.symm)
  have okm : ∀ {α ρ : Type} {E : Elem α ρ} {e : TypeId} {V : Value} {m : Nat} {l : List α}, Own E e (OkT tg) w' w0.heap.size V m l → Own E e (OkT tg') w' w0.heap.size V m l := fun hw => hw.mono fun b hb hk => by
    by_cases hlt : b < w.heap.size
    · exact ok b hlt hk
    · exact absurd (h.rng b (by rw [OkT] at hk; rw [hk]; exact fun e => by cases e)).2 hlt
  refine ⟨⟨hF.os.trans h.bel.os, hF.tape.trans h.bel.tape, hF.output.trans h.bel.output, Nat.le_trans h.bel.size hF.size, fun b hb => ?_⟩, ⟨okm (h.que.own.agr (rows .que qv (fun e => by cases e) (fun e => by cases e) h.qtg)), ?_, h.que.ne, h.que.okq⟩, fun b hb => ?_, ?_, fun u hu => okm ((h.lst u hu).agr (rows (.list u) (vs u) (fun e => by cases e) (fun e => by cases e) (h.ltg u hu))), fun u hu b hb => ?_, ?_, hm, fun j => ?_, fun j V hV => ?_, fun j V b hV hb => ?_, ?_, h.ne, hR⟩
  · exact (keep b (Nat.lt_of_lt_of_le hb h.bel.size) (fun e => by have := ge bw (by rw [f4]; exact fun e => by cases e); omega) (fun e => by have := ge b (by rw [e]; exact fun e => by cases e); omega)).trans (h.bel.block b hb)
  · exact (keep bl h.que.blk.lt h.ne.2.2.1 (fun e => by rw [f1] at e; cases e)).trans h.que.blk
  · rw [hT b ((h.que.own.lt b hb).2)]; exact h.qtg b hb
  · obtain ⟨cs, h1, h2, h3⟩ := h.lbk
    exact ⟨cs, (keep lb h1.lt h.ne.2.2.2.2.1 (fun e => by rw [f2] at e; cases e)).trans h1, h2, h3⟩
  · rw [hT b ((h.lst u hu).lt b hb).2]; exact h.ltg u hu b hb
  · exact h.seen.agr_ (keep bs h.seen.lt h.ne.2.2.2.2.2 (fun e => by rw [f3] at e; cases e))
  · show F' j = none ↔ wGet W' j = []
    by_cases e : j = k
    · subst e
      rcases hk with ⟨h1, h2⟩ | ⟨V, h1, h2, -⟩
      · exact ⟨fun _ => h2, fun _ => h1⟩
      · exact ⟨(fun h3 => by rw [h1] at h3; cases h3), fun h3 => absurd h3 h2⟩
    · rw [hFo j e, hgo j e]; exact h.wno j
  · show Own WtE 114 (fun _ => False) w' w0.heap.size V (wGet W' j).length (wGet W' j)
    by_cases e : j = k
    · subst e
      rcases hk with ⟨h1, h2⟩ | ⟨V1, h1, h2, h3, h4⟩
      · rw [h1] at hV; cases hV
      · rw [h1] at hV; cases hV; exact h3
    · rw [hFo j e] at hV
      rw [hgo j e]
      exact (h.wrow j V hV).agr ((rows (.wait j) V (fun e2 => e (by cases e2; rfl)) (fun e => by cases e) (fun b hb => h.wtg j V b hV hb)).mono fun b hb => by
        rcases hb with hb | hb
        · exact hb.elim
        · exact Or.inr hb)
  · by_cases e : j = k
    · subst e
      rcases hk with ⟨h1, h2⟩ | ⟨V1, h1, h2, h3, h4⟩
      · rw [h1] at hV; cases hV
      · rw [h1] at hV; cases hV; exact h4 b hb
    · rw [hFo j e] at hV
      rw [hT b ((h.wrow j V hV).lt b hb).2]; exact h.wtg j V b hV hb
  · exact ⟨(hT bl (lt bl f1)).trans f1, (hT lb (lt lb f2)).trans f2, (hT bs (lt bs f3)).trans f3, (hT bw (lt bw f4)).trans f4⟩
end
end Go.Proofs.YthiikgjeamoocaaDoor



namespace Go.Proofs.YthiikgjeamoocaaDoor
open Go.RowKit
open Go.MapKept
open Go.ChangeMaps (setBlock heap_setBlock_same heap_setBlock_other)
open Go.WideElems (Fit rd rg rd_key rd_mk other_key)

section
variable {κ : Type} [DecidableEq κ] {P : Program} {k : TypeId} {kk : κ → Value} {f : κ → Option Value} {w w' : World} {b r bm cnt : Nat} {left : κ → Bool} {t e : TypeId}
/-- what 'delete' does to the entries -/
theorem run_delete_K {ty : TypeId} {es : Array MapEntry} {clock : Nat} (K : Maps.Keyed P k) (ht : P.underlying t = some (.map k e)) (hb : w.heap[b]? = some (.map es clock)) (F : Fit P k anyElem es clock) {key : Value} {kl : Lit} (hkey : keyOf P k key = some kl) :
    ∃ es', (Builtin.delete_ #[t, k] ty #[.map (some b), key]).run P w = .ok (.tuple #[]) (setBlock w b (.map es' clock)) ∧ es'.toList.Sublist es.toList ∧ Fit P k anyElem es' clock ∧ (∀ x, x ∈ es'.toList ↔ x ∈ es.toList ∧ x.key ≠ key) := by
  rcases K.find w hkey es.toList F.keys with ⟨h1, h2⟩ | ⟨j, e0, h1, h2, h3⟩
  · refine ⟨es, ?_, List.Sublist.refl _, F, fun x => ⟨fun h => ⟨h, h2 x h⟩, fun h => h.1⟩⟩
    simp [Builtin.delete_, run_underlying ht, MapKept.run_getObj_map hb, K.check w _ hkey, h1, MapKept.run_setObj_map _ hb, Result.andThen, setBlock]
  · have hjl : j < es.toList.length := (List.getElem?_eq_some_iff.1 h2).1
    have hjs : j < es.size := by simpa using hjl
    have hsub : (es.eraseIdxIfInBounds j).toList = es.toList.eraseIdx j := by
      unfold Array.eraseIdxIfInBounds
      rw [dif_pos hjs]
      simp
    have hp : es.toList.Pairwise (fun x y => x.key ≠ y.key) := ((stamped_iff es clock).1 F.stamped).2.2
    refine ⟨es.eraseIdxIfInBounds j, ?_, ?_, ⟨Nat.le_trans (MapFrom.size_erase es j) F.size, stamped_erase F.stamped j, ?_⟩, fun x => ?_⟩
    · simp [Builtin.delete_, run_underlying ht, MapKept.run_getObj_map hb, K.check w _ hkey, h1, MapKept.run_setObj_map _ hb, Result.andThen, setBlock]
    · rw [hsub]; exact List.eraseIdx_sublist _ _
    · intro x hx
      rw [hsub] at hx
      exact F.reads x ((List.eraseIdx_sublist _ _).subset hx)
    · classical
      have hf := ChangeMaps.filter_eq_eraseIdx (fun x : MapEntry => decide (x.key = key)) es.toList j e0 h2 (by simp [h3]) (hp.imp fun {a c} h => by
        simp only [decide_eq_true_eq, not_and]
        intro ea ec
        exact h (ea.trans ec.symm))
      rw [hsub, ← hf, List.mem_filter]
      simp
/-- 'delete(m, k)' -/
theorem MapK.del {ty : TypeId} (h : MapK P k kk w b f) (K : Maps.Keyed P k) (ht : P.underlying t = some (.map k e)) (y : κ) {kl : Lit} (hkey : keyOf P k (kk y) = some kl) (hinj : ∀ x y, kk x = kk y → x = y) :
    ∃ w', (Builtin.delete_ #[t, k] ty #[.map (some b), kk y]).run P w = .ok (.tuple #[]) w' ∧ MapK P k kk w' b (fun x => if x = y then none else f x) ∧ w.grownBy w' (some b) ∧ w'.heap.size = w.heap.size ∧
      (∀ r left cnt, r ≠ b → RngK kk f w r b left cnt → ∃ cnt', cnt' ≤ cnt ∧ RngK kk (fun x => if x = y then none else f x) w' r b (fun z => left z && decide (z ≠ y)) cnt') := by
  obtain ⟨es, clock, hb, F, hk, hf⟩ := h
  obtain ⟨es', hrun, hsub, F', hm⟩ := run_delete_K (ty := ty) K ht hb F hkey
  have hf' : ∀ z v, (if z = y then none else f z) = some v ↔ ∃ x ∈ es'.toList, x.key = kk z ∧ x.val = v := by
    intro z v
    by_cases hz : z = y
    · subst hz
      simp only [if_true]
      constructor
      · intro h; cases h
      · rintro ⟨x, hx, h1, -⟩
        exact absurd h1 ((hm x).1 hx).2
    · rw [if_neg hz, hf z v]
      constructor
      · rintro ⟨x, hx, h1, h2⟩
        exact ⟨x, (hm x).2 ⟨hx, fun e => hz (hinj _ _ (h1.symm.trans e))⟩, h1, h2⟩
      · rintro ⟨x, hx, h1, h2⟩
        exact ⟨x, ((hm x).1 hx).1, h1, h2⟩
  refine ⟨_, hrun, ⟨es', clock, heap_setBlock_same hb _, F', fun x hx => hk x ((hm x).1 hx).1, hf'⟩, ⟨rfl, rfl, rfl, by simp [setBlock], fun i _ hi => heap_setBlock_other hb _ (fun e => hi (by rw [e]))⟩, by simp [setBlock], ?_⟩
  rintro r left cnt hne ⟨since, seen, c0, es1, clock1, h1, h2, h3, h4, h5, h6, h7, h8, h9, h10⟩
  rw [hb] at h2
  cases h2
  have hlm : ∀ x, x ∈ (leftOf es' seen).toList ↔ x ∈ (leftOf es seen).toList ∧ x.key ≠ kk y := by
    intro x
    simp only [leftOf, Array.toList_filter, List.mem_filter, hm x]
    constructor
    · rintro ⟨⟨a, b⟩, c⟩; exact ⟨⟨a, c⟩, b⟩
    · rintro ⟨⟨a, c⟩, b⟩; exact ⟨⟨a, b⟩, c⟩
  refine ⟨(leftOf es' seen).size, ?_, since, seen, c0, es', clock, (heap_setBlock_other hb _ hne).trans h1, heap_setBlock_same hb _, fun x hx => h3 x ((hm x).1 hx).1, h4, h5, ?_, fun x hx z hz => h7 x ((hm x).1 hx).1 z ((hm z).1 hz).1, ?_, ?_, rfl⟩
  · rw [← h10, ← Array.length_toList, ← Array.length_toList]
    simp only [leftOf, Array.toList_filter]
    exact (hsub.filter _).length_le
  · exact (hsub.map _).nodup h6
  · intro x hx
    obtain ⟨z, hz1, hz2⟩ := h8 x ((hm x).1 hx).1
    refine ⟨z, hz1, ?_⟩
    have hzy : z ≠ y := fun e' => ((hm x).1 hx).2 (by rw [hz1, e'])
    show (if z = y then none else f z) = some x.val
    rw [if_neg hzy]
    exact hz2
  · intro z
    rw [Bool.and_eq_true, decide_eq_true_eq, h9 z]
    constructor
    · rintro ⟨⟨x, hx, hxk⟩, hz⟩
      exact ⟨x, (hlm x).2 ⟨hx, fun e => hz (hinj _ _ (hxk.symm.trans e))⟩, hxk⟩
    · rintro ⟨x, hx, hxk⟩
      obtain ⟨a, c⟩ := (hlm x).1 hx
      exact ⟨⟨x, a, hxk⟩, fun e => c (by rw [hxk, e])⟩
variable {ops : Array Oper} {rest : List Oper} {o : Oper} {a : Act} {Q : Exit → Act → World → Prop}
end
end Go.Proofs.YthiikgjeamoocaaDoor

