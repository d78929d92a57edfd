/- edit.Script: its closure. -/
import Derived.Test.YtdccgeiniockpaaEB
namespace Go.Proofs.Ytdccgeiniockpaa
open Go.RowKit

theorem edit_info : (Try.prog.info? 24).map (fun i => (i.zero, i.size, i.bytes)) = some (some (.agg #[.int .i64 0, .int .i64 0, .slice none 0 0]), 3, 40) := by kernel_rfl
theorem wpList_append_ed {ops : Array Oper} {rest : List Oper} {o : Oper} {a : Act} {Q : Exit → Act → World → Prop} (w : World) (hgd : o.guard = none) (s y : Operand)
    (ho : o.op = .call { callee := .builtin .append, args := #[s, y], argTypes := #[69, 69] })
    (base : Nat) (v : Value) (raw : List EdRaw) (l : List EdV) (f : Nat) (hv : a.eval s = v) (hrow : EdRow w base v raw l)
    (b : Nat) (hy : a.eval y = .slice (some ⟨b, 0, none⟩) 1 1) (hcell : Blk w b 24 #[.int .i64 (f : Int), .int .i64 (f : Int), .slice none 0 0])
    (h63 : l.length + 1 ≤ 1000000) (hbase : base ≤ w.heap.size)
    (h : ∀ g c' w', EdRow w' base (.slice (some ⟨g, 0, none⟩) (l.length + 1) c') (raw ++ [(f, f, none, 0, 0)]) (l ++ [(f, f, [])]) → w.grownBy w' v.ownBlock → wpList Try.prog ops Q rest (a.put o.dst (.slice (some ⟨g, 0, none⟩) (l.length + 1) c')) w') : wpList Try.prog ops Q (o :: rest) a w := by
  obtain ⟨i, hi, hz⟩ := Option.map_eq_some_iff.1 edit_info
  simp only [Prod.mk.injEq] at hz
  obtain ⟨v', w', hrun, h6, h7, _, h8⟩ := run_append_own_at (P := Try.prog) w base 69 o.type 24 i _ 3 40 (by kernel_rfl) hi hz.1 hz.2.1 hz.2.2 rfl (by omega) v l.length _ hrow.row ⟨b, 0, none⟩ 1 1 (EdE.cells (f, f, none, 0, 0)) rfl
    (fun j u hu => by rw [Addr.add_lit, Nat.zero_add, hcell.cell j, List.getElem?_toArray]; exact hu) (EdE.one _) (by simp [maxLen]; omega) (by omega) hbase
  have hr := hrow.push h6 h7 h8
  rcases h6.2 with ⟨_, h0⟩ | ⟨g, cap, cur, rfl, _⟩
  · omega
  · refine wpList_plain hgd fun _ hK => ?_
    unfold Oper.wp execOp
    simp only [ho, resolve, invoke, builtin, Sem.run_bind, Sem.run_pure, Result.andThen_ok, List.map_toArray, List.map_cons, List.map_nil, hv, hy, hrun]
    exact hK _ _ (h g cap w' hr h7)

/-- the boxes of out, open and i; the row of edits -/
structure ScM (w1 : World) (v : Value) (raw : List EdRaw) (l : List EdV) (op : Bool) (i : Nat) (wr : World) : Prop where
  o : Blk wr w1.heap.size 69 #[v]
  p : Blk wr (w1.heap.size + 1) 4 #[.bool op]
  q : Blk wr (w1.heap.size + 2) 3 #[.int .i64 (i : Int)]
  row : EdRow wr (w1.heap.size + 3) v raw l
  bel : Below w1.heap.size w1 wr
  size : w1.heap.size + 3 ≤ wr.heap.size
section
variable {w1 wr wa : World} {v : Value} {raw : List EdRaw} {l : List EdV} {op : Bool} {i : Nat}
theorem ScM.via (h : ScM w1 v raw l op i wr) (hb : Below wr.heap.size wr wa) : ScM w1 v raw l op i wa :=
  ⟨h.o.via hb, h.p.via hb, h.q.via hb, h.row.via hb, h.bel.via hb, Nat.le_trans h.size hb.size⟩
theorem ScM.al (h : ScM w1 v raw l op i wr) (o : Obj) : ScM w1 v raw l op i (wr.alloc o) := h.via ((Below.refl wr.heap.size wr).alloc (Nat.le_refl _) o)
theorem ScM.drN (h : ScM w1 v raw l op i wr) (q : Nat) : ScM w1 v raw l op i (wr.drewN q) := h.via (below_drewN (Below.refl _ _) q)
theorem ScM.setI (h : ScM w1 v raw l op i wr) : ScM w1 v raw l op (i + 1) (wr.setCell ⟨w1.heap.size + 2, 0, none⟩ (.int .i64 ((i : Int) + 1))) :=
  ⟨h.o.far (by simp) _, h.p.far (by simp) _, by have := h.q.set1 (.int .i64 ((i : Int) + 1)); exact this, h.row.low (by simp) _, h.bel.setCell (by simp) _, by simpa using h.size⟩
theorem ScM.setOp (h : ScM w1 v raw l op i wr) (b : Bool) : ScM w1 v raw l b i (wr.setCell ⟨w1.heap.size + 1, 0, none⟩ (.bool b)) :=
  ⟨h.o.far (by simp) _, h.p.set1 _, h.q.far (by simp) _, h.row.low (by simp) _, h.bel.setCell (by simp) _, by simpa using h.size⟩
theorem ScM.push {g c' f : Nat} {w' : World} (h : ScM w1 v raw l op i wr) (hr : EdRow w' (w1.heap.size + 3) (.slice (some ⟨g, 0, none⟩) (l.length + 1) c') (raw ++ [(f, f, none, 0, 0)]) (l ++ [(f, f, [])])) (hg : wr.grownBy w' v.ownBlock) :
    ScM w1 (.slice (some ⟨g, 0, none⟩) (l.length + 1) c') (raw ++ [(f, f, none, 0, 0)]) (l ++ [(f, f, [])]) op i (w'.setCell ⟨w1.heap.size, 0, none⟩ (.slice (some ⟨g, 0, none⟩) (l.length + 1) c')) := by
  have hne : ∀ b, b < w1.heap.size + 3 → some b ≠ v.ownBlock := fun b hb e => by have := (h.row.lt b e.symm).1; omega
  refine ⟨(h.o.grown hg (hne _ (by omega))).set1 _, (h.p.grown hg (hne _ (by omega))).far (by simp) _, (h.q.grown hg (hne _ (by omega))).far (by simp) _, hr.low (by simp) _, (h.bel.grown hg h.bel.size fun k e => ?_).setCell (by simp) _, ?_⟩
  · have := (h.row.lt k e).1; omega
  · have := h.size; have := hg.size; simp; omega
end
section
variable {w1 wr wa w' : World} {raw0 : List EdRaw} {l0 : List EdV} {op : Bool} {f i g cap : Nat} {S : SlV} {ns : List Int}
theorem ScM.setTo (h : ScM w1 (.slice (some ⟨g, 0, none⟩) (l0.length + 1) cap) (raw0 ++ [(f, i, S)]) (l0 ++ [(f, i, ns)]) op i wr) :
    ScM w1 (.slice (some ⟨g, 0, none⟩) (l0.length + 1) cap) (raw0 ++ [(f, i + 1, S)]) (l0 ++ [(f, i + 1, ns)]) op i (wr.setCell ⟨g, l0.length * 3 + 1, none⟩ (.int .i64 ((i : Int) + 1))) := by
  have hg := (h.row.lt g rfl).1
  exact ⟨h.o.far (by simp; omega) _, h.p.far (by simp; omega) _, h.q.far (by simp; omega) _, h.row.setTo, h.bel.setCell (by simp; omega) _, by simpa using h.size⟩
theorem ScM.pushNew {A' : Option Addr} {k c' : Nat} {y : Int} (h : ScM w1 (.slice (some ⟨g, 0, none⟩) (l0.length + 1) cap) (raw0 ++ [(f, i, S)]) (l0 ++ [(f, i, ns)]) op i wr)
    (ho : OwnI w' (w1.heap.size + 3) (.slice A' k c') k (ns ++ [y])) (hg : wr.grownBy w' (nv (f, i, S)).ownBlock) (ha : (Value.slice A' k c').ownBlock = (nv (f, i, S)).ownBlock ∨ (Value.slice A' k c').ownBlock = some wr.heap.size) :
    ScM w1 (.slice (some ⟨g, 0, none⟩) (l0.length + 1) cap) (raw0 ++ [(f, i, A', k, c')]) (l0 ++ [(f, i, ns ++ [y])]) op i (w'.setCell ⟨g, l0.length * 3 + 2, none⟩ (.slice A' k c')) := by
  have hgl := (h.row.lt g rfl).1
  have hlen : raw0.length = l0.length := by have := h.row.len; simpa using this
  have hown := (h.row.rel raw0.length (f, i, S) (f, i, ns) (by simp) (by rw [hlen]; simp)).2.2
  have hne : ∀ b, b < w1.heap.size + 3 → some b ≠ (nv (f, i, S)).ownBlock := fun b hb e => by have := (hown.lt b e.symm).1; omega
  refine ⟨(h.o.grown hg (hne _ (by omega))).far (by simp; omega) _, (h.p.grown hg (hne _ (by omega))).far (by simp; omega) _, (h.q.grown hg (hne _ (by omega))).far (by simp; omega) _, h.row.pushNew ho hg ha, (h.bel.grown hg h.bel.size fun b e => ?_).setCell (by simp; omega) _, ?_⟩
  · have := (hown.lt b e).1; omega
  · have := h.size; have := hg.size; simp; omega
end

def ChangeP (w1 : World) (l : List EdV) (op : Bool) (i : Nat) (e : Ending) (w' : World) : Prop :=
  ∃ raw0 l0 f ns S g cap, e = .returned (.pointer (some ⟨g, l0.length * 3, none⟩)) ∧ opened l op i = l0 ++ [(f, i, ns)] ∧ ScM w1 (.slice (some ⟨g, 0, none⟩) (l0.length + 1) cap) (raw0 ++ [(f, i, S)]) (l0 ++ [(f, i, ns)]) true i w'

set_option maxRecDepth 100000 in
set_option maxHeartbeats 2000000 in
theorem change_c (w1 wr : World) (v : Value) (raw : List EdRaw) (l : List EdV) (op : Bool) (i : Nat) (h : ScM w1 v raw l op i wr) (hl : op = true → ∃ l0 f ns, l = l0 ++ [(f, i, ns)]) (hn : l.length ≤ 10000) (hi : i ≤ 10000) :
    Calls Try.prog 63 #[.pointer (some ⟨w1.heap.size + 1, 0, none⟩), .pointer (some ⟨w1.heap.size, 0, none⟩), .pointer (some ⟨w1.heap.size + 2, 0, none⟩)] wr (ChangeP w1 l op i) := by
  have Bo := h.o
  have Bp := h.p
  have Bq := h.q
  cases op with
  | true =>
    obtain ⟨l0, f, ns, rfl⟩ := hl rfl
    have hlen := h.row.len
    obtain ⟨raw0, r, rfl⟩ : ∃ raw0 r, raw = raw0 ++ [r] := by
      refine ⟨raw.dropLast, raw.getLast (fun e => by subst e; simp at hlen), (List.dropLast_concat_getLast _).symm⟩
    have hl0 : raw0.length = l0.length := by simpa using hlen
    obtain ⟨f', i', S⟩ := r
    obtain ⟨e1, e2, -⟩ := h.row.rel raw0.length (f', i', S) (f, i, ns) (by simp) (by rw [hl0]; simp)
    simp only at e1 e2
    subst e1 e2
    have hrow := h.row.row
    rw [List.length_append, List.length_singleton] at hrow
    rcases hrow.2 with ⟨_, h0⟩ | ⟨g, cap, cur, rfl, -, -, hcp, -⟩
    · omega
    have H := Lib.hid h
    have i0 : (0 : Int) ≤ (l0.length : Int) := by omega
    clear h hl hlen hl0 hrow
    have hll : l0.length ≤ 10000 := by simp at hn; omega
    clear hn
    have cBo := Bo.cell
    have fBo := Bo.frozen
    have lBo := Bo.lt
    have cBp := Bp.cell
    have fBp := Bp.frozen
    have lBp := Bp.lt
    have cBq := Bq.cell
    have fBq := Bq.frozen
    have lBq := Bq.lt
    go_enter Try.func63, Try.ntmps63
    go_wp2_with fail
    go_ret
    exact ⟨raw0, l0, f', ns, S, g, cap, rfl, rfl, H.out⟩
  | false =>
    obtain ⟨A, c, rfl, -⟩ := h.row.form
    have H := Lib.hid h
    have hsz := h.size
    have hne : ∀ b, b < w1.heap.size + 3 → some b ≠ Value.ownBlock (.slice A l.length c) := fun b hb e => by have := (h.row.lt b e.symm).1; omega
    have HNE := Lib.hid hne
    have hl1 : l.length + 1 ≤ 1000000 := by omega
    have i0 : (0 : Int) ≤ (l.length : Int) := by omega
    clear h hl hne
    have cBo := Bo.cell
    have fBo := Bo.frozen
    have lBo := Bo.lt
    have cBp := Bp.cell
    have fBp := Bp.frozen
    have lBp := Bp.lt
    have cBq := Bq.cell
    have fBq := Bq.frozen
    have lBq := Bq.lt
    go_enter Try.func63, Try.ntmps63
    go_wp2_with (at_builtin; refine wpList_append_ed _ rfl (.tmp 6) (.tmp 10) rfl (w1.heap.size + 3) (.slice A l.length c) raw l i rfl (H.out.al _).row wr.heap.size rfl (Blk.new _ _ _) hl1 (by simp; omega) ?_; intro g1 cap1 w4 ho1 hg1; have Bog := (Bo.al (.cells #[.int .i64 (i : Int), .int .i64 (i : Int), .slice none 0 0] 24)).grown hg1 (HNE.out _ (by omega)); have Bpg := (Bp.al (.cells #[.int .i64 (i : Int), .int .i64 (i : Int), .slice none 0 0] 24)).grown hg1 (HNE.out _ (by omega)); have c1 := Bog.cell; have f1 := Bog.frozen; have c2 := Bpg.cell; have f2 := Bpg.frozen)
    go_ret
    exact ⟨raw, l, i, [], (none, 0, 0), g1, cap1, rfl, rfl, ((H.out.al _).push ho1 hg1).setOp true⟩
end Go.Proofs.Ytdccgeiniockpaa
