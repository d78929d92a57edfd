/- rules, Word: lists that a walk gathers. -/
import Derived.Test.YtghnkgbingcbcaaRU
namespace Go.Proofs.Ytghnkgbingcbcaa
open Go.RowKit

theorem flatMap_one {α β : Type} (f : α → β) (l : List α) : (l.flatMap fun t => [f t]) = l.map f := by induction l <;> simp_all
/-- what a node gives to the word -/
def Tr.term : Tr → List Int
  | .leaf k => [(k : Int)]
  | .node _ _ => []
theorem Tr.terms_len (l : List Tr) : (l.flatMap Tr.term).length ≤ l.length := by
  induction l with
  | nil => simp
  | cons t l ih =>
    have : t.term.length ≤ 1 := by cases t <;> simp [Tr.term]
    simp only [List.flatMap_cons, List.length_append, List.length_cons]; omega
mutual
theorem Tr.pre_word (t : Tr) : t.pre.flatMap Tr.term = t.word.map fun i : Nat => (i : Int) := by
  cases t with
  | leaf k => simp [Tr.pre, Tr.term, Tr.word]
  | node r ks => simp only [Tr.pre, List.flatMap_cons, Tr.term, List.nil_append, Tr.word]; exact Tr.pres_word ks
theorem Tr.pres_word (ks : List Tr) : (Tr.pres ks).flatMap Tr.term = (Tr.words ks).map fun i : Nat => (i : Int) := by
  cases ks with
  | nil => simp [Tr.pres, Tr.words]
  | cons t ts => simp only [Tr.pres, Tr.words, List.flatMap_append, List.map_append]; rw [Tr.pre_word t, Tr.pres_word ts]
end

structure ListInv (f : Tr → List Int) (lo bn : Nat) (l : List Tr) (R : Nat → Prop) (v : Value) (n : Nat) (w : World) : Prop where
  b : Blk w bn 22 #[v]
  own : OwnI w (bn + 1) v n (l.flatMap f)
  lo : lo ≤ bn
  row : ∀ b, R b ↔ b = bn ∨ some b = v.ownBlock
def ListI (f : Tr → List Int) (lo bn : Nat) (l : List Tr) (R : Nat → Prop) (w : World) : Prop := ∃ v n, ListInv f lo bn l R v n w
theorem ListI.via {f : Tr → List Int} {lo bn : Nat} {l : List Tr} {R : Nat → Prop} {w w' : World} (h : ListI f lo bn l R w) (hb : Below w.heap.size w w') : ListI f lo bn l R w' := by
  obtain ⟨v, n, h⟩ := h
  exact ⟨v, n, h.b.via hb, OwnI.keep h.own hb (Nat.le_refl _), h.lo, h.row⟩
theorem ListI.bound {f : Tr → List Int} {lo bn : Nat} {l : List Tr} {R : Nat → Prop} {w : World} (h : ListI f lo bn l R w) : lo ≤ w.heap.size ∧ ∀ b, R b → lo ≤ b ∧ b < w.heap.size := by
  obtain ⟨v, n, h⟩ := h
  refine ⟨Nat.le_of_lt (Nat.lt_of_le_of_lt h.lo h.b.lt), fun b hb => ?_⟩
  rcases (h.row b).1 hb with rfl | e
  · exact ⟨h.lo, h.b.lt⟩
  · have := h.own.lt b e.symm
    exact ⟨by have := h.lo; omega, this.2⟩

/-- an append in the closure -/
theorem ListInv.push {f : Tr → List Int} {lo bn : Nat} {l : List Tr} {x : Tr} {R : Nat → Prop} {v : Value} {n : Nat} {w wa w1 : World} {A' : Option Addr} {c' k : Nat} (h : ListInv f lo bn l R v n w) (hb : Below w.heap.size w wa)
    (ho : OwnI w1 (bn + 1) (.slice A' k c') k (l.flatMap f ++ f x)) (hg : wa.grownBy w1 v.ownBlock) (ha : (Value.slice A' k c').ownBlock = v.ownBlock ∨ (Value.slice A' k c').ownBlock = some wa.heap.size) :
    VisitP lo (ListI f lo bn) R w (l ++ [x]) (.returned (.bool true)) (w1.setCell ⟨bn, 0, none⟩ (.slice A' k c')) := by
  have hlt := h.b.lt
  have hne : some bn ≠ v.ownBlock := fun e => by have := (h.own.lt bn e.symm).1; omega
  refine ⟨rfl, fun b => b = bn ∨ some b = (Value.slice A' k c').ownBlock, ⟨_, k, ((h.b.via hb).grown hg hne).set1 _, ?_, h.lo, fun b => Iff.rfl⟩, ?_, ?_, ?_⟩
  · rw [List.flatMap_append, List.flatMap_singleton]
    exact OwnI.setCell ho (by show bn < bn + 1; omega) _
  · refine ((hb.mono (by have := h.lo; omega)).grown hg (by have := hb.size; have := h.lo; omega) fun j hj => ?_).setCell h.lo _
    have := (h.own.lt j hj).1; have := h.lo; omega
  · intro b hb' hlt'
    have k1 : b ≠ bn := fun e => hb' ((h.row b).2 (Or.inl e))
    have k2 : some b ≠ v.ownBlock := fun e => hb' ((h.row b).2 (Or.inr e))
    exact (Below.heap_setCell w1 ⟨bn, 0, none⟩ _ b k1).trans ((hg.block b (Nat.lt_of_lt_of_le hlt' hb.size) k2).trans (hb.block b hlt'))
  · intro b hb'
    rcases hb' with rfl | e
    · exact Or.inl ((h.row b).2 (Or.inl rfl))
    · rcases ha with e2 | e2
      · exact Or.inl ((h.row b).2 (Or.inr (e.trans e2)))
      · rw [e2] at e
        right
        have : b = wa.heap.size := Option.some.inj e
        rw [this]; exact hb.size

set_option maxRecDepth 100000 in
set_option maxHeartbeats 2000000 in
theorem word1_c (lo bn : Nat) (l : List Tr) (R : Nat → Prop) (w : World) (ok : Nat → Prop) (v : TrV) (x : Tr) (hl : l.length < 1000000) (h : ListI Tr.term lo bn l R w) (hx : TreeR ok w v x) :
    Calls Try.prog 38 #[trVal v, .pointer (some ⟨bn, 0, none⟩)] w (VisitP lo (ListI Tr.term lo bn) R w (l ++ [x])) := by
  obtain ⟨u, n, h⟩ := h
  obtain ⟨Au, cu, rfl, -⟩ := h.own.form
  obtain ⟨a, b, A, m, c⟩ := v
  obtain ⟨e1, e2, -⟩ := hx.parts
  simp only at e1 e2
  subst e1 e2
  clear hx
  have hn : n ≤ l.length := by have h1 := h.own.toInts.len; have h2 := Tr.terms_len l; omega
  have hB := (Below.refl w.heap.size w).al (.cells #[.int .i64 x.rl, .int .i64 x.tm, .slice A m c] 36)
  have hB2 := (Below.refl lo w).alloc (Nat.le_of_lt (Nat.lt_of_le_of_lt h.lo h.b.lt)) (.cells #[.int .i64 x.rl, .int .i64 x.tm, .slice A m c] 36)
  have B1 := h.b.via hB
  have H := Lib.hid h
  have hlt := h.b.lt
  have hne : some bn ≠ Value.ownBlock (.slice Au n cu) := fun e => by have := (h.own.lt bn e.symm).1; omega
  have hk : n + 1 ≤ 17592186044416 := by omega
  simp only [trVal]
  clear h hn
  cases x with
  | node r ks =>
    have hr : ((Tr.node r ks).rl == -1) = false := by show ((r : Int) == -1) = false; rw [beq_eq_false_iff_ne]; omega
    go_enter Try.func38, Try.ntmps38
    go_wp2_with fail
    go_ret
    refine ⟨rfl, R, ⟨_, n, H.out.b.via hB, ?_, H.out.lo, H.out.row⟩, hB2, Agr.below hB, fun b hb => Or.inl hb⟩
    rw [List.flatMap_append, List.flatMap_singleton]
    simp only [Tr.term, List.append_nil]
    exact OwnI.keep H.out.own hB (Nat.le_refl _)
  | leaf k =>
    simp only [Tr.rl, Tr.tm] at B1 hB hB2 ⊢
    have cB1 := B1.cell
    have fB1 := B1.frozen
    have lB1 := B1.lt
    go_enter Try.func38, Try.ntmps38
    go_wp2_with (at_builtin; refine wpList_append_ints _ rfl (.tmp 7) (.tmp 10) rfl (bn + 1) (.slice Au n cu) n _ rfl ((OwnI.keep H.out.own hB (Nat.le_refl _)).alloc _) (some ⟨w.heap.size + 1, 0, none⟩) 1 1 [(k : Int)] rfl (by have := Ints.one (w.alloc (.cells #[.int .i64 (-1), .int .i64 (k : Int), .slice A m c] 36)) (k : Int) 3; rw [World.size_alloc] at this; exact this) hk (by simp; omega) ?_; intro Av1 cv1 w1 ho1 hg1 hat1; have B1g := (B1.al _).grown hg1 hne; have c1g := B1g.cell; have f1g := B1g.frozen)
    go_ret
    exact ListInv.push (x := .leaf k) H.out (hB.alloc hB.size _) ho1 hg1 hat1

def ListP (w : World) (xs : List Int) (e : Ending) (w' : World) : Prop := ∃ A n c, e = .returned (.slice A n c) ∧ OwnI w' w.heap.size (.slice A n c) n xs ∧ Below w.heap.size w w'
theorem OwnI.mono {w : World} {base b' n : Nat} {v : Value} {xs : List Int} (h : OwnI w base v n xs) (hb : b' ≤ base) : OwnI w b' v n xs := by
  refine ⟨h.1, ?_⟩
  rcases h.2 with h0 | ⟨g, cap, cur, h1, h2, h3⟩
  · exact Or.inl h0
  · exact Or.inr ⟨g, cap, cur, h1, Nat.le_trans hb h2, h3⟩

set_option maxRecDepth 100000 in
set_option maxHeartbeats 2000000 in
theorem word_t (ok : Nat → Prop) (v : TrV) (t : Tr) (w : World) (h : TreeR ok w v t) (hM : t.size ≤ 1000000) :
    Calls Try.prog 13 #[trVal v] w (ListP w (t.pre.flatMap Tr.term)) := by
  obtain ⟨a, b, A, n, c⟩ := v
  have hT := ((h.mono (ok' := fun b => b < w.heap.size) fun b hb _ => hb).al (.cells #[.int .i64 a, .int .i64 b, .slice A n c] 36)).al (.cells #[.slice none 0 0] 22)
  have HT := Lib.hid hT
  clear h hT
  simp only [trVal]
  have B1 := Blk.new (w.alloc (.cells #[.int .i64 a, .int .i64 b, .slice A n c] 36)) 22 #[.slice none 0 0]
  rw [World.size_alloc] at B1
  have hB := ((Below.refl w.heap.size w).al (.cells #[.int .i64 a, .int .i64 b, .slice A n c] 36)).al (.cells #[.slice none 0 0] 22)
  go_enter Try.func13, Try.ntmps13
  go_wp2_with fail
  generalize (w.alloc (.cells #[.int .i64 a, .int .i64 b, .slice A n c] 36)).alloc (.cells #[.slice none 0 0] 22) = W at *
  refine (walk_n 38 (enters_c (c := _) (fn := Try.f38) rfl (by kernel_rfl) rfl) (.pointer (some ⟨w.heap.size + 1, 0, none⟩)) w.heap.size (ListI Tr.term w.heap.size (w.heap.size + 1)) ?_ ?_ 1000000 (fun l R w v x hl hp hx => word1_c _ _ l R w _ v x hl hp hx) t.size (a, b, A, n, c) t W [] (fun b => b = w.heap.size + 1) HT.out ⟨_, 0, B1, OwnI.nil _ _, by omega, fun b => by simp [Value.ownBlock]⟩ (Nat.le_refl _) (by simpa using hM) (Nat.le_refl _)).mono ?_
  · intro l R w1 w2 h1 h2
    exact h1.via h2
  · intro l R w1 h1
    exact h1.bound
  · rintro e w' ⟨rfl, R', ⟨u, k, h1⟩, h4, h5, h6⟩
    have H4 := Lib.hid h4
    obtain ⟨Au, cu, rfl, -⟩ := h1.own.form
    have H1 := Lib.hid h1
    have B2 := h1.b
    clear h1 h4 h5 h6 B1
    have cB2 := B2.cell
    have fB2 := B2.frozen
    have lB2 := B2.lt
    go_wp2_with fail
    go_ret
    refine ⟨Au, k, cu, rfl, ?_, hB.trans H4.out⟩
    have ho := H1.out.own
    rw [List.nil_append] at ho
    exact ho.mono (by omega)
end Go.Proofs.Ytghnkgbingcbcaa
