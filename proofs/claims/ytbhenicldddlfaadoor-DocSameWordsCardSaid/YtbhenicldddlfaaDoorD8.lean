/- Texts DM, laid together. -/
import Derived.Test.YtbhenicldddlfaaDoorD6
import Derived.Test.YtbhenicldddlfaaDoorD7
import Derived.Test.YtbhenicldddlfaaDoorSh





namespace Go.Proofs.YtbhenicldddlfaaDoor
open Go.RowKit

/-! ### a builder stays one where its blocks stay -/
theorem bld_kept {T e : TypeId} {B b : Nat} {bs : List Value} {w w' : World} (h : Lib.IsBuilderF T e B b bs w)
    (hk : ∀ k, B ≤ k → k < w.heap.size → (k = b ∨ ∃ c fz, w.heap[k]? = some (.cells c e fz)) → w'.heap[k]? = w.heap[k]?) : Lib.IsBuilderF T e B b bs w' := by
  have key : ∀ p, Lib.BuilderAtF T e B b p bs w → Lib.BuilderAtF T e B b p bs w' := by
    rintro p ⟨hB, v, hb, ⟨hl, hv⟩, hne⟩
    have hlt : b < w.heap.size := (Array.getElem?_eq_some_iff.1 hb).1
    refine ⟨hB, v, (hk b hB hlt (Or.inl rfl)).trans hb, ⟨hl, ?_⟩, hne⟩
    rcases hv with hv | ⟨g, cap, cur, fz, h1, h2, h3, h4⟩
    · exact Or.inl hv
    · have hg : g < w.heap.size := (Array.getElem?_eq_some_iff.1 h3).1
      exact Or.inr ⟨g, cap, cur, fz, h1, h2, (hk g h2 hg (Or.inr ⟨cur, fz, h3⟩)).trans h3, h4⟩
  exact h.elim (fun x => Or.inl (key _ x)) (fun x => Or.inr (key _ x))
theorem bld_made (w : World) (z : Nat) (hz : w.heap.size = z) : Lib.IsBuilderF 73 5 z z (Lib.byteCells []) (w.alloc (.cells #[.pointer none, .slice none 0 0] 73)) := by
  subst hz
  refine Or.inl ⟨Nat.le_refl _, .slice none 0 0, Blk.new w _ _, ⟨rfl, Or.inl ⟨rfl, rfl⟩⟩, ?_⟩
  simp [Value.ownBlock]

/-- the blocks of a call of set, z the first of them -/
structure SB (z bs ex ln : Nat) (ch : Value) (col : Nat) (tx : List UInt8) (w : World) : Prop where
  box : Blk w z 41 #[.pointer (some ⟨bs, 0, none⟩)]
  res : Blk w (z + 1) 34 #[.int .i64 0, .int .i64 0, .slice none 0 0, .string ⟨#[]⟩]
  out : Blk w (z + 2) 34 #[.int .i64 (ex : Int), .int .i64 (ln : Int), ch, .string ⟨#[]⟩]
  bld : Lib.IsBuilderF 73 5 (z + 3) (z + 3) (Lib.byteCells tx) w
  col : Blk w (z + 4) 3 #[.int .i64 (col : Int)]
/-- what its own stores and its builder leave -/
structure KeptZ (z : Nat) (w w' : World) : Prop where
  bel : Below z w w'
  oth : ∀ k o, w.heap[k]? = some o → k ≠ z + 2 → k ≠ z + 3 → k ≠ z + 4 → (∀ c fz, o ≠ .cells c 5 fz) → w'.heap[k]? = some o
section
variable {z bs ex ln col : Nat} {ch : Value} {tx : List UInt8} {w w' wa : World}
theorem KeptZ.refl : KeptZ z w w := ⟨Below.refl _ _, fun _ _ h _ _ _ _ => h⟩
theorem KeptZ.trans (h : KeptZ z w w') (k : KeptZ z w' wa) : KeptZ z w wa := ⟨h.bel.trans k.bel, fun i o hi h1 h2 h3 h4 => k.oth i o (h.oth i o hi h1 h2 h3 h4) h1 h2 h3 h4⟩
theorem KeptZ.drew (h : KeptZ z w w') : KeptZ z w w'.drew := ⟨h.bel.drew, h.oth⟩
theorem KeptZ.via (h : KeptZ z w w') (hb : Below w'.heap.size w' wa) (hz : z ≤ w'.heap.size) : KeptZ z w wa :=
  h.trans ⟨hb.mono hz, fun i _ hi _ _ _ _ => (hb.block i (Array.getElem?_eq_some_iff.1 hi).1).trans hi⟩
theorem KeptZ.cell (h : KeptZ z w w') (p : Addr) (hp : p.block = z + 2 ∨ p.block = z + 3 ∨ p.block = z + 4) (u : Value) : KeptZ z w (w'.setCell p u) :=
  h.trans ⟨(Below.refl _ _).setCell (by omega) u, fun i _ hi h1 h2 h3 _ => by rw [Below.heap_setCell _ _ _ _ (by rcases hp with e | e | e <;> (rw [e]; assumption))]; exact hi⟩
theorem KeptZ.blk {b : Nat} {t : TypeId} {cs : Array Value} (h : KeptZ z w w') (hb : Blk w b t cs) (h2 : b ≠ z + 2) (h3 : b ≠ z + 3) (h4 : b ≠ z + 4) (ht : t ≠ 5) : Blk w' b t cs :=
  h.oth b _ hb h2 h3 h4 fun c fz e => by injection e with e1 e2; exact ht e2
theorem KeptZ.ints {base n : Nat} {v : Value} {xs : List Int} (h : KeptZ z w w') (ho : OwnI w base v n xs) (hb : z + 5 ≤ base) : OwnI w' base v n xs := by
  obtain ⟨h1, h2⟩ := ho
  refine ⟨h1, ?_⟩
  rcases h2 with h2 | ⟨g, cap, cur, k1, k2, k3, k4⟩
  · exact Or.inl h2
  · exact Or.inr ⟨g, cap, cur, k1, k2, h.oth g _ k3 (by omega) (by omega) (by omega) (fun c fz e => by injection e with e1 e2; exact absurd e2 (by decide)), k4⟩
theorem SB.lt (h : SB z bs ex ln ch col tx w) : z + 4 < w.heap.size := h.col.lt
theorem SB.agr (h : SB z bs ex ln ch col tx w) (k : ∀ b, z ≤ b → b < w.heap.size → w'.heap[b]? = w.heap[b]?) : SB z bs ex ln ch col tx w' :=
  have hl := h.lt
  ⟨(k _ (by omega) h.box.lt).trans h.box, (k _ (by omega) h.res.lt).trans h.res, (k _ (by omega) h.out.lt).trans h.out, bld_kept h.bld fun b h1 h2 _ => k b (by omega) h2, (k _ (by omega) h.col.lt).trans h.col⟩
theorem SB.via (h : SB z bs ex ln ch col tx w) (hb : Below w.heap.size w w') : SB z bs ex ln ch col tx w' := h.agr fun b _ h2 => hb.block b h2
theorem SB.al (h : SB z bs ex ln ch col tx w) (o : Obj) : SB z bs ex ln ch col tx (w.alloc o) := h.via ((Below.refl _ _).alloc (Nat.le_refl _) o)
theorem SB.dr (h : SB z bs ex ln ch col tx w) : SB z bs ex ln ch col tx w.drew := ⟨h.box, h.res, h.out, bld_kept h.bld fun _ _ _ _ => rfl, h.col⟩
/-- a store into one of its two locals, the layout and the column -/
theorem SB.setEx (h : SB z bs ex ln ch col tx w) (x : Nat) : SB z bs x ln ch col tx (w.setCell ⟨z + 2, 0, none⟩ (.int .i64 (x : Int))) :=
  ⟨h.box.far (by show z ≠ z + 2; omega) _, h.res.far (by show z + 1 ≠ z + 2; omega) _, by simpa using h.out.set_ 0 (.int .i64 (x : Int)), bld_kept h.bld fun b h1 _ _ => Below.heap_setCell _ _ _ _ (by show b ≠ z + 2; omega), h.col.far (by show z + 4 ≠ z + 2; omega) _⟩
theorem SB.setLn (h : SB z bs ex ln ch col tx w) (x : Nat) : SB z bs ex x ch col tx (w.setCell ⟨z + 2, 1, none⟩ (.int .i64 (x : Int))) :=
  ⟨h.box.far (by show z ≠ z + 2; omega) _, h.res.far (by show z + 1 ≠ z + 2; omega) _, by simpa using h.out.set_ 1 (.int .i64 (x : Int)), bld_kept h.bld fun b h1 _ _ => Below.heap_setCell _ _ _ _ (by show b ≠ z + 2; omega), h.col.far (by show z + 4 ≠ z + 2; omega) _⟩
theorem SB.setCh (h : SB z bs ex ln ch col tx w) (x : Value) : SB z bs ex ln x col tx (w.setCell ⟨z + 2, 2, none⟩ x) :=
  ⟨h.box.far (by show z ≠ z + 2; omega) _, h.res.far (by show z + 1 ≠ z + 2; omega) _, by simpa using h.out.set_ 2 x, bld_kept h.bld fun b h1 _ _ => Below.heap_setCell _ _ _ _ (by show b ≠ z + 2; omega), h.col.far (by show z + 4 ≠ z + 2; omega) _⟩
theorem SB.setCol (h : SB z bs ex ln ch col tx w) (x : Nat) : SB z bs ex ln ch x tx (w.setCell ⟨z + 4, 0, none⟩ (.int .i64 (x : Int))) :=
  have hl := h.lt
  ⟨h.box.far (by show z ≠ z + 4; omega) _, h.res.far (by show z + 1 ≠ z + 4; omega) _, h.out.far (by show z + 2 ≠ z + 4; omega) _,
   bld_kept h.bld fun b h1 _ hb => by
    by_cases e : b = z + 4
    · subst e
      rcases hb with hb | ⟨c, fz, hb⟩
      · omega
      · have := h.col
        unfold Blk at this
        rw [this] at hb
        injection hb with hb
        injection hb with e1 e2
        exact absurd e2 (by decide)
    · exact Below.heap_setCell _ _ _ _ e, by simpa using h.col.set_ 0 (.int .i64 (x : Int))⟩
/-- what a writer of the builder leaves -/
theorem SB.wrote {tx' : List UInt8} (h : SB z bs ex ln ch col tx w) (hb : Lib.IsBuilderF 73 5 (z + 3) (z + 3) (Lib.byteCells tx') w') (hl : Below (z + 3) w w') (ho : Lib.OthersKept 5 (some (z + 3)) w w') : SB z bs ex ln ch col tx' w' :=
  ⟨(hl.block _ (by omega)).trans h.box, (hl.block _ (by omega)).trans h.res, (hl.block _ (by omega)).trans h.out, hb,
   ho _ _ h.col (by simp) fun c fz e => by injection e with e1 e2; exact absurd e2 (by decide)⟩
theorem KeptZ.wrote (h : KeptZ z w w') (hl : Below (z + 3) w' wa) (ho : Lib.OthersKept 5 (some (z + 3)) w' wa) : KeptZ z w wa :=
  h.trans ⟨hl.mono (by omega), fun k o hk _ h3 _ h5 => ho k o hk (by simpa using h3) h5⟩
end

def WriteP (W z bs : Nat) (t : ByteArray) (ex ln : Nat) (ch : Value) (col : Nat) (tx : List UInt8) (w : World) (e : Ending) (w' : World) : Prop :=
  e = .returned (.tuple #[]) ∧ SB z bs (ex + (ovr W (col + t.size) - ovr W col)) ln ch (col + t.size) (tx ++ bts t) w' ∧ KeptZ z w w'
set_option maxRecDepth 100000 in
set_option maxHeartbeats 4000000 in
theorem write_c (W z bs : Nat) (S M : Value) (t : ByteArray) (ex ln : Nat) (ch : Value) (col : Nat) (tx : List UInt8) (w : World) (hS : Blk w bs 47 #[S, .int .i64 (W : Int), M]) (h : SB z bs ex ln ch col tx w)
    (hW : W ≤ 1000000000) (hc : col + t.size ≤ 100000000) (he : ex ≤ 1000000000000) (hx : tx.length + t.size ≤ 1000000000000) :
    Calls Tryd.prog 27 #[.string t, .pointer (some ⟨z + 2, 0, none⟩), .pointer (some ⟨z, 0, none⟩), .pointer (some ⟨z + 4, 0, none⟩), .pointer (some ⟨z + 3, 0, none⟩)] w (WriteP W z bs t ex ln ch col tx w) := by
  have HS := Lib.hid h
  have HBS := Lib.hid hS
  have hl := h.lt
  have B1 := h.box
  have B2 := h.out
  have B4 := h.col
  obtain ⟨to_, hto⟩ : ∃ to_, to_ = col + t.size := ⟨_, rfl⟩
  have wt : IntKind.i64.wrap ((col : Int) + (t.size : Int)) = (to_ : Int) := (IntWalk.i64_in _ (by omega)).trans (by omega)
  have hto3 : to_ ≤ 1000000000 := by omega
  have hcol3 : col ≤ 1000000000 := by omega
  obtain ⟨d1, hd1⟩ : ∃ d, d = ovr W to_ - ovr W col := ⟨_, rfl⟩
  have hm1 : ovr W col ≤ ovr W to_ := ovr_mono (by omega)
  have hm2 := ovr_le W to_
  have wd : IntKind.i64.wrap ((ovr W to_ : Int) - (ovr W col : Int)) = (d1 : Int) := (IntWalk.i64_in _ (by omega)).trans (by omega)
  obtain ⟨e1, he1⟩ : ∃ e, e = ex + d1 := ⟨_, rfl⟩
  have we : IntKind.i64.wrap ((ex : Int) + (d1 : Int)) = (e1 : Int) := (IntWalk.i64_in _ (by omega)).trans (by omega)
  have HTO := Lib.hid hto
  have HD1 := Lib.hid hd1
  have HE1 := Lib.hid he1
  have Bs := hS.dr
  clear hto hd1 he1 hm1 hm2 h hS
  have cB1 := B1.cell
  have fB1 := B1.frozen
  have lB1 := B1.lt
  have cB2 := B2.cell
  have fB2 := B2.frozen
  have lB2 := B2.lt
  have cB4 := B4.cell
  have fB4 := B4.frozen
  have lB4 := B4.lt
  go_enter Tryd.func27, Tryd.ntmps27
  go_upto_region 0 with fail
  go_cut [18] (fun _ wx => wx = (w.setCell ⟨z + 2, 0, none⟩ (.int .i64 (e1 : Int))).drew)
  case first =>
    as_aux_lemma =>
    have hHeld : (∀ i, w.drew.cell? ⟨z + 2, i, none⟩ = #[.int .i64 (ex : Int), .int .i64 (ln : Int), ch, .string ⟨#[]⟩][i]?) ∧ (∀ i, w.drew.cell? ⟨z, i, none⟩ = #[.pointer (some ⟨bs, 0, none⟩)][i]?) ∧ (∀ i, w.drew.cell? ⟨z + 4, i, none⟩ = #[Value.int .i64 (col : Int)][i]?) := ⟨cB2, cB1, cB4⟩
    refine wp_region_noPanic ?_
    refine wp_region_L 14 (fun w' => (∀ i, w'.cell? ⟨z + 2, i, none⟩ = #[.int .i64 (ex : Int), .int .i64 (ln : Int), ch, .string ⟨#[]⟩][i]?) ∧ (∀ i, w'.cell? ⟨z, i, none⟩ = #[.pointer (some ⟨bs, 0, none⟩)][i]?) ∧ (∀ i, w'.cell? ⟨z + 4, i, none⟩ = #[Value.int .i64 (col : Int)][i]?)) (by kernel_rfl) ?_
    refine wpAnyL.take (i := 0) (d := some 6) (v := ?_) rfl (by kernel_rfl) (by kernel_rfl) (by kernel_rfl) (by kernel_rfl) rfl (fun _ _ _ h => h) (Or.inl ⟨by rfl, ?_⟩) (by assumption) ?_
    rotate_left
    · intro w hSw; (try dsimp only at hSw); go_simp; try with_reducible rfl
    simp only [Act.put, List.setIfInBounds_toArray, List.set_cons_zero, List.set_cons_succ]
    refine wpAnyL.take (i := 1) (d := some 7) (v := ?_) rfl (by kernel_rfl) (by kernel_rfl) (by kernel_rfl) (by kernel_rfl) rfl (fun _ _ _ h => h) (Or.inl ⟨by rfl, ?_⟩) (by assumption) ?_
    rotate_left
    · intro w hSw; (try dsimp only at hSw); go_simp; try with_reducible rfl
    simp only [Act.put, List.setIfInBounds_toArray, List.set_cons_zero, List.set_cons_succ]
    refine wpAnyL.take (i := 2) (d := some 8) (v := ?_) rfl (by kernel_rfl) (by kernel_rfl) (by kernel_rfl) (by kernel_rfl) rfl (fun _ _ _ h => h) (Or.inl ⟨by rfl, ?_⟩) (by assumption) ?_
    rotate_left
    · intro w hSw; (try dsimp only at hSw); go_simp; try with_reducible rfl
    simp only [Act.put, List.setIfInBounds_toArray, List.set_cons_zero, List.set_cons_succ]
    refine wpAnyL.take (i := 3) (d := some 9) (v := ?_) rfl (by kernel_rfl) (by kernel_rfl) (by kernel_rfl) (by kernel_rfl) rfl (fun _ _ _ h => h) (Or.inl ⟨by rfl, ?_⟩) (by assumption) ?_
    rotate_left
    · intro w hSw; (try dsimp only at hSw); go_simp; try with_reducible rfl
    simp only [Act.put, List.setIfInBounds_toArray, List.set_cons_zero, List.set_cons_succ]
    refine wpAnyL.take (i := 4) (d := some 10) (v := ?_) rfl (by kernel_rfl) (by kernel_rfl) (by kernel_rfl) (by kernel_rfl) rfl (fun _ _ _ h => h) (Or.inl ⟨by rfl, ?_⟩) (by assumption) ?_
    rotate_left
    · intro w hSw; (try dsimp only at hSw); go_simp; try with_reducible rfl
    simp only [Act.put, List.setIfInBounds_toArray, List.set_cons_zero, List.set_cons_succ]
    refine wpAnyL.take (i := 5) (d := some 11) (v := ?_) rfl (by kernel_rfl) (by kernel_rfl) (by kernel_rfl) (by kernel_rfl) rfl (fun _ _ _ h => h) (Or.inl ⟨by rfl, ?_⟩) (by assumption) ?_
    rotate_left
    · intro w hSw; (try dsimp only at hSw); go_simp; try with_reducible rfl
    simp only [Act.put, List.setIfInBounds_toArray, List.set_cons_zero, List.set_cons_succ]
    refine wpAnyL.take (i := 6) (d := some 12) (v := ?_) rfl (by kernel_rfl) (by kernel_rfl) (by kernel_rfl) (by kernel_rfl) rfl (fun _ _ _ h => h) (Or.inl ⟨by rfl, ?_⟩) (by assumption) ?_
    rotate_left
    · intro w hSw; (try dsimp only at hSw); go_simp; try with_reducible rfl
    simp only [Act.put, List.setIfInBounds_toArray, List.set_cons_zero, List.set_cons_succ]
    refine wpAnyL.take (i := 8) (d := some 14) (v := ?_) rfl (by kernel_rfl) (by kernel_rfl) (by kernel_rfl) (by kernel_rfl) rfl (fun _ _ _ h => h) (Or.inl ⟨by rfl, ?_⟩) (by assumption) ?_
    rotate_left
    · intro w hSw; (try dsimp only at hSw); go_simp; try with_reducible rfl
    simp only [Act.put, List.setIfInBounds_toArray, List.set_cons_zero, List.set_cons_succ]
    refine wpAnyL.take (i := 9) (d := some 15) (v := ?_) rfl (by kernel_rfl) (by kernel_rfl) (by kernel_rfl) (by kernel_rfl) rfl (fun _ _ _ h => h) (Or.inl ⟨by rfl, ?_⟩) (by assumption) ?_
    rotate_left
    · intro w hSw; (try dsimp only at hSw); go_simp; try with_reducible rfl
    simp only [Act.put, List.setIfInBounds_toArray, List.set_cons_zero, List.set_cons_succ]
    refine wpAnyL.ready (rs := [7]) (by kernel_rfl) (by simp) ?_
    refine AllL.cons rfl (fun K hK => ?_) AllL.nil
    go_simp
    go_at_call 28
    refine (over_c W bs _ _ to_ _ Bs hto3 hW).mono ?_
    rintro ee wn ⟨rfl, rfl⟩
    go_wp2_with fail
    refine hK.out _ _ (fun _ => hHeld) ?_
    clear hK K
    try simp only [Act.put, List.setIfInBounds_toArray, List.set_cons_zero, List.set_cons_succ]
    refine wpAnyL.ready (rs := [10]) (by kernel_rfl) (by simp) ?_
    refine AllL.cons rfl (fun K hK => ?_) AllL.nil
    go_simp
    go_at_call 28
    refine (over_c W bs _ _ col _ Bs hcol3 hW).mono ?_
    rintro ee wn ⟨rfl, rfl⟩
    go_wp2_with fail
    refine hK.out _ _ (fun _ => hHeld) ?_
    clear hK K
    try simp only [Act.put, List.setIfInBounds_toArray, List.set_cons_zero, List.set_cons_succ]
    refine wpAnyL.take (i := 11) (d := some 17) (v := ?_) rfl (by kernel_rfl) (by kernel_rfl) (by kernel_rfl) (by kernel_rfl) rfl (fun _ _ _ h => h) (Or.inl ⟨by rfl, ?_⟩) (by assumption) ?_
    rotate_left
    · intro w hSw; (try dsimp only at hSw); go_simp; try with_reducible rfl
    simp only [Act.put, List.setIfInBounds_toArray, List.set_cons_zero, List.set_cons_succ]
    refine wpAnyL.take (i := 12) (d := some 18) (v := ?_) rfl (by kernel_rfl) (by kernel_rfl) (by kernel_rfl) (by kernel_rfl) rfl (fun _ _ _ h => h) (Or.inl ⟨by rfl, ?_⟩) (by assumption) ?_
    rotate_left
    · intro w hSw; (try dsimp only at hSw); go_simp; try with_reducible rfl
    simp only [Act.put, List.setIfInBounds_toArray, List.set_cons_zero, List.set_cons_succ]
    refine wpAnyL.take (i := 13) (d := some 19) (v := ?_) rfl (by kernel_rfl) (by kernel_rfl) (by kernel_rfl) (by kernel_rfl) rfl (fun _ _ _ h => h) (Or.inl ⟨by rfl, ?_⟩) (by assumption) ?_
    rotate_left
    · intro w hSw; (try dsimp only at hSw); go_simp; try with_reducible rfl
    simp only [Act.put, List.setIfInBounds_toArray, List.set_cons_zero, List.set_cons_succ]
    refine wpAnyL.ready (rs := [14]) (by kernel_rfl) (by simp) ?_
    refine AllL.cons rfl (fun K hK => ?_) AllL.nil
    go_simp
    refine hK.out _ _ (fun h => absurd rfl h) ?_
    clear hK K
    refine wpAnyL.done (by kernel_rfl) ?_ _
    refine NoPanic.normal ?_
    go_wp2_with fail
    go_meet
    exact rfl
  case rest =>
    as_aux_lemma =>
    subst hcut
    clear cB1 fB1 lB1 cB2 fB2 lB2 cB4 fB4 lB4
    replace HS := Lib.hid (HS.out.setEx e1).dr
    have HK := Lib.hid ((KeptZ.refl (z := z) (w := w)).cell ⟨z + 2, 0, none⟩ (Or.inl rfl) (.int .i64 (e1 : Int))).drew
    have hl' : z + 4 < (w.setCell ⟨z + 2, 0, none⟩ (.int .i64 (e1 : Int))).drew.heap.size := by simpa [go_sem] using hl
    clear wd we Bs B1 B2 B4
    generalize (w.setCell ⟨z + 2, 0, none⟩ (.int .i64 (e1 : Int))).drew = W1 at *
    have B4 := HS.out.col
    have cB4 := B4.cell
    have fB4 := B4.frozen
    have lB4 := B4.lt
    go_wp2_with fail
    clear cB4 fB4 lB4
    clear B4
    have HS2 := Lib.hid (HS.out.setCol to_)
    have HK2 := Lib.hid (HK.out.cell ⟨z + 4, 0, none⟩ (Or.inr (Or.inr rfl)) (.int .i64 (to_ : Int)))
    refine (Tryd.Builder_WriteString_k (z + 3) (z + 3) (Lib.byteCells tx) t _ HS2.out.bld (by rw [Lib.byteCells_length]; omega) (by simp; omega)).mono ?_
    rintro e w' ⟨rfl, h1, h2, h3⟩
    have h4 : Lib.byteCells tx ++ Lib.strCells t = Lib.byteCells (tx ++ bts t) := by
      rw [Lib.strCells_eq]; simp [Lib.byteCells, bts]
    rw [h4] at h1
    have HS3 := Lib.hid (HS2.out.wrote (Or.inr h1) h2 h3)
    have HK3 := Lib.hid (HK2.out.wrote h2 h3)
    clear h1 h2 h3 h4
    go_wp2_with fail
    refine bodyPost_ret (v := .tuple #[]) (by simp [results, Tryd.results27, go_sem]) rfl ⟨rfl, ?_, HK3.out⟩
    rw [← HTO.out, ← HD1.out, ← HE1.out]
    exact HS3.out
end Go.Proofs.YtbhenicldddlfaaDoor

