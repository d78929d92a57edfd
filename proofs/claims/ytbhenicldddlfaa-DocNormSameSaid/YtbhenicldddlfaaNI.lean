/- Texts NI, laid together. -/
import Derived.Test.YtbhenicldddlfaaN1
import Derived.Test.YtbhenicldddlfaaD3



namespace Go.Proofs.Ytbhenicldddlfaa
open Go.RowKit

/-! ### appending many elements -/
theorem run_append_many (w : World) (ty : TypeId) (ok : Nat → Prop) (base : Nat) (v : Value) (n : Nat) (l : List Dc) (hown : Own DcE 30 ok w base v n l)
    (A : Option Addr) (m c : Nat) (ys : List Dc) (hs : Sl DcE (fun b => ok b ∧ some b ≠ v.ownBlock) w A m c ys) (h63 : n + m ≤ 1000000) (hbase : base ≤ w.heap.size) :
    ∃ A' c' w', (Builtin.append_ #[28, 28] ty #[v, .slice A m c]).run Try.prog w = .ok (.slice A' (n + m) c') w' ∧ Own DcE 30 ok w' base (.slice A' (n + m) c') (n + m) (l ++ ys) ∧ w.grownBy w' v.ownBlock ∧
      ((Value.slice A' (n + m) c').ownBlock = v.ownBlock ∨ (Value.slice A' (n + m) c').ownBlock = some w.heap.size) := by
  obtain ⟨i, hi, hz⟩ := Option.map_eq_some_iff.1 doc_info
  simp only [Prod.mk.injEq] at hz
  obtain ⟨s1, s2, raw2, s3, s4, s5⟩ := hs
  rcases A with _ | ad
  · have hm : raw2 = [] := by
      rcases List.eq_nil_or_concat raw2 with h | ⟨r, x, rfl⟩
      · exact h
      · rw [List.concat_eq_append] at s4
        obtain ⟨b, off, e, _⟩ := s4 (fun e => by have := flat_len (E := DcE) (r ++ [x]); rw [e] at this; simp [DcE] at this)
        cases e
    subst hm
    obtain rfl : m = 0 := by simpa using s3.symm
    obtain rfl : ys = [] := List.eq_nil_of_length_eq_zero s1
    obtain ⟨A', c', rfl, hc⟩ := hown.form
    refine ⟨A', c', w, ?_, by simpa using hown, World.grownBy.refl w _, Or.inl rfl⟩
    rcases A' with _ | g
    · have : n = 0 ∧ c' = 0 := by
        obtain ⟨_, raw, _, h4, _⟩ := hown
        rcases h4.2 with ⟨e, h0⟩ | ⟨g, cap, cur, e, _⟩
        · cases e; exact ⟨rfl, rfl⟩
        · cases e
      obtain ⟨rfl, rfl⟩ := this
      simp [Builtin.append_, run_underlying Try.underlying28, sizeOf, typeInfo, hi, Builtin.lenOf, Builtin.firstCells]
    · simp [Builtin.append_, run_underlying Try.underlying28, sizeOf, typeInfo, hi, Builtin.lenOf, Builtin.firstCells, hc, storeCells]
  · obtain ⟨h1, raw, h3, h4, h5⟩ := hown
    have hcell : ∀ j u, (flat DcE raw2)[j]? = some u → w.cell? (ad.add j) = some u := fun j u hu => by
      obtain ⟨b, off, e, -, hc⟩ := s4 (fun e => by rw [e] at hu; simp at hu)
      cases e
      rw [Addr.add_lit]; exact hc j u hu
    obtain ⟨v', w', hrun, h6, h7, _, h8⟩ := run_append_own_at (P := Try.prog) w base 28 ty 30 i _ 4 56 Try.underlying28 hi hz.1 hz.2.1 hz.2.2 rfl (by omega) v n _ h4 ad m c (flat DcE raw2) (by rw [flat_len, s3]; rfl) hcell
      (fun u hu => by obtain ⟨r, -, h⟩ := List.mem_flatMap.1 hu; exact DcE.one r u h) (by simp [maxLen]; omega) (by omega) hbase
    have hown' : Own DcE 30 ok w' base v' (n + m) (l ++ ys) := by
      refine ⟨by simp [h1, s1], raw ++ raw2, by simp [h3, s3], by have e : flat DcE (raw ++ raw2) = flat DcE raw ++ flat DcE raw2 := by simp [flat]
                                                                  rw [e]; exact h6, fun i r' x' hr' hx' => ?_⟩
      have key : DcE.rel (fun b => ok b ∧ some b ≠ v.ownBlock) w r' x' := by
        rcases Nat.lt_or_ge i n with hi' | hi'
        · rw [List.getElem?_append_left (by omega)] at hr' hx'
          exact h5 i r' x' hr' hx'
        · rw [List.getElem?_append_right (by omega), h3] at hr'
          rw [List.getElem?_append_right (by omega), h1] at hx'
          exact s5 _ r' x' hr' hx'
      have k1 := DcE.mono (ok' := fun b => (ok b ∧ some b ≠ v.ownBlock) ∧ b < w.heap.size) key fun b hb hk => ⟨hk, hb⟩
      refine DcE.mono (DcE.agr k1 (Agr.grown h7 fun b hb => hb.1.2)) fun b _ hk => ⟨hk.1.1, ?_⟩
      rcases h8 with e8 | e8
      · rw [e8]; exact hk.1.2
      · rw [e8]; intro e9; cases e9; exact absurd hk.2 (Nat.lt_irrefl _)
    obtain ⟨A', c', rfl, _⟩ := hown'.form
    exact ⟨A', c', w', hrun, hown', h7, h8⟩
theorem wpList_append_many {ops : Array Oper} {rest : List Oper} {o : Oper} {a : Act} {Q : Exit → Act → World → Prop} (w : World) (hgd : o.guard = none) (s y : Operand)
    (ho : o.op = .call { callee := .builtin .append, args := #[s, y], argTypes := #[28, 28] })
    (ok : Nat → Prop) (base : Nat) (v : Value) (n : Nat) (l : List Dc) (hv : a.eval s = v) (hown : Own DcE 30 ok w base v n l)
    (A : Option Addr) (m c : Nat) (ys : List Dc) (hy : a.eval y = .slice A m c) (hs : Sl DcE (fun b => ok b ∧ some b ≠ v.ownBlock) w A m c ys) (h63 : n + m ≤ 1000000) (hbase : base ≤ w.heap.size)
    (h : ∀ A' c' w', Own DcE 30 ok w' base (.slice A' (n + m) c') (n + m) (l ++ ys) → w.grownBy w' v.ownBlock → ((Value.slice A' (n + m) c').ownBlock = v.ownBlock ∨ (Value.slice A' (n + m) c').ownBlock = some w.heap.size) → wpList Try.prog ops Q rest (a.put o.dst (.slice A' (n + m) c')) w') : wpList Try.prog ops Q (o :: rest) a w := by
  refine wpList_plain hgd fun _ hK => ?_
  obtain ⟨A', c', w', hrun, h2, h3, h4⟩ := run_append_many w o.type ok base v n l hown A m c ys hs h63 hbase
  unfold Oper.wp execOp
  simp only [ho, resolve, invoke, builtin, Sem.run_bind, Sem.run_pure, Result.andThen_ok, List.map_toArray, List.map_cons, List.map_nil, hv, hy, hrun]
  exact hK _ _ (h A' c' w' h2 h3 h4)
theorem wpList_append_dc {ops : Array Oper} {rest : List Oper} {o : Oper} {a : Act} {Q : Exit → Act → World → Prop} (w : World) (hgd : o.guard = none) (s y : Operand)
    (ho : o.op = .call { callee := .builtin .append, args := #[s, y], argTypes := #[28, 28] })
    (ok : Nat → Prop) (base : Nat) (v : Value) (n : Nat) (l : List Dc) (hv : a.eval s = v) (hown : Own DcE 30 ok w base v n l)
    (b : Nat) (r : DcV) (x : Dc) (hy : a.eval y = .slice (some ⟨b, 0, none⟩) 1 1) (hcell : ∀ j u, (dcCells r)[j]? = some u → w.cell? ⟨b, j, none⟩ = some u) (hrel : DcR (fun b => ok b ∧ some b ≠ v.ownBlock) w r x)
    (h63 : n + 1 ≤ 1000000) (hbase : base ≤ w.heap.size)
    (h : ∀ A' c' w', Own DcE 30 ok w' base (.slice A' (n + 1) c') (n + 1) (l ++ [x]) → w.grownBy w' v.ownBlock → ((Value.slice A' (n + 1) c').ownBlock = v.ownBlock ∨ (Value.slice A' (n + 1) c').ownBlock = some w.heap.size) → wpList Try.prog ops Q rest (a.put o.dst (.slice A' (n + 1) c')) w') : wpList Try.prog ops Q (o :: rest) a w := by
  obtain ⟨i, hi, hz⟩ := Option.map_eq_some_iff.1 doc_info
  simp only [Prod.mk.injEq] at hz
  exact wpList_append_E (E := DcE) w hgd s y 28 30 ho i _ 56 Try.underlying28 hi hz.1 hz.2.1 hz.2.2 rfl ok base v n l hv hown b r x hy hcell hrel (by simp [maxLen]; omega) (by omega) hbase h

/-! ### the text of the last element is written -/
theorem flat_setText (raw : List DcV) (r : DcV) (s : ByteArray) : (flat DcE (raw ++ [r])).set (raw.length * 4 + 1) (.string s) = flat DcE (raw ++ [(r.1, s, r.2.2)]) := by
  rw [flat_snoc, flat_snoc, List.set_append_right _ _ (by rw [flat_len]; simp [DcE])]
  congr 1
  rw [flat_len]
  simp [DcE, dcCells]
theorem Own.setText {w : World} {base n c g : Nat} {ok : Nat → Prop} {l : List Dc} {y : Dc} (h : Own DcE 30 ok w base (.slice (some ⟨g, 0, none⟩) (n + 1) c) (n + 1) (l ++ [y])) (s : ByteArray) :
    Own DcE 30 ok (w.setCell ⟨g, n * 4 + 1, none⟩ (.string s)) base (.slice (some ⟨g, 0, none⟩) (n + 1) c) (n + 1) (l ++ [.node y.kind s y.ind y.args]) := by
  obtain ⟨h1, raw, h2, h3, h4⟩ := h
  have hl : l.length = n := by simpa using h1
  rcases List.eq_nil_or_concat raw with rfl | ⟨raw, r, rfl⟩
  · simp at h2
  rw [List.concat_eq_append] at h2 h3 h4
  have hrl : raw.length = n := by simpa using h2
  have hfar : ∀ (i : Nat) (q : DcV) (x : Dc), (raw ++ [r])[i]? = some q → (l ++ [y])[i]? = some x → DcR (fun b => ok b ∧ some b ≠ (Value.slice (some ⟨g, 0, none⟩) (n + 1) c).ownBlock) (w.setCell ⟨g, n * 4 + 1, none⟩ (.string s)) q x := fun i q x hq hx =>
    DcR.far (h4 i q x hq hx) _ fun b hb e => hb.2 (by rw [e]; rfl)
  refine ⟨by simpa using h1, raw ++ [(r.1, s, r.2.2)], by simp [hrl], ?_, fun i q x hq hx => ?_⟩
  · refine ⟨by have := h3.1; rw [flat_len] at this ⊢; simpa using this, ?_⟩
    rcases h3.2 with ⟨h0, _⟩ | ⟨g', cap, cur, hv, hb, hh, hc1, hc2, hc3, htk⟩
    · cases h0
    · cases hv
      refine Or.inr ⟨g, c, cur.setIfInBounds (n * 4 + 1) (.string s), rfl, hb, ?_, hc1, hc2, by simpa using hc3, ?_⟩
      · simp [World.setCell, Array.getElem?_modify, hh]
      · rw [Array.toList_setIfInBounds, List.take_set, htk, ← hrl, flat_setText]
  · rcases Nat.lt_or_ge i n with hi | hi
    · rw [List.getElem?_append_left (by omega)] at hq hx
      exact hfar i q x (by rw [List.getElem?_append_left (by omega)]; exact hq) (by rw [List.getElem?_append_left (by omega)]; exact hx)
    · have hi0 : i = n := by
        have := (List.getElem?_eq_some_iff.1 hx).1
        simp [hl] at this; omega
      subst hi0
      rw [List.getElem?_append_right (by omega), hrl, Nat.sub_self] at hq
      rw [List.getElem?_append_right (by omega), hl, Nat.sub_self] at hx
      simp only [List.getElem?_cons_zero, Option.some.injEq] at hq hx
      subst hq hx
      have h5 := hfar i r y (by rw [List.getElem?_append_right (by omega), hrl, Nat.sub_self]; rfl) (by rw [List.getElem?_append_right (by omega), hl, Nat.sub_self]; rfl)
      obtain ⟨a1, a2, a3, a4⟩ := h5.parts
      have := DcR.of r.1 s r.2.2.1 a4
      rw [a1, a3] at this
      show DcR _ _ (r.1, s, r.2.2) _
      obtain ⟨k, s', i', A, n', c'⟩ := r
      simp only at a1 a3 this ⊢
      subst a1 a3
      exact this
/-- the last element of an own row, as cells -/
theorem Own.last {w : World} {base n c : Nat} {A : Option Addr} {ok : Nat → Prop} {l : List Dc} {y : Dc} (h : Own DcE 30 ok w base (.slice A (n + 1) c) (n + 1) (l ++ [y])) :
    ∃ g r, A = some ⟨g, 0, none⟩ ∧ base ≤ g ∧ g < w.heap.size ∧ w.frozen? ⟨g, n * 4 + 1, none⟩ = false ∧ DcR (fun b => ok b ∧ b ≠ g) w r y ∧ ∀ j u, (dcCells r)[j]? = some u → w.cell? ⟨g, n * 4 + j, none⟩ = some u := by
  have hlt := h.lt
  obtain ⟨h1, raw, h2, h3, h4⟩ := h
  have hl : l.length = n := by simpa using h1
  rcases h3.2 with ⟨h0, _⟩ | ⟨g, cap, cur, hv, hb, hh, hc1, hc2, hc3, htk⟩
  · cases h0
  · cases hv
    have hr : raw[n]? = some raw[n] := List.getElem?_eq_getElem (by omega)
    have hB : Blk w g 30 cur := hh
    refine ⟨g, raw[n], rfl, hb, hB.lt, hB.frozen _, DcR.mono (h4 n _ y hr (by rw [List.getElem?_append_right (by omega), hl, Nat.sub_self]; rfl)) fun b _ hk => ⟨hk.1, fun e => hk.2 (by rw [e]; rfl)⟩, fun j u hu => ?_⟩
    have := h3.cells (g := g) rfl (n * 4 + j) u (flat_at (E := DcE) raw n _ j u hr hu)
    rwa [Addr.add_lit, Nat.zero_add] at this
end Go.Proofs.Ytbhenicldddlfaa

