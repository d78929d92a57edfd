/- Texts PD, laid together. -/
import Derived.Test.YtdmecijpioljaaaPA



namespace Go.Proofs.Ytdmecijpioljaaa
open Go.RowKit

/-- behind k elements: a struct of four cells in block bo, its last field a row of its own that grows -/
structure Fld {α ρ : Type} (E : Elem α ρ) (e T : TypeId) (W : World) (bo lo : Nat) (ok : Nat → Prop) (c0 c1 c2 : Value) (k : Nat) (v : Value) (ks : List α) (wr : World) : Prop where
  own : Own E e ok wr lo v k ks
  blk : Blk wr bo T #[c0, c1, c2, v]
  bel : Below bo W wr
  lt : bo < lo
  size : lo ≤ wr.heap.size
  okk : ∀ b, ok b → bo < b
section
variable {α ρ : Type} {E : Elem α ρ} {e T : TypeId} {W wr wa w1 : World} {bo lo k : Nat} {ok : Nat → Prop} {c0 c1 c2 v v' : Value} {ks ks' : List α}
theorem Fld.below (h : Fld E e T W bo lo ok c0 c1 c2 k v ks wr) (hb : Below wr.heap.size wr wa) : Fld E e T W bo lo ok c0 c1 c2 k v ks wa :=
  ⟨h.own.via hb, h.blk.via hb, h.bel.trans (hb.mono (by have := h.lt; have := h.size; omega)), h.lt, Nat.le_trans h.size hb.size, h.okk⟩
theorem Fld.push {k' : Nat} (h : Fld E e T W bo lo ok c0 c1 c2 k v ks wr) (ho : Own E e ok w1 lo v' k' ks') (hg : wr.grownBy w1 v.ownBlock) : Fld E e T W bo lo ok c0 c1 c2 k' v' ks' (w1.setCell ⟨bo, 3, none⟩ v') := by
  have hlt := h.lt
  have hsz := h.size
  have hne : ∀ j, j ≤ bo → some j ≠ v.ownBlock := fun j hj e => by have := (h.own.lt j e.symm).1; omega
  refine ⟨ho.setCell _ (fun b hb e => by have := h.okk b hb; simp only at e; omega) hlt, ?_, ?_, hlt, ?_, h.okk⟩
  · have := (h.blk.grown hg (hne _ (by omega))).set_ 3 v'; simpa using this
  · exact (h.bel.grown hg (by omega) (fun j e => by have := (h.own.lt j e).1; omega)).setCell (Nat.le_refl _) _
  · have := hg.size; simp; omega
end
theorem Own.base {α ρ : Type} {E : Elem α ρ} {e : TypeId} {ok : Nat → Prop} {w : World} {B B' n : Nat} {v : Value} {l : List α} (h : Own E e ok w B v n l) (hb : B' ≤ B) : Own E e ok w B' v n l := by
  obtain ⟨h1, raw, h3, h4, h5⟩ := h
  refine ⟨h1, raw, h3, ⟨h4.1, ?_⟩, h5⟩
  rcases h4.2 with h0 | ⟨g, cap, cur, hv, hg, hr⟩
  · exact Or.inl h0
  · exact Or.inr ⟨g, cap, cur, hv, Nat.le_trans hb hg, hr⟩
/-- symbols and items lead nowhere -/
theorem Own.anySy {e : TypeId} {ok ok' : Nat → Prop} {w : World} {B n : Nat} {v : Value} {l : List Sy} (h : Own SyE e ok w B v n l) : Own SyE e ok' w B v n l := by
  obtain ⟨h1, raw, h3, h4, h5⟩ := h
  exact ⟨h1, raw, h3, h4, fun i r x hr hx => h5 i r x hr hx⟩
theorem Own.anyIt {e : TypeId} {ok ok' : Nat → Prop} {w : World} {B n : Nat} {v : Value} {l : List It3} (h : Own It3E e ok w B v n l) : Own It3E e ok' w B v n l := by
  obtain ⟨h1, raw, h3, h4, h5⟩ := h
  exact ⟨h1, raw, h3, h4, fun i r x hr hx => h5 i r x hr hx⟩
theorem take_more {α : Type} {l : List α} {k : Nat} {y : α} (h : l[k]? = some y) : l.take (k + 1) = l.take k ++ [y] := by
  have hl := List.getElem?_eq_some_iff.1 h
  rw [List.take_succ_eq_append_getElem hl.1, hl.2]
theorem step_append_ru {ops : Array Oper} {o : Oper} {a : Act} {K : Act → World → Prop} {Q : Exit → Act → World → Prop} {F : Prop} (w : World) (hgd : o.guard = none) (s y : Operand)
    (ho : o.op = .call { callee := .builtin .append, args := #[s, y], argTypes := #[26, 26] })
    (ok : Nat → Prop) (base : Nat) (v : Value) (n : Nat) (l : List Ru) (hv : a.eval s = v) (hown : Own RuE 47 ok w base v n l)
    (b : Nat) (x : Ru) (A : Option Addr) (m c : Nat) (hy : a.eval y = .slice (some ⟨b, 0, none⟩) 1 1) (hcell : Blk w b 47 #[.int .i64 (x.1 : Int), .slice A m c]) (hrel : Sl SyE (fun b => ok b ∧ some b ≠ v.ownBlock) w A m c x.2)
    (h63 : n + 1 ≤ 1000000) (hbase : base ≤ w.heap.size)
    (h : ∀ A' c' w', Own RuE 47 ok w' base (.slice A' (n + 1) c') (n + 1) (l ++ [x]) → w.grownBy w' v.ownBlock → ((Value.slice A' (n + 1) c').ownBlock = v.ownBlock ∨ (Value.slice A' (n + 1) c').ownBlock = some w.heap.size) → K (a.put o.dst (.slice A' (n + 1) c')) w') :
    if Region.wanted o (yielded ops a.tmps) = true then Oper.wp Try.prog o a w K Q else F := by
  obtain ⟨i, hi, hz⟩ := Option.map_eq_some_iff.1 rule_info
  simp only [Prod.mk.injEq] at hz
  refine step_append_E (E := RuE) w hgd s y 26 47 ho i (.agg #[.int .i64 0, .slice none 0 0]) 32 (by kernel_rfl) hi hz.1 hz.2.1 hz.2.2 rfl ok base v n l hv hown b (x.1, A, m, c) x hy (fun j u hu => ?_) ⟨rfl, hrel⟩ (by simp [maxLen]; omega) (by omega) hbase h
  rw [hcell.cell j]
  rw [List.getElem?_toArray]; exact hu

/-- the four cells of a struct are written -/
def World.setG (w : World) (r : Nat) (a b c d : Value) : World := (((w.setCell ⟨r, 0, none⟩ a).setCell ⟨r, 1, none⟩ b).setCell ⟨r, 2, none⟩ c).setCell ⟨r, 3, none⟩ d
theorem agr_setG {w : World} {r : Nat} {a b c d : Value} {ok : Nat → Prop} (hk : ∀ b, ok b → b ≠ r) : Agr ok w (World.setG w r a b c d) :=
  (((Agr.setCell _ hk).trans (Agr.setCell _ hk)).trans (Agr.setCell _ hk)).trans (Agr.setCell _ hk)
theorem below_setG {w0 w : World} {r B : Nat} {a b c d : Value} (h : Below B w0 w) (hr : B ≤ r) : Below B w0 (World.setG w r a b c d) :=
  (((h.setCell hr _).setCell hr _).setCell hr _).setCell hr _
def CopyGP (g : Gr) (n : Nat) (w : World) (e : Ending) (w' : World) : Prop :=
  ∃ A c, e = .returned (grVal g A n c) ∧ Own RuE 47 (fun b => w.heap.size ≤ b) w' w.heap.size (.slice A n c) n g.rules ∧ Below w.heap.size w w'
set_option maxRecDepth 100000 in
set_option maxHeartbeats 4000000 in
theorem CopyG_c (ok : Nat → Prop) (g : Gr) (Ag : Option Addr) (ng cg : Nat) (w : World) (hr4 : ∀ u ∈ g.rules, u.2.length ≤ 1000) (hng : ng ≤ 1000) (hl : Sl RuE ok w Ag ng cg g.rules) :
    Calls Try.prog 18 #[grVal g Ag ng cg] w (CopyGP g ng w) := by
  have hB0 := (Below.refl w.heap.size w).al (.cells #[.int .i64 (g.terms : Int), .int .i64 (g.nons : Int), .int .i64 (g.start : Int), .slice Ag ng cg] 28)
  have hB := hB0.al (.cells #[.int .i64 0, .int .i64 0, .int .i64 0, .slice none 0 0] 28)
  have B0 := (Blk.new w 28 #[.int .i64 (g.terms : Int), .int .i64 (g.nons : Int), .int .i64 (g.start : Int), .slice Ag ng cg]).al (.cells #[.int .i64 0, .int .i64 0, .int .i64 0, .slice none 0 0] 28)
  have R0 := Blk.newAt (w.alloc (.cells #[.int .i64 (g.terms : Int), .int .i64 (g.nons : Int), .int .i64 (g.start : Int), .slice Ag ng cg] 28)) 28 #[.int .i64 0, .int .i64 0, .int .i64 0, .slice none 0 0] (w.heap.size + 1) (by simp)
  have HL := Lib.hid (hl.via hB)
  have HB := Lib.hid hB
  have hW : ((w.alloc (.cells #[.int .i64 (g.terms : Int), .int .i64 (g.nons : Int), .int .i64 (g.start : Int), .slice Ag ng cg] 28)).alloc (.cells #[.int .i64 0, .int .i64 0, .int .i64 0, .slice none 0 0] 28)).heap.size = w.heap.size + 2 := by simp
  have HR4 := Lib.hid hr4
  simp only [grVal]
  clear hl hB hB0 hr4
  go_enter Try.func18, Try.ntmps18
  go_upto_region 1 with fail
  generalize (w.alloc (.cells #[.int .i64 (g.terms : Int), .int .i64 (g.nons : Int), .int .i64 (g.start : Int), .slice Ag ng cg] 28)).alloc (.cells #[.int .i64 0, .int .i64 0, .int .i64 0, .slice none 0 0] 28) = W at *
  have HW := Lib.hid hW
  clear hW
  have B1 := (Blk.new W 28 #[.int .i64 (g.terms : Int), .int .i64 (g.nons : Int), .int .i64 (g.start : Int), .slice none 0 0])
  have hB1 := (Below.refl W.heap.size W).al (.cells #[.int .i64 (g.terms : Int), .int .i64 (g.nons : Int), .int .i64 (g.start : Int), .slice none 0 0] 28)
  have HB0 := Lib.hid B0
  have HR0 := Lib.hid R0
  have cB0 := B0.cell
  have fB0 := B0.frozen
  have lB0 := B0.lt
  clear R0
  go_upto_region 3 with fail
  clear cB0 fB0 lB0
  replace B0 := B0.via hB1
  have HB1 := Lib.hid hB1
  have hs1 : W.heap.size + 1 ≤ (W.alloc (.cells #[.int .i64 (g.terms : Int), .int .i64 (g.nons : Int), .int .i64 (g.start : Int), .slice none 0 0] 28)).heap.size := by simp
  clear hB1
  generalize W.alloc (.cells #[.int .i64 (g.terms : Int), .int .i64 (g.nons : Int), .int .i64 (g.start : Int), .slice none 0 0] 28) = W1 at *
  have cB0 := B0.cell
  have fB0 := B0.frozen
  have lB0 := B0.lt
  go_wp2_with fail
  clear cB0 fB0 lB0
  clear B0
  have hNS : Fld RuE 47 28 W W.heap.size (W.heap.size + 1) (fun b => W.heap.size + 1 ≤ b) (.int .i64 (g.terms : Int)) (.int .i64 (g.nons : Int)) (.int .i64 (g.start : Int)) 0 (.slice none 0 0) (g.rules.take 0) W1 :=
    ⟨by simpa using Own.nil W1 (W.heap.size + 1), B1, HB1.out, by omega, hs1, fun b hb => by omega⟩
  have HN0 := Lib.hid hNS
  have hWl : w.heap.size + 1 < W.heap.size := by have := HW.out; omega
  clear hNS B1 HB1
  generalize hbo : W.heap.size = bo at *
  have HBO := Lib.hid hbo
  clear hbo
  go_loopw [11] (fun i wr => ∃ (k : Nat) (v : Value), i = .int .i64 k ∧ k ≤ ng ∧ Fld RuE 47 28 W bo (bo + 1) (fun b => bo + 1 ≤ b) (.int .i64 (g.terms : Int)) (.int .i64 (g.nons : Int)) (.int .i64 (g.start : Int)) k v (g.rules.take k) wr) (fun i _ => ng - (intOf i).toNat)
  case atStart => exact ⟨0, _, rfl, Nat.zero_le _, HN0.out⟩
  case round =>
    obtain ⟨k, v, rfl, hk, hr⟩ := hrel
    obtain ⟨Av, cv, rfl, -⟩ := hr.own.form
    have HR := Lib.hid hr
    have hsz := hr.size
    have hbr := hr.bel
    clear hr
    by_cases hlt : k < ng
    · as_aux_lemma =>
      obtain ⟨b1, o1, ⟨xl, xA, xn, xc⟩, y, rfl, -, hb1, hy, hxy, hc⟩ := (HL.out.via (by have := HBO.out; rw [this]; exact hbr)).at_ hlt
      obtain ⟨e1, e2⟩ := hxy
      simp only at e1 e2
      have c0 := hc 0 _ rfl
      have c1 := hc 1 _ rfl
      simp only [RuE, Nat.add_zero] at c0 c1
      have i0 : (0 : Int) ≤ (k : Int) := by omega
      have i1 : (k : Int) < (ng : Int) := by omega
      have hBx := (Below.refl wr.heap.size wr).al (.cells #[.int .i64 (xl : Int), .slice xA xn xc] 47)
      have BX := Blk.new wr 47 #[.int .i64 (xl : Int), .slice xA xn xc]
      have HX := Lib.hid (e2.via hBx)
      have HR2 := Lib.hid (HR.out.below hBx)
      have hxn : xn ≤ 1000 := by have := HR4.out y (List.mem_of_getElem? hy); have := e2.len; omega
      have HF := Lib.hid (take_more hy)
      have HY := Lib.hid (show y = (xl, y.2) by rw [e1])
      have Bo := HR2.out.blk
      have hsz2 := HR2.out.size
      have HNX := Lib.hid (show some wr.heap.size ≠ (Value.slice Av k cv).ownBlock from fun e => Nat.lt_irrefl _ (HR.out.own.lt _ e.symm).2)
      clear hc hy hb1 hBx HR hbr e1 e2
      have cBo := Bo.cell
      have fBo := Bo.frozen
      have lBo := Bo.lt
      have cBX := BX.cell
      have fBX := BX.frozen
      have lBX := BX.lt
      go_upto_region 6 with fail
      clear c0 c1
      generalize wr.alloc (.cells #[.int .i64 (xl : Int), .slice xA xn xc] 47) = wx at *
      have hHeld : (∀ i, wx.drew.cell? ⟨bo, i, none⟩ = #[.int .i64 (g.terms : Int), .int .i64 (g.nons : Int), .int .i64 (g.start : Int), .slice Av k cv][i]?) ∧ (∀ i, wx.drew.cell? ⟨wr.heap.size, i, none⟩ = #[.int .i64 (xl : Int), .slice xA xn xc][i]?) := ⟨cBo, cBX⟩
      refine wp_region_noPanic ?_
      refine wp_region_L 11 (fun w' => (∀ i, w'.cell? ⟨bo, i, none⟩ = #[.int .i64 (g.terms : Int), .int .i64 (g.nons : Int), .int .i64 (g.start : Int), .slice Av k cv][i]?) ∧ (∀ i, w'.cell? ⟨wr.heap.size, i, none⟩ = #[.int .i64 (xl : Int), .slice xA xn xc][i]?)) (by kernel_rfl) ?_
      refine wpAnyL.take (i := 0) (d := some 15) (v := ?_) rfl (by kernel_rfl) (by kernel_rfl) (by kernel_rfl) (by kernel_rfl) rfl (fun _ _ _ h => h) (Or.inl ⟨by rfl, ?_⟩) (by assumption) ?_
      rotate_left
      · intro w hSw; (try dsimp only at hSw); go_simp; try with_reducible rfl
      simp only [Act.put, List.setIfInBounds_toArray, List.set_cons_zero, List.set_cons_succ]
      refine wpAnyL.take (i := 1) (d := some 16) (v := ?_) rfl (by kernel_rfl) (by kernel_rfl) (by kernel_rfl) (by kernel_rfl) rfl (fun _ _ _ h => h) (Or.inl ⟨by rfl, ?_⟩) (by assumption) ?_
      rotate_left
      · intro w hSw; (try dsimp only at hSw); go_simp; try with_reducible rfl
      simp only [Act.put, List.setIfInBounds_toArray, List.set_cons_zero, List.set_cons_succ]
      refine wpAnyL.take (i := 2) (d := some 17) (v := ?_) rfl (by kernel_rfl) (by kernel_rfl) (by kernel_rfl) (by kernel_rfl) rfl (fun _ _ _ h => h) (Or.inl ⟨by rfl, ?_⟩) (by assumption) ?_
      rotate_left
      · intro w hSw; (try dsimp only at hSw); go_simp; try with_reducible rfl
      simp only [Act.put, List.setIfInBounds_toArray, List.set_cons_zero, List.set_cons_succ]
      refine wpAnyL.take (i := 3) (d := some 18) (v := ?_) rfl (by kernel_rfl) (by kernel_rfl) (by kernel_rfl) (by kernel_rfl) rfl (fun _ _ _ h => h) (Or.inl ⟨by rfl, ?_⟩) (by assumption) ?_
      rotate_left
      · intro w hSw; (try dsimp only at hSw); go_simp; try with_reducible rfl
      simp only [Act.put, List.setIfInBounds_toArray, List.set_cons_zero, List.set_cons_succ]
      refine wpAnyL.take (i := 4) (d := some 19) (v := ?_) rfl (by kernel_rfl) (by kernel_rfl) (by kernel_rfl) (by kernel_rfl) rfl (fun _ _ _ h => h) (Or.inl ⟨by rfl, ?_⟩) (by assumption) ?_
      rotate_left
      · intro w hSw; (try dsimp only at hSw); go_simp; try with_reducible rfl
      simp only [Act.put, List.setIfInBounds_toArray, List.set_cons_zero, List.set_cons_succ]
      refine wpAnyL.take (i := 5) (d := some 20) (v := ?_) rfl (by kernel_rfl) (by kernel_rfl) (by kernel_rfl) (by kernel_rfl) rfl (fun _ _ _ h => h) (Or.inl ⟨by rfl, ?_⟩) (by assumption) ?_
      rotate_left
      · intro w hSw; (try dsimp only at hSw); go_simp; try with_reducible rfl
      simp only [Act.put, List.setIfInBounds_toArray, List.set_cons_zero, List.set_cons_succ]
      refine wpAnyL.ready (rs := [6]) (by kernel_rfl) (by simp) ?_
      refine AllL.cons rfl (fun K hK => ?_) AllL.nil
      go_simp
      go_at_call 41
      refine (cloneSy_c (fun b => True) xA xn xc y.2 wx.drew (HX.out.dr.mono fun _ _ _ => trivial) (by omega)).mono ?_
      rintro e w' ⟨Bc, dc, rfl, hT2, hb2⟩
      have HB2 := HR2.out.below (((Below.refl wx.heap.size wx).drew).trans hb2)
      have HBX2 := BX.dr.via hb2
      go_wp2_with fail
      refine hK.out _ _ (fun _ => ⟨HB2.blk.cell, HBX2.cell⟩) ?_
      clear hK K
      try dsimp only [Act.put]
      have hHeld2 := And.intro HB2.blk.cell HBX2.cell
      refine wpAnyL.ready (rs := [7]) (by kernel_rfl) (by simp) ?_
      refine AllL.cons rfl (fun K hK => ?_) AllL.nil
      go_simp
      refine hK.out _ _ (fun _ => hHeld2) ?_
      clear hK K
      try dsimp only [Act.put]
      refine wpAnyL.ready (rs := [8]) (by kernel_rfl) (by simp) ?_
      refine AllL.cons rfl (fun K hK => ?_) AllL.nil
      go_simp
      have hal := (Below.refl w'.heap.size w').al (.cells #[.int .i64 (xl : Int), .slice Bc xn dc] 47)
      have HB3 := HB2.below hal
      have HBX3 := HBX2.via hal
      refine hK.out _ _ (fun _ => ⟨HB3.blk.cell, HBX3.cell⟩) ?_
      clear hK K
      try dsimp only [Act.put]
      refine wpAnyL.ready (rs := [9]) (by kernel_rfl) (by simp) ?_
      refine AllL.cons rfl (fun K hK => ?_) AllL.nil
      have hT3 : Sl SyE (fun b => (bo + 1 ≤ b) ∧ some b ≠ (Value.slice Av k cv).ownBlock) (w'.alloc (.cells #[.int .i64 (xl : Int), .slice Bc xn dc] 47)) Bc xn dc y.2 :=
        (((hT2.anySy (ok' := fun _ => False)).toSl (ok' := fun b => wx.heap.size ≤ b) (fun _ _ h => h.elim) (fun b hb => hb)).via hal).mono fun b _ hb => ⟨Nat.le_trans hsz2 hb, fun e => Nat.lt_irrefl b (Nat.lt_of_lt_of_le (HR2.out.own.lt b e.symm).2 hb)⟩
      refine step_append_ru _ rfl (.tmp 16) (.tmp 23) rfl (fun b => bo + 1 ≤ b) (bo + 1) (.slice Av k cv) k (g.rules.take k) rfl HB3.own w'.heap.size (xl, y.2) Bc xn dc rfl (Blk.new w' 47 #[.int .i64 (xl : Int), .slice Bc xn dc]) hT3 (by omega) HB3.size ?_
      intro Av1 cv1 w1 ho1 hg1 hat1
      have B2g := HB3.blk.grown hg1 (fun e => by have := (HB3.own.lt _ e.symm).1; omega)
      have BXg := HBX3.grown hg1 HNX.out
      refine hK.out _ _ (fun _ => ⟨B2g.cell, BXg.cell⟩) ?_
      clear hK K
      try dsimp only [Act.put]
      refine wpAnyL.ready (rs := [10]) (by kernel_rfl) (by simp) ?_
      refine AllL.cons rfl (fun K hK => ?_) AllL.nil
      go_simp
      refine hK.out _ _ (fun _ => ⟨B2g.cell, BXg.cell⟩) ?_
      clear hK K
      try dsimp only [Act.put]
      refine wpAnyL.ready (rs := [11]) (by kernel_rfl) (by simp) ?_
      refine AllL.cons rfl (fun K hK => ?_) AllL.nil
      have c2g := B2g.cell
      have f2g := B2g.frozen
      go_simp
      refine hK.out _ _ (fun h => absurd rfl h) ?_
      clear hK K
      refine wpAnyL.done (by kernel_rfl) ?_ _
      refine NoPanic.normal ?_
      have HP := Lib.hid (HB3.push ho1 hg1)
      clear HB2 HB3
      rw [← HY.out, ← HF.out] at HP
      go_wp2_with fail
      exact ⟨⟨k + 1, _, by go_num, by omega, HP.out⟩, by simp [intOf]; omega⟩
    · as_aux_lemma =>
      obtain rfl : k = ng := by omega
      have HT := Lib.hid (show g.rules.take k = g.rules from List.take_of_length_le (by have := HL.out.len; omega))
      have R1 := HR0.out.below hbr (by omega)
      have Bo := HR.out.blk
      have cR1 := R1.cell
      have fR1 := R1.frozen
      have lR1 := R1.lt
      have cBo := Bo.cell
      have fBo := Bo.frozen
      have lBo := Bo.lt
      go_wp2_with fail
      refine bodyPost_ret (v := grVal g Av k cv) (by simp [results, Try.results18, go_sem, grVal, cR1]) rfl ⟨Av, cv, rfl, ?_, ?_⟩
      · have h1 := HR.out.own
        rw [HT.out] at h1
        have hne : ∀ b, bo + 1 ≤ b → b ≠ w.heap.size + 1 := fun b hb => by omega
        exact (((((h1.setCell (p := ⟨w.heap.size + 1, 0, none⟩) _ hne (by show w.heap.size + 1 < _; omega)).setCell (p := ⟨w.heap.size + 1, 1, none⟩) _ hne (by show w.heap.size + 1 < _; omega)).setCell (p := ⟨w.heap.size + 1, 2, none⟩) _ hne (by show w.heap.size + 1 < _; omega)).setCell (p := ⟨w.heap.size + 1, 3, none⟩) _ hne (by show w.heap.size + 1 < _; omega)).mono fun b _ hb => by omega).base (by omega)
      · exact below_setG (HB.out.trans (hbr.mono (by omega))) (by omega)
end Go.Proofs.Ytdmecijpioljaaa

