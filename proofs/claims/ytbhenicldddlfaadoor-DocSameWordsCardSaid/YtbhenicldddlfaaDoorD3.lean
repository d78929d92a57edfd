/- Texts DH, laid together. -/
import Derived.Test.YtbhenicldddlfaaDoorD2


namespace Go.Proofs.YtbhenicldddlfaaDoor
open Go.RowKit

structure Opr where
  text : ByteArray
  ind : Int
  grp : Bool
  can : Bool
  fin : Nat

mutual
/-- what a document writes, from position k on -/
def Dc.ops (ind : Nat) : Dc → Nat → List Opr
  | .node kd s i ks, k =>
    if kd = 0 then [⟨s, -1, false, false, 0⟩]
    else if kd ≤ 3 then [⟨⟨#[]⟩, ind, false, false, 0⟩]
    else if kd = 5 then Dc.opsL (ind + i) ks k
    else if kd = 6 then ⟨Dc.flat (.node kd s i ks), 0, true, !hasB [3] (.node kd s i ks), k + 1 + (Dc.opsL ind ks (k + 1)).length⟩ :: Dc.opsL ind ks (k + 1)
    else Dc.opsL ind ks k
def Dc.opsL (ind : Nat) : List Dc → Nat → List Opr
  | [], _ => []
  | t :: ts, k => t.ops ind k ++ Dc.opsL ind ts (k + (t.ops ind k).length)
end
theorem Dc.opsL_snoc (ind : Nat) (a : List Dc) (t : Dc) : ∀ k, Dc.opsL ind (a ++ [t]) k = Dc.opsL ind a k ++ t.ops ind (k + (Dc.opsL ind a k).length) := by
  induction a with
  | nil => intro k; simp [Dc.opsL]
  | cons x a ih => intro k; simp only [List.cons_append, Dc.opsL, ih, List.append_assoc, List.length_append, Nat.add_assoc]
theorem Dc.opsL_take {ks : List Dc} {j : Nat} {t : Dc} (h : ks[j]? = some t) (ind k : Nat) : Dc.opsL ind (ks.take (j + 1)) k = Dc.opsL ind (ks.take j) k ++ t.ops ind (k + (Dc.opsL ind (ks.take j) k).length) := by
  have hl := List.getElem?_eq_some_iff.1 h
  rw [List.take_succ_eq_append_getElem hl.1, hl.2, Dc.opsL_snoc]
mutual
theorem Dc.ops_len (ind : Nat) (t : Dc) : ∀ k, (t.ops ind k).length ≤ t.size := by
  intro k
  cases t with
  | node kd s i ks =>
    have h1 := Dc.opsL_len (ind + i) ks k
    have h2 := Dc.opsL_len ind ks k
    have h3 := Dc.opsL_len ind ks (k + 1)
    simp only [Dc.ops, Dc.size]
    split
    · simp
    · split
      · simp
      · split
        · omega
        · split
          · simp only [List.length_cons]; omega
          · omega
theorem Dc.opsL_len (ind : Nat) (ks : List Dc) : ∀ k, (Dc.opsL ind ks k).length ≤ Dc.sizes ks := by
  intro k
  cases ks with
  | nil => simp [Dc.opsL]
  | cons t ts =>
    have h1 := Dc.ops_len ind t k
    have h2 := Dc.opsL_len ind ts (k + (t.ops ind k).length)
    simp only [Dc.opsL, Dc.sizes, List.length_append]; omega
end

theorem op_info : (Tryd.prog.info? 49).map (fun i => (i.zero, i.size, i.bytes)) = some (some (.agg #[.string ⟨#[]⟩, .int .i64 0, .bool false, .bool false, .int .i64 0]), 5, 40) := by kernel_rfl
def opCells (r : Opr) : List Value := [.string r.text, .int .i64 r.ind, .bool r.grp, .bool r.can, .int .i64 (r.fin : Int)]
def OpE : Elem Opr Opr where
  k := 5
  cells := opCells
  rel _ _ r x := r = x
  pos := by omega
  len _ := rfl
  one r u hu := by simp [opCells] at hu; rcases hu with rfl | rfl | rfl | rfl | rfl <;> rfl
  agr h _ := h
  mono h _ := h

/-! ### appending an operation; writing where a group ends -/
theorem step_append_op {ops : Array Oper} {o : Oper} {a : Act} {K : Act → World → Prop} {Q : Exit → Act → World → Prop} {F : Prop} (w : World) (hgd : o.guard = none) (s y : Operand)
    (ho : o.op = .call { callee := .builtin .append, args := #[s, y], argTypes := #[44, 44] })
    (ok : Nat → Prop) (base : Nat) (v : Value) (n : Nat) (l : List Opr) (hv : a.eval s = v) (hown : Own OpE 49 ok w base v n l)
    (b : Nat) (r : Opr) (hy : a.eval y = .slice (some ⟨b, 0, none⟩) 1 1) (hcell : ∀ j u, (opCells r)[j]? = some u → w.cell? ⟨b, j, none⟩ = some u)
    (h63 : n + 1 ≤ 1000000) (hbase : base ≤ w.heap.size)
    (h : ∀ A' c' w', Own OpE 49 ok w' base (.slice A' (n + 1) c') (n + 1) (l ++ [r]) → w.grownBy w' v.ownBlock → ((Value.slice A' (n + 1) c').ownBlock = v.ownBlock ∨ (Value.slice A' (n + 1) c').ownBlock = some w.heap.size) → K (a.put o.dst (.slice A' (n + 1) c')) w') :
    if Region.wanted o (yielded ops a.tmps) = true then Oper.wp Tryd.prog o a w K Q else F := by
  obtain ⟨i, hi, hz⟩ := Option.map_eq_some_iff.1 op_info
  simp only [Prod.mk.injEq] at hz
  exact step_append_E (E := OpE) w hgd s y 44 49 ho i (.agg #[.string ⟨#[]⟩, .int .i64 0, .bool false, .bool false, .int .i64 0]) 40 (by kernel_rfl) hi hz.1 hz.2.1 hz.2.2 rfl ok base v n l hv hown b r r hy hcell rfl (by simp [maxLen]; omega) (by omega) hbase h
theorem wpList_append_op {ops : Array Oper} {rest : List Oper} {o : Oper} {a : Act} {Q : Exit → Act → World → Prop} (w : World) (hgd : o.guard = none) (s y : Operand)
    (ho : o.op = .call { callee := .builtin .append, args := #[s, y], argTypes := #[44, 44] })
    (ok : Nat → Prop) (base : Nat) (v : Value) (n : Nat) (l : List Opr) (hv : a.eval s = v) (hown : Own OpE 49 ok w base v n l)
    (b : Nat) (r : Opr) (hy : a.eval y = .slice (some ⟨b, 0, none⟩) 1 1) (hcell : ∀ j u, (opCells r)[j]? = some u → w.cell? ⟨b, j, none⟩ = some u)
    (h63 : n + 1 ≤ 1000000) (hbase : base ≤ w.heap.size)
    (h : ∀ A' c' w', Own OpE 49 ok w' base (.slice A' (n + 1) c') (n + 1) (l ++ [r]) → w.grownBy w' v.ownBlock → ((Value.slice A' (n + 1) c').ownBlock = v.ownBlock ∨ (Value.slice A' (n + 1) c').ownBlock = some w.heap.size) → wpList Tryd.prog ops Q rest (a.put o.dst (.slice A' (n + 1) c')) w') :
    wpList Tryd.prog ops Q (o :: rest) a w := by
  obtain ⟨i, hi, hz⟩ := Option.map_eq_some_iff.1 op_info
  simp only [Prod.mk.injEq] at hz
  exact wpList_append_E (E := OpE) w hgd s y 44 49 ho i (.agg #[.string ⟨#[]⟩, .int .i64 0, .bool false, .bool false, .int .i64 0]) 40 (by kernel_rfl) hi hz.1 hz.2.1 hz.2.2 rfl ok base v n l hv hown b r r hy hcell rfl (by simp [maxLen]; omega) (by omega) hbase h

theorem opE_raw {raw l : List Opr} (h1 : raw.length = l.length) (h : ∀ (i : Nat) (r x : Opr), raw[i]? = some r → l[i]? = some x → r = x) : raw = l := by
  apply List.ext_getElem? 
  intro i
  rcases Nat.lt_or_ge i l.length with hi | hi
  · rw [List.getElem?_eq_getElem hi, List.getElem?_eq_getElem (by omega)]
    exact congrArg some (h i _ _ (List.getElem?_eq_getElem (by omega)) (List.getElem?_eq_getElem hi))
  · rw [List.getElem?_eq_none hi, List.getElem?_eq_none (by omega)]
theorem flat_set (l : List Opr) (k : Nat) (x : Opr) (m : Nat) (hk : l[k]? = some x) : (flat OpE l).set (k * 5 + 4) (.int .i64 (m : Int)) = flat OpE (l.set k { x with fin := m }) := by
  induction l generalizing k with
  | nil => simp at hk
  | cons y l ih =>
    cases k with
    | zero =>
      simp at hk; subst hk
      simp [flat, OpE, opCells]
    | succ k =>
      simp at hk
      have := ih k hk
      simp only [flat, List.flatMap_cons, List.set_cons_succ] at this ⊢
      rw [← this, List.set_append_right _ _ (by simp [OpE, opCells]; omega)]
      congr 2
      simp [OpE, opCells]; omega
/-- 'out[k].end = m' -/
theorem Own.setEnd {w : World} {base n c g : Nat} {ok : Nat → Prop} {l : List Opr} {k : Nat} {x : Opr} (h : Own OpE 49 ok w base (.slice (some ⟨g, 0, none⟩) n c) n l) (hk : l[k]? = some x) (m : Nat) :
    Own OpE 49 ok (w.setCell ⟨g, k * 5 + 4, none⟩ (.int .i64 (m : Int))) base (.slice (some ⟨g, 0, none⟩) n c) n (l.set k { x with fin := m }) := by
  obtain ⟨h1, raw, h2, h3, h4⟩ := h
  have e := opE_raw (by omega) h4
  subst e
  refine ⟨by simp [h1], raw.set k { x with fin := m }, by simp [h2], ?_, fun i r y hr hy => by rw [hr] at hy; exact Option.some.inj hy⟩
  refine ⟨by have := h3.1; rw [flat_len] at this ⊢; simpa using this, ?_⟩
  rcases h3.2 with ⟨h0, _⟩ | ⟨g', cap, cur, hv, hb, hh, hc1, hc2, hc3, htk⟩
  · cases h0
  · cases hv
    have hkl : k < raw.length := (List.getElem?_eq_some_iff.1 hk).1
    refine Or.inr ⟨g, c, cur.setIfInBounds (k * 5 + 4) (.int .i64 (m : Int)), rfl, hb, ?_, hc1, hc2, by simpa using hc3, ?_⟩
    · simp [World.setCell, Array.getElem?_modify, hh]
    · rw [Array.toList_setIfInBounds, List.take_set, htk, flat_set _ _ _ _ hk]

/-! ### how the row moves on -/
theorem Agr.lo {lo : Nat} {w w' : World} (h : Below lo w w') : Agr (fun b => b < lo) w w' := fun b hb _ => h.block b hb
structure OutR (base : Nat) (w0 : World) (v0 : Value) (w : World) (v : Value) : Prop where
  bel : Below base w0 w
  agr : Agr (fun b => some b ≠ v0.ownBlock) w0 w
  row : ∀ b, v.ownBlock = some b → v0.ownBlock = some b ∨ w0.heap.size ≤ b
section
variable {base : Nat} {w0 w w' : World} {v0 v v' : Value}
theorem OutR.refl (base : Nat) (w : World) (v : Value) : OutR base w v w v := ⟨Below.refl _ _, Agr.refl, fun _ h => Or.inl h⟩
theorem OutR.trans (h : OutR base w0 v0 w v) (k : OutR base w v w' v') : OutR base w0 v0 w' v' := by
  refine ⟨h.bel.trans k.bel, ?_, ?_⟩
  · intro b hb hlt
    have h1 := h.agr b hb hlt
    refine (k.agr b (fun e => ?_) (Nat.lt_of_lt_of_le hlt h.bel.size)).trans h1
    rcases h.row b e.symm with h2 | h2
    · exact hb h2.symm
    · omega
  · intro b hb
    rcases k.row b hb with h1 | h1
    · exact h.row b h1
    · exact Or.inr (Nat.le_trans h.bel.size h1)
theorem OutR.via (h : OutR base w0 v0 w v) (hs : base ≤ w.heap.size) (hb : Below w.heap.size w w') : OutR base w0 v0 w' v :=
  h.trans ⟨hb.mono hs, Agr.below hb, fun _ e => Or.inl e⟩
theorem OutR.grown (h : OutR base w0 v0 w v) (hs : base ≤ w.heap.size) (hv : ∀ k, v.ownBlock = some k → base ≤ k) (hg : w.grownBy w' v.ownBlock) (hn : v'.ownBlock = v.ownBlock ∨ v'.ownBlock = some w.heap.size) : OutR base w0 v0 w' v' := by
  refine h.trans ⟨(Below.refl base w).grown hg hs hv, Agr.grown hg fun b hb => hb, fun b e => ?_⟩
  rcases hn with h1 | h1
  · rw [h1] at e; exact Or.inl e
  · rw [h1] at e; cases e; exact Or.inr (Nat.le_refl _)
end

theorem Dc.Ok.arg_one {t : Dc} (h : t.Ok) (hk : t.kind = 5 ∨ t.kind = 6) : ∃ x, t.args = [x] := by
  cases h with
  | text s h => simp [Dc.kind] at hk
  | line k h1 h3 => simp only [Dc.kind] at hk; omega
  | cat ks h => simp [Dc.kind] at hk
  | nest n t hn h => exact ⟨t, rfl⟩
  | group t h => exact ⟨t, rfl⟩
theorem Dc.ops_0 {t : Dc} (h : t.kind = 0) (ind k : Nat) : t.ops ind k = [⟨t.text, -1, false, false, 0⟩] := by
  cases t; simp only [Dc.kind, Dc.text] at *; simp [Dc.ops, h]
theorem Dc.ops_1 {t : Dc} (h : 1 ≤ t.kind) (h3 : t.kind ≤ 3) (ind k : Nat) : t.ops ind k = [⟨⟨#[]⟩, ind, false, false, 0⟩] := by
  cases t; simp only [Dc.kind] at *; rw [Dc.ops, if_neg (by omega), if_pos h3]
theorem Dc.ops_4 {t : Dc} (h : t.kind = 4) (ind k : Nat) : t.ops ind k = Dc.opsL ind t.args k := by
  cases t; simp only [Dc.kind, Dc.args] at *; rw [Dc.ops, if_neg (by omega), if_neg (by omega), if_neg (by omega), if_neg (by omega)]
theorem Dc.ops_5 {t : Dc} (h : t.kind = 5) (ind k : Nat) : t.ops ind k = Dc.opsL (ind + t.ind) t.args k := by
  cases t; simp only [Dc.kind, Dc.args, Dc.ind] at *; rw [Dc.ops, if_neg (by omega), if_neg (by omega), if_pos h]
theorem Dc.ops_6 {t : Dc} (h : t.kind = 6) (ind k : Nat) : t.ops ind k = ⟨t.flat, 0, true, !hasB [3] t, k + 1 + (Dc.opsL ind t.args (k + 1)).length⟩ :: Dc.opsL ind t.args (k + 1) := by
  cases t; simp only [Dc.kind, Dc.args] at *; rw [Dc.ops, if_neg (by omega), if_neg (by omega), if_neg (by omega), if_pos h]
theorem OutR.setCell {base : Nat} {w0 w : World} {v0 v : Value} {p : Addr} (h : OutR base w0 v0 w v) (u : Value) (hp : v.ownBlock = some p.block) (hb : base ≤ p.block) : OutR base w0 v0 (w.setCell p u) v :=
  h.trans ⟨(Below.refl _ _).setCell hb u, Agr.setCell u fun b hb e => hb (by rw [hp, e]), fun _ e => Or.inl e⟩
theorem Own.blk {α ρ : Type} {E : Elem α ρ} {e : TypeId} {ok : Nat → Prop} {w : World} {base n n' c : Nat} {A : Option Addr} {l : List α} (h : Own E e ok w base (.slice A n' c) n l) (hn : 0 < n) :
    ∃ g cur, A = some ⟨g, 0, none⟩ ∧ Blk w g e cur ∧ base ≤ g ∧ n * E.k ≤ cur.size := by
  obtain ⟨h1, raw, h2, h3, h4⟩ := h
  rcases h3.2 with ⟨h0, h5⟩ | ⟨g, cap, cur, hv, hb, hh, hc1, hc2, hc3, htk⟩
  · omega
  · cases hv
    exact ⟨g, cur, rfl, hh, hb, by rw [hc3]; exact Nat.mul_le_mul_right _ hc1⟩

theorem dhas_a (ok : Nat → Prop) (a : Nat) (s : ByteArray) (b : Nat) (B : Option Addr) (m d : Nat) (t : Dc) (A : Option Addr) (n c : Nat) (ks : List Int) (w : World) (hT : DcR ok w (a, s, b, B, m, d) t) (hK : Ints w A n c ks) (hn : n ≤ 1000000) (hs : t.size ≤ 1000000) :
    Calls Tryd.prog 44 #[.agg #[.int .i64 (a : Int), .string s, .int .i64 (b : Int), .slice B m d], .slice A n c] w fun e w' => e = .returned (.bool (hasB ks t)) ∧ Below w.heap.size w w' := dhas_c ok (a, s, b, B, m, d) t A n c ks w hT hK hn hs
theorem flat_a (ok : Nat → Prop) (a : Nat) (s : ByteArray) (b : Nat) (B : Option Addr) (m d : Nat) (t : Dc) (w : World) (hT : DcR ok w (a, s, b, B, m, d) t) (ho : t.Ok) (hs : t.size ≤ 1000000) :
    Calls Tryd.prog 45 #[.agg #[.int .i64 (a : Int), .string s, .int .i64 (b : Int), .slice B m d]] w (StrP t.flat w) := flat_n ok 1000000 (a, s, b, B, m, d) t w hT ho hs (Nat.le_refl _)

structure GCut (base n bb : Nat) (l : List Opr) (op : Opr) (cs : Array Value) (W : World) (vo v : Value) (wx : World) : Prop where
  own : Own OpE 49 (fun _ => True) wx base v (n + 1) (l ++ [op])
  out : OutR base W vo wx v
  blk : Blk wx bb 29 cs
def ListP (base n : Nat) (l more : List Opr) (w : World) (vo : Value) (e : Ending) (w' : World) : Prop :=
  ∃ A c, e = .returned (.slice A (n + more.length) c) ∧ Own OpE 49 (fun _ => True) w' base (.slice A (n + more.length) c) (n + more.length) (l ++ more) ∧ OutR base w vo w' (.slice A (n + more.length) c)

set_option maxRecDepth 100000 in
set_option maxHeartbeats 8000000 in
theorem list_n (base : Nat) (N : Nat) : ∀ (v : DcV) (t : Dc) (w : World) (ind n : Nat) (Ao : Option Addr) (co : Nat) (l : List Opr), DcR (fun b => b < base) w v t → t.Ok → t.size ≤ N → N ≤ 100000 → ind ≤ 20 * (100000 - t.size) →
    Own OpE 49 (fun _ => True) w base (.slice Ao n co) n l → n + t.size ≤ 100000 → base ≤ w.heap.size →
    Calls Tryd.prog 26 #[dcVal v, .int .i64 (ind : Int), .slice Ao n co] w (ListP base n l (t.ops ind n) w (.slice Ao n co)) := by
  induction N with
  | zero => intro v t w ind n Ao co l _ _ h; have := t.size_pos; omega
  | succ N ih =>
    intro v t w ind n Ao co l hT ho hN hM hind hown hnl hbase
    obtain ⟨a, s, b, A, m, c⟩ := v
    obtain ⟨h1, h2, h3, hS⟩ := hT.parts
    simp only at h1 h2 h3 hS
    subst h1 h2 h3
    simp only [dcVal]
    have hB := (Below.refl w.heap.size w).al (.cells #[.int .i64 (t.kind : Int), .string t.text, .int .i64 (t.ind : Int), .slice A m c] 29)
    have B0 := Blk.new w 29 #[.int .i64 (t.kind : Int), .string t.text, .int .i64 (t.ind : Int), .slice A m c]
    have HT := Lib.hid (hT.via hB)
    have HS := Lib.hid (hS.via hB)
    have HO := Lib.hid ho
    have HW := Lib.hid (hown.via hB)
    have HR := Lib.hid ((OutR.refl base w (.slice Ao n co)).via hbase hB)
    have hps := t.size_pos
    have hln : m < t.size := by rw [← hS.len]; exact t.args_len
    have hbs : base ≤ (w.alloc (.cells #[.int .i64 (t.kind : Int), .string t.text, .int .i64 (t.ind : Int), .slice A m c] 29)).heap.size := by simp; omega
    have hnb : Hid (some w.heap.size ≠ (Value.slice Ao n co).ownBlock) := Lib.hid (fun e => by have := (hown.lt _ e.symm).2; omega)
    have hki := ho.kind_le
    have hii := ho.ind_le
    clear hT hS hB ho hown
    go_enter Tryd.func26, Tryd.ntmps26
    go_upto_region 1 with fail
    generalize w.alloc (.cells #[.int .i64 (t.kind : Int), .string t.text, .int .i64 (t.ind : Int), .slice A m c] 29) = W at *
    have hcase : t.kind = 0 ∨ (1 ≤ t.kind ∧ t.kind ≤ 3) ∨ (t.kind = 4 ∨ t.kind = 5) ∨ t.kind = 6 := by omega
    rcases hcase with hk | hk | hk | hk
    · have hb0 : ((t.kind : Int) == 0) = true := by simp; omega
      have HK := Lib.hid hk
      clear hk
      have cB0 := B0.cell
      have fB0 := B0.frozen
      have lB0 := B0.lt
      have hB2 := (Below.refl W.heap.size W).al (.cells #[.string t.text, .int .i64 (-1), .bool false, .bool false, .int .i64 0] 49)
      have B2 := Blk.new W 49 #[.string t.text, .int .i64 (-1), .bool false, .bool false, .int .i64 0]
      have HW2 := Lib.hid (HW.out.via hB2)
      have HR2 := Lib.hid (HR.out.via hbs hB2)
      go_wp2_with (refine wpList_append_op _ rfl (.tmp 14) (.tmp 18) rfl (fun _ => True) base (.slice Ao n co) n l rfl HW2.out W.heap.size ⟨t.text, -1, false, false, 0⟩ rfl (fun j u hu => by rw [B2.cell]; simpa [opCells] using hu) (by omega) (by simp; omega) ?_; intro A1 c1 w1 ho1 hg1 hn1)
      have HF := Lib.hid (HR2.out.grown (by simp; omega) (fun k e => (HW2.out.lt k e).1) hg1 hn1)
      go_ret
      rw [Dc.ops_0 HK.out]
      exact ⟨A1, c1, rfl, ho1, HF.out⟩
    · have hb0 : ((t.kind : Int) == 0) = false := by simp; omega
      have HK := Lib.hid hk
      cases hb1 : ((t.kind : Int) == 1) <;> cases hb2 : ((t.kind : Int) == 2) <;> cases hb3 : ((t.kind : Int) == 3)
      all_goals (try (exfalso; simp at hb1 hb2 hb3; omega))
      all_goals
        clear hk
        have cB0 := B0.cell
        have fB0 := B0.frozen
        have lB0 := B0.lt
        have hB2 := (Below.refl W.heap.size W).al (.cells #[.string ⟨#[]⟩, .int .i64 (ind : Int), .bool false, .bool false, .int .i64 0] 49)
        have B2 := Blk.new W 49 #[.string ⟨#[]⟩, .int .i64 (ind : Int), .bool false, .bool false, .int .i64 0]
        have HW2 := Lib.hid (HW.out.via hB2)
        have HR2 := Lib.hid (HR.out.via hbs hB2)
        go_wp2_with (refine wpList_append_op _ rfl (.tmp 24) (.tmp 27) rfl (fun _ => True) base (.slice Ao n co) n l rfl HW2.out W.heap.size ⟨⟨#[]⟩, ind, false, false, 0⟩ rfl (fun j u hu => by rw [B2.cell]; simpa [opCells] using hu) (by omega) (by simp; omega) ?_; intro A1 c1 w1 ho1 hg1 hn1)
        have HF := Lib.hid (HR2.out.grown (by simp; omega) (fun k e => (HW2.out.lt k e).1) hg1 hn1)
        go_ret
        rw [Dc.ops_1 HK.out.1 HK.out.2]
        exact ⟨A1, c1, rfl, ho1, HF.out⟩
    · have hb0 : ((t.kind : Int) == 0) = false := by simp; omega
      have hb1 : ((t.kind : Int) == 1) = false := by simp; omega
      have hb2 : ((t.kind : Int) == 2) = false := by simp; omega
      have hb3 : ((t.kind : Int) == 3) = false := by simp; omega
      have hops : t.ops (ind) n = Dc.opsL (if t.kind = 5 then ind + t.ind else ind) t.args n := by
        rcases hk with hk | hk
        · rw [Dc.ops_4 hk, if_neg (by omega)]
        · rw [Dc.ops_5 hk, if_pos hk]
      obtain ⟨J, hJ⟩ : ∃ J, J = (if t.kind = 5 then ind + t.ind else ind) := ⟨_, rfl⟩
      rw [← hJ] at hops
      have hJl : J ≤ ind + 20 := by rw [hJ]; split <;> omega
      have hJt : J ≤ 20 * (100000 - t.size) + 20 := by omega
      have hJ5 : t.kind = 5 → J = ind + t.ind := fun h => by rw [hJ, if_pos h]
      have hJ4 : t.kind = 4 → J = ind := fun h => by rw [hJ, if_neg (by omega)]
      clear hJ
      have HOPS := Lib.hid hops
      clear hops
      have cB0 := B0.cell
      have fB0 := B0.frozen
      have lB0 := B0.lt
      have HK := Lib.hid hk
      cases hb5 : ((t.kind : Int) == 5)
      case' false =>
        have hb6 : ((t.kind : Int) == 6) = false := by simp; omega
        obtain rfl : J = ind := hJ4 (by simp at hb5; omega)
        clear hk hJ5 hJ4
        go_upto_region 16 with fail
      case' true =>
        have hb6 : ((t.kind : Int) == 6) = false := by simp; omega
        have hJ6 := Lib.hid (hJ5 (by simp at hb5; omega))
        have hJw : IntKind.i64.wrap ((ind : Int) + (t.ind : Int)) = (J : Int) := by
          have := hJ6.out
          exact (IntWalk.i64_in _ (by omega)).trans (by omega)
        clear hk hJ5 hJ4
        go_upto_region 16 with fail
        clear hJw
      all_goals
        clear hJl hind B0
        go_wp2_with fail
        clear cB0 fB0 lB0
        go_loopw [66, 2] (fun i o wr => ∃ (k : Nat) (Ak : Option Addr) (q ck : Nat), i = .int .i64 k ∧ k ≤ m ∧ o = .slice Ak q ck ∧ Hid (q = n + (Dc.opsL J (t.args.take k) n).length) ∧ Own OpE 49 (fun _ => True) wr base (.slice Ak q ck) q (l ++ Dc.opsL J (t.args.take k) n) ∧ OutR base W (.slice Ao n co) wr (.slice Ak q ck) ∧ base ≤ wr.heap.size) (fun i _ _ => m - (intOf i).toNat)
        case atStart => exact ⟨0, Ao, n, co, rfl, Nat.zero_le _, rfl, Lib.hid (by simp [Dc.opsL]), by simpa [Dc.opsL] using HW.out, OutR.refl _ _ _, hbs⟩
        case round =>
          obtain ⟨k, Ak, q, ck, rfl, hk, rfl, HQ, hown, hout, hbw⟩ := hrel
          have HWR := Lib.hid hown
          have HOU := Lib.hid hout
          by_cases hlt : k < m
          · obtain ⟨b1, o1, ⟨xk, xs, xi, xA, xn, xc⟩, y, rfl, -, hb1, hy, hxy, hc⟩ := (HS.out.agr (Agr.lo hout.bel)).at_ hlt
            have hxy' : DcR (fun b => b < base) wr (xk, xs, xi, xA, xn, xc) y := hxy
            have c0 := hc 0 _ rfl
            have c1 := hc 1 _ rfl
            have c2 := hc 2 _ rfl
            have c3 := hc 3 _ rfl
            simp only [DcE, Nat.add_zero] at c0 c1 c2 c3
            have i0 : (0 : Int) ≤ (k : Int) := by omega
            have i1 : (k : Int) < (m : Int) := by omega
            have hBx := (Below.refl wr.heap.size wr).al (.cells #[.int .i64 (xk : Int), .string xs, .int .i64 (xi : Int), .slice xA xn xc] 29)
            have HX := Lib.hid (hxy'.via hBx)
            have HWR2 := Lib.hid (hown.via hBx)
            have HOU2 := Lib.hid (hout.via hbw hBx)
            have hym := List.mem_of_getElem? hy
            have hsz := Dc.size_arg hym
            have hsy := Dc.size_pos y
            have HOY := Lib.hid (HO.out.arg y hym)
            have hs1 := Dc.opsL_len J (t.args.take k) n
            have hs2 := Dc.sizes_take hy
            have hs4 := Dc.sizes_take_le t.args (k + 1)
            have hs3 := t.size_eq
            have HF := Lib.hid (Dc.opsL_take hy J n)
            have hq := HQ.out
            have hqn : q + y.size ≤ 100000 := by omega
            have hbx : base ≤ (wr.alloc (.cells #[.int .i64 (xk : Int), .string xs, .int .i64 (xi : Int), .slice xA xn xc] 29)).heap.size := by simp; omega
            rw [← hq] at HF
            clear hq
            clear hc hxy hxy' hy hb1 hBx hym hs1 hs2 hs3 hs4 hown hout HWR HOU
            go_wp2_with fail
            clear c0 c1 c2 c3
            refine (ih (xk, xs, xi, xA, xn, xc) y _ J q Ak ck _ HX.out HOY.out (by omega) (by omega) (by omega) HWR2.out hqn hbx).mono ?_
            rintro e w3 ⟨A3, c3, rfl, ho3, hr3⟩
            have HO3 := Lib.hid ho3
            have HR3 := Lib.hid (HOU2.out.trans hr3)
            have hb3 : base ≤ w3.heap.size := Nat.le_trans hbx hr3.bel.size
            have HL := Lib.hid (show q + (y.ops J q).length = n + (Dc.opsL J (t.args.take (k + 1)) n).length by rw [HF.out, List.length_append]; have := HQ.out; omega)
            clear ho3 hr3
            generalize q + (y.ops J q).length = q2 at *
            go_wp2_with fail
            exact ⟨⟨k + 1, A3, q2, c3, by go_num, by omega, rfl, HL, by rw [HF.out, ← List.append_assoc]; exact HO3.out, HR3.out, hb3⟩, by simp [intOf]; omega⟩
          · have HFR := Lib.hid (HR.out.trans hout)
            have HKM := Lib.hid (show k = m by omega)
            clear hown hout HOU
            go_wp2_with fail
            go_ret
            have e1 : t.args.take k = t.args := List.take_of_length_le (by have := HS.out.len; have := HKM.out; omega)
            have h1 := HWR.out
            have h2 := HQ.out
            rw [e1] at h1 h2
            rw [h2] at h1
            have h3 := HFR.out
            rw [h2] at h3
            rw [h2, HOPS.out]
            exact ⟨Ak, ck, rfl, h1, h3⟩
    · have hb0 : ((t.kind : Int) == 0) = false := by simp; omega
      have hb1 : ((t.kind : Int) == 1) = false := by simp; omega
      have hb2 : ((t.kind : Int) == 2) = false := by simp; omega
      have hb3 : ((t.kind : Int) == 3) = false := by simp; omega
      have hb5 : ((t.kind : Int) == 5) = false := by simp; omega
      have hb6 : ((t.kind : Int) == 6) = true := by simp; omega
      have HK := Lib.hid hk
      clear hk
      have cB0 := B0.cell
      have fB0 := B0.frozen
      have lB0 := B0.lt
      go_upto_region 12 with fail
      have T1 := Lib.hid (show ∀ w', Below W.heap.size W w' → DcR (fun b => b < base) w' (t.kind, t.text, t.ind, A, m, c) t from fun w' hb => HT.out.via hb)
      have SOF := Lib.hid (show ∀ w', Below W.heap.size W w' → ((∀ i, w'.cell? ⟨w.heap.size, i, none⟩ = #[.int .i64 (t.kind : Int), .string t.text, .int .i64 (t.ind : Int), .slice A m c][i]?) ∧ Below W.heap.size W w') from fun w' hb => ⟨(B0.via hb).cell, hb⟩)
      have hA := ((Below.refl W.heap.size W).al (.cells #[.int .i64 3] 3)).dr
      have I1 := (Ints.one W 3 3).dr
      have HB0 := Lib.hid B0
      clear B0
      have hs1 : t.size ≤ 1000000 := by omega
      go_cut [2] (fun s2 wx => ∃ A1 c1, s2 = .slice A1 (n + 1) c1 ∧ GCut base n w.heap.size l ⟨t.flat, 0, true, !hasB [3] t, 0⟩ #[.int .i64 (t.kind : Int), .string t.text, .int .i64 (t.ind : Int), .slice A m c] W (.slice Ao n co) (.slice A1 (n + 1) c1) wx)
      case first =>
        go_region_law (first
          | (go_simp; go_at_call 44; (with_reducible refine (dhas_a _ t.kind t.text t.ind A m c t (some ⟨W.heap.size, 0, none⟩) 1 1 [3] _ (T1.out _ hA) I1 (by omega) hs1).mono ?_); rintro ee wn ⟨rfl, hbn⟩; have hbm : Below W.heap.size W wn := Below.via hA hbn; obtain ⟨cP, -⟩ := SOF.out _ hbm)
          | (go_simp; go_at_call 45; (with_reducible refine (flat_a _ t.kind t.text t.ind A m c t _ (T1.out _ hbm) HO.out hs1).mono ?_); rintro ee wk ⟨rfl, hbk⟩; have hbz : Below W.heap.size W wk := Below.via hbm hbk; obtain ⟨cQ, -⟩ := SOF.out _ hbz)
          | (have hbv := hbz.al (.cells #[.string t.flat, .int .i64 0, .bool true, .bool (!hasB [3] t), .int .i64 0] 49)
             have HW2 := HW.out.via hbv
             have B2 := Blk.new wk 49 #[.string t.flat, .int .i64 0, .bool true, .bool (!hasB [3] t), .int .i64 0]
             have hsv := Nat.le_trans hbs hbv.size
             refine step_append_op _ rfl (.tmp 39) (.tmp 47) rfl (fun _ => True) base (.slice Ao n co) n l rfl HW2 wk.heap.size ⟨t.flat, 0, true, !hasB [3] t, 0⟩ rfl (fun j u hu => by rw [B2.cell]; simpa [opCells] using hu) (by omega) hsv ?_
             intro A1 c1 w1 ho1 hg1 hn1))
        all_goals
          have HG : GCut base n w.heap.size l ⟨t.flat, 0, true, !hasB [3] t, 0⟩ #[.int .i64 (t.kind : Int), .string t.text, .int .i64 (t.ind : Int), .slice A m c] W (.slice Ao n co) (.slice A1 (n + 1) c1) w1 :=
            ⟨ho1, ((OutR.refl base W (.slice Ao n co)).via hbs hbv).grown hsv (fun k e => (HW.out.lt k e).1) hg1 hn1, (HB0.out.via hbv).grown hg1 hnb.out⟩
          have HGG := Lib.hid HG
          clear HG ho1 hg1 hn1 hsv B2 HW2
          go_wp2_with fail
          go_meet
          exact ⟨A1, c1, rfl, HGG.out⟩
      case rest =>
        obtain ⟨A1, c1, rfl, hcut⟩ := hcut
        have R1 := Lib.hid hcut.out
        have B1 := hcut.blk
        have HO1 := Lib.hid hcut.own
        have hsz1 : base ≤ wc.heap.size := Nat.le_trans hbs R1.out.bel.size
        clear hcut cB0 fB0 lB0 hA I1 T1 SOF HB0 hs1
        obtain ⟨x, hx⟩ := HO.out.arg_one (Or.inr HK.out)
        obtain rfl : m = 1 := by have := HS.out.len; rw [hx] at this; simpa using this.symm
        obtain ⟨b1, o1, ⟨xk, xs, xi, xA, xn, xc⟩, y, rfl, -, hb1, hy, hxy, hc⟩ := (HS.out.agr (Agr.lo R1.out.bel)).at_ (i := 0) (by omega)
        obtain rfl : x = y := by rw [hx] at hy; simpa using hy
        have hxy' : DcR (fun b => b < base) wc (xk, xs, xi, xA, xn, xc) x := hxy
        have c0 := hc 0 _ rfl
        have c1' := hc 1 _ rfl
        have c2' := hc 2 _ rfl
        have c3' := hc 3 _ rfl
        simp only [DcE, Nat.add_zero, Nat.zero_mul] at c0 c1' c2' c3'
        have hxm : x ∈ t.args := by rw [hx]; exact List.mem_cons_self ..
        have hsz := Dc.size_arg hxm
        have HOX := Lib.hid (HO.out.arg x hxm)
        have HX := Lib.hid hxy'
        have HXX := Lib.hid hx
        clear hxy hxy' hc hy hb1 hxm hx
        have cB1 := B1.cell
        have fB1 := B1.frozen
        have lB1 := B1.lt
        go_wp2_with fail
        clear c0 c1' c2' c3'
        clear cB1 fB1 lB1
        refine (ih (xk, xs, xi, xA, xn, xc) x _ ind (n + 1) A1 c1 _ HX.out HOX.out (by omega) (by omega) (by omega) HO1.out (by omega) hsz1).mono ?_
        rintro e w3 ⟨A3, c3, rfl, ho3, hr3⟩
        obtain ⟨g, cur, rfl, hcur, hbg, hcs⟩ := ho3.blk (by omega)
        have HR3 := Lib.hid (R1.out.trans hr3)
        have HO3 := Lib.hid ho3
        have hqq : Hid ((x.ops ind (n + 1)).length ≤ x.size) := Lib.hid (Dc.ops_len _ _ _)
        obtain ⟨q, hq⟩ : ∃ q, q = n + 1 + (x.ops ind (n + 1)).length := ⟨_, rfl⟩
        rw [← hq] at HO3 HR3 hcs
        rw [← hq]
        have hq1 : n < q := by omega
        have hq2 : q ≤ 100000 := by have := hqq.out; omega
        have hcs' : n * 5 + 4 < cur.size := by simp only [OpE] at hcs; omega
        have ccur : w3.cell? ⟨g, n * 5 + 4, none⟩ = some (cur[n * 5 + 4]'hcs') := by rw [hcur.cell, Array.getElem?_eq_getElem hcs']
        have fcur := hcur.frozen
        have lcur := hcur.lt
        have HQ := Lib.hid hq
        have n0 : (0 : Int) ≤ (n : Int) := by omega
        have n1 : (n : Int) < (q : Int) := by omega
        clear hq ho3 hr3 hcs
        go_wp2_with fail
        have HL := Lib.hid HW.out.len
        go_ret
        have hops : t.ops ind n = ⟨t.flat, 0, true, !hasB [3] t, q⟩ :: x.ops ind (n + 1) := by
          rw [Dc.ops_6 HK.out, HXX.out]
          have e : Dc.opsL ind [x] (n + 1) = x.ops ind (n + 1) := by simp [Dc.opsL]
          rw [e, HQ.out]
        have hlen : n + (t.ops ind n).length = q := by rw [hops, List.length_cons, HQ.out]; omega
        have hset := HO3.out.setEnd (k := n) (x := ⟨t.flat, 0, true, !hasB [3] t, 0⟩) (by rw [List.append_assoc, List.getElem?_append_right (by rw [HL.out]; exact Nat.le_refl _), HL.out]; simp) q
        have hl2 : (l ++ [(⟨t.flat, 0, true, !hasB [3] t, 0⟩ : Opr)] ++ x.ops ind (n + 1)).set n ⟨t.flat, 0, true, !hasB [3] t, q⟩ = l ++ t.ops ind n := by
          rw [hops, List.append_assoc, List.set_append_right _ _ (by rw [HL.out]; exact Nat.le_refl _), HL.out]; simp
        rw [hl2] at hset
        refine ⟨some ⟨g, 0, none⟩, c3, ?_, ?_, ?_⟩
        · rw [hlen]; rfl
        · rw [hlen]; exact hset
        · rw [hlen]; exact HR.out.trans (HR3.out.setCell _ rfl hbg)
end Go.Proofs.YtbhenicldddlfaaDoor

