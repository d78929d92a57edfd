/- Texts KN, IG, KO, KP, laid together. -/
import Derived.Test.YtfmnmgnhanogmaaDoorQ1
import Derived.Maps.RangeWalk
import Derived.Laws.StructEq


namespace Go.Proofs.YtfmnmgnhanogmaaDoor
open Go.RowKit

/-- the blocks that meet 'ok' are as they were -/
def Agr (ok : Nat → Prop) (w w' : World) : Prop := ∀ b, ok b → b < w.heap.size → w'.heap[b]? = w.heap[b]?
section
variable {ok ok' : Nat → Prop} {w w' w'' : World}
theorem Agr.refl : Agr ok w w := fun _ _ _ => rfl
theorem Agr.trans (h : Agr ok w w') (k : Agr ok w' w'') : Agr ok w w'' := fun b hb hlt => by
  have h1 := h b hb hlt
  have : b < w'.heap.size := by
    have h2 : w.heap[b]? = some w.heap[b] := Array.getElem?_eq_getElem hlt
    rw [h2] at h1
    exact (Array.getElem?_eq_some_iff.1 h1).1
  rw [k b hb this, h1]
theorem Agr.mono (h : Agr ok w w') (hm : ∀ b, ok' b → ok b) : Agr ok' w w' := fun b hb hlt => h b (hm b hb) hlt
theorem Agr.below (h : Below w.heap.size w w') : Agr ok w w' := fun b _ hlt => h.block b hlt
theorem Agr.grown {row : Option Nat} (h : w.grownBy w' row) (hr : ∀ b, ok b → some b ≠ row) : Agr ok w w' := fun b hb hlt => h.block b hlt (hr b hb)
theorem Agr.setCell {p : Addr} (u : Value) (hr : ∀ b, ok b → b ≠ p.block) : Agr ok w (w.setCell p u) := fun b hb _ => Below.heap_setCell w p u b (hr b hb)
theorem Agr.cell (h : Agr ok w w') {b i : Nat} (hb : ok b) {v : Value} (hc : w.cell? ⟨b, i, none⟩ = some v) : w'.cell? ⟨b, i, none⟩ = some v :=
  (World.cell?_of_block (w := w) (a := ⟨b, i, none⟩) (h b hb (World.block_lt_of_cell? w _ hc))).trans hc
end

/-- the cells cs lie at A, in a block that meets 'ok' -/
def Cel (ok : Nat → Prop) (w : World) (A : Option Addr) (cs : List Value) : Prop :=
  cs ≠ [] → ∃ b off, A = some ⟨b, off, none⟩ ∧ ok b ∧ ∀ j u, cs[j]? = some u → w.cell? ⟨b, off + j, none⟩ = some u
section
variable {ok ok' : Nat → Prop} {w w' : World} {A : Option Addr} {cs : List Value}
theorem Cel.agr (h : Cel ok w A cs) (k : Agr ok w w') : Cel ok w' A cs := fun hn => by
  obtain ⟨b, off, e, hb, hc⟩ := h hn
  exact ⟨b, off, e, hb, fun j u hu => k.cell hb (hc j u hu)⟩
theorem Cel.mono (h : Cel ok w A cs) (hm : ∀ b, b < w.heap.size → ok b → ok' b) : Cel ok' w A cs := fun hn => by
  obtain ⟨b, off, e, hb, hc⟩ := h hn
  refine ⟨b, off, e, hm b ?_ hb, hc⟩
  cases cs with
  | nil => exact absurd rfl hn
  | cons u r => exact World.block_lt_of_cell? w _ (hc 0 u rfl)
theorem Cel.nil : Cel ok w A [] := fun h => absurd rfl h
end

/-- a kind of elements: 'ρ' what the cells hold, 'α' what it stands for -/
structure Elem (α ρ : Type) where
  k : Nat
  cells : ρ → List Value
  rel : (Nat → Prop) → World → ρ → α → Prop
  pos : 0 < k
  len : ∀ r, (cells r).length = k
  one : ∀ r, ∀ u ∈ cells r, u.oneCell' = true
  agr : ∀ {ok w w' r x}, rel ok w r x → Agr ok w w' → rel ok w' r x
  mono : ∀ {ok ok' : Nat → Prop} {w r x}, rel ok w r x → (∀ b, b < w.heap.size → ok b → ok' b) → rel ok' w r x

section
variable {α ρ : Type} (E : Elem α ρ)
def flat (raw : List ρ) : List Value := raw.flatMap E.cells
variable {E}
theorem flat_len (raw : List ρ) : (flat E raw).length = raw.length * E.k := by
  induction raw with
  | nil => simp [flat]
  | cons r raw ih => simp only [flat, List.flatMap_cons, List.length_append, E.len, List.length_cons] at *; rw [ih, Nat.add_mul]; omega
theorem flat_at (raw : List ρ) : ∀ i r j u, raw[i]? = some r → (E.cells r)[j]? = some u → (flat E raw)[i * E.k + j]? = some u := by
  induction raw with
  | nil => intro i r j u h; simp at h
  | cons a raw ih =>
    intro i r j u h hu
    have hj : j < E.k := by rw [← E.len r]; exact (List.getElem?_eq_some_iff.1 hu).1
    cases i with
    | zero =>
      simp at h; subst h
      simp only [flat, List.flatMap_cons, Nat.zero_mul, Nat.zero_add]
      rw [List.getElem?_append_left (by rw [E.len]; exact hj)]; exact hu
    | succ i =>
      simp at h
      have := ih i r j u h hu
      simp only [flat, List.flatMap_cons] at *
      rw [List.getElem?_append_right (by rw [E.len, Nat.add_mul]; omega), E.len, Nat.add_mul]
      rw [show i * E.k + 1 * E.k + j - E.k = i * E.k + j from by omega]
      exact this
theorem flat_snoc (raw : List ρ) (r : ρ) : flat E (raw ++ [r]) = flat E raw ++ E.cells r := by simp [flat]
end

/-- the slice value '.slice A n c' reads as l -/
def Sl {α ρ : Type} (E : Elem α ρ) (ok : Nat → Prop) (w : World) (A : Option Addr) (n c : Nat) (l : List α) : Prop :=
  l.length = n ∧ n ≤ c ∧ ∃ raw : List ρ, raw.length = n ∧ Cel ok w A (flat E raw) ∧ ∀ (i : Nat) (r : ρ) (x : α), raw[i]? = some r → l[i]? = some x → E.rel ok w r x

section
variable {α ρ : Type} {E : Elem α ρ} {ok ok' : Nat → Prop} {w w' : World} {A : Option Addr} {n c : Nat} {l : List α}
theorem Sl.len (h : Sl E ok w A n c l) : l.length = n := h.1
theorem Sl.le (h : Sl E ok w A n c l) : n ≤ c := h.2.1
theorem Sl.agr (h : Sl E ok w A n c l) (k : Agr ok w w') : Sl E ok w' A n c l := by
  obtain ⟨h1, h2, raw, h3, h4, h5⟩ := h
  exact ⟨h1, h2, raw, h3, h4.agr k, fun i r x hr hx => E.agr (h5 i r x hr hx) k⟩
theorem Sl.mono (h : Sl E ok w A n c l) (hm : ∀ b, b < w.heap.size → ok b → ok' b) : Sl E ok' w A n c l := by
  obtain ⟨h1, h2, raw, h3, h4, h5⟩ := h
  exact ⟨h1, h2, raw, h3, h4.mono hm, fun i r x hr hx => E.mono (h5 i r x hr hx) hm⟩
theorem Sl.via (h : Sl E ok w A n c l) (hb : Below w.heap.size w w') : Sl E ok w' A n c l := h.agr (Agr.below hb)
theorem Sl.al (h : Sl E ok w A n c l) (o : Obj) : Sl E ok (w.alloc o) A n c l := h.agr (Agr.below ((Below.refl w.heap.size w).alloc (Nat.le_refl _) o))
theorem Sl.dr (h : Sl E ok w A n c l) : Sl E ok w.drew A n c l := h.agr (Agr.below ((Below.refl w.heap.size w).drew))
theorem Sl.nil (c : Nat) : Sl E ok w none 0 c [] := ⟨rfl, Nat.zero_le _, [], rfl, Cel.nil, fun i r x h => by simp at h⟩
theorem Sl.at_ (h : Sl E ok w A n c l) {i : Nat} (hi : i < n) : ∃ b off r x, A = some ⟨b, off, none⟩ ∧ ok b ∧ b < w.heap.size ∧ l[i]? = some x ∧ E.rel ok w r x ∧ ∀ j u, (E.cells r)[j]? = some u → w.cell? ⟨b, off + i * E.k + j, none⟩ = some u := by
  obtain ⟨h1, h2, raw, h3, h4, h5⟩ := h
  have hr : raw[i]? = some raw[i] := List.getElem?_eq_getElem (by omega)
  have hx : l[i]? = some l[i] := List.getElem?_eq_getElem (by omega)
  have hne : flat E raw ≠ [] := fun e => by
    have := flat_len (E := E) raw
    rw [e, h3] at this
    have hp := Nat.mul_pos (show 0 < n by omega) E.pos
    simp at this; omega
  obtain ⟨b, off, e, hb, hc⟩ := h4 hne
  have hcell : ∀ j u, (E.cells raw[i])[j]? = some u → w.cell? ⟨b, off + i * E.k + j, none⟩ = some u := fun j u hu => by
    have := hc _ u (flat_at raw i raw[i] j u hr hu)
    rwa [← Nat.add_assoc] at this
  have hp0 : 0 < (E.cells raw[i]).length := by rw [E.len]; exact E.pos
  have h0 : (E.cells raw[i])[0]? = some (E.cells raw[i])[0] := List.getElem?_eq_getElem hp0
  exact ⟨b, off, raw[i], l[i], e, hb, World.block_lt_of_cell? w _ (hcell 0 _ h0), hx, h5 i _ _ hr hx, hcell⟩
end

/-- the call's own row of such elements; what they lead to lies elsewhere -/
def Own {α ρ : Type} (E : Elem α ρ) (e : TypeId) (ok : Nat → Prop) (w : World) (base : Nat) (v : Value) (n : Nat) (l : List α) : Prop :=
  l.length = n ∧ ∃ raw : List ρ, raw.length = n ∧ w.ownsRow base e E.k v n (flat E raw) ∧ ∀ (i : Nat) (r : ρ) (x : α), raw[i]? = some r → l[i]? = some x → E.rel (fun b => ok b ∧ some b ≠ v.ownBlock) w r x

section
variable {α ρ : Type} {E : Elem α ρ} {e : TypeId} {ok ok' : Nat → Prop} {w w' : World} {base n : Nat} {v : Value} {l : List α}
theorem Own.nil (w : World) (base : Nat) : Own E e ok w base (.slice none 0 0) 0 [] := ⟨rfl, [], rfl, World.ownsRow_nil w base e E.k, fun i r x h => by simp at h⟩
theorem Own.agr (h : Own E e ok w base v n l) (k : Agr (fun b => ok b ∨ some b = v.ownBlock) w w') : Own E e ok w' base v n l := by
  obtain ⟨h1, raw, h3, h4, h5⟩ := h
  refine ⟨h1, raw, h3, ⟨h4.1, ?_⟩, fun i r x hr hx => E.agr (h5 i r x hr hx) (k.mono fun b hb => Or.inl hb.1)⟩
  rcases h4.2 with h0 | ⟨g, cap, cur, rfl, hb, hh, hr⟩
  · exact Or.inl h0
  · refine Or.inr ⟨g, cap, cur, rfl, hb, ?_, hr⟩
    rw [k g (Or.inr rfl) (Array.getElem?_eq_some_iff.1 hh).1]
    exact hh
theorem Own.mono (h : Own E e ok w base v n l) (hm : ∀ b, b < w.heap.size → ok b → ok' b) : Own E e ok' w base v n l := by
  obtain ⟨h1, raw, h3, h4, h5⟩ := h
  exact ⟨h1, raw, h3, h4, fun i r x hr hx => E.mono (h5 i r x hr hx) fun b hb hk => ⟨hm b hb hk.1, hk.2⟩⟩
theorem Own.via (h : Own E e ok w base v n l) (hb : Below w.heap.size w w') : Own E e ok w' base v n l := h.agr (Agr.below hb)
theorem Own.al (h : Own E e ok w base v n l) (o : Obj) : Own E e ok (w.alloc o) base v n l := h.agr (Agr.below ((Below.refl w.heap.size w).alloc (Nat.le_refl _) o))
theorem Own.dr (h : Own E e ok w base v n l) : Own E e ok w.drew base v n l := h.agr (Agr.below ((Below.refl w.heap.size w).drew))
theorem Own.lt (h : Own E e ok w base v n l) : ∀ k, v.ownBlock = some k → base ≤ k ∧ k < w.heap.size := by
  obtain ⟨_, raw, _, h4, _⟩ := h
  exact h4.lt
theorem Own.len (h : Own E e ok w base v n l) : l.length = n := h.1
theorem Own.form (h : Own E e ok w base v n l) : ∃ A c, v = .slice A n c ∧ n ≤ c := by
  obtain ⟨_, raw, _, h4, _⟩ := h
  rcases h4.2 with ⟨rfl, rfl⟩ | ⟨g, cap, cur, rfl, _, _, hc, _⟩
  · exact ⟨none, 0, rfl, Nat.le_refl _⟩
  · exact ⟨_, _, rfl, hc⟩
theorem Own.toSl {A : Option Addr} {n' c : Nat} (h : Own E e ok w base (.slice A n' c) n l) (hm : ∀ b, b < w.heap.size → ok b → ok' b) (hb : ∀ b, base ≤ b → ok' b) : Sl E ok' w A n c l := by
  obtain ⟨A', c', e', hc⟩ := h.form
  obtain ⟨h1, raw, h3, h4, h5⟩ := h
  cases e'
  refine ⟨h1, hc, raw, h3, fun hne => ?_, fun i r x hr hx => E.mono (h5 i r x hr hx) fun b hb hk => hm b hb hk.1⟩
  rcases h4.2 with ⟨h0, hn⟩ | ⟨g, cap, cur, hv, hbg, hh, hr⟩
  · have : raw = [] := List.eq_nil_of_length_eq_zero (by omega)
    subst this; exact absurd rfl hne
  · cases hv
    refine ⟨g, 0, rfl, hb g hbg, fun j u hu => ?_⟩
    have := h4.cells (g := g) rfl j u hu
    rwa [Addr.add_lit] at this
theorem Own.setCell (h : Own E e ok w base v n l) {p : Addr} (u : Value) (h1 : ∀ b, ok b → b ≠ p.block) (h2 : p.block < base) : Own E e ok (w.setCell p u) base v n l := by
  refine h.agr (Agr.setCell u fun b hb => ?_)
  rcases hb with hb | hb
  · exact h1 b hb
  · have := (h.lt b hb.symm).1; omega
end

/-! ### append of one element onto an own row -/
section
variable {α ρ : Type} {E : Elem α ρ}
theorem run_append_E (w : World) (t ty e : TypeId) (i : TypeInfo) (z : Value) (bytes : Nat) (ht : Tryd.prog.underlying t = some (.slice e)) (hi : Tryd.prog.info? e = some i) (hz : i.zero = some z) (hs : i.size = E.k) (hby : i.bytes = bytes) (hzs : z.cells.size = E.k)
    (ok : Nat → Prop) (base : Nat) (v : Value) (n : Nat) (l : List α) (hown : Own E e ok w base v n l)
    (b : Nat) (r : ρ) (x : α) (hcell : ∀ j u, (E.cells r)[j]? = some u → w.cell? ⟨b, j, none⟩ = some u) (hrel : E.rel (fun b => ok b ∧ some b ≠ v.ownBlock) w r x)
    (h63 : n + 1 ≤ maxLen) (hbytes : (n + 1) * bytes ≤ 140737488355328) (hbase : base ≤ w.heap.size) :
    ∃ A' c' w', (Builtin.append_ #[t, t] ty #[v, .slice (some ⟨b, 0, none⟩) 1 1]).run Tryd.prog w = .ok (.slice A' (n + 1) c') w' ∧ Own E e ok w' base (.slice A' (n + 1) c') (n + 1) (l ++ [x]) ∧ w.grownBy w' v.ownBlock ∧
      ((Value.slice A' (n + 1) c').ownBlock = v.ownBlock ∨ (Value.slice A' (n + 1) c').ownBlock = some w.heap.size) := by
  obtain ⟨h1, raw, h3, h4, h5⟩ := hown
  obtain ⟨v', w', hrun, h6, h7, _, h8⟩ := run_append_own_at (P := Tryd.prog) w base t ty e i z E.k bytes ht hi hz hs hby hzs E.pos v n _ h4 ⟨b, 0, none⟩ 1 1 (E.cells r) (by rw [E.len, Nat.one_mul]) (fun j u hu => by rw [Addr.add_lit, Nat.zero_add]; exact hcell j u hu) (E.one r) h63 hbytes hbase
  have hown' : Own E e ok w' base v' (n + 1) (l ++ [x]) := by
    refine ⟨by simp [h1], raw ++ [r], by simp [h3], by rw [flat_snoc]; exact h6, fun i r' x' hr' hx' => ?_⟩
    have key : E.rel (fun b => ok b ∧ some b ≠ v.ownBlock) w r' x' := by
      rcases Nat.lt_or_ge i n with hi' | hi'
      · rw [List.getElem?_append_left (by omega)] at hr' hx'
        exact h5 i r' x' hr' hx'
      · rw [List.getElem?_append_right (by omega)] at hr' hx'
        have e1 : i - raw.length = 0 := by
          have := (List.getElem?_eq_some_iff.1 hr').1
          simp at this; omega
        have e2 : i - l.length = 0 := by omega
        rw [e1] at hr'; rw [e2] at hx'
        simp at hr' hx'
        subst hr'; subst hx'
        exact hrel
    have k1 := E.mono (ok' := fun b => (ok b ∧ some b ≠ v.ownBlock) ∧ b < w.heap.size) key fun b hb hk => ⟨hk, hb⟩
    refine E.mono (E.agr k1 (Agr.grown h7 fun b hb => hb.1.2)) fun b _ hk => ⟨hk.1.1, ?_⟩
    rcases h8 with e8 | e8
    · rw [e8]; exact hk.1.2
    · rw [e8]; intro e9; cases e9; exact absurd hk.2 (Nat.lt_irrefl _)
  obtain ⟨A', c', rfl, _⟩ := hown'.form
  exact ⟨A', c', w', hrun, hown', h7, h8⟩

theorem wp_append_E {o : Oper} {a : Act} {K : Act → World → Prop} {Q : Exit → Act → World → Prop} (w : World) (s y : Operand) (t e : TypeId)
    (ho : o.op = .call { callee := .builtin .append, args := #[s, y], argTypes := #[t, t] }) (i : TypeInfo) (z : Value) (bytes : Nat) (ht : Tryd.prog.underlying t = some (.slice e)) (hi : Tryd.prog.info? e = some i) (hz : i.zero = some z) (hs : i.size = E.k) (hby : i.bytes = bytes) (hzs : z.cells.size = E.k)
    (ok : Nat → Prop) (base : Nat) (v : Value) (n : Nat) (l : List α) (hv : a.eval s = v) (hown : Own E e ok w base v n l)
    (b : Nat) (r : ρ) (x : α) (hy : a.eval y = .slice (some ⟨b, 0, none⟩) 1 1) (hcell : ∀ j u, (E.cells r)[j]? = some u → w.cell? ⟨b, j, none⟩ = some u) (hrel : E.rel (fun b => ok b ∧ some b ≠ v.ownBlock) w r x)
    (h63 : n + 1 ≤ maxLen) (hbytes : (n + 1) * bytes ≤ 140737488355328) (hbase : base ≤ w.heap.size)
    (h : ∀ A' c' w', Own E e ok w' base (.slice A' (n + 1) c') (n + 1) (l ++ [x]) → w.grownBy w' v.ownBlock → ((Value.slice A' (n + 1) c').ownBlock = v.ownBlock ∨ (Value.slice A' (n + 1) c').ownBlock = some w.heap.size) → K (a.put o.dst (.slice A' (n + 1) c')) w') : o.wp Tryd.prog a w K Q := by
  obtain ⟨A', c', w', hrun, h2, h3, h4⟩ := run_append_E w t o.type e i z bytes ht hi hz hs hby hzs ok base v n l hown b r x hcell hrel h63 hbytes hbase
  unfold Oper.wp execOp
  simp only [ho, resolve, invoke, builtin, Sem.run_bind, Sem.run_pure, Result.andThen_ok, List.map_toArray, List.map_cons, List.map_nil, hv, hy, hrun]
  exact h A' c' w' h2 h3 h4

theorem wpList_append_E {ops : Array Oper} {rest : List Oper} {o : Oper} {a : Act} {Q : Exit → Act → World → Prop} (w : World) (hgd : o.guard = none) (s y : Operand) (t e : TypeId)
    (ho : o.op = .call { callee := .builtin .append, args := #[s, y], argTypes := #[t, t] }) (i : TypeInfo) (z : Value) (bytes : Nat) (ht : Tryd.prog.underlying t = some (.slice e)) (hi : Tryd.prog.info? e = some i) (hz : i.zero = some z) (hs : i.size = E.k) (hby : i.bytes = bytes) (hzs : z.cells.size = E.k)
    (ok : Nat → Prop) (base : Nat) (v : Value) (n : Nat) (l : List α) (hv : a.eval s = v) (hown : Own E e ok w base v n l)
    (b : Nat) (r : ρ) (x : α) (hy : a.eval y = .slice (some ⟨b, 0, none⟩) 1 1) (hcell : ∀ j u, (E.cells r)[j]? = some u → w.cell? ⟨b, j, none⟩ = some u) (hrel : E.rel (fun b => ok b ∧ some b ≠ v.ownBlock) w r x)
    (h63 : n + 1 ≤ maxLen) (hbytes : (n + 1) * bytes ≤ 140737488355328) (hbase : base ≤ w.heap.size)
    (h : ∀ A' c' w', Own E e ok w' base (.slice A' (n + 1) c') (n + 1) (l ++ [x]) → w.grownBy w' v.ownBlock → ((Value.slice A' (n + 1) c').ownBlock = v.ownBlock ∨ (Value.slice A' (n + 1) c').ownBlock = some w.heap.size) → wpList Tryd.prog ops Q rest (a.put o.dst (.slice A' (n + 1) c')) w') : wpList Tryd.prog ops Q (o :: rest) a w :=
  wpList_plain hgd fun _ hK => wp_append_E w s y t e ho i z bytes ht hi hz hs hby hzs ok base v n l hv hown b r x hy hcell hrel h63 hbytes hbase fun A' c' w' h2 h3 h4 => hK _ _ (h A' c' w' h2 h3 h4)

theorem step_append_E {ops : Array Oper} {o : Oper} {a : Act} {K : Act → World → Prop} {Q : Exit → Act → World → Prop} {F : Prop} (w : World) (hgd : o.guard = none) (s y : Operand) (t e : TypeId)
    (ho : o.op = .call { callee := .builtin .append, args := #[s, y], argTypes := #[t, t] }) (i : TypeInfo) (z : Value) (bytes : Nat) (ht : Tryd.prog.underlying t = some (.slice e)) (hi : Tryd.prog.info? e = some i) (hz : i.zero = some z) (hs : i.size = E.k) (hby : i.bytes = bytes) (hzs : z.cells.size = E.k)
    (ok : Nat → Prop) (base : Nat) (v : Value) (n : Nat) (l : List α) (hv : a.eval s = v) (hown : Own E e ok w base v n l)
    (b : Nat) (r : ρ) (x : α) (hy : a.eval y = .slice (some ⟨b, 0, none⟩) 1 1) (hcell : ∀ j u, (E.cells r)[j]? = some u → w.cell? ⟨b, j, none⟩ = some u) (hrel : E.rel (fun b => ok b ∧ some b ≠ v.ownBlock) w r x)
    (h63 : n + 1 ≤ maxLen) (hbytes : (n + 1) * bytes ≤ 140737488355328) (hbase : base ≤ w.heap.size)
    (h : ∀ A' c' w', Own E e ok w' base (.slice A' (n + 1) c') (n + 1) (l ++ [x]) → w.grownBy w' v.ownBlock → ((Value.slice A' (n + 1) c').ownBlock = v.ownBlock ∨ (Value.slice A' (n + 1) c').ownBlock = some w.heap.size) → K (a.put o.dst (.slice A' (n + 1) c')) w') :
    if Region.wanted o (yielded ops a.tmps) = true then Oper.wp Tryd.prog o a w K Q else F := by
  rw [if_pos (by simp [Region.wanted, hgd])]
  exact wp_append_E w s y t e ho i z bytes ht hi hz hs hby hzs ok base v n l hv hown b r x hy hcell hrel h63 hbytes hbase h
end
end Go.Proofs.YtfmnmgnhanogmaaDoor





namespace Go.Proofs.YtfmnmgnhanogmaaDoor
open Go.RowKit
open Go.MapKept
open Go.ChangeMaps (setBlock heap_setBlock_same heap_setBlock_other)
open Go.WideElems (Fit rd rg rd_key rd_mk other_key)

def kn (n : Nat) : Value := .int .i64 (n : Int)
theorem kn_inj (x y : Nat) (h : kn x = kn y) : x = y := by
  unfold kn at h
  injection h with _ h
  omega
theorem kn_key (n : Nat) (h : n < 1000) : keyOf Tryd.prog 3 (kn n) = some (.int .i64 (n : Int)) :=
  Maps.keyOf_int_mk Tryd.underlying3 (by
    have hmin : IntKind.i64.min = -9223372036854775808 := rfl
    have hmax : IntKind.i64.max = 9223372036854775807 := rfl
    simp only [Lit.wf, Bool.and_eq_true, decide_eq_true_eq]; omega)
theorem mib_keyed : Maps.Keyed Tryd.prog 3 := Maps.int_keyed Tryd.underlying3
/-- block b is the map that is true at just the numbers of f -/
def SetM (w : World) (b : Nat) (f : Nat → Bool) : Prop := MapK Tryd.prog 3 kn w b (fun n => if f n then some (.bool true) else none) ∧ ∀ n, f n = true → n < 100
section
variable {w w' : World} {b : Nat} {f : Nat → Bool}
theorem SetM.lt (h : SetM w b f) : b < w.heap.size := h.1.lt
theorem SetM.agr_ (h : SetM w b f) (e : w'.heap[b]? = w.heap[b]?) : SetM w' b f := ⟨h.1.agr_ e, h.2⟩
theorem SetM.via (h : SetM w b f) (hb : Below w.heap.size w w') : SetM w' b f := h.agr_ (hb.block b h.lt)
theorem SetM.grown {row : Option Nat} (h : SetM w b f) (hb : w.grownBy w' row) (hg : some b ≠ row) : SetM w' b f := h.agr_ (hb.block b h.lt hg)
theorem SetM.ext {g : Nat → Bool} (h : SetM w b f) (e : ∀ n, f n = g n) : SetM w b g := by rw [← funext e]; exact h
theorem SetM.made (w : World) : SetM (w.alloc (.map #[] 0)) w.heap.size (fun _ => false) := ⟨(MapK.made w _ _ _).ext fun y => by simp, fun _ h => by cases h⟩
theorem SetM.look (h : SetM w b f) (n : Nat) (hn : n < 1000) : (Instr.lookup 84 (.map (some b)) (.int .i64 (n : Int)) false).run Tryd.prog w = .ok (.bool (f n)) w := by
  have := h.1.look false mib_keyed Tryd.underlying84 (z := .bool false) (by kernel_rfl) n (kn_key n hn)
  simp only [Bool.false_eq_true, if_false] at this
  rw [show (.int .i64 (n : Int) : Value) = kn n from rfl, this]
  cases f n <;> rfl
theorem SetM.put (h : SetM w b f) (n : Nat) (hn : n < 100) : ∃ w', (Instr.mapUpdate 84 (.map (some b)) (.int .i64 (n : Int)) (.bool true)).run Tryd.prog w = .ok () w' ∧ SetM w' b (fun k => f k || k == n) ∧ w.grownBy w' (some b) ∧ w'.heap.size = w.heap.size := by
  obtain ⟨w', h1, h2, h3, h4⟩ := h.1.store mib_keyed Tryd.underlying84 kn_inj n (.bool true) (kn_key n (by omega)) (fun es clock he => Nat.lt_of_le_of_lt (h.1.room id 100 (fun y hy => h.2 y (by by_cases hf : f y = true; exact hf; rw [if_neg hf] at hy; exact absurd rfl hy)) (fun x y _ _ e => e) es clock he) (by simp [maxLen]))
  refine ⟨w', h1, ⟨h2.ext fun y => ?_, fun k hk => ?_⟩, h3, h4⟩
  · by_cases hy : y = n
    · subst hy; simp
    · have : (y == n) = false := by simpa using hy
      simp [hy, this]
  · simp only [Bool.or_eq_true, beq_iff_eq] at hk
    rcases hk with hk | hk
    · exact h.2 k hk
    · omega
end
/-- block r is an iterator over the set in block bm; what is still to come -/
def RngS (w : World) (r bm : Nat) (left : Nat → Bool) (cnt : Nat) : Prop :=
  ∃ since seen c0 es clock, w.heap[r]? = some (.mapIter (some bm) since seen c0) ∧ w.heap[bm]? = some (.map es clock) ∧ (∀ x ∈ es.toList, x.born < since) ∧ since ≤ c0 ∧ since ≤ clock ∧ (es.toList.map (·.born)).Nodup ∧ (∀ x ∈ es.toList, ∀ y ∈ es.toList, x.key = y.key → x = y) ∧
    (∀ x ∈ es.toList, ∃ n : Nat, n < 100 ∧ x.key = kn n ∧ x.val = .bool true) ∧ (∀ n, left n = true ↔ ∃ x ∈ (leftOf es seen).toList, x.key = kn n) ∧ (leftOf es seen).size = cnt
/-- how many entries the iterator in block r has still to hand out -/
def World.rngLeft (w : World) (r : Nat) : Nat := match w.heap[r]? with
  | some (.mapIter (some bm) _ seen _) => match w.heap[bm]? with
    | some (.map es _) => (leftOf es seen).size
    | _ => 0
  | _ => 0
section
variable {w w' : World} {r bm cnt : Nat} {left : Nat → Bool}
theorem RngS.left_eq (h : RngS w r bm left cnt) : World.rngLeft w r = cnt := by
  obtain ⟨since, seen, c0, es, clock, h1, h2, -, -, -, -, -, -, -, h3⟩ := h
  unfold World.rngLeft
  rw [h1]
  simp only [h2]
  exact h3
theorem RngS.lt (h : RngS w r bm left cnt) : r < w.heap.size ∧ bm < w.heap.size := by
  obtain ⟨since, seen, c0, es, clock, h1, h2, -⟩ := h
  exact ⟨(Array.getElem?_eq_some_iff.1 h1).1, (Array.getElem?_eq_some_iff.1 h2).1⟩
theorem RngS.agr_ (h : RngS w r bm left cnt) (e1 : w'.heap[r]? = w.heap[r]?) (e2 : w'.heap[bm]? = w.heap[bm]?) : RngS w' r bm left cnt := by
  obtain ⟨since, seen, c0, es, clock, h1, h2, h3⟩ := h
  exact ⟨since, seen, c0, es, clock, e1.trans h1, e2.trans h2, h3⟩
theorem RngS.via (h : RngS w r bm left cnt) (hb : Below w.heap.size w w') : RngS w' r bm left cnt := h.agr_ (hb.block r h.lt.1) (hb.block bm h.lt.2)
theorem RngS.grown {row : Option Nat} (h : RngS w r bm left cnt) (hb : w.grownBy w' row) (h1 : some r ≠ row) (h2 : some bm ≠ row) : RngS w' r bm left cnt := h.agr_ (hb.block r h.lt.1 h1) (hb.block bm h.lt.2 h2)
theorem SetM.range {b : Nat} {f : Nat → Bool} (h : SetM w b f) : ∃ w', (Instr.range 84 (.map (some b))).run Tryd.prog w = .ok (.pointer (some ⟨w.heap.size, 0, none⟩)) w' ∧ (∃ cnt, RngS w' w.heap.size b f cnt) ∧ Below w.heap.size w w' ∧ w'.heap.size = w.heap.size + 1 := by
  obtain ⟨es, clock, hb, F, hk, hff0⟩ := h.1
  have hff : ∀ (y : Nat) (v : Value), (if f y = true then some (Value.bool true) else none) = some v ↔ ∃ x ∈ es.toList, x.key = kn y ∧ x.val = v := hff0
  have hst := F.stamped
  refine ⟨_, run_range_map w _ _ _ b es clock Tryd.underlying84 hb, ⟨_, clock, #[], clock, es, clock, by rw [heap_alloc_new], by rw [heap_alloc_old w _ (Array.getElem?_eq_some_iff.1 hb).1, hb], hst.1, Nat.le_refl _, Nat.le_refl _, hst.2.1, ?_, ?_, ?_, rfl⟩, (Below.refl _ _).alloc (Nat.le_refl _) _, by simp⟩
  · have hp : es.toList.Pairwise (fun x y => x.key ≠ y.key) := ((stamped_iff es clock).1 hst).2.2
    intro x hx y hy e
    obtain ⟨i, hi⟩ := List.mem_iff_getElem?.1 hx
    obtain ⟨j, hj⟩ := List.mem_iff_getElem?.1 hy
    obtain ⟨hil, hi⟩ := List.getElem?_eq_some_iff.1 hi
    obtain ⟨hjl, hj⟩ := List.getElem?_eq_some_iff.1 hj
    rcases Nat.lt_trichotomy i j with hij | hij | hij
    · exact absurd (by rw [hi, hj]; exact e) (List.pairwise_iff_getElem.1 hp i j hil hjl hij)
    · subst hij; exact hi.symm.trans hj
    · exact absurd (by rw [hi, hj]; exact e.symm) (List.pairwise_iff_getElem.1 hp j i hjl hil hij)
  · intro x hx
    obtain ⟨n, hn⟩ := hk x hx
    have h1 := (hff n x.val).2 ⟨x, hx, hn, rfl⟩
    by_cases hf : f n = true
    · rw [if_pos hf] at h1
      exact ⟨n, h.2 n hf, hn, (Option.some.inj h1).symm⟩
    · rw [if_neg hf] at h1; cases h1
  · intro n
    constructor
    · intro hf
      obtain ⟨x, hx, h1, -⟩ := (hff n (.bool true)).1 (by rw [if_pos hf])
      exact ⟨x, by simpa [leftOf] using hx, h1⟩
    · rintro ⟨x, hx, h1⟩
      have hx' : x ∈ es.toList := by simpa [leftOf] using hx
      have h2 := (hff n x.val).2 ⟨x, hx', h1, rfl⟩
      by_cases hf : f n = true
      · exact hf
      · rw [if_neg hf] at h2; cases h2
theorem sb_same {w : World} {r : Nat} {o o' : Obj} (h : w.heap[r]? = some o) : (setBlock w r o').heap[r]? = some o' := by
  unfold setBlock
  have := (Array.getElem?_eq_some_iff.1 h).1
  simp [this]
theorem sb_other {w : World} {r i : Nat} {o' : Obj} (h : i ≠ r) : (setBlock w r o').heap[i]? = w.heap[i]? := by
  unfold setBlock
  simp [Ne.symm h]
theorem RngS.next (h : RngS w r bm left cnt) (hne : r ≠ bm) (ty : TypeId) : ((∀ n, left n = false) ∧ (Instr.next (.pointer (some ⟨r, 0, none⟩)) false ty).run Tryd.prog w = .ok (.tuple #[.bool false]) w) ∨
    ∃ (n : Nat) (w' : World) (cnt' : Nat), left n = true ∧ n < 100 ∧ (Instr.next (.pointer (some ⟨r, 0, none⟩)) false ty).run Tryd.prog w = .ok (.tuple #[.bool true, .int .i64 (n : Int), .bool true]) w' ∧ RngS w' r bm (fun k => left k && k != n) cnt' ∧ cnt' < cnt ∧ w.grownBy w' (some r) ∧ w'.heap.size = w.heap.size ∧
      (Instr.entry (.pointer (some ⟨r, 0, none⟩))).run Tryd.prog w' = .ok (.tuple #[.int .i64 (n : Int), .bool true]) w' := by
  obtain ⟨since, seen, c0, es, clock, h1, h2, h3, h4, h5, h6, h7, h8, h9, h10⟩ := h
  rcases run_next_at (P := Tryd.prog) w ty r bm since c0 seen es clock h1 h2 h3 h4 with ⟨h0, hrun⟩ | ⟨e, he, w1, hw1, hrun⟩
  · refine Or.inl ⟨fun n => ?_, hrun⟩
    cases hl : left n with
    | false => rfl
    | true =>
      obtain ⟨x, hx, -⟩ := (h9 n).1 hl
      rw [Array.eq_empty_of_size_eq_zero h0] at hx
      simp at hx
  · have hee : e ∈ es.toList := by
      simp [leftOf] at he ⊢; exact he.1
    obtain ⟨n, hn100, hnk, hnv⟩ := h8 e hee
    have hl : left n = true := (h9 n).2 ⟨e, he, hnk⟩
    have hw1h : w1.heap = w.heap := by rcases hw1 with rfl | rfl <;> rfl
    have g1 : w1.heap[r]? = some (.mapIter (some bm) since seen c0) := by rw [hw1h]; exact h1
    have g2 : w1.heap[bm]? = some (.map es clock) := by rw [hw1h]; exact h2
    have k1 : (setBlock w1 r (.mapIter (some bm) since (seen.push e.born) clock)).heap[r]? = some (.mapIter (some bm) since (seen.push e.born) clock) := sb_same g1
    have k2 : (setBlock w1 r (.mapIter (some bm) since (seen.push e.born) clock)).heap[bm]? = some (.map es clock) := (sb_other (Ne.symm hne)).trans g2
    have hin : ∀ x, x ∈ (leftOf es (seen.push e.born)).toList ↔ x ∈ (leftOf es seen).toList ∧ x.born ≠ e.born := by
      intro x
      simp only [leftOf, Array.toList_filter, List.mem_filter, contains_push, Bool.not_eq_true', Bool.or_eq_false_iff, beq_eq_false_iff_ne, ne_eq]
      constructor
      · rintro ⟨a, b, c⟩; exact ⟨⟨a, b⟩, c⟩
      · rintro ⟨⟨a, b⟩, c⟩; exact ⟨a, b, c⟩
    have hlt : (leftOf es (seen.push e.born)).size < cnt := by
      rw [← h10]
      have := filter_lt (fun x : MapEntry => !seen.contains x.born) (fun x : MapEntry => !(seen.push e.born).contains x.born) (fun x hx => by
        simp only [contains_push, Bool.not_eq_true', Bool.or_eq_false_iff] at hx ⊢
        exact hx.1) e (by simp [leftOf] at he ⊢; exact he.2) (by simp) es.toList hee
      rw [← Array.length_toList, ← Array.length_toList]
      simpa [leftOf, Array.toList_filter] using this
    refine Or.inr ⟨n, _, (leftOf es (seen.push e.born)).size, hl, hn100, by rw [hrun, hnk, hnv]; rfl, ⟨since, seen.push e.born, clock, es, clock, k1, k2, h3, h5, h5, h6, h7, h8, fun k => ?_, rfl⟩, hlt, ?_, by simp [setBlock, hw1h], ?_⟩
    · rw [Bool.and_eq_true, bne_iff_ne, h9 k]
      constructor
      · rintro ⟨⟨x, hx, hxk⟩, hkn⟩
        refine ⟨x, (hin x).2 ⟨hx, fun hb => hkn ?_⟩, hxk⟩
        have hxe : x ∈ es.toList := by simp [leftOf] at hx ⊢; exact hx.1
        have : x = e := by
          have f1 := find_born e es.toList h6 hee
          have f2 := find_born x es.toList h6 hxe
          rw [hb] at f2
          exact Option.some.inj (f2.symm.trans f1)
        subst this
        exact kn_inj _ _ (hxk.symm.trans hnk)
      · rintro ⟨x, hx, hxk⟩
        obtain ⟨a, b⟩ := (hin x).1 hx
        refine ⟨⟨x, a, hxk⟩, fun hkn => b ?_⟩
        have hxe : x ∈ es.toList := by simp [leftOf] at a ⊢; exact a.1
        rw [h7 x hxe e hee (by rw [hxk, hnk, hkn])]
    · refine ⟨by rcases hw1 with rfl | rfl <;> rfl, by rcases hw1 with rfl | rfl <;> rfl, by rcases hw1 with rfl | rfl <;> rfl, by simp [setBlock, hw1h], fun i _ hi => ?_⟩
      exact (sb_other (fun e => hi (by rw [e]))).trans (by rw [hw1h])
    · rw [run_entry_at _ r bm since seen es clock e k1 k2 hee h6, hnk, hnv]; rfl
end
section
variable {ops : Array Oper} {rest : List Oper} {o : Oper} {a : Act} {Q : Exit → Act → World → Prop} {w : World}
theorem wpList_range_S (hg : o.guard = none) (m : Operand) (hop : o.op = Op.range 84 m) (b : Nat) (f : Nat → Bool) (hm : a.eval m = .map (some b)) (h : SetM w b f)
    (hK : ∀ w' cnt, RngS w' w.heap.size b f cnt → Below w.heap.size w w' → w'.heap.size = w.heap.size + 1 → wpList Tryd.prog ops Q rest (a.put o.dst (.pointer (some ⟨w.heap.size, 0, none⟩))) w') : wpList Tryd.prog ops Q (o :: rest) a w := by
  refine wpList_plain hg fun K' hK' => ?_
  obtain ⟨w', hrun, ⟨cnt, r1⟩, r2, r3⟩ := h.range
  unfold Oper.wp
  simp [execOp, hop, hm, hrun, Result.andThen]
  exact hK' _ _ (hK w' cnt r1 r2 r3)
theorem wpList_next_S (hg : o.guard = none) (it : Operand) (hop : o.op = Op.next it false) (r bm : Nat) (left : Nat → Bool) (cnt : Nat) (hit : a.eval it = .pointer (some ⟨r, 0, none⟩)) (h : RngS w r bm left cnt) (hne : r ≠ bm)
    (hDone : (∀ n, left n = false) → wpList Tryd.prog ops Q rest (a.put o.dst (.tuple #[.bool false])) w)
    (hMore : ∀ (n : Nat) (w' : World) (cnt' : Nat), left n = true → n < 100 → RngS w' r bm (fun k => left k && k != n) cnt' → cnt' < cnt → w.grownBy w' (some r) → w'.heap.size = w.heap.size → (Instr.entry (.pointer (some ⟨r, 0, none⟩))).run Tryd.prog w' = .ok (.tuple #[.int .i64 (n : Int), .bool true]) w' →
      wpList Tryd.prog ops Q rest (a.put o.dst (.tuple #[.bool true, .int .i64 (n : Int), .bool true])) w') : wpList Tryd.prog ops Q (o :: rest) a w := by
  refine wpList_plain hg fun K' hK' => ?_
  unfold Oper.wp
  rcases h.next hne o.type with ⟨hl, hrun⟩ | ⟨n, w', cnt', h1, h2, hrun, h3, h4, h5, h6, h7⟩
  · simp [execOp, hop, hit, hrun, Result.andThen]
    exact hK' _ _ (hDone hl)
  · simp [execOp, hop, hit, hrun, Result.andThen]
    exact hK' _ _ (hMore n w' cnt' h1 h2 h3 h4 h5 h6 h7)
theorem wpList_put_S (hg : o.guard = none) (m x y : Operand) (hop : o.op = Op.mapUpdate 84 m x y) (b : Nat) (f : Nat → Bool) (n : Nat) (hm : a.eval m = .map (some b)) (hx : a.eval x = .int .i64 (n : Int)) (hy : a.eval y = .bool true) (h : SetM w b f) (hn : n < 100)
    (hK : ∀ w', SetM w' b (fun k => f k || k == n) → w.grownBy w' (some b) → w'.heap.size = w.heap.size → wpList Tryd.prog ops Q rest (a.put o.dst undef) w') : wpList Tryd.prog ops Q (o :: rest) a w := by
  refine wpList_plain hg fun K' hK' => ?_
  obtain ⟨w', hrun, r1, r2, r3⟩ := h.put n hn
  unfold Oper.wp
  simp [execOp, hop, hm, hx, hy, hrun, Result.andThen]
  exact hK' _ _ (hK w' r1 r2 r3)
end
end Go.Proofs.YtfmnmgnhanogmaaDoor



namespace Go.Proofs.YtfmnmgnhanogmaaDoor
open Go.RowKit

abbrev SlV := Option Addr × Nat × Nat

/-! ### symbols: a terminal or not, its number -/
abbrev Sy := Bool × Nat
def SyE : Elem Sy Sy where
  k := 2
  cells s := [.bool s.1, .int .i64 (s.2 : Int)]
  rel _ _ r x := r = x
  pos := by omega
  len _ := rfl
  one r u hu := by simp at hu; rcases hu with rfl | rfl <;> rfl
  agr h _ := h
  mono h _ := h

/-! ### rules: the left side's number, the right side -/
abbrev Ru := Nat × List Sy
def RuE : Elem Ru (Nat × SlV) where
  k := 2
  cells r := [.int .i64 (r.1 : Int), .slice r.2.1 r.2.2.1 r.2.2.2]
  rel ok w r x := r.1 = x.1 ∧ Sl SyE ok w r.2.1 r.2.2.1 r.2.2.2 x.2
  pos := by omega
  len _ := rfl
  one r u hu := by simp at hu; rcases hu with rfl | rfl <;> rfl
  agr h k := ⟨h.1, h.2.agr k⟩
  mono h k := ⟨h.1, h.2.mono k⟩

/-- a grammar -/
structure Gr where
  terms : Nat
  nons : Nat
  start : Nat
  rules : List Ru

/-! ### trees -/
inductive Tr where
  | leaf (t : Nat)
  | node (r : Nat) (kids : List Tr)

abbrev TrV := Int × Int × SlV
def trCells (r : TrV) : List Value := [.int .i64 r.1, .int .i64 r.2.1, .slice r.2.2.1 r.2.2.2.1 r.2.2.2.2]

inductive TreeR (ok : Nat → Prop) (w : World) : TrV → Tr → Prop
  | leaf (t : Nat) (A : Option Addr) (c : Nat) : TreeR ok w (-1, (t : Int), A, 0, c) (.leaf t)
  | node (r : Nat) (A : Option Addr) (n c : Nat) (kids : List Tr) (raw : List TrV) (hl : kids.length = n) (hc : n ≤ c) (hr : raw.length = n) (hcel : Cel ok w A (raw.flatMap trCells))
      (hk : ∀ (i : Nat) (x : TrV) (t : Tr), raw[i]? = some x → kids[i]? = some t → TreeR ok w x t) : TreeR ok w ((r : Int), 0, A, n, c) (.node r kids)

theorem TreeR.agr {ok : Nat → Prop} {w w' : World} {v : TrV} {t : Tr} (h : TreeR ok w v t) (k : Agr ok w w') : TreeR ok w' v t := by
  induction h with
  | leaf t A c => exact .leaf t A c
  | node r A n c kids raw hl hc hr hcel _ ih => exact .node r A n c kids raw hl hc hr (hcel.agr k) ih
theorem TreeR.mono {ok ok' : Nat → Prop} {w : World} {v : TrV} {t : Tr} (h : TreeR ok w v t) (k : ∀ b, b < w.heap.size → ok b → ok' b) : TreeR ok' w v t := by
  induction h with
  | leaf t A c => exact .leaf t A c
  | node r A n c kids raw hl hc hr hcel _ ih => exact .node r A n c kids raw hl hc hr (hcel.mono k) ih

def TrE : Elem Tr TrV where
  k := 3
  cells := trCells
  rel := TreeR
  pos := by omega
  len _ := rfl
  one r u hu := by simp [trCells] at hu; rcases hu with rfl | rfl | rfl <;> rfl
  agr h k := h.agr k
  mono h k := h.mono k

section
variable {ok ok' : Nat → Prop} {w w' : World} {v : TrV} {t : Tr}
theorem TreeR.via (h : TreeR ok w v t) (hb : Below w.heap.size w w') : TreeR ok w' v t := h.agr (Agr.below hb)
theorem TreeR.al (h : TreeR ok w v t) (o : Obj) : TreeR ok (w.alloc o) v t := h.agr (Agr.below ((Below.refl w.heap.size w).alloc (Nat.le_refl _) o))
theorem TreeR.dr (h : TreeR ok w v t) : TreeR ok w.drew v t := h.agr (Agr.below ((Below.refl w.heap.size w).drew))
theorem TreeR.kids {r tm : Int} {A : Option Addr} {n c : Nat} {rn : Nat} {kids : List Tr} (h : TreeR ok w (r, tm, A, n, c) (.node rn kids)) : r = rn ∧ tm = 0 ∧ Sl TrE ok w A n c kids := by
  cases h with
  | node _ _ _ _ _ raw hl hc hr hcel hk => exact ⟨rfl, rfl, hl, hc, raw, hr, hcel, hk⟩
theorem TreeR.mk (rn : Nat) {A : Option Addr} {n c : Nat} {kids : List Tr} (h : Sl TrE ok w A n c kids) : TreeR ok w ((rn : Int), 0, A, n, c) (.node rn kids) := by
  obtain ⟨h1, h2, raw, h3, h4, h5⟩ := h
  exact .node rn A n c kids raw h1 h2 h3 h4 h5
theorem TreeR.ofLeaf {r tm : Int} {A : Option Addr} {n c : Nat} {k : Nat} (h : TreeR ok w (r, tm, A, n, c) (.leaf k)) : r = -1 ∧ tm = k ∧ n = 0 := by
  cases h; exact ⟨rfl, rfl, rfl⟩
end

/-- the value of a tree -/
def trVal (v : TrV) : Value := .agg #[.int .i64 v.1, .int .i64 v.2.1, .slice v.2.2.1 v.2.2.2.1 v.2.2.2.2]
def grVal (g : Gr) (A : Option Addr) (n c : Nat) : Value := .agg #[.int .i64 (g.terms : Int), .int .i64 (g.nons : Int), .int .i64 (g.start : Int), .slice A n c]

/-! ### plain functions on trees -/
mutual
def Tr.size : Tr → Nat
  | .leaf _ => 1
  | .node _ ks => Tr.sizes ks + 1
def Tr.sizes : List Tr → Nat
  | [] => 0
  | t :: ts => t.size + Tr.sizes ts
end
mutual
def Tr.word : Tr → List Nat
  | .leaf t => [t]
  | .node _ ks => Tr.words ks
def Tr.words : List Tr → List Nat
  | [] => []
  | t :: ts => t.word ++ Tr.words ts
end
def Tr.kids : Tr → List Tr
  | .leaf _ => []
  | .node _ ks => ks
theorem Tr.sizes_append (a b : List Tr) : Tr.sizes (a ++ b) = Tr.sizes a + Tr.sizes b := by
  induction a with
  | nil => simp [Tr.sizes]
  | cons t ts ih => simp only [List.cons_append, Tr.sizes, ih]; omega
theorem Tr.size_pos (t : Tr) : 0 < t.size := by cases t <;> simp [Tr.size]
theorem Tr.size_mem {t : Tr} {ks : List Tr} (h : t ∈ ks) : t.size ≤ Tr.sizes ks := by
  induction ks with
  | nil => cases h
  | cons a ks ih =>
    rcases List.mem_cons.1 h with rfl | h
    · simp [Tr.sizes]
    · have := ih h; simp only [Tr.sizes]; omega

/-- a valid grammar -/
def Gr.okSy (g : Gr) (s : Sy) : Prop := if s.1 then s.2 < g.terms else s.2 < g.nons
structure Gr.Ok (g : Gr) : Prop where
  terms : 1 ≤ g.terms ∧ g.terms ≤ 8
  nons : 1 ≤ g.nons ∧ g.nons ≤ 10
  start : g.start < g.nons
  count : g.rules.length ≤ 32
  left : ∀ r ∈ g.rules, r.1 < g.nons
  right : ∀ r ∈ g.rules, r.2.length ≤ 4 ∧ ∀ s ∈ r.2, g.okSy s
end Go.Proofs.YtfmnmgnhanogmaaDoor




namespace Go.Proofs.YtfmnmgnhanogmaaDoor
open Go.RowKit

set_option maxHeartbeats 1000000 in
theorem snext_c1 (w0 w : World) (b : Nat) (n : Int) (A : Option Addr) (m c : Nat) (ls : List Int) (hI : Ints w0 A m c ls) (hB : Below w0.heap.size w0 w)
    (hcell : w.cell? ⟨b, 0, none⟩ = some (.slice A m c)) (hf : w.frozen? ⟨b, 0, none⟩ = false) (hn : n ≤ 1000000000) (hn1 : 1 ≤ n) :
    Calls Tryd.prog 47 #[.pointer (some ⟨b, 0, none⟩), .int .i64 n] w (NextP1 w0 w m b n) := by
  by_cases h0 : m = 0
  · have hfin : NextP1 w0 w m b n (.returned (.int .i64 0)) w := ⟨0, A, m, c, ls, rfl, by omega, by omega, Nat.le_refl _, (setCell_self hcell).symm, hI⟩
    have hfin' := Lib.hid hfin
    clear hfin hI
    subst h0
    go_enter Tryd.func47, Tryd.ntmps47
    go_wp2
    go_ret
    exact hfin'.out
  · have h1 : 0 < m := by omega
    have h2 : 1 ≤ n := hn1
    clear h0
    obtain ⟨b1, off, hA, hb1, hx⟩ := hI.at_ h1
    have hx' : w.cell? ⟨b1, off, none⟩ = some (.int .i64 (ls.getD 0 0)) := (hB.cell (p := ⟨b1, off, none⟩) hb1).trans hx
    have hcut := Ints.cut (l := 1) (m := m) hI (by omega) (Nat.le_refl _)
    have hcut' := Lib.hid hcut
    have hlo := belowI_lo (ls.getD 0 0) n h2
    have hhi := belowI_hi (ls.getD 0 0) n h2
    subst hA
    generalize ls.getD 0 0 = x at *
    clear hcut hI hB hx
    have k1 : ((m : Int) == 0) = false := by simp; omega
    have k2 : decide (n < 1) = false := by simp; omega
    go_enter Tryd.func47, Tryd.ntmps47
    go_wp2_with (go_at_call 49; refine (below_c x n _ (by omega) (by omega)).mono ?_; rintro e w' ⟨rfl, rfl⟩)
    all_goals
      go_ret
      refine ⟨_, _, _, _, (ls.take m).drop 1, rfl, hlo, hhi, Nat.sub_le _ _, rfl, ?_⟩
      simpa [*, Addr.add] using hcut'.out

/-- one number, as a natural number -/
def NextN (w0 w : World) (m0 : Nat) (b : Nat) (n : Nat) (e : Ending) (w' : World) : Prop :=
  ∃ (v : Nat) (A : Option Addr) (m c : Nat) (ls : List Int), e = .returned (.int .i64 (v : Int)) ∧ v < n ∧ m ≤ m0 ∧ w' = w.setCell ⟨b, 0, none⟩ (.slice A m c) ∧ Ints w0 A m c ls
theorem snext_n (w0 w : World) (b : Nat) (n : Nat) (q : Int) (hq : q = (n : Int)) (A : Option Addr) (m c : Nat) (ls : List Int) (hI : Ints w0 A m c ls) (hB : Below w0.heap.size w0 w)
    (hcell : w.cell? ⟨b, 0, none⟩ = some (.slice A m c)) (hf : w.frozen? ⟨b, 0, none⟩ = false) (hn : n ≤ 1000000000) (hn1 : 1 ≤ n) :
    Calls Tryd.prog 47 #[.pointer (some ⟨b, 0, none⟩), .int .i64 q] w (NextN w0 w m b n) := by
  subst hq
  refine (snext_c1 w0 w b n A m c ls hI hB hcell hf (by omega) (by omega)).mono ?_
  rintro e w' ⟨v, A', m', c', l', rfl, h2, h3, h4⟩
  exact ⟨v.toNat, A', m', c', l', by rw [Int.toNat_of_nonneg h2], by omega, h4⟩
end Go.Proofs.YtfmnmgnhanogmaaDoor

