/- Slices of structs as plain lists: reading, owning, appending. Grammars and trees as plain data. -/
import Derived.Test.YtghnkgbingcbcaaKC
namespace Go.Proofs.Ytghnkgbingcbcaa
open Go.RowKit

/-- the blocks that meet 'ok' are as they were -/
def Agr (ok : Nat → Prop) (w w' : World) : Prop := ∀ b, ok b → b < w.heap.size → w'.heap[b]? = w.heap[b]?
section
variable {ok ok' : Nat → Prop} {w w' w'' : World}
theorem Agr.refl : Agr ok w w := fun _ _ _ => rfl
theorem Agr.trans (h : Agr ok w w') (k : Agr ok w' w'') : Agr ok w w'' := fun b hb hlt => by
  have h1 := h b hb hlt
  have : b < w'.heap.size := by
    have h2 : w.heap[b]? = some w.heap[b] := Array.getElem?_eq_getElem hlt
    rw [h2] at h1
    exact (Array.getElem?_eq_some_iff.1 h1).1
  rw [k b hb this, h1]
theorem Agr.mono (h : Agr ok w w') (hm : ∀ b, ok' b → ok b) : Agr ok' w w' := fun b hb hlt => h b (hm b hb) hlt
theorem Agr.below (h : Below w.heap.size w w') : Agr ok w w' := fun b _ hlt => h.block b hlt
theorem Agr.grown {row : Option Nat} (h : w.grownBy w' row) (hr : ∀ b, ok b → some b ≠ row) : Agr ok w w' := fun b hb hlt => h.block b hlt (hr b hb)
theorem Agr.setCell {p : Addr} (u : Value) (hr : ∀ b, ok b → b ≠ p.block) : Agr ok w (w.setCell p u) := fun b hb _ => Below.heap_setCell w p u b (hr b hb)
theorem Agr.cell (h : Agr ok w w') {b i : Nat} (hb : ok b) {v : Value} (hc : w.cell? ⟨b, i, none⟩ = some v) : w'.cell? ⟨b, i, none⟩ = some v :=
  (World.cell?_of_block (w := w) (a := ⟨b, i, none⟩) (h b hb (World.block_lt_of_cell? w _ hc))).trans hc
end

/-- the cells cs lie at A, in a block that meets 'ok' -/
def Cel (ok : Nat → Prop) (w : World) (A : Option Addr) (cs : List Value) : Prop :=
  cs ≠ [] → ∃ b off, A = some ⟨b, off, none⟩ ∧ ok b ∧ ∀ j u, cs[j]? = some u → w.cell? ⟨b, off + j, none⟩ = some u
section
variable {ok ok' : Nat → Prop} {w w' : World} {A : Option Addr} {cs : List Value}
theorem Cel.agr (h : Cel ok w A cs) (k : Agr ok w w') : Cel ok w' A cs := fun hn => by
  obtain ⟨b, off, e, hb, hc⟩ := h hn
  exact ⟨b, off, e, hb, fun j u hu => k.cell hb (hc j u hu)⟩
theorem Cel.mono (h : Cel ok w A cs) (hm : ∀ b, b < w.heap.size → ok b → ok' b) : Cel ok' w A cs := fun hn => by
  obtain ⟨b, off, e, hb, hc⟩ := h hn
  refine ⟨b, off, e, hm b ?_ hb, hc⟩
  cases cs with
  | nil => exact absurd rfl hn
  | cons u r => exact World.block_lt_of_cell? w _ (hc 0 u rfl)
theorem Cel.nil : Cel ok w A [] := fun h => absurd rfl h
end

/-- a kind of elements: 'ρ' what the cells hold, 'α' what it stands for -/
structure Elem (α ρ : Type) where
  k : Nat
  cells : ρ → List Value
  rel : (Nat → Prop) → World → ρ → α → Prop
  pos : 0 < k
  len : ∀ r, (cells r).length = k
  one : ∀ r, ∀ u ∈ cells r, u.oneCell' = true
  agr : ∀ {ok w w' r x}, rel ok w r x → Agr ok w w' → rel ok w' r x
  mono : ∀ {ok ok' : Nat → Prop} {w r x}, rel ok w r x → (∀ b, b < w.heap.size → ok b → ok' b) → rel ok' w r x

section
variable {α ρ : Type} (E : Elem α ρ)
def flat (raw : List ρ) : List Value := raw.flatMap E.cells
variable {E}
theorem flat_len (raw : List ρ) : (flat E raw).length = raw.length * E.k := by
  induction raw with
  | nil => simp [flat]
  | cons r raw ih => simp only [flat, List.flatMap_cons, List.length_append, E.len, List.length_cons] at *; rw [ih, Nat.add_mul]; omega
theorem flat_at (raw : List ρ) : ∀ i r j u, raw[i]? = some r → (E.cells r)[j]? = some u → (flat E raw)[i * E.k + j]? = some u := by
  induction raw with
  | nil => intro i r j u h; simp at h
  | cons a raw ih =>
    intro i r j u h hu
    have hj : j < E.k := by rw [← E.len r]; exact (List.getElem?_eq_some_iff.1 hu).1
    cases i with
    | zero =>
      simp at h; subst h
      simp only [flat, List.flatMap_cons, Nat.zero_mul, Nat.zero_add]
      rw [List.getElem?_append_left (by rw [E.len]; exact hj)]; exact hu
    | succ i =>
      simp at h
      have := ih i r j u h hu
      simp only [flat, List.flatMap_cons] at *
      rw [List.getElem?_append_right (by rw [E.len, Nat.add_mul]; omega), E.len, Nat.add_mul]
      rw [show i * E.k + 1 * E.k + j - E.k = i * E.k + j from by omega]
      exact this
theorem flat_snoc (raw : List ρ) (r : ρ) : flat E (raw ++ [r]) = flat E raw ++ E.cells r := by simp [flat]
end

/-- the slice value '.slice A n c' reads as l -/
def Sl {α ρ : Type} (E : Elem α ρ) (ok : Nat → Prop) (w : World) (A : Option Addr) (n c : Nat) (l : List α) : Prop :=
  l.length = n ∧ n ≤ c ∧ ∃ raw : List ρ, raw.length = n ∧ Cel ok w A (flat E raw) ∧ ∀ (i : Nat) (r : ρ) (x : α), raw[i]? = some r → l[i]? = some x → E.rel ok w r x

section
variable {α ρ : Type} {E : Elem α ρ} {ok ok' : Nat → Prop} {w w' : World} {A : Option Addr} {n c : Nat} {l : List α}
theorem Sl.len (h : Sl E ok w A n c l) : l.length = n := h.1
theorem Sl.le (h : Sl E ok w A n c l) : n ≤ c := h.2.1
theorem Sl.agr (h : Sl E ok w A n c l) (k : Agr ok w w') : Sl E ok w' A n c l := by
  obtain ⟨h1, h2, raw, h3, h4, h5⟩ := h
  exact ⟨h1, h2, raw, h3, h4.agr k, fun i r x hr hx => E.agr (h5 i r x hr hx) k⟩
theorem Sl.mono (h : Sl E ok w A n c l) (hm : ∀ b, b < w.heap.size → ok b → ok' b) : Sl E ok' w A n c l := by
  obtain ⟨h1, h2, raw, h3, h4, h5⟩ := h
  exact ⟨h1, h2, raw, h3, h4.mono hm, fun i r x hr hx => E.mono (h5 i r x hr hx) hm⟩
theorem Sl.via (h : Sl E ok w A n c l) (hb : Below w.heap.size w w') : Sl E ok w' A n c l := h.agr (Agr.below hb)
theorem Sl.al (h : Sl E ok w A n c l) (o : Obj) : Sl E ok (w.alloc o) A n c l := h.agr (Agr.below ((Below.refl w.heap.size w).alloc (Nat.le_refl _) o))
theorem Sl.dr (h : Sl E ok w A n c l) : Sl E ok w.drew A n c l := h.agr (Agr.below ((Below.refl w.heap.size w).drew))
theorem Sl.nil (c : Nat) : Sl E ok w none 0 c [] := ⟨rfl, Nat.zero_le _, [], rfl, Cel.nil, fun i r x h => by simp at h⟩
theorem Sl.at_ (h : Sl E ok w A n c l) {i : Nat} (hi : i < n) : ∃ b off r x, A = some ⟨b, off, none⟩ ∧ ok b ∧ b < w.heap.size ∧ l[i]? = some x ∧ E.rel ok w r x ∧ ∀ j u, (E.cells r)[j]? = some u → w.cell? ⟨b, off + i * E.k + j, none⟩ = some u := by
  obtain ⟨h1, h2, raw, h3, h4, h5⟩ := h
  have hr : raw[i]? = some raw[i] := List.getElem?_eq_getElem (by omega)
  have hx : l[i]? = some l[i] := List.getElem?_eq_getElem (by omega)
  have hne : flat E raw ≠ [] := fun e => by
    have := flat_len (E := E) raw
    rw [e, h3] at this
    have hp := Nat.mul_pos (show 0 < n by omega) E.pos
    simp at this; omega
  obtain ⟨b, off, e, hb, hc⟩ := h4 hne
  have hcell : ∀ j u, (E.cells raw[i])[j]? = some u → w.cell? ⟨b, off + i * E.k + j, none⟩ = some u := fun j u hu => by
    have := hc _ u (flat_at raw i raw[i] j u hr hu)
    rwa [← Nat.add_assoc] at this
  have hp0 : 0 < (E.cells raw[i]).length := by rw [E.len]; exact E.pos
  have h0 : (E.cells raw[i])[0]? = some (E.cells raw[i])[0] := List.getElem?_eq_getElem hp0
  exact ⟨b, off, raw[i], l[i], e, hb, World.block_lt_of_cell? w _ (hcell 0 _ h0), hx, h5 i _ _ hr hx, hcell⟩
end

/-- the call's own row of such elements; what they lead to lies elsewhere -/
def Own {α ρ : Type} (E : Elem α ρ) (e : TypeId) (ok : Nat → Prop) (w : World) (base : Nat) (v : Value) (n : Nat) (l : List α) : Prop :=
  l.length = n ∧ ∃ raw : List ρ, raw.length = n ∧ w.ownsRow base e E.k v n (flat E raw) ∧ ∀ (i : Nat) (r : ρ) (x : α), raw[i]? = some r → l[i]? = some x → E.rel (fun b => ok b ∧ some b ≠ v.ownBlock) w r x

section
variable {α ρ : Type} {E : Elem α ρ} {e : TypeId} {ok ok' : Nat → Prop} {w w' : World} {base n : Nat} {v : Value} {l : List α}
theorem Own.nil (w : World) (base : Nat) : Own E e ok w base (.slice none 0 0) 0 [] := ⟨rfl, [], rfl, World.ownsRow_nil w base e E.k, fun i r x h => by simp at h⟩
theorem Own.agr (h : Own E e ok w base v n l) (k : Agr (fun b => ok b ∨ some b = v.ownBlock) w w') : Own E e ok w' base v n l := by
  obtain ⟨h1, raw, h3, h4, h5⟩ := h
  refine ⟨h1, raw, h3, ⟨h4.1, ?_⟩, fun i r x hr hx => E.agr (h5 i r x hr hx) (k.mono fun b hb => Or.inl hb.1)⟩
  rcases h4.2 with h0 | ⟨g, cap, cur, rfl, hb, hh, hr⟩
  · exact Or.inl h0
  · refine Or.inr ⟨g, cap, cur, rfl, hb, ?_, hr⟩
    rw [k g (Or.inr rfl) (Array.getElem?_eq_some_iff.1 hh).1]
    exact hh
theorem Own.mono (h : Own E e ok w base v n l) (hm : ∀ b, b < w.heap.size → ok b → ok' b) : Own E e ok' w base v n l := by
  obtain ⟨h1, raw, h3, h4, h5⟩ := h
  exact ⟨h1, raw, h3, h4, fun i r x hr hx => E.mono (h5 i r x hr hx) fun b hb hk => ⟨hm b hb hk.1, hk.2⟩⟩
theorem Own.via (h : Own E e ok w base v n l) (hb : Below w.heap.size w w') : Own E e ok w' base v n l := h.agr (Agr.below hb)
theorem Own.al (h : Own E e ok w base v n l) (o : Obj) : Own E e ok (w.alloc o) base v n l := h.agr (Agr.below ((Below.refl w.heap.size w).alloc (Nat.le_refl _) o))
theorem Own.dr (h : Own E e ok w base v n l) : Own E e ok w.drew base v n l := h.agr (Agr.below ((Below.refl w.heap.size w).drew))
theorem Own.lt (h : Own E e ok w base v n l) : ∀ k, v.ownBlock = some k → base ≤ k ∧ k < w.heap.size := by
  obtain ⟨_, raw, _, h4, _⟩ := h
  exact h4.lt
theorem Own.len (h : Own E e ok w base v n l) : l.length = n := h.1
theorem Own.form (h : Own E e ok w base v n l) : ∃ A c, v = .slice A n c ∧ n ≤ c := by
  obtain ⟨_, raw, _, h4, _⟩ := h
  rcases h4.2 with ⟨rfl, rfl⟩ | ⟨g, cap, cur, rfl, _, _, hc, _⟩
  · exact ⟨none, 0, rfl, Nat.le_refl _⟩
  · exact ⟨_, _, rfl, hc⟩
theorem Own.toSl {A : Option Addr} {n' c : Nat} (h : Own E e ok w base (.slice A n' c) n l) (hm : ∀ b, b < w.heap.size → ok b → ok' b) (hb : ∀ b, base ≤ b → ok' b) : Sl E ok' w A n c l := by
  obtain ⟨A', c', e', hc⟩ := h.form
  obtain ⟨h1, raw, h3, h4, h5⟩ := h
  cases e'
  refine ⟨h1, hc, raw, h3, fun hne => ?_, fun i r x hr hx => E.mono (h5 i r x hr hx) fun b hb hk => hm b hb hk.1⟩
  rcases h4.2 with ⟨h0, hn⟩ | ⟨g, cap, cur, hv, hbg, hh, hr⟩
  · have : raw = [] := List.eq_nil_of_length_eq_zero (by omega)
    subst this; exact absurd rfl hne
  · cases hv
    refine ⟨g, 0, rfl, hb g hbg, fun j u hu => ?_⟩
    have := h4.cells (g := g) rfl j u hu
    rwa [Addr.add_lit] at this
theorem Own.setCell (h : Own E e ok w base v n l) {p : Addr} (u : Value) (h1 : ∀ b, ok b → b ≠ p.block) (h2 : p.block < base) : Own E e ok (w.setCell p u) base v n l := by
  refine h.agr (Agr.setCell u fun b hb => ?_)
  rcases hb with hb | hb
  · exact h1 b hb
  · have := (h.lt b hb.symm).1; omega
end

/-! ### append of one element onto an own row -/
section
variable {α ρ : Type} {E : Elem α ρ}
theorem run_append_E (w : World) (t ty e : TypeId) (i : TypeInfo) (z : Value) (bytes : Nat) (ht : Try.prog.underlying t = some (.slice e)) (hi : Try.prog.info? e = some i) (hz : i.zero = some z) (hs : i.size = E.k) (hby : i.bytes = bytes) (hzs : z.cells.size = E.k)
    (ok : Nat → Prop) (base : Nat) (v : Value) (n : Nat) (l : List α) (hown : Own E e ok w base v n l)
    (b : Nat) (r : ρ) (x : α) (hcell : ∀ j u, (E.cells r)[j]? = some u → w.cell? ⟨b, j, none⟩ = some u) (hrel : E.rel (fun b => ok b ∧ some b ≠ v.ownBlock) w r x)
    (h63 : n + 1 ≤ maxLen) (hbytes : (n + 1) * bytes ≤ 140737488355328) (hbase : base ≤ w.heap.size) :
    ∃ A' c' w', (Builtin.append_ #[t, t] ty #[v, .slice (some ⟨b, 0, none⟩) 1 1]).run Try.prog w = .ok (.slice A' (n + 1) c') w' ∧ Own E e ok w' base (.slice A' (n + 1) c') (n + 1) (l ++ [x]) ∧ w.grownBy w' v.ownBlock ∧
      ((Value.slice A' (n + 1) c').ownBlock = v.ownBlock ∨ (Value.slice A' (n + 1) c').ownBlock = some w.heap.size) := by
  obtain ⟨h1, raw, h3, h4, h5⟩ := hown
  obtain ⟨v', w', hrun, h6, h7, _, h8⟩ := run_append_own_at (P := Try.prog) w base t ty e i z E.k bytes ht hi hz hs hby hzs E.pos v n _ h4 ⟨b, 0, none⟩ 1 1 (E.cells r) (by rw [E.len, Nat.one_mul]) (fun j u hu => by rw [Addr.add_lit, Nat.zero_add]; exact hcell j u hu) (E.one r) h63 hbytes hbase
  have hown' : Own E e ok w' base v' (n + 1) (l ++ [x]) := by
    refine ⟨by simp [h1], raw ++ [r], by simp [h3], by rw [flat_snoc]; exact h6, fun i r' x' hr' hx' => ?_⟩
    have key : E.rel (fun b => ok b ∧ some b ≠ v.ownBlock) w r' x' := by
      rcases Nat.lt_or_ge i n with hi' | hi'
      · rw [List.getElem?_append_left (by omega)] at hr' hx'
        exact h5 i r' x' hr' hx'
      · rw [List.getElem?_append_right (by omega)] at hr' hx'
        have e1 : i - raw.length = 0 := by
          have := (List.getElem?_eq_some_iff.1 hr').1
          simp at this; omega
        have e2 : i - l.length = 0 := by omega
        rw [e1] at hr'; rw [e2] at hx'
        simp at hr' hx'
        subst hr'; subst hx'
        exact hrel
    have k1 := E.mono (ok' := fun b => (ok b ∧ some b ≠ v.ownBlock) ∧ b < w.heap.size) key fun b hb hk => ⟨hk, hb⟩
    refine E.mono (E.agr k1 (Agr.grown h7 fun b hb => hb.1.2)) fun b _ hk => ⟨hk.1.1, ?_⟩
    rcases h8 with e8 | e8
    · rw [e8]; exact hk.1.2
    · rw [e8]; intro e9; cases e9; exact absurd hk.2 (Nat.lt_irrefl _)
  obtain ⟨A', c', rfl, _⟩ := hown'.form
  exact ⟨A', c', w', hrun, hown', h7, h8⟩

theorem wp_append_E {o : Oper} {a : Act} {K : Act → World → Prop} {Q : Exit → Act → World → Prop} (w : World) (s y : Operand) (t e : TypeId)
    (ho : o.op = .call { callee := .builtin .append, args := #[s, y], argTypes := #[t, t] }) (i : TypeInfo) (z : Value) (bytes : Nat) (ht : Try.prog.underlying t = some (.slice e)) (hi : Try.prog.info? e = some i) (hz : i.zero = some z) (hs : i.size = E.k) (hby : i.bytes = bytes) (hzs : z.cells.size = E.k)
    (ok : Nat → Prop) (base : Nat) (v : Value) (n : Nat) (l : List α) (hv : a.eval s = v) (hown : Own E e ok w base v n l)
    (b : Nat) (r : ρ) (x : α) (hy : a.eval y = .slice (some ⟨b, 0, none⟩) 1 1) (hcell : ∀ j u, (E.cells r)[j]? = some u → w.cell? ⟨b, j, none⟩ = some u) (hrel : E.rel (fun b => ok b ∧ some b ≠ v.ownBlock) w r x)
    (h63 : n + 1 ≤ maxLen) (hbytes : (n + 1) * bytes ≤ 140737488355328) (hbase : base ≤ w.heap.size)
    (h : ∀ A' c' w', Own E e ok w' base (.slice A' (n + 1) c') (n + 1) (l ++ [x]) → w.grownBy w' v.ownBlock → ((Value.slice A' (n + 1) c').ownBlock = v.ownBlock ∨ (Value.slice A' (n + 1) c').ownBlock = some w.heap.size) → K (a.put o.dst (.slice A' (n + 1) c')) w') : o.wp Try.prog a w K Q := by
  obtain ⟨A', c', w', hrun, h2, h3, h4⟩ := run_append_E w t o.type e i z bytes ht hi hz hs hby hzs ok base v n l hown b r x hcell hrel h63 hbytes hbase
  unfold Oper.wp execOp
  simp only [ho, resolve, invoke, builtin, Sem.run_bind, Sem.run_pure, Result.andThen_ok, List.map_toArray, List.map_cons, List.map_nil, hv, hy, hrun]
  exact h A' c' w' h2 h3 h4

theorem wpList_append_E {ops : Array Oper} {rest : List Oper} {o : Oper} {a : Act} {Q : Exit → Act → World → Prop} (w : World) (hgd : o.guard = none) (s y : Operand) (t e : TypeId)
    (ho : o.op = .call { callee := .builtin .append, args := #[s, y], argTypes := #[t, t] }) (i : TypeInfo) (z : Value) (bytes : Nat) (ht : Try.prog.underlying t = some (.slice e)) (hi : Try.prog.info? e = some i) (hz : i.zero = some z) (hs : i.size = E.k) (hby : i.bytes = bytes) (hzs : z.cells.size = E.k)
    (ok : Nat → Prop) (base : Nat) (v : Value) (n : Nat) (l : List α) (hv : a.eval s = v) (hown : Own E e ok w base v n l)
    (b : Nat) (r : ρ) (x : α) (hy : a.eval y = .slice (some ⟨b, 0, none⟩) 1 1) (hcell : ∀ j u, (E.cells r)[j]? = some u → w.cell? ⟨b, j, none⟩ = some u) (hrel : E.rel (fun b => ok b ∧ some b ≠ v.ownBlock) w r x)
    (h63 : n + 1 ≤ maxLen) (hbytes : (n + 1) * bytes ≤ 140737488355328) (hbase : base ≤ w.heap.size)
    (h : ∀ A' c' w', Own E e ok w' base (.slice A' (n + 1) c') (n + 1) (l ++ [x]) → w.grownBy w' v.ownBlock → ((Value.slice A' (n + 1) c').ownBlock = v.ownBlock ∨ (Value.slice A' (n + 1) c').ownBlock = some w.heap.size) → wpList Try.prog ops Q rest (a.put o.dst (.slice A' (n + 1) c')) w') : wpList Try.prog ops Q (o :: rest) a w :=
  wpList_plain hgd fun _ hK => wp_append_E w s y t e ho i z bytes ht hi hz hs hby hzs ok base v n l hv hown b r x hy hcell hrel h63 hbytes hbase fun A' c' w' h2 h3 h4 => hK _ _ (h A' c' w' h2 h3 h4)

theorem step_append_E {ops : Array Oper} {o : Oper} {a : Act} {K : Act → World → Prop} {Q : Exit → Act → World → Prop} {F : Prop} (w : World) (hgd : o.guard = none) (s y : Operand) (t e : TypeId)
    (ho : o.op = .call { callee := .builtin .append, args := #[s, y], argTypes := #[t, t] }) (i : TypeInfo) (z : Value) (bytes : Nat) (ht : Try.prog.underlying t = some (.slice e)) (hi : Try.prog.info? e = some i) (hz : i.zero = some z) (hs : i.size = E.k) (hby : i.bytes = bytes) (hzs : z.cells.size = E.k)
    (ok : Nat → Prop) (base : Nat) (v : Value) (n : Nat) (l : List α) (hv : a.eval s = v) (hown : Own E e ok w base v n l)
    (b : Nat) (r : ρ) (x : α) (hy : a.eval y = .slice (some ⟨b, 0, none⟩) 1 1) (hcell : ∀ j u, (E.cells r)[j]? = some u → w.cell? ⟨b, j, none⟩ = some u) (hrel : E.rel (fun b => ok b ∧ some b ≠ v.ownBlock) w r x)
    (h63 : n + 1 ≤ maxLen) (hbytes : (n + 1) * bytes ≤ 140737488355328) (hbase : base ≤ w.heap.size)
    (h : ∀ A' c' w', Own E e ok w' base (.slice A' (n + 1) c') (n + 1) (l ++ [x]) → w.grownBy w' v.ownBlock → ((Value.slice A' (n + 1) c').ownBlock = v.ownBlock ∨ (Value.slice A' (n + 1) c').ownBlock = some w.heap.size) → K (a.put o.dst (.slice A' (n + 1) c')) w') :
    if Region.wanted o (yielded ops a.tmps) = true then Oper.wp Try.prog o a w K Q else F := by
  rw [if_pos (by simp [Region.wanted, hgd])]
  exact wp_append_E w s y t e ho i z bytes ht hi hz hs hby hzs ok base v n l hv hown b r x hy hcell hrel h63 hbytes hbase h
end
end Go.Proofs.Ytghnkgbingcbcaa
