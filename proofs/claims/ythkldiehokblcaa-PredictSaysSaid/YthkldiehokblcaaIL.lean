/- Texts IL, laid together. -/
import Derived.Test.YthkldiehokblcaaIK


namespace Go.Proofs.Ythkldiehokblcaa
open Go.RowKit

/-! ### plain -/
def fstStep (es : Nat → Bool) (fs : Nat → Nat → Bool) (u : Ru) : Nat → Nat → Bool := fun N t => if N = u.1 then fs u.1 t || ofB es fs u.2 t else fs N t
def fstRound (es : Nat → Bool) (R : List Ru) (fs : Nat → Nat → Bool) : Nat → Nat → Bool := R.foldl (fstStep es) fs
def fstK (es : Nat → Bool) (R : List Ru) : Nat → Nat → Nat → Bool
  | 0 => fun _ _ => false
  | k + 1 => fstRound es R (fstK es R k)
abbrev FoS := (Nat → Bool) × (Nat → Nat → Bool)
/-- position j of a right side -/
def folSym (es : Nat → Bool) (fs : Nat → Nat → Bool) (u : Ru) (st : FoS) (j : Nat) : FoS := match u.2[j]? with
  | none => st
  | some y => if y.1 || !st.1 u.1 then st else
    (fun N => st.1 N || N == y.2, fun N t => if N = y.2 then (st.2 y.2 t || ofB es fs (u.2.drop (j + 1)) t) || (ofE es (u.2.drop (j + 1)) && st.2 u.1 t) else st.2 N t)
def folPos (es : Nat → Bool) (fs : Nat → Nat → Bool) (u : Ru) (st : FoS) (k : Nat) : FoS := (List.range k).foldl (folSym es fs u) st
def folStep (es : Nat → Bool) (fs : Nat → Nat → Bool) (st : FoS) (u : Ru) : FoS := folPos es fs u st u.2.length
def folRound (es : Nat → Bool) (fs : Nat → Nat → Bool) (R : List Ru) (st : FoS) : FoS := R.foldl (folStep es fs) st
def folK (es : Nat → Bool) (fs : Nat → Nat → Bool) (R : List Ru) (s e : Nat) : Nat → FoS
  | 0 => (fun N => N == s, fun N t => N == s && t == e)
  | k + 1 => folRound es fs R (folK es fs R s e k)
theorem fstRound_take {es : Nat → Bool} {R : List Ru} {fs : Nat → Nat → Bool} {k : Nat} {u : Ru} (h : R[k]? = some u) : fstRound es (R.take (k + 1)) fs = fstStep es (fstRound es (R.take k) fs) u := by
  have h1 := List.getElem?_eq_some_iff.1 h
  unfold fstRound
  rw [List.take_succ_eq_append_getElem h1.1, h1.2, List.foldl_append]; rfl
theorem folRound_take {es : Nat → Bool} {fs : Nat → Nat → Bool} {R : List Ru} {st : FoS} {k : Nat} {u : Ru} (h : R[k]? = some u) : folRound es fs (R.take (k + 1)) st = folStep es fs (folRound es fs (R.take k) st) u := by
  have h1 := List.getElem?_eq_some_iff.1 h
  unfold folRound
  rw [List.take_succ_eq_append_getElem h1.1, h1.2, List.foldl_append]; rfl
theorem folPos_next (es : Nat → Bool) (fs : Nat → Nat → Bool) (u : Ru) (st : FoS) (k : Nat) : folPos es fs u st (k + 1) = folSym es fs u (folPos es fs u st k) k := by
  unfold folPos
  rw [List.range_succ, List.foldl_append]; rfl
/-! ### memory -/
theorem SetM.ne_cell {w : World} {b bm i : Nat} {f : Nat → Bool} {v : Value} (h : SetM w bm f) (hc : w.cell? ⟨b, i, none⟩ = some v) : b ≠ bm := by
  intro e
  subst e
  obtain ⟨es, clock, hb, -⟩ := h.1
  simp [World.cell?, hb] at hc
theorem SetM.ne_blk {w : World} {b bm : Nat} {f : Nat → Bool} {T : TypeId} {cs : Array Value} (h : SetM w bm f) (hc : Blk w b T cs) : b ≠ bm := by
  intro e
  subst e
  obtain ⟨es, clock, hb, -⟩ := h.1
  unfold Blk at hc
  rw [hb] at hc
  cases hc
section
variable {w w' : World} {A : Option Addr} {n : Nat} {bs : Nat → Nat} {fs : Nat → Nat → Bool}
/-- one of the row's sets has changed -/
theorem MpR.put {i : Nat} {g : Nat → Bool} (h : MpR w A n bs fs) (hi : i < n) (hinj : ∀ j, j < n → bs j = bs i → j = i) (hs : SetM w' (bs i) g) (hg : w.grownBy w' (some (bs i))) : MpR w' A n bs (fun N t => if N = i then g t else fs N t) := by
  obtain ⟨b, off, e, hb, hc⟩ := h.row
  refine ⟨⟨b, off, e, Nat.lt_of_lt_of_le hb hg.size, fun j hj => ?_⟩, fun j hj => ?_⟩
  · have hne := (h.set i hi).ne_cell (hc j hj)
    exact (Agr.grown (ok := fun x => some x ≠ some (bs i)) hg fun _ hx => hx).cell (fun e => hne (Option.some.inj e)) (hc j hj)
  · by_cases e : j = i
    · subst e; simpa using hs
    · simp only [if_neg e]
      exact (h.set j hj).grown hg (fun q => e (hinj j hj (Option.some.inj q)))
/-- another set has changed -/
theorem MpR.other {bm : Nat} {f : Nat → Bool} (h : MpR w A n bs fs) (hm : SetM w bm f) (hne : ∀ j, j < n → bs j ≠ bm) (hg : w.grownBy w' (some bm)) : MpR w' A n bs fs := by
  obtain ⟨b, off, e, hb, hc⟩ := h.row
  refine ⟨⟨b, off, e, Nat.lt_of_lt_of_le hb hg.size, fun j hj => ?_⟩, fun j hj => ?_⟩
  · have hne := hm.ne_cell (hc j hj)
    exact (Agr.grown (ok := fun x => some x ≠ some bm) hg fun _ hx => hx).cell (fun e => hne (Option.some.inj e)) (hc j hj)
  · exact (h.set j hj).grown hg (fun q => hne j hj (Option.some.inj q))
/-- a block that is neither the row nor a set has changed -/
theorem MpR.far {row : Option Nat} (h : MpR w A n bs fs) (hg : w.grownBy w' row) (hA : ∀ ad, A = some ad → some ad.block ≠ row) (hne : ∀ j, j < n → some (bs j) ≠ row) : MpR w' A n bs fs := by
  obtain ⟨b, off, e, hb, hc⟩ := h.row
  exact ⟨⟨b, off, e, Nat.lt_of_lt_of_le hb hg.size, fun j hj => (Agr.grown (ok := fun x => some x ≠ row) hg fun _ hx => hx).cell (hA _ e) (hc j hj)⟩, fun j hj => (h.set j hj).grown hg (hne j hj)⟩
theorem MpR.ext {gs : Nat → Nat → Bool} (h : MpR w A n bs fs) (e : ∀ i, i < n → ∀ t, fs i t = gs i t) : MpR w A n bs gs := ⟨h.row, fun i hi => (h.set i hi).ext (e i hi)⟩
end
/-- a row of maps while it is being built -/
def MpE : Elem Nat Nat where
  k := 1
  cells b := [.map (some b)]
  rel _ _ r x := r = x
  pos := by omega
  len _ := rfl
  one r u hu := by simp at hu; subst hu; rfl
  agr h _ := h
  mono h _ := h
theorem wpList_append_mp {ops : Array Oper} {rest : List Oper} {o : Oper} {a : Act} {Q : Exit → Act → World → Prop} (w : World) (hgd : o.guard = none) (s y : Operand)
    (ho : o.op = .call { callee := .builtin .append, args := #[s, y], argTypes := #[76, 76] })
    (base : Nat) (v : Value) (n : Nat) (l : List Nat) (hv : a.eval s = v) (hown : Own MpE 79 (fun _ => False) w base v n l)
    (b : Nat) (x : Nat) (hy : a.eval y = .slice (some ⟨b, 0, none⟩) 1 1) (hcell : w.cell? ⟨b, 0, none⟩ = some (.map (some x)))
    (h63 : n + 1 ≤ 1000000) (hbase : base ≤ w.heap.size)
    (h : ∀ A' c' w', Own MpE 79 (fun _ => False) w' base (.slice A' (n + 1) c') (n + 1) (l ++ [x]) → w.grownBy w' v.ownBlock → ((Value.slice A' (n + 1) c').ownBlock = v.ownBlock ∨ (Value.slice A' (n + 1) c').ownBlock = some w.heap.size) → wpList Try.prog ops Q rest (a.put o.dst (.slice A' (n + 1) c')) w') : wpList Try.prog ops Q (o :: rest) a w := by
  have hinf : (Try.prog.info? 79).map (fun i => (i.zero, i.size, i.bytes)) = some (some (.map none), 1, 8) := by kernel_rfl
  obtain ⟨i, hi, hz⟩ := Option.map_eq_some_iff.1 hinf
  simp only [Prod.mk.injEq] at hz
  refine wpList_append_E (E := MpE) w hgd s y 76 79 ho i (.map none) 8 (by kernel_rfl) hi hz.1 hz.2.1 hz.2.2 rfl (fun _ => False) base v n l hv hown b x x hy (fun j u hu => ?_) rfl (by simp [maxLen]; omega) (by omega) hbase h
  cases j with
  | zero => simp [MpE] at hu; subst hu; exact hcell
  | succ j => simp [MpE] at hu
/-- the row that was built -/
theorem Own.toMp {w : World} {base n c : Nat} {A : Option Addr} {l : List Nat} (h : Own MpE 79 (fun _ => False) w base (.slice A n c) n l) (hn : 0 < n) (fs : Nat → Nat → Bool) (hs : ∀ i x, l[i]? = some x → SetM w x (fs i)) : MpR w A n (fun i => l.getD i 0) fs := by
  have hsl := h.toSl (ok' := fun _ => True) (fun _ _ h => h.elim) (fun _ _ => trivial)
  obtain ⟨b, off, r, x, e, -, hb, -, -, -⟩ := hsl.at_ hn
  refine ⟨⟨b, off, e, hb, fun i hi => ?_⟩, fun i hi => ?_⟩
  · obtain ⟨b', off', r, x, e', -, -, hx, hr, hc⟩ := hsl.at_ hi
    rw [e] at e'
    cases e'
    obtain rfl : r = x := hr
    have := hc 0 _ rfl
    simp only [MpE, Nat.mul_one, Nat.add_zero] at this
    rw [this, List.getD_eq_getElem?_getD, hx]; rfl
  · obtain ⟨b', off', r, x, e', -, -, hx, hr, hc⟩ := hsl.at_ hi
    have := hs i x hx
    simpa [List.getD_eq_getElem?_getD, hx] using this
end Go.Proofs.Ythkldiehokblcaa

