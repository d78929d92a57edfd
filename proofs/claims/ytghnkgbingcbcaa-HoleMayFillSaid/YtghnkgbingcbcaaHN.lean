/- Rows of cells and of bools: append, clone, one cell written. -/
import Derived.Test.YtghnkgbingcbcaaHJ
namespace Go.Proofs.Ytghnkgbingcbcaa
open Go.RowKit

def BoE : Elem Bool Bool where
  k := 1
  cells b := [.bool b]
  rel _ _ r x := r = x
  pos := by omega
  len _ := rfl
  one r u hu := by simp at hu; subst hu; rfl
  agr h _ := h
  mono h _ := h
theorem bool_info : (Try.prog.info? 4).map (fun i => (i.zero, i.size, i.bytes)) = some (some (.bool false), 1, 1) := by kernel_rfl
theorem wpList_append_b {ops : Array Oper} {rest : List Oper} {o : Oper} {a : Act} {Q : Exit → Act → World → Prop} (w : World) (hgd : o.guard = none) (s y : Operand)
    (ho : o.op = .call { callee := .builtin .append, args := #[s, y], argTypes := #[44, 44] }) (base : Nat) (v : Value) (n : Nat) (l : List Bool) (hv : a.eval s = v) (hown : Own BoE 4 (fun _ => False) w base v n l)
    (b : Nat) (x : Bool) (hy : a.eval y = .slice (some ⟨b, 0, none⟩) 1 1) (hcell : w.cell? ⟨b, 0, none⟩ = some (.bool x))
    (h63 : n + 1 ≤ 1000000) (hbase : base ≤ w.heap.size)
    (h : ∀ A' c' w', Own BoE 4 (fun _ => False) w' base (.slice A' (n + 1) c') (n + 1) (l ++ [x]) → w.grownBy w' v.ownBlock → ((Value.slice A' (n + 1) c').ownBlock = v.ownBlock ∨ (Value.slice A' (n + 1) c').ownBlock = some w.heap.size) → wpList Try.prog ops Q rest (a.put o.dst (.slice A' (n + 1) c')) w') : wpList Try.prog ops Q (o :: rest) a w := by
  obtain ⟨i, hi, hz, hs, hb⟩ := info_parts bool_info
  exact wpList_append_E w hgd s y _ _ ho i _ 1 Try.underlying44 hi hz hs hb rfl (fun _ => False) base v n l hv hown b x x hy (fun j u hu => by
    cases j with
    | zero => simp [BoE] at hu; subst hu; exact hcell
    | succ j => simp [BoE] at hu) rfl (by unfold maxLen; omega) (by omega) hbase h
theorem wpList_append_ce {ops : Array Oper} {rest : List Oper} {o : Oper} {a : Act} {Q : Exit → Act → World → Prop} (w : World) (hgd : o.guard = none) (s y : Operand)
    (ho : o.op = .call { callee := .builtin .append, args := #[s, y], argTypes := #[49, 49] }) (base : Nat) (v : Value) (n : Nat) (l : List Ce) (hv : a.eval s = v) (hown : Own CeE 48 (fun _ => False) w base v n l)
    (b : Nat) (x : Ce) (hy : a.eval y = .slice (some ⟨b, 0, none⟩) 1 1) (hcell : w.cell? ⟨b, 0, none⟩ = some (.bool x.1)) (hcell1 : w.cell? ⟨b, 1, none⟩ = some (.int .i64 x.2))
    (h63 : n + 1 ≤ 1000000) (hbase : base ≤ w.heap.size)
    (h : ∀ A' c' w', Own CeE 48 (fun _ => False) w' base (.slice A' (n + 1) c') (n + 1) (l ++ [x]) → w.grownBy w' v.ownBlock → ((Value.slice A' (n + 1) c').ownBlock = v.ownBlock ∨ (Value.slice A' (n + 1) c').ownBlock = some w.heap.size) → wpList Try.prog ops Q rest (a.put o.dst (.slice A' (n + 1) c')) w') : wpList Try.prog ops Q (o :: rest) a w := by
  obtain ⟨i, hi, hz, hs, hb⟩ := info_parts sym_info
  exact wpList_append_E w hgd s y _ _ ho i _ 16 Try.underlying49 hi hz hs hb rfl (fun _ => False) base v n l hv hown b x x hy (fun j u hu => by
    match j, hu with
    | 0, hu => simp [CeE] at hu; subst hu; exact hcell
    | 1, hu => simp [CeE] at hu; subst hu; exact hcell1
    | j + 2, hu => simp [CeE] at hu) rfl (by unfold maxLen; omega) (by omega) hbase h

/-! ### append of a row of cells onto an own row -/
theorem flat_ce_one (xs : List Ce) : ∀ u ∈ flat CeE xs, u.oneCell' = true := by
  intro u hu
  obtain ⟨r, _, hr⟩ := List.mem_flatMap.1 hu
  exact CeE.one r u hr
theorem Sl.rawc {w : World} {ok : Nat → Prop} {A : Option Addr} {n c : Nat} {xs : List Ce} (h : Sl CeE ok w A n c xs) : Cel ok w A (flat CeE xs) := by
  obtain ⟨h1, h2, raw, h3, h4, h5⟩ := h
  have : raw = xs := List.ext_getElem? fun i => by
    rcases Nat.lt_or_ge i n with hi | hi
    · have e1 : raw[i]? = some raw[i] := List.getElem?_eq_getElem (by omega)
      have e2 : xs[i]? = some xs[i] := List.getElem?_eq_getElem (by omega)
      rw [e1, e2]
      exact congrArg some (h5 i _ _ e1 e2)
    · rw [List.getElem?_eq_none (by omega), List.getElem?_eq_none (by omega)]
  rw [← this]; exact h4
theorem Own.rawc {w : World} {ok : Nat → Prop} {base n : Nat} {v : Value} {xs : List Ce} (h : Own CeE 48 ok w base v n xs) : w.ownsRow base 48 2 v n (flat CeE xs) := by
  obtain ⟨h1, raw, h3, h4, h5⟩ := h
  have : raw = xs := List.ext_getElem? fun i => by
    rcases Nat.lt_or_ge i n with hi | hi
    · have e1 : raw[i]? = some raw[i] := List.getElem?_eq_getElem (by omega)
      have e2 : xs[i]? = some xs[i] := List.getElem?_eq_getElem (by omega)
      rw [e1, e2]
      exact congrArg some (h5 i _ _ e1 e2)
    · rw [List.getElem?_eq_none (by omega), List.getElem?_eq_none (by omega)]
  rw [← this]; exact h4
theorem Own.ofRawc {w : World} {ok : Nat → Prop} {base n : Nat} {v : Value} {xs : List Ce} (hl : xs.length = n) (h : w.ownsRow base 48 2 v n (flat CeE xs)) : Own CeE 48 ok w base v n xs :=
  ⟨hl, xs, hl, h, fun i r x hr hx => by rw [hr] at hx; exact Option.some.inj hx⟩

theorem run_append_ces (w : World) (ty : TypeId) (ok oks : Nat → Prop) (base : Nat) (v : Value) (n : Nat) (xs : List Ce) (hown : Own CeE 48 ok w base v n xs)
    (A : Option Addr) (m c : Nat) (ys : List Ce) (hr : Sl CeE oks w A m c ys) (hb : n + m ≤ 1000000) (hbase : base ≤ w.heap.size) :
    ∃ v' w', (Builtin.append_ #[49, 49] ty #[v, .slice A m c]).run Try.prog w = .ok v' w' ∧ Own CeE 48 ok w' base v' (n + m) (xs ++ ys) ∧ w.grownBy w' v.ownBlock ∧
      (v'.ownBlock = v.ownBlock ∨ v'.ownBlock = some w.heap.size) := by
  obtain ⟨i, hi, hz⟩ := Option.map_eq_some_iff.1 sym_info
  simp only [Prod.mk.injEq] at hz
  have hlen := hr.len
  have hlx := hown.len
  have hcel := hr.rawc
  rcases A with _ | ad
  · have hm : ys = [] := by
      cases ys with
      | nil => rfl
      | cons y ys =>
        obtain ⟨b, off, h, _⟩ := hcel (by simp [flat, CeE])
        cases h
    subst hm
    have hm0 : m = 0 := by simpa using hlen.symm
    subst hm0
    refine ⟨v, w, ?_, by simpa using hown, World.grownBy.refl w _, Or.inl rfl⟩
    rcases hown.rawc.2 with ⟨rfl, rfl⟩ | ⟨g, cap, cur, rfl, _, _, hnc, _⟩
    · simp [Builtin.append_, run_underlying Try.underlying49, sizeOf, typeInfo, hi, Builtin.lenOf, Builtin.firstCells]
    · simp [Builtin.append_, run_underlying Try.underlying49, sizeOf, typeInfo, hi, Builtin.lenOf, Builtin.firstCells, hnc, storeCells]
  · obtain ⟨v', w', hrun, h2, h3, _, h5⟩ := run_append_own_at (P := Try.prog) w base 49 ty 48 i _ 2 16 Try.underlying49 hi hz.1 hz.2.1 hz.2.2 rfl (by omega) v n _ hown.rawc ad m c (flat CeE ys) (by rw [flat_len, hlen]; rfl) (fun j u hu => by
        cases ys with
        | nil => simp [flat] at hu
        | cons y ys =>
          obtain ⟨b, off, e, _, hc⟩ := hcel (by simp [flat, CeE])
          cases e
          rw [Addr.add_lit]; exact hc j u hu) (flat_ce_one _) (by simp only [maxLen]; omega) (by omega) hbase
    refine ⟨v', w', hrun, Own.ofRawc (by rw [List.length_append]; omega) ?_, h3, h5⟩
    have e : flat CeE (xs ++ ys) = flat CeE xs ++ flat CeE ys := by simp [flat]
    rw [e]; exact h2

theorem wp_append_ces (w : World) {o : Oper} {a : Act} {K : Act → World → Prop} {Q : Exit → Act → World → Prop} (s x : Operand)
    (ho : o.op = .call { callee := .builtin .append, args := #[s, x], argTypes := #[49, 49] })
    (ok oks : Nat → Prop) (base : Nat) (v : Value) (n : Nat) (xs : List Ce) (hs : a.eval s = v) (hown : Own CeE 48 ok w base v n xs)
    (A : Option Addr) (m c : Nat) (ys : List Ce) (hx : a.eval x = .slice A m c) (hr : Sl CeE oks w A m c ys) (hb : n + m ≤ 1000000) (hbase : base ≤ w.heap.size)
    (h : ∀ A' c' w', Own CeE 48 ok w' base (.slice A' (n + m) c') (n + m) (xs ++ ys) → w.grownBy w' v.ownBlock → ((Value.slice A' (n + m) c').ownBlock = v.ownBlock ∨ (Value.slice A' (n + m) c').ownBlock = some w.heap.size) → K (a.put o.dst (.slice A' (n + m) c')) w') : o.wp Try.prog a w K Q := by
  obtain ⟨v', w', hrun, h2, h3, h4⟩ := run_append_ces w o.type ok oks base v n xs hown A m c ys hr hb hbase
  unfold Oper.wp execOp
  simp only [ho, resolve, invoke, builtin, Sem.run_bind, Sem.run_pure, Result.andThen_ok, List.map_toArray, List.map_cons, List.map_nil, hs, hx, hrun]
  obtain ⟨A', c', rfl, _⟩ := h2.form
  exact h A' c' w' h2 h3 h4
theorem wpList_append_ces (w : World) {ops : Array Oper} {rest : List Oper} {o : Oper} {a : Act} {Q : Exit → Act → World → Prop} (hgd : o.guard = none) (s x : Operand)
    (ho : o.op = .call { callee := .builtin .append, args := #[s, x], argTypes := #[49, 49] })
    (ok oks : Nat → Prop) (base : Nat) (v : Value) (n : Nat) (xs : List Ce) (hs : a.eval s = v) (hown : Own CeE 48 ok w base v n xs)
    (A : Option Addr) (m c : Nat) (ys : List Ce) (hx : a.eval x = .slice A m c) (hr : Sl CeE oks w A m c ys) (hb : n + m ≤ 1000000) (hbase : base ≤ w.heap.size)
    (h : ∀ A' c' w', Own CeE 48 ok w' base (.slice A' (n + m) c') (n + m) (xs ++ ys) → w.grownBy w' v.ownBlock → ((Value.slice A' (n + m) c').ownBlock = v.ownBlock ∨ (Value.slice A' (n + m) c').ownBlock = some w.heap.size) → wpList Try.prog ops Q rest (a.put o.dst (.slice A' (n + m) c')) w') : wpList Try.prog ops Q (o :: rest) a w :=
  wpList_plain hgd fun _ hK => wp_append_ces w s x ho ok oks base v n xs hs hown A m c ys hx hr hb hbase fun A' c' w' h2 h3 h4 => hK _ _ (h A' c' w' h2 h3 h4)

/-! ### slices.Clone of cells -/
def CloCP (w : World) (n : Nat) (xs : List Ce) (e : Ending) (w' : World) : Prop :=
  ∃ B d, e = .returned (.slice B n d) ∧ Own CeE 48 (fun _ => True) w' w.heap.size (.slice B n d) n xs ∧ Below w.heap.size w w'
set_option maxHeartbeats 400000 in
theorem clonece_c (ok : Nat → Prop) (A : Option Addr) (n c : Nat) (xs : List Ce) (w : World) (h : Sl CeE ok w A n c xs) (hn : n ≤ 1000000) :
    Calls Try.prog 41 #[.slice A n c] w (CloCP w n xs) := by
  have he := fun wx => Lib.run_eql_slice_nil (P := Try.prog) wx 49 48 A n c 0 0 Try.underlying49
  have hl := h.len
  rcases A with _ | ad
  · have hx : xs = [] := by
      cases xs with
      | nil => rfl
      | cons y ys =>
        obtain ⟨b, off, h, _⟩ := h.rawc (by simp [flat, CeE])
        cases h
    subst hx
    have hn0 : n = 0 := by simpa using hl.symm
    subst hn0
    clear h
    go_enter Try.func41, Try.ntmps41
    go_wp2
    go_ret
    exact ⟨_, _, rfl, Own.nil _ _, Below.refl _ _⟩
  · have H := Lib.hid h
    clear h
    go_enter Try.func41, Try.ntmps41
    go_wp2_with (at_builtin; refine wpList_append_ces _ rfl (.tmp 5) (.tmp 6) rfl (fun _ => True) ok w.heap.size (.slice (some ⟨w.heap.size, 0, none⟩) 0 0) 0 [] rfl (Own.ofRawc rfl (World.ownsRow_lit w #[] 0 (Nat.le_refl _) (by omega) rfl)) (some ad) n c xs rfl (H.out.al _) (by omega) (by simp) ?_; intro Av1 cv1 w1 hown1 hg1 hat1)
    go_ret
    exact ⟨_, _, rfl, by simpa using hown1, ((Below.refl _ _).alloc (Nat.le_refl _) _).grown hg1 (by simp) (by simp [Value.ownBlock])⟩
/-- a row of cells in a block of its own -/
def CeB (w : World) (b n c : Nat) (cs : List Ce) : Prop :=
  cs.length = n ∧ n ≤ c ∧ ∃ C : Array Value, Blk w b 48 C ∧ ∀ (i : Nat) (x : Ce), cs[i]? = some x → C[i * 2]? = some (.bool x.1) ∧ C[i * 2 + 1]? = some (.int .i64 x.2)
section
variable {w w' : World} {b n c base : Nat} {cs : List Ce}
theorem CeB.lt (h : CeB w b n c cs) : b < w.heap.size := by obtain ⟨_, _, C, h1, _⟩ := h; exact h1.lt
theorem CeB.len (h : CeB w b n c cs) : cs.length = n := h.1
theorem CeB.frozen (h : CeB w b n c cs) (i : Nat) : w.frozen? ⟨b, i, none⟩ = false := by obtain ⟨_, _, C, h1, _⟩ := h; exact h1.frozen i
theorem CeB.cell (h : CeB w b n c cs) {i : Nat} {x : Ce} (hx : cs[i]? = some x) : w.cell? ⟨b, i * 2, none⟩ = some (.bool x.1) ∧ w.cell? ⟨b, i * 2 + 1, none⟩ = some (.int .i64 x.2) := by
  obtain ⟨_, _, C, h1, h2⟩ := h
  exact ⟨(h1.cell _).trans (h2 i x hx).1, (h1.cell _).trans (h2 i x hx).2⟩
theorem CeB.agr (h : CeB w b n c cs) (hb : w'.heap[b]? = w.heap[b]?) : CeB w' b n c cs := by
  obtain ⟨h0, h3, C, h1, h2⟩ := h
  exact ⟨h0, h3, C, hb.trans h1, h2⟩
theorem CeB.via (h : CeB w b n c cs) (k : Below w.heap.size w w') : CeB w' b n c cs := h.agr (k.block b h.lt)
theorem CeB.al (h : CeB w b n c cs) (o : Obj) : CeB (w.alloc o) b n c cs := h.via ((Below.refl w.heap.size w).alloc (Nat.le_refl _) o)
theorem CeB.dr (h : CeB w b n c cs) : CeB w.drew b n c cs := h.via ((Below.refl w.heap.size w).drew)
theorem CeB.toSl (h : CeB w b n c cs) : Sl CeE (fun x => x = b) w (some ⟨b, 0, none⟩) n c cs := by
  obtain ⟨h0, h3, C, h1, h2⟩ := h
  refine ⟨h0, h3, cs, h0, fun _ => ⟨b, 0, rfl, rfl, fun j u hu => ?_⟩, fun i r x hr hx => by rw [hr] at hx; exact Option.some.inj hx⟩
  rw [Nat.zero_add, h1.cell]
  have hj : j < (flat CeE cs).length := (List.getElem?_eq_some_iff.1 hu).1
  rw [flat_len] at hj
  have hk : j / 2 < cs.length := by simp only [CeE] at hj; omega
  obtain ⟨x, hx⟩ : ∃ x, cs[j / 2]? = some x := ⟨_, List.getElem?_eq_getElem hk⟩
  obtain ⟨e0, e1⟩ := h2 _ x hx
  rcases Nat.mod_two_eq_zero_or_one j with hm | hm
  · have e : j = j / 2 * 2 := by omega
    have q := flat_at (E := CeE) cs (j / 2) x 0 (.bool x.1) hx rfl
    simp only [CeE, Nat.add_zero] at q
    rw [e] at hu ⊢
    have q2 : (flat CeE cs)[j / 2 * 2]? = some (.bool x.1) := q
    rw [hu] at q2
    rw [e0]; exact q2.symm
  · have e : j = j / 2 * 2 + 1 := by omega
    have q2 : (flat CeE cs)[j / 2 * 2 + 1]? = some (.int .i64 x.2) := flat_at (E := CeE) cs (j / 2) x 1 (.int .i64 x.2) hx rfl
    rw [e] at hu ⊢
    rw [hu] at q2
    rw [e1]; exact q2.symm
theorem CeB.setN (h : CeB w b n c cs) {i : Nat} {x : Ce} (hx : cs[i]? = some x) (v : Int) : CeB (w.setCell ⟨b, i * 2 + 1, none⟩ (.int .i64 v)) b n c (cs.set i (x.1, v)) := by
  obtain ⟨h0, h3, C, h1, h2⟩ := h
  refine ⟨by simp [h0], h3, _, h1.set_ (i * 2 + 1) (.int .i64 v), fun j y hy => ?_⟩
  have hi := (List.getElem?_eq_some_iff.1 hx).1
  have hC := (Array.getElem?_eq_some_iff.1 (h2 i x hx).2).1
  rw [Array.getElem?_setIfInBounds, Array.getElem?_setIfInBounds]
  by_cases e : i = j
  · subst e
    rw [List.getElem?_set_self hi] at hy
    cases hy
    rw [if_neg (by omega), if_pos rfl, if_pos hC]
    exact ⟨(h2 i x hx).1, rfl⟩
  · rw [List.getElem?_set_ne e] at hy
    rw [if_neg (by omega), if_neg (by omega)]
    exact h2 j y hy
theorem CeB.put (h : CeB w b n c cs) {i : Nat} {x : Ce} (hx : cs[i]? = some x) (y : Ce) : CeB ((w.setCell ⟨b, i * 2, none⟩ (.bool y.1)).setCell ⟨b, i * 2 + 1, none⟩ (.int .i64 y.2)) b n c (cs.set i y) := by
  obtain ⟨h0, h3, C, h1, h2⟩ := h
  refine ⟨by simp [h0], h3, _, (h1.set_ (i * 2) (.bool y.1)).set_ (i * 2 + 1) (.int .i64 y.2), fun j z hz => ?_⟩
  have hi := (List.getElem?_eq_some_iff.1 hx).1
  have hC := (Array.getElem?_eq_some_iff.1 (h2 i x hx).2).1
  simp only [Array.getElem?_setIfInBounds, Array.size_setIfInBounds]
  by_cases e : i = j
  · subst e
    rw [List.getElem?_set_self hi] at hz
    cases hz
    rw [if_neg (by omega), if_pos rfl, if_pos (by omega), if_pos rfl, if_pos hC]
    exact ⟨rfl, rfl⟩
  · rw [List.getElem?_set_ne e] at hz
    rw [if_neg (by omega), if_neg (by omega), if_neg (by omega), if_neg (by omega)]
    exact h2 j z hz
theorem Own.toCeB {ok : Nat → Prop} {A : Option Addr} (h : Own CeE 48 ok w base (.slice A n c) n cs) (hn : 0 < n) : ∃ b, A = some ⟨b, 0, none⟩ ∧ base ≤ b ∧ CeB w b n c cs := by
  have hr := h.rawc
  obtain ⟨hl, h2⟩ := hr
  rcases h2 with ⟨_, h0⟩ | ⟨g, cap, cur, e, hb, hh, hc, _, _, ht⟩
  · omega
  · cases e
    refine ⟨g, rfl, hb, h.len, hc, cur, hh, fun i x hx => ?_⟩
    have q0 := flat_at (E := CeE) cs i x 0 (.bool x.1) hx rfl
    have q1 := flat_at (E := CeE) cs i x 1 (.int .i64 x.2) hx rfl
    have q0 : (flat CeE cs)[i * 2]? = some (.bool x.1) := q0
    have q1 : (flat CeE cs)[i * 2 + 1]? = some (.int .i64 x.2) := q1
    rw [← ht, List.getElem?_take] at q0 q1
    have hi := (List.getElem?_eq_some_iff.1 hx).1
    have hln := h.len
    rw [if_pos (by omega)] at q0 q1
    exact ⟨by rw [← Array.getElem?_toList]; exact q0, by rw [← Array.getElem?_toList]; exact q1⟩
end

end Go.Proofs.Ytghnkgbingcbcaa
