/- parlkeep4.attributes, parlkeep4.occurrences; slices.Clone of occurrences. -/
import Derived.Test.YtgclibfikdonoaaYR
namespace Go.Proofs.Ytgclibfikdonoaa
open Go.RowKit

/-! ### append of a row of occurrences onto an own row -/
theorem flat_rf_one (xs : List Rf) : ∀ u ∈ flat RfE xs, u.oneCell' = true := by
  intro u hu
  obtain ⟨r, _, hr⟩ := List.mem_flatMap.1 hu
  exact RfE.one r u hr
theorem Sl.raws {w : World} {ok : Nat → Prop} {A : Option Addr} {n c : Nat} {xs : List Rf} (h : Sl RfE ok w A n c xs) : Cel ok w A (flat RfE xs) := by
  obtain ⟨h1, h2, raw, h3, h4, h5⟩ := h
  have : raw = xs := List.ext_getElem? fun i => by
    rcases Nat.lt_or_ge i n with hi | hi
    · have e1 : raw[i]? = some raw[i] := List.getElem?_eq_getElem (by omega)
      have e2 : xs[i]? = some xs[i] := List.getElem?_eq_getElem (by omega)
      rw [e1, e2]
      exact congrArg some (h5 i _ _ e1 e2)
    · rw [List.getElem?_eq_none (by omega), List.getElem?_eq_none (by omega)]
  rw [← this]; exact h4
theorem Own.raws {w : World} {ok : Nat → Prop} {base n : Nat} {v : Value} {xs : List Rf} (h : Own RfE 25 ok w base v n xs) : w.ownsRow base 25 2 v n (flat RfE xs) := by
  obtain ⟨h1, raw, h3, h4, h5⟩ := h
  have : raw = xs := List.ext_getElem? fun i => by
    rcases Nat.lt_or_ge i n with hi | hi
    · have e1 : raw[i]? = some raw[i] := List.getElem?_eq_getElem (by omega)
      have e2 : xs[i]? = some xs[i] := List.getElem?_eq_getElem (by omega)
      rw [e1, e2]
      exact congrArg some (h5 i _ _ e1 e2)
    · rw [List.getElem?_eq_none (by omega), List.getElem?_eq_none (by omega)]
  rw [← this]; exact h4
theorem Own.ofRaws {w : World} {ok : Nat → Prop} {base n : Nat} {v : Value} {xs : List Rf} (hl : xs.length = n) (h : w.ownsRow base 25 2 v n (flat RfE xs)) : Own RfE 25 ok w base v n xs :=
  ⟨hl, xs, hl, h, fun i r x hr hx => by rw [hr] at hx; exact Option.some.inj hx⟩

theorem run_append_rfs (w : World) (ty : TypeId) (ok oks : Nat → Prop) (base : Nat) (v : Value) (n : Nat) (xs : List Rf) (hown : Own RfE 25 ok w base v n xs)
    (A : Option Addr) (m c : Nat) (ys : List Rf) (hr : Sl RfE oks w A m c ys) (hb : n + m ≤ 1000000) (hbase : base ≤ w.heap.size) :
    ∃ v' w', (Builtin.append_ #[43, 43] ty #[v, .slice A m c]).run Try.prog w = .ok v' w' ∧ Own RfE 25 ok w' base v' (n + m) (xs ++ ys) ∧ w.grownBy w' v.ownBlock ∧
      (v'.ownBlock = v.ownBlock ∨ v'.ownBlock = some w.heap.size) := by
  obtain ⟨i, hi, hz⟩ := Option.map_eq_some_iff.1 ref_info
  simp only [Prod.mk.injEq] at hz
  have hlen := hr.len
  have hlx := hown.len
  have hcel := hr.raws
  rcases A with _ | ad
  · have hm : ys = [] := by
      cases ys with
      | nil => rfl
      | cons y ys =>
        obtain ⟨b, off, h, _⟩ := hcel (by simp [flat, RfE])
        cases h
    subst hm
    have hm0 : m = 0 := by simpa using hlen.symm
    subst hm0
    refine ⟨v, w, ?_, by simpa using hown, World.grownBy.refl w _, Or.inl rfl⟩
    rcases hown.raws.2 with ⟨rfl, rfl⟩ | ⟨g, cap, cur, rfl, _, _, hnc, _⟩
    · simp [Builtin.append_, run_underlying Try.underlying43, sizeOf, typeInfo, hi, Builtin.lenOf, Builtin.firstCells]
    · simp [Builtin.append_, run_underlying Try.underlying43, sizeOf, typeInfo, hi, Builtin.lenOf, Builtin.firstCells, hnc, storeCells]
  · obtain ⟨v', w', hrun, h2, h3, _, h5⟩ := run_append_own_at (P := Try.prog) w base 43 ty 25 i _ 2 16 Try.underlying43 hi hz.1 hz.2.1 hz.2.2 rfl (by omega) v n _ hown.raws ad m c (flat RfE ys) (by rw [flat_len, hlen]; rfl) (fun j u hu => by
        cases ys with
        | nil => simp [flat] at hu
        | cons y ys =>
          obtain ⟨b, off, e, _, hc⟩ := hcel (by simp [flat, RfE])
          cases e
          rw [Addr.add_lit]; exact hc j u hu) (flat_rf_one _) (by simp only [maxLen]; omega) (by omega) hbase
    refine ⟨v', w', hrun, Own.ofRaws (by rw [List.length_append]; omega) ?_, h3, h5⟩
    have e : flat RfE (xs ++ ys) = flat RfE xs ++ flat RfE ys := by simp [flat]
    rw [e]; exact h2

theorem wp_append_rfs (w : World) {o : Oper} {a : Act} {K : Act → World → Prop} {Q : Exit → Act → World → Prop} (s x : Operand)
    (ho : o.op = .call { callee := .builtin .append, args := #[s, x], argTypes := #[43, 43] })
    (ok oks : Nat → Prop) (base : Nat) (v : Value) (n : Nat) (xs : List Rf) (hs : a.eval s = v) (hown : Own RfE 25 ok w base v n xs)
    (A : Option Addr) (m c : Nat) (ys : List Rf) (hx : a.eval x = .slice A m c) (hr : Sl RfE oks w A m c ys) (hb : n + m ≤ 1000000) (hbase : base ≤ w.heap.size)
    (h : ∀ A' c' w', Own RfE 25 ok w' base (.slice A' (n + m) c') (n + m) (xs ++ ys) → w.grownBy w' v.ownBlock → ((Value.slice A' (n + m) c').ownBlock = v.ownBlock ∨ (Value.slice A' (n + m) c').ownBlock = some w.heap.size) → K (a.put o.dst (.slice A' (n + m) c')) w') : o.wp Try.prog a w K Q := by
  obtain ⟨v', w', hrun, h2, h3, h4⟩ := run_append_rfs w o.type ok oks base v n xs hown A m c ys hr hb hbase
  unfold Oper.wp execOp
  simp only [ho, resolve, invoke, builtin, Sem.run_bind, Sem.run_pure, Result.andThen_ok, List.map_toArray, List.map_cons, List.map_nil, hs, hx, hrun]
  obtain ⟨A', c', rfl, _⟩ := h2.form
  exact h A' c' w' h2 h3 h4
theorem wpList_append_rfs (w : World) {ops : Array Oper} {rest : List Oper} {o : Oper} {a : Act} {Q : Exit → Act → World → Prop} (hgd : o.guard = none) (s x : Operand)
    (ho : o.op = .call { callee := .builtin .append, args := #[s, x], argTypes := #[43, 43] })
    (ok oks : Nat → Prop) (base : Nat) (v : Value) (n : Nat) (xs : List Rf) (hs : a.eval s = v) (hown : Own RfE 25 ok w base v n xs)
    (A : Option Addr) (m c : Nat) (ys : List Rf) (hx : a.eval x = .slice A m c) (hr : Sl RfE oks w A m c ys) (hb : n + m ≤ 1000000) (hbase : base ≤ w.heap.size)
    (h : ∀ A' c' w', Own RfE 25 ok w' base (.slice A' (n + m) c') (n + m) (xs ++ ys) → w.grownBy w' v.ownBlock → ((Value.slice A' (n + m) c').ownBlock = v.ownBlock ∨ (Value.slice A' (n + m) c').ownBlock = some w.heap.size) → wpList Try.prog ops Q rest (a.put o.dst (.slice A' (n + m) c')) w') : wpList Try.prog ops Q (o :: rest) a w :=
  wpList_plain hgd fun _ hK => wp_append_rfs w s x ho ok oks base v n xs hs hown A m c ys hx hr hb hbase fun A' c' w' h2 h3 h4 => hK _ _ (h A' c' w' h2 h3 h4)

/-! ### slices.Clone of occurrences -/
def CloP (w : World) (n : Nat) (xs : List Rf) (e : Ending) (w' : World) : Prop :=
  ∃ B d, e = .returned (.slice B n d) ∧ Own RfE 25 (fun _ => True) w' w.heap.size (.slice B n d) n xs ∧ Below w.heap.size w w'
set_option maxHeartbeats 400000 in
theorem clonerf_c (ok : Nat → Prop) (A : Option Addr) (n c : Nat) (xs : List Rf) (w : World) (h : Sl RfE ok w A n c xs) (hn : n ≤ 1000000) :
    Calls Try.prog 24 #[.slice A n c] w (CloP w n xs) := by
  have he := fun wx => Lib.run_eql_slice_nil (P := Try.prog) wx 43 25 A n c 0 0 Try.underlying43
  have hl := h.len
  rcases A with _ | ad
  · have hx : xs = [] := by
      cases xs with
      | nil => rfl
      | cons y ys =>
        obtain ⟨b, off, h, _⟩ := h.raws (by simp [flat, RfE])
        cases h
    subst hx
    have hn0 : n = 0 := by simpa using hl.symm
    subst hn0
    clear h
    go_enter Try.func24, Try.ntmps24
    go_wp2
    go_ret
    exact ⟨_, _, rfl, Own.nil _ _, Below.refl _ _⟩
  · have H := Lib.hid h
    clear h
    go_enter Try.func24, Try.ntmps24
    go_wp2_with (at_builtin; refine wpList_append_rfs _ rfl (.tmp 5) (.tmp 6) rfl (fun _ => True) ok w.heap.size (.slice (some ⟨w.heap.size, 0, none⟩) 0 0) 0 [] rfl (Own.ofRaws rfl (World.ownsRow_lit w #[] 0 (Nat.le_refl _) (by omega) rfl)) (some ad) n c xs rfl (H.out.al _) (by omega) (by simp) ?_; intro Av1 cv1 w1 hown1 hg1 hat1)
    go_ret
    exact ⟨_, _, rfl, by simpa using hown1, ((Below.refl _ _).alloc (Nat.le_refl _) _).grown hg1 (by simp) (by simp [Value.ownBlock])⟩
end Go.Proofs.Ytgclibfikdonoaa
