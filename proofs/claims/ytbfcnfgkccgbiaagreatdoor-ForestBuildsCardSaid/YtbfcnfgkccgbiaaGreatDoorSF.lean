/- Texts SF, SG, SH, laid together. -/
import Derived.Test.YtbfcnfgkccgbiaaGreatDoorSD
import Derived.Test.YtbfcnfgkccgbiaaGreatDoorBO
import Derived.Laws.StructEq


namespace Go.Proofs.YtbfcnfgkccgbiaaGreatDoor
open Go.RowKit

/-- what is done, what waits, what is left -/
structure Stk (D : Ky → Bool) (R : List Ru) (root : Ky) (B : Nat) (M S : List Ky) (left : Nat) : Prop where
  nodup : M.Nodup
  rin : root ∈ M ∨ root ∈ S
  sndM : ∀ k ∈ M, RchK D R root k
  sndS : ∀ k ∈ S, RchK D R root k
  cls : ∀ k ∈ M, ∀ q ∈ kidsF D R k, q ∈ M ∨ q ∈ S
  cnt : left + (M.map fun k => (packsF D R k).length).sum = B
  len : S.length + 4 * left ≤ 4 * B + 1
section
variable {D : Ky → Bool} {R : List Ru} {root x : Ky} {B left : Nat} {M S : List Ky}
theorem Stk.start (D : Ky → Bool) (R : List Ru) (root : Ky) (B : Nat) : Stk D R root B [] [root] B :=
  ⟨List.nodup_nil, Or.inr (by simp), by simp, fun k h => by simp at h; subst h; exact .root, by simp, by simp, by simp; omega⟩
theorem Stk.skip (h : Stk D R root B M (S ++ [x]) left) (hx : x ∈ M) : Stk D R root B M S left := by
  have hm : ∀ q, q ∈ S ++ [x] → q ∈ M ∨ q ∈ S := fun q hq => by
    rcases List.mem_append.1 hq with h | h
    · exact Or.inr h
    · rw [List.mem_singleton.1 h]; exact Or.inl hx
  refine ⟨h.nodup, ?_, h.sndM, fun k hk => h.sndS k (by simp [hk]), fun k hk q hq => ?_, h.cnt, by have := h.len; simp at this; omega⟩
  · rcases h.rin with h1 | h1
    · exact Or.inl h1
    · exact hm _ h1
  · rcases h.cls k hk q hq with h1 | h1
    · exact Or.inl h1
    · exact hm _ h1
theorem kids_len4 {k : Ky} (hR : ∀ u ∈ R, u.2.length ≤ 4) : (kidsF D R k).length ≤ 4 * (packsF D R k).length := by
  unfold kidsF
  have h4 : ∀ p ∈ packsF D R k, p.2.length ≤ 4 := fun p hp => by
    obtain ⟨-, u, hu, -, hw⟩ := packs_mem hp
    have h1 := hw.len
    have h2 := hR u (List.mem_of_getElem? hu)
    omega
  generalize packsF D R k = l at h4
  induction l with
  | nil => simp
  | cons p l ih =>
    have h1 := h4 p (by simp)
    have h2 := ih fun q hq => h4 q (by simp [hq])
    simp only [List.flatMap_cons, List.length_append, List.length_cons]
    omega
theorem Stk.take (h : Stk D R root B M (S ++ [x]) left) (hx : x ∉ M) (hR : ∀ u ∈ R, u.2.length ≤ 4) {left' : Nat} (hl : left = left' + (packsF D R x).length) : Stk D R root B (M ++ [x]) (S ++ kidsF D R x) left' := by
  have hk := kids_len4 (D := D) (k := x) hR
  have hrx := h.sndS x (by simp)
  have hm : ∀ q, q ∈ S ++ [x] → q ∈ M ++ [x] ∨ q ∈ S ++ kidsF D R x := fun q hq => by
    rcases List.mem_append.1 hq with h | h
    · exact Or.inr (by simp [h])
    · exact Or.inl (by simp [List.mem_singleton.1 h])
  refine ⟨?_, ?_, fun k hk => ?_, fun k hk => ?_, fun k hk q hq => ?_, ?_, ?_⟩
  · rw [List.nodup_append]
    exact ⟨h.nodup, by simp, fun a ha b hb e => by simp at hb; subst hb; subst e; exact hx ha⟩
  · rcases h.rin with h1 | h1
    · exact Or.inl (by simp [h1])
    · exact hm _ h1
  · rcases List.mem_append.1 hk with hk | hk
    · exact h.sndM k hk
    · rw [List.mem_singleton.1 hk]; exact hrx
  · rcases List.mem_append.1 hk with hk | hk
    · exact h.sndS k (by simp [hk])
    · exact hrx.kids hk
  · rcases List.mem_append.1 hk with hk | hk
    · rcases h.cls k hk q hq with h1 | h1
      · exact Or.inl (by simp [h1])
      · exact hm _ h1
    · rw [List.mem_singleton.1 hk] at hq
      exact Or.inr (by simp [hq])
  · have := h.cnt
    rw [List.map_append, List.sum_append]
    simp; omega
  · have := h.len
    simp only [List.length_append, List.length_singleton] at this ⊢
    omega
/-- too many -/
theorem Stk.large (h : Stk D R root B M (S ++ [x]) left) (hx : x ∉ M) (hl : left < (packsF D R x).length) (L : List Ky) (hL : IsNds D R root L) : B < totP D R L := by
  have h1 : ((M ++ [x]).map fun k => (packsF D R k).length).sum ≤ (L.map fun k => (packsF D R k).length).sum := by
    refine sum_sub ?_ fun k hk => ?_
    · rw [List.nodup_append]
      exact ⟨h.nodup, by simp, fun a ha b hb e => by simp at hb; subst hb; subst e; exact hx ha⟩
    · rcases List.mem_append.1 hk with hk | hk
      · exact (hL.mem k).2 (h.sndM k hk)
      · rw [List.mem_singleton.1 hk]; exact (hL.mem x).2 (h.sndS x (by simp))
  have h2 := h.cnt
  rw [List.map_append, List.sum_append] at h1
  simp at h1
  unfold totP
  omega
theorem Stk.done (h : Stk D R root B M [] left) (k : Ky) : k ∈ M ↔ RchK D R root k := by
  refine ⟨h.sndM k, fun hr => ?_⟩
  induction hr with
  | root => rcases h.rin with h1 | h1
            · exact h1
            · simp at h1
  | kid _ hp hq ih =>
    rcases h.cls _ ih _ (List.mem_flatMap.2 ⟨_, hp, hq⟩) with h1 | h1
    · exact h1
    · simp at h1
theorem Stk.nds {L' : List Ky} (h : Stk D R root B M [] left) (hp : L'.Perm M) (hs : L'.Pairwise fun a b => kyN a ≤ kyN b) (hok : ∀ k ∈ M, k.Ok) : IsNds D R root L' := by
  refine ⟨?_, fun k => by rw [hp.mem_iff, h.done]⟩
  have hn : L'.Nodup := hp.nodup_iff.2 h.nodup
  rw [List.nodup_iff_pairwise_ne] at hn
  refine (hs.and hn).imp_of_mem fun {a b} ha hb hab => ?_
  have := hab.2
  have h2 : kyN a ≠ kyN b := fun e => hab.2 (kyN_inj (hok a (hp.mem_iff.1 ha)) (hok b (hp.mem_iff.1 hb)) e)
  have h1 := hab.1
  omega
end
/-! ### append of a row onto an own row; an own row without its last -/
section
variable {α ρ : Type} {E : Elem α ρ} {e : TypeId} {ok : Nat → Prop} {w : World} {base n : Nat} {v : Value} {l : List α}
theorem run_append_owned_empty (t ty e : TypeId) (i : TypeInfo) (size : Nat) (ht : Tryz.prog.underlying t = some (.slice e)) (hi : Tryz.prog.info? e = some i)
    (v : Value) (n : Nat) (xs : List Value) (hown : w.ownsRow base e size v n xs) (B : Option Addr) (d : Nat) : (Builtin.append_ #[t, t] ty #[v, .slice B 0 d]).run Tryz.prog w = .ok v w := by
  rcases hown.2 with ⟨rfl, rfl⟩ | ⟨g, cap, cur, rfl, _, _, hnc, _⟩
  · cases B <;> simp [Builtin.append_, run_underlying ht, sizeOf, typeInfo, hi, Builtin.lenOf, Builtin.firstCells, loadCells, loadCellsFrom]
  · cases B <;> simp [Builtin.append_, run_underlying ht, sizeOf, typeInfo, hi, Builtin.lenOf, Builtin.firstCells, hnc, storeCells, loadCells, loadCellsFrom]
theorem flat_one (raw : List ρ) (u : Value) (h : u ∈ flat E raw) : u.oneCell' = true := by
  obtain ⟨r, -, hr⟩ := List.mem_flatMap.1 h
  exact E.one r u hr
theorem flat_app (a b : List ρ) : flat E (a ++ b) = flat E a ++ flat E b := by simp [flat]
theorem run_appends_E (w : World) (t ty e : TypeId) (i : TypeInfo) (z : Value) (bytes : Nat) (ht : Tryz.prog.underlying t = some (.slice e)) (hi : Tryz.prog.info? e = some i) (hz : i.zero = some z) (hs : i.size = E.k) (hby : i.bytes = bytes) (hzs : z.cells.size = E.k)
    (ok : Nat → Prop) (base : Nat) (v : Value) (n : Nat) (l : List α) (hown : Own E e ok w base v n l)
    (B : Option Addr) (m d : Nat) (ys : List α) (hsl : Sl E (fun b => ok b ∧ some b ≠ v.ownBlock) w B m d ys)
    (h63 : n + m ≤ maxLen) (hbytes : (n + m) * bytes ≤ 140737488355328) (hbase : base ≤ w.heap.size) :
    ∃ A' c' w', (Builtin.append_ #[t, t] ty #[v, .slice B m d]).run Tryz.prog w = .ok (.slice A' (n + m) c') w' ∧ Own E e ok w' base (.slice A' (n + m) c') (n + m) (l ++ ys) ∧ w.grownBy w' v.ownBlock ∧
      ((Value.slice A' (n + m) c').ownBlock = v.ownBlock ∨ (Value.slice A' (n + m) c').ownBlock = some w.heap.size) := by
  by_cases hm : m = 0
  · subst hm
    have hys : ys = [] := List.eq_nil_of_length_eq_zero hsl.len
    subst hys
    obtain ⟨A, c, rfl, hc⟩ := hown.form
    have h := hown
    obtain ⟨h1, raw, h3, h4, h5⟩ := h
    refine ⟨A, c, w, ?_, by simpa using hown, ⟨rfl, rfl, rfl, Nat.le_refl _, fun _ _ _ => rfl⟩, Or.inl rfl⟩
    exact run_append_owned_empty t ty e i E.k ht hi _ n _ h4 B d
  · obtain ⟨g1, g2, raw2, g3, g4, g5⟩ := hsl
    have hne : flat E raw2 ≠ [] := fun e => by
      have := flat_len (E := E) raw2
      rw [e, g3] at this
      have hp := Nat.mul_pos (show 0 < m by omega) E.pos
      simp at this; omega
    obtain ⟨b, off, rfl, hb, hcell⟩ := g4 hne
    obtain ⟨h1, raw, h3, h4, h5⟩ := hown
    obtain ⟨v', w', hrun, h6, h7, _, h8⟩ := run_append_own_at (P := Tryz.prog) w base t ty e i z E.k bytes ht hi hz hs hby hzs E.pos v n _ h4 ⟨b, off, none⟩ m d (flat E raw2) (by rw [flat_len, g3]) (fun j u hu => by rw [Addr.add_lit]; exact hcell j u hu) (fun u hu => flat_one raw2 u hu) h63 hbytes hbase
    have hown' : Own E e ok w' base v' (n + m) (l ++ ys) := by
      refine ⟨by simp [h1, g1], raw ++ raw2, by simp [h3, g3], by rw [flat_app]; exact h6, fun i r' x' hr' hx' => ?_⟩
      have key : E.rel (fun b => ok b ∧ some b ≠ v.ownBlock) w r' x' := by
        rcases Nat.lt_or_ge i n with hi' | hi'
        · rw [List.getElem?_append_left (by omega)] at hr' hx'
          exact h5 i r' x' hr' hx'
        · rw [List.getElem?_append_right (by omega)] at hr' hx'
          rw [h3] at hr'; rw [h1] at hx'
          exact g5 _ r' x' hr' hx'
      have k1 := E.mono (ok' := fun b => (ok b ∧ some b ≠ v.ownBlock) ∧ b < w.heap.size) key fun b hb hk => ⟨hk, hb⟩
      refine E.mono (E.agr k1 (Agr.grown h7 fun b hb => hb.1.2)) fun b _ hk => ⟨hk.1.1, ?_⟩
      rcases h8 with e8 | e8
      · rw [e8]; exact hk.1.2
      · rw [e8]; intro e9; cases e9; exact absurd hk.2 (Nat.lt_irrefl _)
    obtain ⟨A', c', rfl, _⟩ := hown'.form
    exact ⟨A', c', w', hrun, hown', h7, h8⟩
theorem wpList_appends_E {ops : Array Oper} {rest : List Oper} {o : Oper} {a : Act} {Q : Exit → Act → World → Prop} (w : World) (hgd : o.guard = none) (s y : Operand) (t e : TypeId)
    (ho : o.op = .call { callee := .builtin .append, args := #[s, y], argTypes := #[t, t] }) (i : TypeInfo) (z : Value) (bytes : Nat) (ht : Tryz.prog.underlying t = some (.slice e)) (hi : Tryz.prog.info? e = some i) (hz : i.zero = some z) (hs : i.size = E.k) (hby : i.bytes = bytes) (hzs : z.cells.size = E.k)
    (ok : Nat → Prop) (base : Nat) (v : Value) (n : Nat) (l : List α) (hv : a.eval s = v) (hown : Own E e ok w base v n l)
    (B : Option Addr) (m d : Nat) (ys : List α) (hy : a.eval y = .slice B m d) (hsl : Sl E (fun b => ok b ∧ some b ≠ v.ownBlock) w B m d ys)
    (h63 : n + m ≤ maxLen) (hbytes : (n + m) * bytes ≤ 140737488355328) (hbase : base ≤ w.heap.size)
    (h : ∀ A' c' w', Own E e ok w' base (.slice A' (n + m) c') (n + m) (l ++ ys) → w.grownBy w' v.ownBlock → ((Value.slice A' (n + m) c').ownBlock = v.ownBlock ∨ (Value.slice A' (n + m) c').ownBlock = some w.heap.size) → wpList Tryz.prog ops Q rest (a.put o.dst (.slice A' (n + m) c')) w') :
    wpList Tryz.prog ops Q (o :: rest) a w :=
  wpList_plain hgd fun K hK => by
    obtain ⟨A', c', w', hrun, h2, h3, h4⟩ := run_appends_E w t o.type e i z bytes ht hi hz hs hby hzs ok base v n l hown B m d ys hsl h63 hbytes hbase
    unfold Oper.wp execOp
    simp only [ho, resolve, invoke, builtin, Sem.run_bind, Sem.run_pure, Result.andThen_ok, List.map_toArray, List.map_cons, List.map_nil, hv, hy, hrun]
    exact hK _ _ (h A' c' w' h2 h3 h4)
theorem Own.pop {A : Option Addr} {c : Nat} {x : α} (h : Own E e ok w base (.slice A (n + 1) c) (n + 1) (l ++ [x])) : Own E e ok w base (.slice A n c) n l := by
  obtain ⟨h1, raw, h3, h4, h5⟩ := h
  have hl : l.length = n := by simp at h1; exact h1
  have hob : (Value.slice A n c).ownBlock = (Value.slice A (n + 1) c).ownBlock := by cases A <;> rfl
  refine ⟨hl, raw.take n, by rw [List.length_take]; omega, ⟨by rw [flat_len, List.length_take, h3, Nat.min_eq_left (by omega)], ?_⟩, fun i r x' hr hx => ?_⟩
  · rcases h4.2 with ⟨-, h0⟩ | ⟨g, cap, cur, hv, hbg, hh, hc1, hc2, hc3, hc4⟩
    · omega
    · cases hv
      refine Or.inr ⟨g, c, cur, rfl, hbg, hh, by omega, hc2, hc3, ?_⟩
      have e1 : flat E raw = flat E (raw.take n) ++ flat E (raw.drop n) := by rw [← flat_app, List.take_append_drop]
      rw [e1] at hc4
      have e2 : (flat E (raw.take n)).length = n * E.k := by rw [flat_len, List.length_take, h3, Nat.min_eq_left (by omega)]
      have e3 : cur.toList.take (n * E.k) = (cur.toList.take ((n + 1) * E.k)).take (n * E.k) := by
        rw [List.take_take, Nat.min_eq_left (Nat.mul_le_mul_right _ (by omega))]
      rw [e3, hc4, ← e2]
      exact List.take_left
  · rw [hob]
    have hi : i < n := by
      have := (List.getElem?_eq_some_iff.1 hr).1
      rw [List.length_take] at this; omega
    rw [List.getElem?_take_of_lt hi] at hr
    exact h5 i r x' hr (by rw [List.getElem?_append_left (by omega)]; exact hx)
end
end Go.Proofs.YtbfcnfgkccgbiaaGreatDoor




namespace Go.Proofs.YtbfcnfgkccgbiaaGreatDoor
open Go.RowKit
open Go.Sort (grow alloc_eq_grow grow_grow grow_empty SWO)

theorem Ints.threeA (w : World) (m : Nat) (x y z : Int) (t : TypeId) (h : m = w.heap.size) : Ints (w.alloc (.cells #[.int .i64 x, .int .i64 y, .int .i64 z] t)) (some ⟨m, 0, none⟩) 3 3 [x, y, z] := by subst h; exact Ints.threeB w x y z t
/-! ### the order of spans -/
def befR (s : Sy) : Int := if s.1 then (s.2 : Int) else 100 + (s.2 : Int)
def befK (a : Ky) : List Int := [(a.2.1 : Int), (a.2.2 : Int), befR a.1]
def befCmp (a b : Ky) : Int := cmpL (befK a) (befK b)
theorem befCmp_le {a b : Ky} (ha : a.Ok) (hb : b.Ok) (h : befCmp a b ≤ 0) : kyN a ≤ kyN b := by
  obtain ⟨⟨ab, an⟩, ai, aj⟩ := a
  obtain ⟨⟨bb, bn⟩, bi, bj⟩ := b
  obtain ⟨h1, h2, h3⟩ := ha
  obtain ⟨k1, k2, k3⟩ := hb
  simp only at h1 h2 h3 k1 k2 k3
  simp only [befCmp, befK, befR, cmpL, cmpI] at h
  simp only [kyN, rkS]
  cases ab <;> cases bb <;> simp only [Bool.false_eq_true, if_false, if_true] at h ⊢ <;> (repeat' split at h) <;> omega
set_option maxHeartbeats 1000000 in
theorem rank_c (b : Bool) (n : Nat) (hn : n ≤ 1000000) (w : World) : Calls Tryz.prog 76 #[.agg #[.bool b, .int .i64 (n : Int)]] w (GrwI w (befR (b, n))) := by
  have B0 := Blk.new w 66 #[.bool b, .int .i64 (n : Int)]
  have HG := Lib.hid ((Grw.refl w).al (.cells #[.bool b, .int .i64 (n : Int)] 66))
  go_enter Tryz.func76, Tryz.ntmps76
  have cB0 := B0.cell
  have fB0 := B0.frozen
  have lB0 := B0.lt
  cases b with
  | true =>
    go_wp2_with fail
    go_ret
    exact ⟨rfl, HG.out⟩
  | false =>
    go_wp2_with fail
    go_ret
    exact ⟨by simp [befR, go_sem], HG.out⟩
set_option maxRecDepth 100000 in
set_option maxHeartbeats 4000000 in
theorem before_c (a b : Ky) (ha : a.1.2 ≤ 1000000) (hb : b.1.2 ≤ 1000000) (w : World) : Calls Tryz.prog 45 #[.agg (kyC a), .agg (kyC b)] w (GrwI w (befCmp a b)) := by
  obtain ⟨⟨ab, an⟩, ai, aj⟩ := a
  obtain ⟨⟨bb, bn⟩, bi, bj⟩ := b
  have B0 := (Blk.new w 68 (kyC ((ab, an), ai, aj))).al (.cells (kyC ((bb, bn), bi, bj)) 68)
  have B1 := Blk.newAt (w.alloc (.cells (kyC ((ab, an), ai, aj)) 68)) 68 (kyC ((bb, bn), bi, bj)) (w.heap.size + 1) (by simp)
  have HG := Lib.hid (((Grw.refl w).al (.cells (kyC ((ab, an), ai, aj)) 68)).al (.cells (kyC ((bb, bn), bi, bj)) 68))
  simp only [kyC] at *
  obtain ⟨va, hva⟩ : ∃ v, v = befR (ab, an) := ⟨_, rfl⟩
  obtain ⟨vb, hvb⟩ : ∃ v, v = befR (bb, bn) := ⟨_, rfl⟩
  have HV := Lib.hid (show befCmp ((ab, an), ai, aj) ((bb, bn), bi, bj) = cmpL [(ai : Int), (aj : Int), va] [(bi : Int), (bj : Int), vb] by rw [hva, hvb]; rfl)
  have JA := Lib.hid (show ∀ W, Calls Tryz.prog 76 #[.agg #[.bool ab, .int .i64 (an : Int)]] W (GrwI W va) from fun W => by rw [hva]; exact rank_c ab an ha W)
  have JB := Lib.hid (show ∀ W, Calls Tryz.prog 76 #[.agg #[.bool bb, .int .i64 (bn : Int)]] W (GrwI W vb) from fun W => by rw [hvb]; exact rank_c bb bn hb W)
  clear hva hvb
  go_enter Tryz.func45, Tryz.ntmps45
  go_upto_region 2 with fail
  generalize (w.alloc (.cells #[.bool ab, .int .i64 (an : Int), .int .i64 (ai : Int), .int .i64 (aj : Int)] 68)).alloc (.cells #[.bool bb, .int .i64 (bn : Int), .int .i64 (bi : Int), .int .i64 (bj : Int)] 68) = W at *
  have SOF := Lib.hid (show ∀ w', Grw W w' → ((∀ i, w'.cell? ⟨w.heap.size, i, none⟩ = #[.bool ab, .int .i64 (an : Int), .int .i64 (ai : Int), .int .i64 (aj : Int)][i]?) ∧ (∀ i, w'.cell? ⟨w.heap.size + 1, i, none⟩ = #[.bool bb, .int .i64 (bn : Int), .int .i64 (bi : Int), .int .i64 (bj : Int)][i]?) ∧ Grw W w') from fun w' hb => ⟨(B0.via hb.below).cell, (B1.via hb.below).cell, hb⟩)
  have hb0 := (Grw.refl W).dr
  clear B0 B1
  go_region_held3 (fun w' => (∀ i, w'.cell? ⟨w.heap.size, i, none⟩ = #[.bool ab, .int .i64 (an : Int), .int .i64 (ai : Int), .int .i64 (aj : Int)][i]?) ∧ (∀ i, w'.cell? ⟨w.heap.size + 1, i, none⟩ = #[.bool bb, .int .i64 (bn : Int), .int .i64 (bi : Int), .int .i64 (bj : Int)][i]?) ∧ Grw W w') (exact SOF.out _ (by (first | assumption | exact Grw.al (by assumption) _ | exact Grw.al (Grw.al (by assumption) _) _))) (first
    | (go_at_call 76; (with_reducible refine (JA.out _).mono ?_); rintro ee wk ⟨rfl, hgo⟩; have hgw : Grw W wk := Grw.trans (by (first | assumption | exact Grw.al (by assumption) _ | exact Grw.al (Grw.al (by assumption) _) _)) hgo)
    | (go_at_call 76; (with_reducible refine (JB.out _).mono ?_); rintro ee wk ⟨rfl, hgo⟩; have hgw : Grw W wk := Grw.trans (by (first | assumption | exact Grw.al (by assumption) _ | exact Grw.al (Grw.al (by assumption) _) _)) hgo)
    | (go_at_call 40; (with_reducible refine (cmpL_c (some ⟨_, 0, none⟩) (some ⟨_, 0, none⟩) 3 3 3 3 [(ai : Int), (aj : Int), va] [(bi : Int), (bj : Int), vb] _ (by (first | exact Ints.threeA _ _ _ _ _ _ (by first | rfl | simp) | exact (Ints.threeA _ _ _ _ _ _ (by first | rfl | simp)).via ((Below.refl _ _).al _) | (refine Ints.via ?_ ((Below.refl _ _).al _); exact (Ints.threeA _ _ _ _ _ _ (by first | rfl | simp)).via (Grw.below (by assumption))))) (by (first | exact Ints.threeA _ _ _ _ _ _ (by first | rfl | simp) | exact (Ints.threeA _ _ _ _ _ _ (by first | rfl | simp)).via ((Below.refl _ _).al _) | (refine Ints.via ?_ ((Below.refl _ _).al _); exact (Ints.threeA _ _ _ _ _ _ (by first | rfl | simp)).via (Grw.below (by assumption))))) (by simp)).mono ?_); rintro ee wk2 ⟨rfl, rfl⟩))
  all_goals (go_wp2_with fail; go_ret; exact ⟨by rw [HV.out]; rfl, HG.out.trans (by (first | assumption | exact Grw.al (by assumption) _ | exact Grw.al (Grw.al (by assumption) _) _))⟩)
end Go.Proofs.YtbfcnfgkccgbiaaGreatDoor




namespace Go.Proofs.YtbfcnfgkccgbiaaGreatDoor
open Go.RowKit
open Go.Sort (grow alloc_eq_grow grow_grow grow_empty SWO)

set_option maxRecDepth 100000 in
theorem sortSpan_c (ok : Nat → Prop) (w : World) (base n : Nat) (A : Option Addr) (c : Nat) (l : List Ky) (hn : n ≤ 1000000) (hl : ∀ x ∈ l, x.1.2 ≤ 1000000) (hown : Own KyE 68 ok w base (.slice A n c) n l) :
    Calls Tryz.prog 44 #[.slice A n c, .func (.func 45) #[] #[]] w (SortPX KyE 68 ok base n A c l befCmp w) := by
  refine sort_x KyE laysSpan Tryz.isAgg68 Tryz.sizeOf68 45 #[] (enters_c (c := _) (fn := Tryz.f45) rfl (by kernel_rfl) rfl) befCmp (fun p => swoKey befK befCmp (fun _ _ => rfl) p) (antiKey befK befCmp fun _ _ => rfl) 68 ok (fun x => x.1.2 ≤ 1000000) w base n A c l hn hl hown ?_
  rintro g - W - - ⟨⟨r, x⟩, h, hx⟩ ⟨⟨r', y⟩, h', hy⟩
  obtain rfl : r = x := h
  obtain rfl : r' = y := h'
  exact before_c r r' hx hy W
/-! ### the index -/
theorem span_eql (a b : Ky) (w : World) : (binOp .eql 68 (.agg (kyC a)) (.agg (kyC b))).run Tryz.prog w = .ok (.bool (decide (a = b))) w := by
  obtain ⟨⟨ab, an⟩, ai, aj⟩ := a
  obtain ⟨⟨bb, bn⟩, bi, bj⟩ := b
  simp [kyC, go_sem]
  by_cases h1 : ab = bb <;> by_cases h2 : an = bn <;> by_cases h3 : ai = bi <;> by_cases h4 : aj = bj <;> simp [h1, h2, h3, h4] <;> (intros; omega)
def IdxP (w : World) (i : Nat) (e : Ending) (w' : World) : Prop := e = .returned (.int .i64 (i : Int)) ∧ Below w.heap.size w w'
set_option maxRecDepth 100000 in
set_option maxHeartbeats 4000000 in
theorem index_c (ok : Nat → Prop) (A : Option Addr) (n c : Nat) (l : List Ky) (k : Ky) (w : World) (h : Sl KyE ok w A n c l) (hk : k ∈ l) (hn : n ≤ 1000000) :
    Calls Tryz.prog 47 #[.slice A n c, kyVal k] w (IdxP w (idxK l k)) := by
  have hlen := h.len
  have hix := idxK_lt hk
  have HAT := Lib.hid (idxK_get hk)
  have HBF := Lib.hid (show ∀ m x, m < idxK l k → l[m]? = some x → x ≠ k from fun m x hm hx e => by
    subst e
    have h0 := (List.getElem?_eq_some_iff.1 hx)
    have h1 := List.not_of_lt_findIdx (p := (· == x)) (xs := l) (i := m) hm
    simp [h0.2] at h1)
  obtain ⟨ix, hixe⟩ : ∃ ix, ix = idxK l k := ⟨_, rfl⟩
  rw [← hixe] at HAT HBF hix ⊢
  clear hixe
  have HS := Lib.hid h
  obtain ⟨⟨kb, kN⟩, ki, kj⟩ := k
  have B0 := Blk.new w 68 #[.bool kb, .int .i64 (kN : Int), .int .i64 (ki : Int), .int .i64 (kj : Int)]
  have hb0 := (Below.refl w.heap.size w).al (.cells #[.bool kb, .int .i64 (kN : Int), .int .i64 (ki : Int), .int .i64 (kj : Int)] 68)
  simp only [kyVal]
  clear h hk
  go_enter Tryz.func47, Tryz.ntmps47
  go_wp2_with fail
  generalize w.alloc (.cells #[.bool kb, .int .i64 (kN : Int), .int .i64 (ki : Int), .int .i64 (kj : Int)] 68) = W at *
  go_loopw [8] (fun q wr => ∃ i : Nat, q = .int .i64 i ∧ i ≤ ix ∧ Hid (Below W.heap.size W wr)) (fun q _ => n - (intOf q).toNat)
  case atStart => exact ⟨0, rfl, Nat.zero_le _, Lib.hid (Below.refl _ _)⟩
  case round =>
    obtain ⟨i, rfl, hi, hB⟩ := hrel
    have hin : i < n := by omega
    obtain ⟨b1, o1, k0, k1, hA, -, hb1, hk, hkk, hcl⟩ := HS.out.at_ hin
    obtain rfl : k0 = k1 := hkk
    subst hA
    obtain ⟨⟨qb, qN⟩, qi, qj⟩ := k0
    have i0 : (0 : Int) ≤ (i : Int) := by omega
    have i1 : (i : Int) < (n : Int) := by omega
    have hbw := hb0.via hB.out
    have BK := B0.via hB.out
    have d1 := (hbw.cell (p := ⟨b1, o1 + i * KyE.k + 0, none⟩) hb1).trans (hcl 0 _ rfl)
    have d2 := (hbw.cell (p := ⟨b1, o1 + i * KyE.k + 1, none⟩) hb1).trans (hcl 1 _ rfl)
    have d3 := (hbw.cell (p := ⟨b1, o1 + i * KyE.k + 2, none⟩) hb1).trans (hcl 2 _ rfl)
    have d4 := (hbw.cell (p := ⟨b1, o1 + i * KyE.k + 3, none⟩) hb1).trans (hcl 3 _ rfl)
    simp only [KyE, Nat.add_zero] at d1 d2 d3 d4
    have HBW := Lib.hid hbw
    have HK := Lib.hid hk
    clear hcl hbw hk hb0 B0
    have cBK := BK.cell
    have fBK := BK.frozen
    have lBK := BK.lt
    go_upto_region 4 with fail
    by_cases hii : i = ix
    · subst hii
      have hkq : ((qb, qN), qi, qj) = ((kb, kN), ki, kj) := Option.some.inj (HK.out.symm.trans HAT.out)
      have he := fun wx => span_eql ((kb, kN), ki, kj) ((qb, qN), qi, qj) wx
      simp only [hkq, kyC, decide_true] at he
      have h1 := congrArg (fun x : Ky => x.1.1) hkq
      have h2 := congrArg (fun x : Ky => x.1.2) hkq
      have h3 := congrArg (fun x : Ky => x.2.1) hkq
      have h4 := congrArg (fun x : Ky => x.2.2) hkq
      simp only at h1 h2 h3 h4
      subst h1 h2 h3 h4
      clear hkq
      go_quiet (fail)
      clear cBK fBK lBK
      clear BK d1 d2 d3 d4 he
      go_wp2_with fail
      go_ret
      exact ⟨rfl, HBW.out.trans ((below_drewN (Below.refl _ _) nq).mono HBW.out.size)⟩
    · have hne : ((kb, kN), ki, kj) ≠ ((qb, qN), qi, qj) := fun e => HBF.out i _ (by omega) HK.out e.symm
      have he := fun wx => span_eql ((kb, kN), ki, kj) ((qb, qN), qi, qj) wx
      simp only [hne, kyC, decide_false] at he
      clear hne
      go_quiet (fail)
      clear cBK fBK lBK
      clear BK d1 d2 d3 d4 he
      have hb2 := Lib.hid (hB.out.trans ((below_drewN (Below.refl wr.heap.size wr) nq).mono hB.out.size))
      go_wp2_with fail
      exact ⟨⟨i + 1, by go_num, by omega, hb2⟩, by simp [intOf]; omega⟩
set_option maxRecDepth 100000 in
theorem at_c (ok : Nat → Prop) (ba : Nat) (A : Option Addr) (n c : Nat) (l : List Ky) (k : Ky) (w : World) (hb : Blk w ba 105 #[.slice A n c]) (h : Sl KyE ok w A n c l) (hk : k ∈ l) (hn : n ≤ 1000000) :
    Calls Tryz.prog 46 #[kyVal k, .pointer (some ⟨ba, 0, none⟩)] w (IdxP w (idxK l k)) := by
  have hal := (Below.refl w.heap.size w).al (.cells (kyC k) 68)
  have JI := Lib.hid (index_c ok A n c l k (w.alloc (.cells (kyC k) 68)) (h.via hal) hk hn)
  have B0 := Blk.new w 68 (kyC k)
  have B1 := hb.via hal
  have HB := Lib.hid hal
  clear h hk hal hb
  obtain ⟨ix, hix⟩ : ∃ ix, ix = idxK l k := ⟨_, rfl⟩
  rw [← hix] at JI ⊢
  clear hix
  obtain ⟨⟨kb, kN⟩, ki, kj⟩ := k
  simp only [kyVal, kyC] at *
  go_enter Tryz.func46, Tryz.ntmps46
  have cB0 := B0.cell
  have fB0 := B0.frozen
  have lB0 := B0.lt
  have cB1 := B1.cell
  have fB1 := B1.frozen
  have lB1 := B1.lt
  go_wp2_with fail
  refine JI.out.mono ?_
  rintro e w1 ⟨rfl, hb1⟩
  dsimp only
  have HB1 := Lib.hid (HB.out.via hb1)
  clear JI B0 B1 hb1 HB
  go_wp2_with fail
  go_ret
  exact ⟨rfl, HB1.out⟩
def RootP (w : World) (g : Gr) (n : Nat) (e : Ending) (w' : World) : Prop := e = .returned (kyVal ((false, g.start), 0, n)) ∧ Below w.heap.size w w'
set_option maxRecDepth 100000 in
set_option maxHeartbeats 2000000 in
theorem root_c (g : Gr) (Ag : Option Addr) (ng cg : Nat) (A : Option Addr) (n c bs bm : Nat) (S : Ky → Bool) (w : World) (hR : SpR w g Ag ng cg A n c bs bm S) :
    Calls Tryz.prog 42 #[.pointer (some ⟨bs, 0, none⟩)] w (RootP w g n) := by
  have BS := hR.blk.al (.cells #[.bool false, .int .i64 0, .int .i64 0, .int .i64 0] 68)
  have B2 := Blk.new w 68 #[.bool false, .int .i64 0, .int .i64 0, .int .i64 0]
  have HB := Lib.hid ((Below.refl w.heap.size w).al (.cells #[.bool false, .int .i64 0, .int .i64 0, .int .i64 0] 68))
  clear hR
  go_enter Tryz.func42, Tryz.ntmps42
  go_upto_region 1 with fail
  generalize w.alloc (.cells #[.bool false, .int .i64 0, .int .i64 0, .int .i64 0] 68) = W at *
  have cBS := BS.cell
  have fBS := BS.frozen
  have lBS := BS.lt
  have cB2 := B2.cell
  have fB2 := B2.frozen
  have lB2 := B2.lt
  go_still_tail 12, (by kernel_rfl)
  clear cBS fBS lBS cB2 fB2 lB2
  have HDW := Lib.hid (HB.out.via (Below.refl W.heap.size W).drew)
  have B3 := B2.via (Below.refl W.heap.size W).drew
  change wpList _ _ _ _ _ W.drew
  generalize W.drew = W2 at *
  clear BS B2 HB
  have cB3 := B3.cell
  have fB3 := B3.frozen
  have lB3 := B3.lt
  go_wp2_with fail
  have B4 := (((B3.set_ 0 (.bool false)).set_ 1 (.int .i64 (g.start : Int))).set_ 2 (.int .i64 0)).set_ 3 (.int .i64 (n : Int))
  simp only [List.setIfInBounds_toArray, List.set_cons_zero, List.set_cons_succ] at B4
  have c4 := B4.cell
  refine bodyPost_ret (v := kyVal ((false, g.start), 0, n)) (by simp [results, Tryz.results42, go_sem, c4, kyVal]) rfl ⟨rfl, ?_⟩
  exact (((HDW.out.setCell (p := ⟨w.heap.size, 0, none⟩) (Nat.le_refl _) _).setCell (p := ⟨w.heap.size, 1, none⟩) (Nat.le_refl _) _).setCell (p := ⟨w.heap.size, 2, none⟩) (Nat.le_refl _) _).setCell (p := ⟨w.heap.size, 3, none⟩) (Nat.le_refl _) _
end Go.Proofs.YtbfcnfgkccgbiaaGreatDoor

