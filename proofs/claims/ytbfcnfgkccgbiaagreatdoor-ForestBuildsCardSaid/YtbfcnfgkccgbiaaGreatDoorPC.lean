/- Texts PA, PC, laid together. -/
import Derived.Test.YtbfcnfgkccgbiaaGreatDoorC1


namespace Go.Proofs.YtbfcnfgkccgbiaaGreatDoor
open Go.RowKit

/-- a rule, a position in its right side, where it began -/
structure It3 where
  r : Nat
  d : Nat
  f : Nat
deriving DecidableEq
/-- the symbol behind the position -/
def nxtI (R : List Ru) (x : It3) : Option Sy := match R[x.r]? with
  | some u => u.2[x.d]?
  | none => none
/-- the left side of an item's rule -/
def lftI (R : List Ru) (x : It3) : Nat := match R[x.r]? with
  | some u => u.1
  | none => 0
/-- the items of the k-th set, behind k symbols of w -/
inductive EIt (R : List Ru) (s : Nat) (w : List Nat) : Nat → It3 → Prop
  | start (r : Nat) (u : Ru) (h : R[r]? = some u) (hs : u.1 = s) : EIt R s w 0 ⟨r, 0, 0⟩
  | pred (k : Nat) (x : It3) (r : Nat) (u : Ru) (hx : EIt R s w k x) (h : R[r]? = some u) (hn : nxtI R x = some (false, u.1)) : EIt R s w k ⟨r, 0, k⟩
  | comp (k : Nat) (x y : It3) (hx : EIt R s w k x) (hy : EIt R s w x.f y) (hd : nxtI R x = none) (hn : nxtI R y = some (false, lftI R x)) : EIt R s w k ⟨y.r, y.d + 1, y.f⟩
  | scan (k : Nat) (x : It3) (t : Nat) (hx : EIt R s w k x) (hn : nxtI R x = some (true, t)) (hw : w[k]? = some t) : EIt R s w (k + 1) ⟨x.r, x.d + 1, x.f⟩
/-- an item of a set k -/
def ItOk (R : List Ru) (k : Nat) (x : It3) : Prop := x.f ≤ k ∧ ∃ u, R[x.r]? = some u ∧ x.d ≤ u.2.length
theorem nxtI_lt {R : List Ru} {x : It3} {y : Sy} (h : nxtI R x = some y) : ∃ u, R[x.r]? = some u ∧ u.2[x.d]? = some y ∧ x.d < u.2.length := by
  unfold nxtI at h
  split at h
  · rename_i u hu; exact ⟨u, hu, h, (List.getElem?_eq_some_iff.1 h).1⟩
  · cases h
section
variable {R : List Ru} {s : Nat} {w : List Nat}
theorem EIt.ok {k : Nat} {x : It3} (h : EIt R s w k x) : ItOk R k x := by
  induction h with
  | start r u h hs => exact ⟨Nat.zero_le _, u, h, Nat.zero_le _⟩
  | pred k x r u hx h hn ih => exact ⟨Nat.le_refl _, u, h, Nat.zero_le _⟩
  | comp k x y hx hy hd hn ih1 ih2 =>
    obtain ⟨u, h1, h2, h3⟩ := nxtI_lt hn
    exact ⟨Nat.le_trans ih2.1 ih1.1, u, h1, h3⟩
  | scan k x t hx hn hw ih =>
    obtain ⟨u, h1, h2, h3⟩ := nxtI_lt hn
    exact ⟨Nat.le_succ_of_le ih.1, u, h1, h3⟩
/-- the sets depend on what has been read alone -/
theorem EIt.take {k : Nat} {x : It3} (h : EIt R s w k x) {w' : List Nat} (hw : ∀ i, i < k → w'[i]? = w[i]?) : EIt R s w' k x := by
  induction h generalizing w' with
  | start r u h hs => exact .start r u h hs
  | pred k x r u hx h hn ih => exact .pred k x r u (ih hw) h hn
  | comp k x y hx hy hd hn ih1 ih2 => exact .comp k x y (ih1 hw) (ih2 fun i hi => hw i (Nat.lt_of_lt_of_le hi hx.ok.1)) hd hn
  | scan k x t hx hn hw0 ih => exact .scan k x t (ih fun i hi => hw i (Nat.lt_succ_of_lt hi)) hn (by rw [hw k (Nat.lt_succ_self k)]; exact hw0)
theorem EIt.take_iff {k : Nat} {x : It3} {w' : List Nat} (hw : ∀ i, i < k → w'[i]? = w[i]?) : EIt R s w' k x ↔ EIt R s w k x :=
  ⟨fun h => h.take fun i hi => (hw i hi).symm, fun h => h.take hw⟩

/-- the sets S 0 .. S (k - 1) are complete -/
def Done (R : List Ru) (s : Nat) (w : List Nat) (S : Nat → List It3) (k : Nat) : Prop := ∀ j, j < k → ∀ x, x ∈ S j ↔ EIt R s w j x
/-- what a set begins with: the start's rules, or what goes over a symbol -/
def Seed (R : List Ru) (s : Nat) (w : List Nat) (k : Nat) (l : List It3) : Prop :=
  (k = 0 → ∀ r u, R[r]? = some u → u.1 = s → (⟨r, 0, 0⟩ : It3) ∈ l) ∧
  ∀ j, k = j + 1 → ∀ x t, EIt R s w j x → nxtI R x = some (true, t) → w[j]? = some t → (⟨x.r, x.d + 1, x.f⟩ : It3) ∈ l
/-- item x of set k gives nothing that l has not; S: the earlier sets -/
def Shut1 (R : List Ru) (k : Nat) (S : Nat → List It3) (l : List It3) (x : It3) : Prop :=
  (∀ r u, R[r]? = some u → nxtI R x = some (false, u.1) → (⟨r, 0, k⟩ : It3) ∈ l) ∧
  (nxtI R x = none → ∀ y, y ∈ (if x.f = k then l else S x.f) → nxtI R y = some (false, lftI R x) → (⟨y.r, y.d + 1, y.f⟩ : It3) ∈ l)
theorem EIt.mem_of {S : Nat → List It3} {k : Nat} {l : List It3} (hS : Done R s w S k) (h0 : Seed R s w k l) (hc : ∀ x ∈ l, Shut1 R k S l x) {x : It3} (h : EIt R s w k x) : x ∈ l := by
  have key : ∀ j y, EIt R s w j y → j = k → y ∈ l := by
    clear h
    intro j y hE
    induction hE with
    | start r u hu hs => rintro rfl; exact h0.1 rfl r u hu hs
    | pred k' x r u hx hu hn ih => rintro rfl; exact (hc x (ih rfl)).1 r u hu hn
    | comp k' x y hx hy hd hn ih1 ih2 =>
      rintro rfl
      refine (hc x (ih1 rfl)).2 hd y ?_ hn
      by_cases e : x.f = k'
      · rw [if_pos e]; exact ih2 e
      · rw [if_neg e]; exact (hS x.f (by have := hx.ok.1; omega) y).2 hy
    | scan k' x t hx hn hw ih => rintro rfl; exact h0.2 k' rfl x t hx hn hw
  exact key k x h rfl
/-- a set that is sound, seeded and shut is the whole set -/
theorem done_iff {S : Nat → List It3} {k : Nat} {l : List It3} (hS : Done R s w S k) (h0 : Seed R s w k l) (hc : ∀ x ∈ l, Shut1 R k S l x) (hs : ∀ x ∈ l, EIt R s w k x) (x : It3) : x ∈ l ↔ EIt R s w k x :=
  ⟨hs x, fun h => h.mem_of hS h0 hc⟩
/-- what item x of set k gives lies in the set -/
theorem EIt.gives_pred {k : Nat} {x : It3} (hx : EIt R s w k x) {r : Nat} {u : Ru} (h : R[r]? = some u) (hn : nxtI R x = some (false, u.1)) : EIt R s w k ⟨r, 0, k⟩ := .pred k x r u hx h hn
theorem EIt.gives_comp {S : Nat → List It3} {k : Nat} {l : List It3} (hS : Done R s w S k) (hs : ∀ x ∈ l, EIt R s w k x) {x y : It3} (hx : x ∈ l) (hd : nxtI R x = none) (hy : y ∈ (if x.f = k then l else S x.f)) (hn : nxtI R y = some (false, lftI R x)) : EIt R s w k ⟨y.r, y.d + 1, y.f⟩ := by
  have hX := hs x hx
  refine .comp k x y hX ?_ hd hn
  by_cases e : x.f = k
  · rw [if_pos e] at hy; rw [e]; exact hs y hy
  · rw [if_neg e] at hy; exact (hS x.f (by have := hX.ok.1; omega) y).1 hy

/-! ### how many items there are -/
/-- all items of set k -/
def allI (R : List Ru) (k : Nat) : List It3 := (List.range R.length).flatMap fun r => (List.range (((R[r]?.map (·.2.length)).getD 0) + 1)).flatMap fun d => (List.range (k + 1)).map fun f => ⟨r, d, f⟩
theorem mem_allI {k : Nat} {x : It3} (h : ItOk R k x) : x ∈ allI R k := by
  obtain ⟨h1, u, h2, h3⟩ := h
  have hl := (List.getElem?_eq_some_iff.1 h2).1
  refine List.mem_flatMap.2 ⟨x.r, List.mem_range.2 hl, List.mem_flatMap.2 ⟨x.d, List.mem_range.2 ?_, List.mem_map.2 ⟨x.f, List.mem_range.2 (by omega), rfl⟩⟩⟩
  rw [h2]; simp only [Option.map_some, Option.getD_some]; omega
theorem length_le_of_subset {l m : List It3} (hn : l.Nodup) (h : ∀ x ∈ l, x ∈ m) : l.length ≤ m.length := by
  induction l generalizing m with
  | nil => simp
  | cons a l ih =>
    have ha := h a (List.mem_cons_self ..)
    obtain ⟨p, q, rfl⟩ := List.append_of_mem ha
    have := ih (m := p ++ q) (List.nodup_cons.1 hn).2 fun x hx => by
      have h1 := h x (List.mem_cons_of_mem _ hx)
      have h2 : x ≠ a := fun e => (List.nodup_cons.1 hn).1 (e ▸ hx)
      simp only [List.mem_append, List.mem_cons] at h1 ⊢
      rcases h1 with h1 | h1 | h1
      · exact Or.inl h1
      · exact absurd h1 h2
      · exact Or.inr h1
    simp only [List.length_append, List.length_cons] at this ⊢; omega
theorem allI_len {M : Nat} (h : ∀ u ∈ R, u.2.length ≤ M) (k : Nat) : (allI R k).length ≤ R.length * ((M + 1) * (k + 1)) := by
  unfold allI
  have key : ∀ (l : List Nat), (∀ r ∈ l, r < R.length) → (l.flatMap fun r => (List.range (((R[r]?.map (·.2.length)).getD 0) + 1)).flatMap fun d => (List.range (k + 1)).map fun f => (⟨r, d, f⟩ : It3)).length ≤ l.length * ((M + 1) * (k + 1)) := by
    intro l
    induction l with
    | nil => intro _; simp
    | cons r l ih =>
      intro hl
      have h1 := ih fun r' hr' => hl r' (List.mem_cons_of_mem _ hr')
      have hr := hl r (List.mem_cons_self ..)
      have h2 : ((List.range (((R[r]?.map (·.2.length)).getD 0) + 1)).flatMap fun d => (List.range (k + 1)).map fun f => (⟨r, d, f⟩ : It3)).length ≤ (M + 1) * (k + 1) := by
        have e : ∀ (m : List Nat), (m.flatMap fun d => (List.range (k + 1)).map fun f => (⟨r, d, f⟩ : It3)).length = m.length * (k + 1) := by
          intro m
          induction m with
          | nil => simp
          | cons d m ihm => simp only [List.flatMap_cons, List.length_append, List.length_map, List.length_range, List.length_cons, ihm, Nat.add_mul]; omega
        rw [e, List.length_range, List.getElem?_eq_getElem hr]
        exact Nat.mul_le_mul_right _ (Nat.succ_le_succ (h _ (List.getElem_mem hr)))
      rw [List.flatMap_cons, List.length_append, List.length_cons, Nat.add_mul]
      omega
  have := key (List.range R.length) fun r hr => List.mem_range.1 hr
  rwa [List.length_range] at this
/-- a set of items without repetition is not long -/
theorem items_le {M k : Nat} {l : List It3} (h : ∀ u ∈ R, u.2.length ≤ M) (hn : l.Nodup) (ho : ∀ x ∈ l, ItOk R k x) : l.length ≤ R.length * ((M + 1) * (k + 1)) :=
  Nat.le_trans (length_le_of_subset hn fun x hx => mem_allI (ho x hx)) (allI_len h k)

/-! ### what can come next -/
def MayE (R : List Ru) (s : Nat) (w : List Nat) (k t : Nat) : Prop := ∃ x, EIt R s w k x ∧ nxtI R x = some (true, t)
theorem MayE.take {k t : Nat} {w' : List Nat} (hw : ∀ i, i < k → w'[i]? = w[i]?) : MayE R s w' k t ↔ MayE R s w k t :=
  ⟨fun ⟨x, h1, h2⟩ => ⟨x, (EIt.take_iff hw).1 h1, h2⟩, fun ⟨x, h1, h2⟩ => ⟨x, (EIt.take_iff hw).2 h1, h2⟩⟩
end
end Go.Proofs.YtbfcnfgkccgbiaaGreatDoor




namespace Go.Proofs.YtbfcnfgkccgbiaaGreatDoor
open Go.RowKit

section
variable {α ρ : Type} {E : Elem α ρ}
theorem run_append_manyE (w : World) (t ty e : TypeId) (i : TypeInfo) (z : Value) (bytes : Nat) (ht : Tryz.prog.underlying t = some (.slice e)) (hi : Tryz.prog.info? e = some i) (hz : i.zero = some z) (hsz : i.size = E.k) (hby : i.bytes = bytes) (hzs : z.cells.size = E.k)
    (ok : Nat → Prop) (base : Nat) (v : Value) (n : Nat) (l : List α) (hown : Own E e ok w base v n l)
    (A : Option Addr) (m c : Nat) (ys : List α) (hs : Sl E (fun b => ok b ∧ some b ≠ v.ownBlock) w A m c ys) (h63 : n + m ≤ maxLen) (hbytes : (n + m) * bytes ≤ 140737488355328) (hbase : base ≤ w.heap.size) :
    ∃ A' c' w', (Builtin.append_ #[t, t] ty #[v, .slice A m c]).run Tryz.prog w = .ok (.slice A' (n + m) c') w' ∧ Own E e ok w' base (.slice A' (n + m) c') (n + m) (l ++ ys) ∧ w.grownBy w' v.ownBlock ∧
      ((Value.slice A' (n + m) c').ownBlock = v.ownBlock ∨ (Value.slice A' (n + m) c').ownBlock = some w.heap.size) := by
  obtain ⟨s1, s2, raw2, s3, s4, s5⟩ := hs
  rcases A with _ | ad
  · have hm : raw2 = [] := by
      rcases List.eq_nil_or_concat raw2 with h | ⟨r, x, rfl⟩
      · exact h
      · rw [List.concat_eq_append] at s4
        obtain ⟨b, off, e, _⟩ := s4 (fun e => by
          have := flat_len (E := E) (r ++ [x])
          rw [e] at this
          have hp := Nat.mul_pos (show 0 < (r ++ [x]).length by simp) E.pos
          simp only [List.length_nil] at this; omega)
        cases e
    subst hm
    obtain rfl : m = 0 := by simpa using s3.symm
    obtain rfl : ys = [] := List.eq_nil_of_length_eq_zero s1
    obtain ⟨A', c', rfl, hc⟩ := hown.form
    refine ⟨A', c', w, ?_, by simpa using hown, World.grownBy.refl w _, Or.inl rfl⟩
    rcases A' with _ | g
    · have : n = 0 ∧ c' = 0 := by
        obtain ⟨_, raw, _, h4, _⟩ := hown
        rcases h4.2 with ⟨e, h0⟩ | ⟨g, cap, cur, e, _⟩
        · cases e; exact ⟨rfl, rfl⟩
        · cases e
      obtain ⟨rfl, rfl⟩ := this
      simp [Builtin.append_, run_underlying ht, sizeOf, typeInfo, hi, Builtin.lenOf, Builtin.firstCells]
    · simp [Builtin.append_, run_underlying ht, sizeOf, typeInfo, hi, Builtin.lenOf, Builtin.firstCells, hc, storeCells]
  · obtain ⟨h1, raw, h3, h4, h5⟩ := hown
    have hcell : ∀ j u, (flat E raw2)[j]? = some u → w.cell? (ad.add j) = some u := fun j u hu => by
      obtain ⟨b, off, e, -, hc⟩ := s4 (fun e => by rw [e] at hu; simp at hu)
      cases e
      rw [Addr.add_lit]; exact hc j u hu
    obtain ⟨v', w', hrun, h6, h7, _, h8⟩ := run_append_own_at (P := Tryz.prog) w base t ty e i z E.k bytes ht hi hz hsz hby hzs E.pos v n _ h4 ad m c (flat E raw2) (by rw [flat_len, s3]) hcell
      (fun u hu => by obtain ⟨r, -, h⟩ := List.mem_flatMap.1 hu; exact E.one r u h) h63 hbytes hbase
    have hown' : Own E e ok w' base v' (n + m) (l ++ ys) := by
      refine ⟨by simp [h1, s1], raw ++ raw2, by simp [h3, s3], by have e : flat E (raw ++ raw2) = flat E raw ++ flat E raw2 := by simp [flat]
                                                                  rw [e]; exact h6, fun i r' x' hr' hx' => ?_⟩
      have key : E.rel (fun b => ok b ∧ some b ≠ v.ownBlock) w r' x' := by
        rcases Nat.lt_or_ge i n with hi' | hi'
        · rw [List.getElem?_append_left (by omega)] at hr' hx'
          exact h5 i r' x' hr' hx'
        · rw [List.getElem?_append_right (by omega), h3] at hr'
          rw [List.getElem?_append_right (by omega), h1] at hx'
          exact s5 _ r' x' hr' hx'
      have k1 := E.mono (ok' := fun b => (ok b ∧ some b ≠ v.ownBlock) ∧ b < w.heap.size) key fun b hb hk => ⟨hk, hb⟩
      refine E.mono (E.agr k1 (Agr.grown h7 fun b hb => hb.1.2)) fun b _ hk => ⟨hk.1.1, ?_⟩
      rcases h8 with e8 | e8
      · rw [e8]; exact hk.1.2
      · rw [e8]; intro e9; cases e9; exact absurd hk.2 (Nat.lt_irrefl _)
    obtain ⟨A', c', rfl, _⟩ := hown'.form
    exact ⟨A', c', w', hrun, hown', h7, h8⟩
theorem wpList_append_manyE {ops : Array Oper} {rest : List Oper} {o : Oper} {a : Act} {Q : Exit → Act → World → Prop} (w : World) (hgd : o.guard = none) (s y : Operand) (t e : TypeId)
    (ho : o.op = .call { callee := .builtin .append, args := #[s, y], argTypes := #[t, t] }) (i : TypeInfo) (z : Value) (bytes : Nat) (ht : Tryz.prog.underlying t = some (.slice e)) (hi : Tryz.prog.info? e = some i) (hz : i.zero = some z) (hsz : i.size = E.k) (hby : i.bytes = bytes) (hzs : z.cells.size = E.k)
    (ok : Nat → Prop) (base : Nat) (v : Value) (n : Nat) (l : List α) (hv : a.eval s = v) (hown : Own E e ok w base v n l)
    (A : Option Addr) (m c : Nat) (ys : List α) (hy : a.eval y = .slice A m c) (hs : Sl E (fun b => ok b ∧ some b ≠ v.ownBlock) w A m c ys) (h63 : n + m ≤ maxLen) (hbytes : (n + m) * bytes ≤ 140737488355328) (hbase : base ≤ w.heap.size)
    (h : ∀ A' c' w', Own E e ok w' base (.slice A' (n + m) c') (n + m) (l ++ ys) → w.grownBy w' v.ownBlock → ((Value.slice A' (n + m) c').ownBlock = v.ownBlock ∨ (Value.slice A' (n + m) c').ownBlock = some w.heap.size) → wpList Tryz.prog ops Q rest (a.put o.dst (.slice A' (n + m) c')) w') : wpList Tryz.prog ops Q (o :: rest) a w := by
  refine wpList_plain hgd fun _ hK => ?_
  obtain ⟨A', c', w', hrun, h2, h3, h4⟩ := run_append_manyE w t o.type e i z bytes ht hi hz hsz hby hzs ok base v n l hown A m c ys hs h63 hbytes hbase
  unfold Oper.wp execOp
  simp only [ho, resolve, invoke, builtin, Sem.run_bind, Sem.run_pure, Result.andThen_ok, List.map_toArray, List.map_cons, List.map_nil, hv, hy, hrun]
  exact hK _ _ (h A' c' w' h2 h3 h4)
/-- an empty row in a block of its own -/
theorem Own.empty {e : TypeId} (ok : Nat → Prop) (w : World) : Own E e ok (w.alloc (.cells #[] e)) w.heap.size (.slice (some ⟨w.heap.size, 0, none⟩) 0 0) 0 ([] : List α) := by
  refine ⟨rfl, [], rfl, ⟨by simp [flat], Or.inr ⟨w.heap.size, 0, #[], rfl, Nat.le_refl _, heap_alloc_new w _, Nat.le_refl _, Nat.zero_le _, by simp, by simp [flat]⟩⟩, fun i r x h => by simp at h⟩
end

/-! ### items in memory -/
def It3E : Elem It3 It3 where
  k := 3
  cells x := [.int .i64 (x.r : Int), .int .i64 (x.d : Int), .int .i64 (x.f : Int)]
  rel _ _ r x := r = x
  pos := by omega
  len _ := rfl
  one r u hu := by simp at hu; rcases hu with rfl | rfl | rfl <;> rfl
  agr h _ := h
  mono h _ := h
/-- what a clone hands back -/
def CloneP {α ρ : Type} (E : Elem α ρ) (e : TypeId) (w : World) (n : Nat) (xs : List α) (ee : Ending) (w' : World) : Prop :=
  ∃ B d, ee = .returned (.slice B n d) ∧ Own E e (fun b => b < w.heap.size) w' w.heap.size (.slice B n d) n xs ∧ Below w.heap.size w w'
theorem eitem_info : (Tryz.prog.info? 47).map (fun i => (i.zero, i.size, i.bytes)) = some (some (.agg #[.int .i64 0, .int .i64 0, .int .i64 0]), 3, 24) := by kernel_rfl
set_option maxHeartbeats 400000 in
theorem cloneEi_c (ok : Nat → Prop) (A : Option Addr) (n c : Nat) (xs : List It3) (w : World) (h : Sl It3E ok w A n c xs) (hn : n ≤ 1000000) :
    Calls Tryz.prog 27 #[.slice A n c] w (CloneP It3E 47 w n xs) := by
  have he := fun wx => Lib.run_eql_slice_nil (P := Tryz.prog) wx 43 47 A n c 0 0 Tryz.underlying43
  rcases A with _ | ad
  · have hn0 : n = 0 := by
      rcases Nat.eq_zero_or_pos n with h0 | h0
      · exact h0
      · obtain ⟨b, off, r, x, e, _⟩ := h.at_ h0; cases e
    subst hn0
    obtain rfl : xs = [] := List.eq_nil_of_length_eq_zero h.len
    clear h
    go_enter Tryz.func27, Tryz.ntmps27
    go_wp2
    go_ret
    exact ⟨_, _, rfl, Own.nil _ _, Below.refl _ _⟩
  · have H := Lib.hid (h.mono (ok' := fun b => b < w.heap.size) fun b hb _ => hb)
    clear h
    obtain ⟨i, hi, hz⟩ := Option.map_eq_some_iff.1 eitem_info
    simp only [Prod.mk.injEq] at hz
    obtain ⟨z1, z2, z3⟩ := hz
    have HI := Lib.hid (And.intro hi (And.intro z1 (And.intro z2 z3)))
    clear hi z1 z2 z3
    go_enter Tryz.func27, Tryz.ntmps27
    go_wp2_with (at_builtin; refine wpList_append_manyE (E := It3E) _ rfl (.tmp 5) (.tmp 6) 43 47 rfl i _ 24 (by kernel_rfl) HI.out.1 HI.out.2.1 HI.out.2.2.1 HI.out.2.2.2 rfl (fun b => b < w.heap.size) w.heap.size (.slice (some ⟨w.heap.size, 0, none⟩) 0 0) 0 [] rfl (Own.empty _ w) (some ad) n c xs rfl ((H.out.al _).mono fun b _ hb => ⟨hb, by simp [Value.ownBlock]; omega⟩) (by simp [maxLen]; omega) (by omega) (by simp) ?_; intro Av1 cv1 w1 hown1 hg1 hat1)
    go_ret
    exact ⟨Av1, cv1, by simp, by simpa using hown1, ((Below.refl _ _).alloc (Nat.le_refl _) _).grown hg1 (by simp) (by simp [Value.ownBlock])⟩
end Go.Proofs.YtbfcnfgkccgbiaaGreatDoor

