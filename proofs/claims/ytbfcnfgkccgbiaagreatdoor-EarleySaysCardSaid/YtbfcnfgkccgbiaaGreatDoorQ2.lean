/- Texts PA, VA, MF, laid together. -/
import Derived.Test.YtbfcnfgkccgbiaaGreatDoorQ1
import Derived.Maps.Keyed
import Derived.Maps.OwnOps
import Derived.DeepKeys4


namespace Go.Proofs.YtbfcnfgkccgbiaaGreatDoor
open Go.RowKit

/-- a rule, a position in its right side, where it began -/
structure It3 where
  r : Nat
  d : Nat
  f : Nat
deriving DecidableEq
/-- the symbol behind the position -/
def nxtI (R : List Ru) (x : It3) : Option Sy := match R[x.r]? with
  | some u => u.2[x.d]?
  | none => none
/-- the left side of an item's rule -/
def lftI (R : List Ru) (x : It3) : Nat := match R[x.r]? with
  | some u => u.1
  | none => 0
/-- the items of the k-th set, behind k symbols of w -/
inductive EIt (R : List Ru) (s : Nat) (w : List Nat) : Nat → It3 → Prop
  | start (r : Nat) (u : Ru) (h : R[r]? = some u) (hs : u.1 = s) : EIt R s w 0 ⟨r, 0, 0⟩
  | pred (k : Nat) (x : It3) (r : Nat) (u : Ru) (hx : EIt R s w k x) (h : R[r]? = some u) (hn : nxtI R x = some (false, u.1)) : EIt R s w k ⟨r, 0, k⟩
  | comp (k : Nat) (x y : It3) (hx : EIt R s w k x) (hy : EIt R s w x.f y) (hd : nxtI R x = none) (hn : nxtI R y = some (false, lftI R x)) : EIt R s w k ⟨y.r, y.d + 1, y.f⟩
  | scan (k : Nat) (x : It3) (t : Nat) (hx : EIt R s w k x) (hn : nxtI R x = some (true, t)) (hw : w[k]? = some t) : EIt R s w (k + 1) ⟨x.r, x.d + 1, x.f⟩
/-- an item of a set k -/
def ItOk (R : List Ru) (k : Nat) (x : It3) : Prop := x.f ≤ k ∧ ∃ u, R[x.r]? = some u ∧ x.d ≤ u.2.length
theorem nxtI_lt {R : List Ru} {x : It3} {y : Sy} (h : nxtI R x = some y) : ∃ u, R[x.r]? = some u ∧ u.2[x.d]? = some y ∧ x.d < u.2.length := by
  unfold nxtI at h
  split at h
  · rename_i u hu; exact ⟨u, hu, h, (List.getElem?_eq_some_iff.1 h).1⟩
  · cases h
section
variable {R : List Ru} {s : Nat} {w : List Nat}
theorem EIt.ok {k : Nat} {x : It3} (h : EIt R s w k x) : ItOk R k x := by
  induction h with
  | start r u h hs => exact ⟨Nat.zero_le _, u, h, Nat.zero_le _⟩
  | pred k x r u hx h hn ih => exact ⟨Nat.le_refl _, u, h, Nat.zero_le _⟩
  | comp k x y hx hy hd hn ih1 ih2 =>
    obtain ⟨u, h1, h2, h3⟩ := nxtI_lt hn
    exact ⟨Nat.le_trans ih2.1 ih1.1, u, h1, h3⟩
  | scan k x t hx hn hw ih =>
    obtain ⟨u, h1, h2, h3⟩ := nxtI_lt hn
    exact ⟨Nat.le_succ_of_le ih.1, u, h1, h3⟩
/-- the sets depend on what has been read alone -/
theorem EIt.take {k : Nat} {x : It3} (h : EIt R s w k x) {w' : List Nat} (hw : ∀ i, i < k → w'[i]? = w[i]?) : EIt R s w' k x := by
  induction h generalizing w' with
  | start r u h hs => exact .start r u h hs
  | pred k x r u hx h hn ih => exact .pred k x r u (ih hw) h hn
  | comp k x y hx hy hd hn ih1 ih2 => exact .comp k x y (ih1 hw) (ih2 fun i hi => hw i (Nat.lt_of_lt_of_le hi hx.ok.1)) hd hn
  | scan k x t hx hn hw0 ih => exact .scan k x t (ih fun i hi => hw i (Nat.lt_succ_of_lt hi)) hn (by rw [hw k (Nat.lt_succ_self k)]; exact hw0)
theorem EIt.take_iff {k : Nat} {x : It3} {w' : List Nat} (hw : ∀ i, i < k → w'[i]? = w[i]?) : EIt R s w' k x ↔ EIt R s w k x :=
  ⟨fun h => h.take fun i hi => (hw i hi).symm, fun h => h.take hw⟩

/-- the sets S 0 .. S (k - 1) are complete -/
def Done (R : List Ru) (s : Nat) (w : List Nat) (S : Nat → List It3) (k : Nat) : Prop := ∀ j, j < k → ∀ x, x ∈ S j ↔ EIt R s w j x
/-- what a set begins with: the start's rules, or what goes over a symbol -/
def Seed (R : List Ru) (s : Nat) (w : List Nat) (k : Nat) (l : List It3) : Prop :=
  (k = 0 → ∀ r u, R[r]? = some u → u.1 = s → (⟨r, 0, 0⟩ : It3) ∈ l) ∧
  ∀ j, k = j + 1 → ∀ x t, EIt R s w j x → nxtI R x = some (true, t) → w[j]? = some t → (⟨x.r, x.d + 1, x.f⟩ : It3) ∈ l
/-- item x of set k gives nothing that l has not; S: the earlier sets -/
def Shut1 (R : List Ru) (k : Nat) (S : Nat → List It3) (l : List It3) (x : It3) : Prop :=
  (∀ r u, R[r]? = some u → nxtI R x = some (false, u.1) → (⟨r, 0, k⟩ : It3) ∈ l) ∧
  (nxtI R x = none → ∀ y, y ∈ (if x.f = k then l else S x.f) → nxtI R y = some (false, lftI R x) → (⟨y.r, y.d + 1, y.f⟩ : It3) ∈ l)
theorem EIt.mem_of {S : Nat → List It3} {k : Nat} {l : List It3} (hS : Done R s w S k) (h0 : Seed R s w k l) (hc : ∀ x ∈ l, Shut1 R k S l x) {x : It3} (h : EIt R s w k x) : x ∈ l := by
  have key : ∀ j y, EIt R s w j y → j = k → y ∈ l := by
    clear h
    intro j y hE
    induction hE with
    | start r u hu hs => rintro rfl; exact h0.1 rfl r u hu hs
    | pred k' x r u hx hu hn ih => rintro rfl; exact (hc x (ih rfl)).1 r u hu hn
    | comp k' x y hx hy hd hn ih1 ih2 =>
      rintro rfl
      refine (hc x (ih1 rfl)).2 hd y ?_ hn
      by_cases e : x.f = k'
      · rw [if_pos e]; exact ih2 e
      · rw [if_neg e]; exact (hS x.f (by have := hx.ok.1; omega) y).2 hy
    | scan k' x t hx hn hw ih => rintro rfl; exact h0.2 k' rfl x t hx hn hw
  exact key k x h rfl
/-- a set that is sound, seeded and shut is the whole set -/
theorem done_iff {S : Nat → List It3} {k : Nat} {l : List It3} (hS : Done R s w S k) (h0 : Seed R s w k l) (hc : ∀ x ∈ l, Shut1 R k S l x) (hs : ∀ x ∈ l, EIt R s w k x) (x : It3) : x ∈ l ↔ EIt R s w k x :=
  ⟨hs x, fun h => h.mem_of hS h0 hc⟩
/-- what item x of set k gives lies in the set -/
theorem EIt.gives_pred {k : Nat} {x : It3} (hx : EIt R s w k x) {r : Nat} {u : Ru} (h : R[r]? = some u) (hn : nxtI R x = some (false, u.1)) : EIt R s w k ⟨r, 0, k⟩ := .pred k x r u hx h hn
theorem EIt.gives_comp {S : Nat → List It3} {k : Nat} {l : List It3} (hS : Done R s w S k) (hs : ∀ x ∈ l, EIt R s w k x) {x y : It3} (hx : x ∈ l) (hd : nxtI R x = none) (hy : y ∈ (if x.f = k then l else S x.f)) (hn : nxtI R y = some (false, lftI R x)) : EIt R s w k ⟨y.r, y.d + 1, y.f⟩ := by
  have hX := hs x hx
  refine .comp k x y hX ?_ hd hn
  by_cases e : x.f = k
  · rw [if_pos e] at hy; rw [e]; exact hs y hy
  · rw [if_neg e] at hy; exact (hS x.f (by have := hX.ok.1; omega) y).1 hy

/-! ### how many items there are -/
/-- all items of set k -/
def allI (R : List Ru) (k : Nat) : List It3 := (List.range R.length).flatMap fun r => (List.range (((R[r]?.map (·.2.length)).getD 0) + 1)).flatMap fun d => (List.range (k + 1)).map fun f => ⟨r, d, f⟩
theorem mem_allI {k : Nat} {x : It3} (h : ItOk R k x) : x ∈ allI R k := by
  obtain ⟨h1, u, h2, h3⟩ := h
  have hl := (List.getElem?_eq_some_iff.1 h2).1
  refine List.mem_flatMap.2 ⟨x.r, List.mem_range.2 hl, List.mem_flatMap.2 ⟨x.d, List.mem_range.2 ?_, List.mem_map.2 ⟨x.f, List.mem_range.2 (by omega), rfl⟩⟩⟩
  rw [h2]; simp only [Option.map_some, Option.getD_some]; omega
theorem length_le_of_subset {l m : List It3} (hn : l.Nodup) (h : ∀ x ∈ l, x ∈ m) : l.length ≤ m.length := by
  induction l generalizing m with
  | nil => simp
  | cons a l ih =>
    have ha := h a (List.mem_cons_self ..)
    obtain ⟨p, q, rfl⟩ := List.append_of_mem ha
    have := ih (m := p ++ q) (List.nodup_cons.1 hn).2 fun x hx => by
      have h1 := h x (List.mem_cons_of_mem _ hx)
      have h2 : x ≠ a := fun e => (List.nodup_cons.1 hn).1 (e ▸ hx)
      simp only [List.mem_append, List.mem_cons] at h1 ⊢
      rcases h1 with h1 | h1 | h1
      · exact Or.inl h1
      · exact absurd h1 h2
      · exact Or.inr h1
    simp only [List.length_append, List.length_cons] at this ⊢; omega
theorem allI_len {M : Nat} (h : ∀ u ∈ R, u.2.length ≤ M) (k : Nat) : (allI R k).length ≤ R.length * ((M + 1) * (k + 1)) := by
  unfold allI
  have key : ∀ (l : List Nat), (∀ r ∈ l, r < R.length) → (l.flatMap fun r => (List.range (((R[r]?.map (·.2.length)).getD 0) + 1)).flatMap fun d => (List.range (k + 1)).map fun f => (⟨r, d, f⟩ : It3)).length ≤ l.length * ((M + 1) * (k + 1)) := by
    intro l
    induction l with
    | nil => intro _; simp
    | cons r l ih =>
      intro hl
      have h1 := ih fun r' hr' => hl r' (List.mem_cons_of_mem _ hr')
      have hr := hl r (List.mem_cons_self ..)
      have h2 : ((List.range (((R[r]?.map (·.2.length)).getD 0) + 1)).flatMap fun d => (List.range (k + 1)).map fun f => (⟨r, d, f⟩ : It3)).length ≤ (M + 1) * (k + 1) := by
        have e : ∀ (m : List Nat), (m.flatMap fun d => (List.range (k + 1)).map fun f => (⟨r, d, f⟩ : It3)).length = m.length * (k + 1) := by
          intro m
          induction m with
          | nil => simp
          | cons d m ihm => simp only [List.flatMap_cons, List.length_append, List.length_map, List.length_range, List.length_cons, ihm, Nat.add_mul]; omega
        rw [e, List.length_range, List.getElem?_eq_getElem hr]
        exact Nat.mul_le_mul_right _ (Nat.succ_le_succ (h _ (List.getElem_mem hr)))
      rw [List.flatMap_cons, List.length_append, List.length_cons, Nat.add_mul]
      omega
  have := key (List.range R.length) fun r hr => List.mem_range.1 hr
  rwa [List.length_range] at this
/-- a set of items without repetition is not long -/
theorem items_le {M k : Nat} {l : List It3} (h : ∀ u ∈ R, u.2.length ≤ M) (hn : l.Nodup) (ho : ∀ x ∈ l, ItOk R k x) : l.length ≤ R.length * ((M + 1) * (k + 1)) :=
  Nat.le_trans (length_le_of_subset hn fun x hx => mem_allI (ho x hx)) (allI_len h k)

/-! ### what can come next -/
def MayE (R : List Ru) (s : Nat) (w : List Nat) (k t : Nat) : Prop := ∃ x, EIt R s w k x ∧ nxtI R x = some (true, t)
theorem MayE.take {k t : Nat} {w' : List Nat} (hw : ∀ i, i < k → w'[i]? = w[i]?) : MayE R s w' k t ↔ MayE R s w k t :=
  ⟨fun ⟨x, h1, h2⟩ => ⟨x, (EIt.take_iff hw).1 h1, h2⟩, fun ⟨x, h1, h2⟩ => ⟨x, (EIt.take_iff hw).2 h1, h2⟩⟩
end
end Go.Proofs.YtbfcnfgkccgbiaaGreatDoor



namespace Go.Proofs.YtbfcnfgkccgbiaaGreatDoor
open Go.RowKit

/-- a set with an item more -/
def insI (l : List It3) (x : It3) : List It3 := if x ∈ l then l else l ++ [x]
theorem insI_mem {l : List It3} {x y : It3} : y ∈ insI l x ↔ y ∈ l ∨ y = x := by
  unfold insI
  split
  · constructor
    · exact Or.inl
    · rintro (h | rfl)
      · exact h
      · assumption
  · simp
theorem insI_nd {l : List It3} {x : It3} (h : l.Nodup) : (insI l x).Nodup := by
  unfold insI
  split
  · exact h
  · rename_i hx
    rw [List.nodup_append]
    exact ⟨h, by simp, fun a ha b hb e => by simp only [List.mem_singleton] at hb; subst hb; subst e; exact hx ha⟩
theorem insI_pre (l : List It3) (x : It3) : l <+: insI l x := by
  unfold insI
  split
  · exact List.prefix_refl _
  · exact List.prefix_append _ _
def atI (L : List (List It3)) (j : Nat) : List It3 := L.getD j []
theorem atI_get {L : List (List It3)} {j : Nat} {l : List It3} (h : L[j]? = some l) : atI L j = l := by
  simp [atI, List.getD_eq_getElem?_getD, h]
theorem atI_none {L : List (List It3)} {j : Nat} (h : L.length ≤ j) : atI L j = [] := by
  simp [atI, List.getD_eq_getElem?_getD, List.getElem?_eq_none h]
theorem get_atI {L : List (List It3)} {j : Nat} (h : j < L.length) : L[j]? = some (atI L j) := by
  rw [List.getElem?_eq_getElem h, atI_get (List.getElem?_eq_getElem h)]
/-- the later sets hold what the earlier ones do -/
structure ExtI (L L' : List (List It3)) : Prop where
  len : L'.length = L.length
  pre : ∀ j, atI L j <+: atI L' j
theorem ExtI.refl (L : List (List It3)) : ExtI L L := ⟨rfl, fun _ => List.prefix_refl _⟩
theorem ExtI.trans {L L' L'' : List (List It3)} (h : ExtI L L') (h' : ExtI L' L'') : ExtI L L'' := ⟨h'.len.trans h.len, fun j => (h.pre j).trans (h'.pre j)⟩
theorem ExtI.mem {L L' : List (List It3)} (h : ExtI L L') {j : Nat} {x : It3} (hx : x ∈ atI L j) : x ∈ atI L' j := (h.pre j).subset hx
def putI (L : List (List It3)) (k : Nat) (x : It3) : List (List It3) := L.set k (insI (atI L k) x)
theorem atI_putI {L : List (List It3)} {k : Nat} {x : It3} (hk : k < L.length) (j : Nat) : atI (putI L k x) j = if j = k then insI (atI L k) x else atI L j := by
  unfold putI
  by_cases e : j = k
  · subst e; rw [if_pos rfl]; exact atI_get (List.getElem?_set_self hk)
  · rw [if_neg e]; simp [atI, List.getD_eq_getElem?_getD, List.getElem?_set_ne (Ne.symm e)]
theorem putI_len {L : List (List It3)} {k : Nat} {x : It3} : (putI L k x).length = L.length := List.length_set ..
theorem putI_ext {L : List (List It3)} {k : Nat} {x : It3} (hk : k < L.length) : ExtI L (putI L k x) :=
  ⟨putI_len, fun j => by
    rw [atI_putI hk]
    by_cases e : j = k
    · subst e; rw [if_pos rfl]; exact insI_pre _ _
    · rw [if_neg e]; exact List.prefix_refl _⟩
theorem putI_mem {L : List (List It3)} {k : Nat} {x : It3} (hk : k < L.length) : x ∈ atI (putI L k x) k := by
  rw [atI_putI hk, if_pos rfl]; exact insI_mem.2 (Or.inr rfl)
/-- each set holds an item once, and only items that the definition gives -/
structure SndI (R : List Ru) (s : Nat) (w : List Nat) (L : List (List It3)) : Prop where
  nd : ∀ j, (atI L j).Nodup
  ok : ∀ j x, x ∈ atI L j → EIt R s w j x
section
variable {R : List Ru} {s : Nat} {w : List Nat} {L L' L0 L1 : List (List It3)} {k n : Nat} {x : It3}
theorem SndI.put (h : SndI R s w L) (hk : k < L.length) (hx : EIt R s w k x) : SndI R s w (putI L k x) := by
  refine ⟨fun j => ?_, fun j y hy => ?_⟩
  · rw [atI_putI hk]
    by_cases e : j = k
    · subst e; rw [if_pos rfl]; exact insI_nd (h.nd j)
    · rw [if_neg e]; exact h.nd j
  · rw [atI_putI hk] at hy
    by_cases e : j = k
    · subst e; rw [if_pos rfl] at hy
      rcases insI_mem.1 hy with hy | rfl
      · exact h.ok j y hy
      · exact hx
    · rw [if_neg e] at hy; exact h.ok j y hy
/-- what follows from item x of set k in the sets L lies in the sets L' -/
def CnsI (R : List Ru) (w : List Nat) (k : Nat) (x : It3) (L L' : List (List It3)) : Prop :=
  (∀ r u, R[r]? = some u → nxtI R x = some (false, u.1) → (⟨r, 0, k⟩ : It3) ∈ atI L' k) ∧
  (nxtI R x = none → ∀ y, y ∈ atI L x.f → nxtI R y = some (false, lftI R x) → (⟨y.r, y.d + 1, y.f⟩ : It3) ∈ atI L' k) ∧
  ∀ t, nxtI R x = some (true, t) → w[k]? = some t → (⟨x.r, x.d + 1, x.f⟩ : It3) ∈ atI L' (k + 1)
theorem CnsI.mono (h : CnsI R w k x L L') (h1 : ExtI L0 L) (h2 : ExtI L' L1) : CnsI R w k x L0 L1 :=
  ⟨fun r u hr hn => h2.mem (h.1 r u hr hn), fun hn y hy hy2 => h2.mem (h.2.1 hn y (h1.mem hy) hy2), fun t hn ht => h2.mem (h.2.2 t hn ht)⟩
def totI (L : List (List It3)) : Nat := (L.map List.length).sum
theorem totI_ext : ∀ {L L' : List (List It3)}, ExtI L L' → totI L ≤ totI L' ∧ (totI L' ≤ totI L → L' = L)
  | [], L', h => by
    have := h.len
    obtain rfl : L' = [] := List.length_eq_zero_iff.1 this
    exact ⟨Nat.le_refl _, fun _ => rfl⟩
  | l :: L, [], h => by have := h.len; simp at this
  | l :: L, l' :: L', h => by
    have h0 : l <+: l' := by simpa [atI] using h.pre 0
    have ht : ExtI L L' := ⟨by have := h.len; simpa using this, fun j => by simpa [atI] using h.pre (j + 1)⟩
    have ih := totI_ext ht
    have hl := h0.length_le
    unfold totI at ih ⊢
    simp only [List.map_cons, List.sum_cons]
    refine ⟨by omega, fun e => ?_⟩
    have e1 : l' = l := (h0.eq_of_length (by omega)).symm
    rw [e1, ih.2 (by omega)]
theorem totI_take (hk : k < L.length) : totI (L.take (k + 1)) = totI (L.take k) + (atI L k).length := by
  unfold totI
  rw [List.take_add_one, get_atI hk]
  simp
theorem totI_le {M : Nat} : ∀ {L : List (List It3)}, (∀ j, (atI L j).length ≤ M) → totI L ≤ L.length * M
  | [], _ => by simp [totI]
  | l :: L, h => by
    have h0 : l.length ≤ M := by simpa [atI] using h 0
    have ih := totI_le (L := L) fun j => by simpa [atI] using h (j + 1)
    have e : totI (l :: L) = l.length + totI L := by simp [totI]
    rw [e, List.length_cons, Nat.succ_mul]; omega
theorem take_same (hl : L'.length = L.length) (h : ∀ j, j < k → atI L' j = atI L j) : L'.take k = L.take k := by
  refine List.ext_getElem? fun j => ?_
  rw [List.getElem?_take, List.getElem?_take]
  split
  · rename_i hj
    rcases Nat.lt_or_ge j L.length with h1 | h1
    · rw [get_atI h1, get_atI (by omega), h j hj]
    · rw [List.getElem?_eq_none h1, List.getElem?_eq_none (by omega)]
  · rfl
/-- sets that nothing more follows from hold all that the definition gives -/
theorem closedI (h0 : ∀ r u, R[r]? = some u → u.1 = s → (⟨r, 0, 0⟩ : It3) ∈ atI L 0) (hc : ∀ k, k ≤ n → ∀ x, x ∈ atI L k → CnsI R w k x L L) (h : EIt R s w k x) : k ≤ n → x ∈ atI L k := by
  induction h with
  | start r u h hs => intro _; exact h0 r u h hs
  | pred k x r u hx h hn ih => intro hk; exact (hc k hk x (ih hk)).1 r u h hn
  | comp k x y hx hy hd hn ih1 ih2 => intro hk; exact (hc k hk x (ih1 hk)).2.1 hd y (ih2 (Nat.le_trans hx.ok.1 hk)) hn
  | scan k x t hx hn hw' ih =>
    intro hk
    have := (List.getElem?_eq_some_iff.1 hw').1
    exact (hc k (by omega) x (ih (by omega))).2.2 t hn hw'
end
end Go.Proofs.YtbfcnfgkccgbiaaGreatDoor






namespace Go.Proofs.YtbfcnfgkccgbiaaGreatDoor
open Go.RowKit
open Go.MapKept
open Go.ChangeMaps (setBlock heap_setBlock_same heap_setBlock_other)
open Go.WideElems (Fit rd rg rd_key rd_mk other_key)

theorem nodup_le : ∀ (N : Nat) (m : List Nat), m.Nodup → (∀ c ∈ m, c < N) → m.length ≤ N
  | 0, m, _, h => by
    cases m with
    | nil => simp
    | cons c m => exact absurd (h c (List.mem_cons_self ..)) (by omega)
  | N + 1, m, hn, h => by
    have h1 := nodup_le N (m.erase N) (hn.erase N) fun c hc => by
      have h2 := (hn.mem_erase_iff).1 hc
      have := h c h2.2
      have := h2.1
      omega
    have h3 := List.length_erase (a := N) (l := m)
    split at h3 <;> omega
/-- whatever an element is, it is let in -/
def anyElem (_ : Value) : Option (DataW Unit × List MemPlace) := some (.lit (.bool true), [])

/-- block b is a map that holds just what f says; 'kk x' is the key of x -/
def MapK {κ : Type} (P : Program) (k : TypeId) (kk : κ → Value) (w : World) (b : Nat) (f : κ → Option Value) : Prop :=
  ∃ es clock, w.heap[b]? = some (.map es clock) ∧ Fit P k anyElem es clock ∧ (∀ x ∈ es.toList, ∃ y, x.key = kk y) ∧ ∀ y v, f y = some v ↔ ∃ x ∈ es.toList, x.key = kk y ∧ x.val = v

section
variable {κ : Type} {P : Program} {k : TypeId} {kk : κ → Value} {w w' : World} {b : Nat} {f : κ → Option Value}
theorem MapK.made (w : World) (P : Program) (k : TypeId) (kk : κ → Value) : MapK P k kk (w.alloc (.map #[] 0)) w.heap.size (fun _ => none) :=
  ⟨#[], 0, (MapKept.heap_alloc w _).1, ⟨by simp, stamped_empty 0, by simp⟩, by simp, by simp⟩
theorem MapK.lt (h : MapK P k kk w b f) : b < w.heap.size := by
  obtain ⟨es, clock, hb, _⟩ := h
  exact (Array.getElem?_eq_some_iff.1 hb).1
theorem MapK.agr_ (h : MapK P k kk w b f) (e : w'.heap[b]? = w.heap[b]?) : MapK P k kk w' b f := by
  obtain ⟨es, clock, hb, r⟩ := h
  exact ⟨es, clock, e.trans hb, r⟩
theorem MapK.via (h : MapK P k kk w b f) (hb : Below w.heap.size w w') : MapK P k kk w' b f := h.agr_ (hb.block b h.lt)
theorem MapK.al (h : MapK P k kk w b f) (o : Obj) : MapK P k kk (w.alloc o) b f := h.agr_ (Below.heap_alloc w o b h.lt)
theorem MapK.dr (h : MapK P k kk w b f) : MapK P k kk w.drew b f := h
theorem MapK.far (h : MapK P k kk w b f) {p : Addr} (hp : b ≠ p.block) (u : Value) : MapK P k kk (w.setCell p u) b f := h.agr_ (Below.heap_setCell w p u b hp)
theorem MapK.grown {row : Option Nat} (h : MapK P k kk w b f) (hb : w.grownBy w' row) (hg : some b ≠ row) : MapK P k kk w' b f := h.agr_ (hb.block b h.lt hg)
theorem MapK.ext {g : κ → Option Value} (h : MapK P k kk w b f) (e : ∀ y, f y = g y) : MapK P k kk w b g := by
  rw [← funext e]; exact h

variable {t e : TypeId}
/-- 'm[k]', 'v, ok := m[k]' -/
theorem MapK.look (h : MapK P k kk w b f) (c : Bool) (K : Maps.Keyed P k) (ht : P.underlying t = some (.map k e)) {z : Value} (hz : (zeroValue e).run P w = .ok z w) (y : κ) {kl : Lit} (hkey : keyOf P k (kk y) = some kl) :
    (Instr.lookup t (.map (some b)) (kk y) c).run P w = .ok (if c then .tuple #[(f y).getD z, .bool (f y).isSome] else (f y).getD z) w := by
  obtain ⟨es, clock, hb, F, hk, hf⟩ := h
  rcases Maps.fit_look c K ht hz hb F hkey with ⟨hrun, hno, _⟩ | ⟨e0, y0, hm, he, hrun, _⟩
  · have : f y = none := by
      cases hy : f y with
      | none => rfl
      | some v => obtain ⟨x, hx, h1, _⟩ := (hf y v).1 hy; exact absurd h1 (hno x hx)
    rw [hrun, this]; cases c <;> rfl
  · have : f y = some e0.val := (hf y e0.val).2 ⟨e0, hm, he, rfl⟩
    rw [hrun, this]; cases c <;> rfl

/-- 'm[k] = v' -/
theorem MapK.store [DecidableEq κ] (h : MapK P k kk w b f) (K : Maps.Keyed P k) (ht : P.underlying t = some (.map k e)) (hinj : ∀ x y, kk x = kk y → x = y) (y : κ) (val : Value) {kl : Lit} (hkey : keyOf P k (kk y) = some kl)
    (hroom : ∀ es clock, w.heap[b]? = some (.map es clock) → es.size < maxLen) :
    ∃ w', (Instr.mapUpdate t (.map (some b)) (kk y) val).run P w = .ok () w' ∧ MapK P k kk w' b (fun x => if x = y then some val else f x) ∧ w.grownBy w' (some b) ∧ w'.heap.size = w.heap.size := by
  obtain ⟨es, clock, hb, F, hk, hf⟩ := h
  obtain ⟨es', clock', hrun, F', _, _, _, hw⟩ := Maps.fit_store (R' := anyElem) K ht hb F (hroom _ _ hb) (fun _ _ _ _ hz => hz) hkey (rfl : anyElem val = _)
  refine ⟨_, hrun, ⟨es', clock', heap_setBlock_same hb _, F', ?_, ?_⟩, ⟨rfl, rfl, rfl, by simp [setBlock], fun i _ hi => heap_setBlock_other hb _ (fun e => hi (by rw [e]))⟩, by simp [setBlock]⟩
  · intro x hx
    rcases hw x hx with ⟨h1, _⟩ | ⟨h1, _⟩
    · exact hk x h1
    · exact ⟨y, h1⟩
  · -- who stands in the new array: by the very run
    have all : (∀ x ∈ es.toList, x.key ≠ kk y → x ∈ es'.toList) ∧ ∃ x ∈ es'.toList, x.key = kk y ∧ x.val = val := by
      rcases K.find w hkey es.toList F.keys with ⟨h1, h2⟩ | ⟨j, e0, h1, h2, h3⟩
      · have hr2 : (Instr.mapUpdate t (.map (some b)) (kk y) val).run P w = .ok () (setBlock w b (.map (es.push ⟨kk y, val, clock⟩) (clock + 1))) := by
          simp [Instr.mapUpdate, run_underlying ht, MapKept.run_getObj_map hb, K.check w false hkey, h1, MapKept.run_setObj_map _ hb, Result.andThen, setBlock]
        rw [hrun] at hr2
        have hw2 : setBlock w b (.map es' clock') = setBlock w b (.map (es.push ⟨kk y, val, clock⟩) (clock + 1)) := by injection hr2
        have e1 := heap_setBlock_same hb (.map es' clock')
        rw [hw2, heap_setBlock_same hb] at e1
        simp only [Option.some.injEq, Obj.map.injEq] at e1
        rw [← e1.1]
        exact ⟨fun x hx _ => by simp [hx], ⟨⟨kk y, val, clock⟩, by simp, rfl, rfl⟩⟩
      · have hj : es[j]? = some e0 := by simpa using h2
        have hr2 : (Instr.mapUpdate t (.map (some b)) (kk y) val).run P w = .ok () (setBlock w b (.map (es.modify j (fun e' => { e' with key := kk y, val := val })) clock)) := by
          simp [Instr.mapUpdate, run_underlying ht, MapKept.run_getObj_map hb, K.check w false hkey, h1, hj, h3, K.stays w hkey, MapKept.run_setObj_map _ hb, Result.andThen, setBlock]
        rw [hrun] at hr2
        have hw2 : setBlock w b (.map es' clock') = setBlock w b (.map (es.modify j (fun e' => { e' with key := kk y, val := val })) clock) := by injection hr2
        have e1 := heap_setBlock_same hb (.map es' clock')
        rw [hw2, heap_setBlock_same hb] at e1
        simp only [Option.some.injEq, Obj.map.injEq] at e1
        rw [← e1.1]
        have hlist : (es.modify j (fun e' => { e' with key := kk y, val := val })).toList = es.toList.set j { e0 with key := kk y, val := val } := by rw [Array.toList_modify, ChangeMaps.modify_eq_set _ _ _ _ h2]
        rw [hlist]
        have hjl : j < es.toList.length := (List.getElem?_eq_some_iff.1 h2).1
        refine ⟨fun x hx hne => ?_, _, List.mem_iff_getElem?.2 ⟨j, by rw [List.getElem?_set_self hjl]⟩, rfl, rfl⟩
        obtain ⟨i, hi⟩ := List.mem_iff_getElem?.1 hx
        have hij : j ≠ i := fun e' => by
          subst e'
          rw [h2] at hi
          exact hne (by rw [← Option.some.inj hi]; exact h3)
        exact List.mem_iff_getElem?.2 ⟨i, by rw [List.getElem?_set_ne hij]; exact hi⟩
    intro z v
    by_cases hzy : z = y
    · subst hzy
      simp only [if_true, Option.some.injEq]
      constructor
      · rintro rfl; exact all.2
      · rintro ⟨x, hx, h1, h2⟩
        rcases hw x hx with ⟨_, h3⟩ | ⟨_, h3⟩
        · exact absurd h1 h3
        · exact h3.symm.trans h2
    · simp only [if_neg hzy]
      have hne : kk z ≠ kk y := fun e1 => hzy (hinj _ _ e1)
      rw [hf z v]
      constructor
      · rintro ⟨x, hx, h1, h2⟩; exact ⟨x, all.1 x hx (by rw [h1]; exact hne), h1, h2⟩
      · rintro ⟨x, hx, h1, h2⟩
        rcases hw x hx with ⟨h3, _⟩ | ⟨h3, _⟩
        · exact ⟨x, h3, h1, h2⟩
        · exact absurd (h1.symm.trans h3) hne

/-- how many entries there can be -/
theorem MapK.room (h : MapK P k kk w b f) (code : κ → Nat) (N : Nat) (hc : ∀ y, f y ≠ none → code y < N) (hi : ∀ x y, f x ≠ none → f y ≠ none → code x = code y → x = y) :
    ∀ es clock, w.heap[b]? = some (.map es clock) → es.size ≤ N := by
  obtain ⟨es0, clock0, hb, F, hk, hf⟩ := h
  intro es clock hb'
  rw [hb] at hb'
  cases hb'
  have hn : es0.toList.Pairwise (fun x y => x.key ≠ y.key) := ((stamped_iff es0 clock0).1 F.stamped).2.2
  have key : ∀ l : List MapEntry, (∀ x ∈ l, x ∈ es0.toList) → l.Pairwise (fun x y => x.key ≠ y.key) → ∃ m : List Nat, m.length = l.length ∧ m.Nodup ∧ ∀ c ∈ m, ∃ y, c = code y ∧ f y ≠ none ∧ ∃ x ∈ l, x.key = kk y := by
    intro l
    induction l with
    | nil => intro _ _; exact ⟨[], rfl, List.nodup_nil, by simp⟩
    | cons x l ih =>
      intro h1 h2
      obtain ⟨m, h3, h4, h5⟩ := ih (fun y hy => h1 y (List.mem_cons_of_mem _ hy)) (List.pairwise_cons.1 h2).2
      obtain ⟨y, hy⟩ := hk x (h1 x (List.mem_cons_self ..))
      have hfy : f y = some x.val := (hf y x.val).2 ⟨x, h1 x (List.mem_cons_self ..), hy, rfl⟩
      refine ⟨code y :: m, by simp [h3], List.nodup_cons.2 ⟨fun hm => ?_, h4⟩, fun c hc => ?_⟩
      · obtain ⟨y', e1, h6, x', hx', hy'⟩ := h5 _ hm
        have := hi y y' (by simp [hfy]) h6 e1
        subst this
        exact (List.pairwise_cons.1 h2).1 x' hx' (hy.trans hy'.symm)
      · rcases List.mem_cons.1 hc with rfl | hc
        · exact ⟨y, rfl, by simp [hfy], x, List.mem_cons_self .., hy⟩
        · obtain ⟨y', e1, h6, x', hx', hy'⟩ := h5 c hc
          exact ⟨y', e1, h6, x', List.mem_cons_of_mem _ hx', hy'⟩
  obtain ⟨m, h3, h4, h5⟩ := key es0.toList (fun _ h => h) hn
  have : m.length ≤ N := by
    refine nodup_le N m h4 fun c hc' => ?_
    obtain ⟨y, rfl, h6, _⟩ := h5 c hc'
    exact hc y h6
  simpa [h3] using this
end
end Go.Proofs.YtbfcnfgkccgbiaaGreatDoor

