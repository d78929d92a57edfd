/- Texts PW, laid together. -/
import Derived.Test.YtdmecijpioljaaaPV


namespace Go.Proofs.Ytdmecijpioljaaa
open Go.RowKit

/-- the sets 0 .. k hold just the items that the definition gives -/
structure InvI (R : List Ru) (s : Nat) (w : List Nat) (k : Nat) (L : List (List It3)) : Prop where
  len : L.length = k + 1
  nd : ∀ (j : Nat) l, L[j]? = some l → l.Nodup
  ok : ∀ (j : Nat) l, L[j]? = some l → ∀ x ∈ l, ItOk R j x
  iff : ∀ (j : Nat) l, L[j]? = some l → ∀ x, x ∈ l ↔ EIt R s w j x
section
variable {R : List Ru} {s : Nat} {w : List Nat} {k : Nat} {L : List (List It3)}
theorem InvI.take (h : InvI R s w k L) {w' : List Nat} (hw : ∀ i, i < k → w'[i]? = w[i]?) : InvI R s w' k L :=
  ⟨h.len, h.nd, h.ok, fun j l hl x => (h.iff j l hl x).trans (EIt.take_iff (fun i hi => hw i (by have := (List.getElem?_eq_some_iff.1 hl).1; have := h.len; omega))).symm⟩
theorem InvI.start {l0 l' : List It3} (hg : Grew (PredI R 0 (false, s) R.length) [] l0) (hc : Cl R 0 (setI [l0]) l0 l') : InvI R s w 0 [l'] := by
  have key : ∀ x, x ∈ l' ↔ EIt R s w 0 x := by
    refine done_iff (S := setI [l0]) (fun j hj => absurd hj (Nat.not_lt_zero _)) ⟨fun _ r u hr hu => ?_, fun j hj => by omega⟩ hc.shut (hc.snd s w (fun j hj => absurd hj (Nat.not_lt_zero _)) fun x hx => ?_)
    · obtain ⟨m, hm⟩ := hc.pre
      rw [hm]
      exact List.mem_append_left _ (hg.all _ ⟨r, u, (List.getElem?_eq_some_iff.1 hr).1, hr, by rw [hu], rfl⟩)
    · rcases hg.src x hx with h | ⟨r, u, -, hr, hu, rfl⟩
      · cases h
      · exact .start r u hr (congrArg Prod.snd hu).symm
  have one : ∀ (j : Nat) l, [l'][j]? = some l → j = 0 ∧ l = l' := by
    intro j l hl
    cases j with
    | zero => exact ⟨rfl, by simpa using hl.symm⟩
    | succ j => simp at hl
  refine ⟨rfl, fun j l hl => ?_, fun j l hl => ?_, fun j l hl => ?_⟩ <;> obtain ⟨rfl, rfl⟩ := one j l hl
  · exact hc.nd
  · exact hc.ok
  · exact key
theorem InvI.next (h : InvI R s w k L) {l l0 l' : List It3} {t : Nat} (hl : L[k]? = some l) (ht : w[k]? = some t) (hg : Grew (ScanI R t l l.length) [] l0) (hc : Cl R (k + 1) (setI (L ++ [l0])) l0 l') : InvI R s w (k + 1) (L ++ [l']) := by
  have hlen := h.len
  have hS : Done R s w (setI (L ++ [l0])) (k + 1) := fun j hj x => by
    have hq : L[j]? = some (L[j]'(by omega)) := List.getElem?_eq_getElem (by omega)
    have e : setI (L ++ [l0]) j = L[j]'(by omega) := by
      unfold setI
      rw [List.getD_eq_getElem?_getD, List.getElem?_append_left (by omega), hq]; rfl
    rw [e]
    exact h.iff j _ hq x
  have key : ∀ x, x ∈ l' ↔ EIt R s w (k + 1) x := by
    refine done_iff hS ⟨fun e => by omega, fun j hj x t' hx hn hw' => ?_⟩ hc.shut (hc.snd s w hS fun x hx => ?_)
    · obtain rfl : j = k := by omega
      rw [ht] at hw'
      obtain rfl := Option.some.inj hw'
      obtain ⟨m, hm⟩ := hc.pre
      obtain ⟨i, hi⟩ := List.getElem?_of_mem ((h.iff _ l hl x).2 hx)
      rw [hm]
      exact List.mem_append_left _ (hg.all _ ⟨i, x, (List.getElem?_eq_some_iff.1 hi).1, hi, hn, rfl⟩)
    · rcases hg.src x hx with h' | ⟨i, y, -, hi, hn, rfl⟩
      · cases h'
      · exact .scan k y t ((h.iff k l hl y).1 (List.mem_of_getElem? hi)) hn ht
  refine ⟨by rw [List.length_append, hlen]; rfl, fun j m hm => ?_, fun j m hm => ?_, fun j m hm => ?_⟩ <;> rcases get_push hm with ⟨hm, hj⟩ | ⟨hj, hm⟩
  · exact h.nd j m hm
  · subst hm; exact hc.nd
  · exact h.ok j m hm
  · subst hm; rw [hj, hlen]; exact hc.ok
  · exact h.iff j m hm
  · subst hm; rw [hj, hlen]; exact key
theorem InvI.last (h : InvI R s w k L) : ∃ l, L[k]? = some l := ⟨_, List.getElem?_eq_getElem (by rw [h.len]; omega)⟩
theorem InvI.small (h : InvI R s w k L) (hk : k ≤ 100) (hR : R.length ≤ 32) (h4 : ∀ u ∈ R, u.2.length ≤ 4) (j : Nat) (m : List It3) (hm : L[j]? = some m) : m.length ≤ 100000 ∧ ∀ x ∈ m, ItOk R k x := by
  have hj := (List.getElem?_eq_some_iff.1 hm).1
  have := h.len
  exact ⟨lenI hR h4 (by omega) (h.nd j m hm) (h.ok j m hm), fun x hx => ⟨Nat.le_trans (h.ok j m hm x hx).1 (by omega), (h.ok j m hm x hx).2⟩⟩
/-- which terminals stand behind the positions of the first m items -/
def mayI (R : List Ru) (l : List It3) (n m : Nat) : List Bool := (List.range n).map fun t => (l.take m).any fun x => decide (nxtI R x = some (true, t))
theorem mayI_len {l : List It3} {n m : Nat} : (mayI R l n m).length = n := by simp [mayI]
theorem mayI_get {l : List It3} {n m t : Nat} (ht : t < n) : (mayI R l n m)[t]? = some ((l.take m).any fun x => decide (nxtI R x = some (true, t))) := by
  simp [mayI, ht]
theorem mayI_zero {l : List It3} {n : Nat} : mayI R l n 0 = List.replicate n false := by
  refine List.ext_getElem? fun t => ?_
  by_cases ht : t < n
  · rw [mayI_get ht]; simp [ht]
  · rw [List.getElem?_eq_none (by rw [mayI_len]; omega), List.getElem?_eq_none (by simp; omega)]
theorem take_succ_any {α : Type} {l : List α} {m : Nat} {x : α} (hx : l[m]? = some x) (p : α → Bool) : (l.take (m + 1)).any p = ((l.take m).any p || p x) := by
  rw [take_more hx, List.any_append]; simp
theorem mayI_hit {l : List It3} {n m tn : Nat} {x : It3} (hx : l[m]? = some x) (hn : nxtI R x = some (true, tn)) : mayI R l n (m + 1) = (mayI R l n m).set tn true := by
  refine List.ext_getElem? fun t => ?_
  by_cases h : t < n
  · rw [mayI_get h, take_succ_any hx]
    by_cases e : tn = t
    · subst e
      rw [List.getElem?_set_self (by rw [mayI_len]; exact h)]
      simp [hn]
    · rw [List.getElem?_set_ne e, mayI_get h]
      have : decide (nxtI R x = some (true, t)) = false := by
        rw [hn]; exact decide_eq_false fun e' => e (by simpa using e')
      rw [this, Bool.or_false]
  · rw [List.getElem?_eq_none (by rw [mayI_len]; omega), List.getElem?_eq_none (by rw [List.length_set, mayI_len]; omega)]
theorem mayI_miss {l : List It3} {n m : Nat} {x : It3} (hx : l[m]? = some x) (hn : ∀ t, nxtI R x ≠ some (true, t)) : mayI R l n (m + 1) = mayI R l n m := by
  refine List.ext_getElem? fun t => ?_
  by_cases h : t < n
  · rw [mayI_get h, mayI_get h, take_succ_any hx, decide_eq_false (hn t), Bool.or_false]
  · rw [List.getElem?_eq_none (by rw [mayI_len]; omega), List.getElem?_eq_none (by rw [mayI_len]; omega)]
open Classical in
/-- what may come next, as the definition says -/
noncomputable def mayB (R : List Ru) (s : Nat) (w : List Nat) (k t : Nat) : Bool := decide (MayE R s w k t)
theorem InvI.may (h : InvI R s w k L) {l : List It3} (hl : L[k]? = some l) {n t : Nat} (ht : t < n) : (mayI R l n l.length)[t]? = some (mayB R s w k t) := by
  rw [mayI_get ht, List.take_length]
  refine congrArg some (Bool.eq_iff_iff.2 ?_)
  unfold mayB
  rw [List.any_eq_true, @decide_eq_true_iff _ (Classical.propDecidable _)]
  constructor
  · rintro ⟨x, hx, hn⟩
    exact ⟨x, (h.iff k l hl x).1 hx, of_decide_eq_true hn⟩
  · rintro ⟨x, hx, hn⟩
    exact ⟨x, (h.iff k l hl x).2 hx, decide_eq_true hn⟩
end
end Go.Proofs.Ytdmecijpioljaaa

