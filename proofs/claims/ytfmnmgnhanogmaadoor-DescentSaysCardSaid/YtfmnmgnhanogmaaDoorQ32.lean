/- Texts RI, laid together. -/
import Derived.Test.YtfmnmgnhanogmaaDoorQ6


namespace Go.Proofs.YtfmnmgnhanogmaaDoor
open Go.RowKit

/-- whatever order is picked from here on; until z has run S holds behind each operation -/
def wpAnyN (P : Program) (md : Region.Mode) (ops : Array Oper) (Q : Exit → Act → World → Prop) (S : World → Prop) (z : Nat) : Nat → Array Bool → Act → World → Prop
  | 0, l, a, w => Region.ready md ops l = [] ∧ Q .normal a w
  | n + 1, l, a, w => (Region.ready md ops l = [] → Q .normal a w) ∧ ∀ i ∈ Region.ready md ops l, wpOp P ops Q i (fun a' w' => ((l.setIfInBounds i true).getD z true = false → S w') ∧ wpAnyN P md ops Q S z n (l.setIfInBounds i true) a' w') a w
section
variable {P : Program} {ops : Array Oper} {Q : Exit → Act → World → Prop} {md : Region.Mode} {S : World → Prop} {z : Nat}
theorem wpAnyN.any : ∀ (n : Nat) (l : Array Bool) (a : Act) (w : World), wpAnyN P md ops Q S z n l a w → wpAny P md ops Q n l a w
  | 0, _, _, _, h => h
  | n + 1, _, _, _, h => ⟨h.1, fun i hi => wpOp_mono (fun a' w' q => wpAnyN.any n _ a' w' q.2) (h.2 i hi)⟩
theorem getD_set_other {l : Array Bool} {i z : Nat} (h : i ≠ z) : (l.setIfInBounds i true).getD z true = l.getD z true := getD_set_ne true h
/-- what yields its value wherever T holds may be taken first, if T holds as long as it waits -/
theorem wpAnyN.first (T : World → Prop) {i : Nat} {o : Oper} {v : Value} (hi : ops[i]? = some o) (hiz : i ≠ z) (hsel : Region.noSelect ops = true) (hT : (∀ w, T w) ∨ ((∀ w, S w → T w) ∧ waitsFor md ops z i = true)) (hQ : ∀ c a w, Q (.panic c) (a.put o.dst v) w → Q (.panic c) a w) : ∀ (n : Nat) (l : Array Bool) (a : Act) (w : World),
    (∀ j p, ops[j]? = some p → j ≠ i → l.getD j true = false → (∀ e ∈ p.after, Region.binds md e = true → e.on ≠ i) → o.apart ops p = true) → i ∈ Region.ready md ops l → YieldsIf P ops T o v a → (l.getD z true = false → S w) → T w → ((∀ w, T w) ∨ l.getD z true = false) →
    wpAnyN P md ops Q S z n (l.setIfInBounds i true) (a.put o.dst v) w → wpAnyN P md ops Q S z (n + 1) l a w := by
  intro n
  induction n with
  | zero =>
    intro l a w _ hr hy hS hTw _ H
    refine ⟨fun e => absurd (e ▸ hr) (by simp), fun j hj => ?_⟩
    by_cases e : j = i
    · subst e; exact hy.wpOp hi hTw ⟨fun e => hS ((getD_set_other hiz) ▸ e), H⟩
    · exact absurd (H.1 ▸ ready_mono hj e) (by simp)
  | succ n ih =>
    intro l a w hf hr hy hS hTw hL H
    refine ⟨fun e => absurd (e ▸ hr) (by simp), fun j hj => ?_⟩
    by_cases e : j = i
    · subst e; exact hy.wpOp hi hTw ⟨fun e => hS ((getD_set_other hiz) ▸ e), H⟩
    · obtain ⟨k0, p, hp, k1⟩ := mem_ready.1 hj
      have k2 := (mem_ready.1 hr).1
      have k3 : ∀ x ∈ p.after, Region.binds md x = true → x.on ≠ i := fun x hx hb q => by
        have k4 := k1 x hx hb
        rw [q] at k4
        rcases Nat.lt_or_ge i l.size with hl | hl
        · simp [hl] at k2 k4; rw [k2] at k4; cases k4
        · simp [Array.getElem?_eq_none hl] at k4
      have k5 := wpOp_putIf hp (hf j p hp e k0 k3) (fun cs b => Region.noSelect_spec hsel i o cs b hi) (fun cs b => Region.noSelect_spec hsel j p cs b hp) hQ hy (H.2 j (ready_mono hj e))
      refine wpOp_mono (fun a' w' q => ?_) k5
      obtain ⟨q1, q2, q3⟩ := q
      have hS' : (l.setIfInBounds j true).getD z true = false → S w' := fun h => q2 (by
        rw [Array.setIfInBounds_comm _ _ (Ne.symm e)]
        rw [getD_set_other hiz]; exact h)
      have hf' : ∀ k p, ops[k]? = some p → k ≠ i → (l.setIfInBounds j true).getD k true = false → (∀ e ∈ p.after, Region.binds md e = true → e.on ≠ i) → o.apart ops p = true := fun k p' hk hki hun hno => by
        refine hf k p' hk hki ?_ hno
        by_cases hjk : j = k
        · subst hjk; exact k0
        · rw [getD_set_ne true hjk] at hun; exact hun
      have hL' : (∀ w, T w) ∨ (l.setIfInBounds j true).getD z true = false := by
        rcases hT with hT | ⟨hT, hz⟩
        · exact Or.inl hT
        · rcases hL with hL | hL
          · exact Or.inl hL
          · refine Or.inr ?_
            have hjz : j ≠ z := fun q => by
              subst q
              unfold waitsFor at hz
              rw [hp] at hz
              obtain ⟨x, hx, hb⟩ := Array.any_eq_true'.1 hz
              simp only [Bool.and_eq_true, beq_iff_eq] at hb
              exact k3 x hx hb.1 hb.2
            rw [getD_set_other hjz]; exact hL
      have hTw' : T w' := by
        rcases hL' with h | h
        · exact h w'
        · rcases hT with hT | ⟨hT, -⟩
          · exact hT w'
          · exact hT w' (hS' h)
      exact ⟨hS', ih _ a' w' hf' (ready_mono hr (Ne.symm e)) q1 hS' hTw' hL' (by rw [Array.setIfInBounds_comm _ _ e]; exact q3)⟩
theorem wpAnyN.take {i : Nat} {oi : Oper} {d : Option Tmp} {v : Value} {n : Nat} {l : Array Bool} {a : Act} {w : World} (hi : ops[i]? = some oi) (hiz : i ≠ z)
    (hs : Region.noSelect ops = true) (hf : Region.free md ops l i = true) (hr : (Region.ready md ops l).contains i = true) (hz : waitsFor md ops z i = true) (hl : l.getD z true = false) (hd : oi.dst = d)
    (hQ : ∀ c a w, Q (.panic c) (a.put oi.dst v) w → Q (.panic c) a w) (hy : YieldsIf P ops S oi v a) (hS : S w)
    (h : wpAnyN P md ops Q S z n (l.setIfInBounds i true) (a.put d v) w) : wpAnyN P md ops Q S z (n + 1) l a w :=
  wpAnyN.first S hi hiz hs (Or.inr ⟨fun _ h => h, hz⟩) hQ n l a w (Region.free_spec hi hf) (by simpa using hr) hy (fun _ => hS) hS (Or.inr hl) (hd ▸ h)
/-- what reads no memory -/
theorem wpAnyN.free {i : Nat} {oi : Oper} {d : Option Tmp} {v : Value} {n : Nat} {l : Array Bool} {a : Act} {w : World} (hi : ops[i]? = some oi) (hiz : i ≠ z)
    (hs : Region.noSelect ops = true) (hf : Region.free md ops l i = true) (hr : (Region.ready md ops l).contains i = true) (hd : oi.dst = d)
    (hQ : ∀ c a w, Q (.panic c) (a.put oi.dst v) w → Q (.panic c) a w) (hy : YieldsIf P ops (fun _ => True) oi v a) (hS : l.getD z true = false → S w)
    (h : wpAnyN P md ops Q S z n (l.setIfInBounds i true) (a.put d v) w) : wpAnyN P md ops Q S z (n + 1) l a w :=
  wpAnyN.first (fun _ => True) hi hiz hs (Or.inl fun _ => trivial) hQ n l a w (Region.free_spec hi hf) (by simpa using hr) hy hS trivial (Or.inl fun _ => trivial) (hd ▸ h)
/-- each of the operations rs comes up next -/
def AllN (P : Program) (md : Region.Mode) (ops : Array Oper) (Q : Exit → Act → World → Prop) (S : World → Prop) (z n : Nat) (l : Array Bool) (a : Act) (w : World) (rs : List Nat) : Prop :=
  ∀ i ∈ rs, wpOp P ops Q i (fun a' w' => ((l.setIfInBounds i true).getD z true = false → S w') ∧ wpAnyN P md ops Q S z n (l.setIfInBounds i true) a' w') a w
theorem AllN.nil {n : Nat} {l : Array Bool} {a : Act} {w : World} : AllN P md ops Q S z n l a w [] := fun _ h => by cases h
theorem AllN.cons {n : Nat} {l : Array Bool} {a : Act} {w : World} {i : Nat} {o : Oper} {rs : List Nat} (ho : ops[i]? = some o)
    (h : ∀ K : Act → World → Prop, Shut (∀ a w, ((l.setIfInBounds i true).getD z true = false → S w) → wpAnyN P md ops Q S z n (l.setIfInBounds i true) a w → K a w) → if Region.wanted o (yielded ops a.tmps) = true then Oper.wp P o a w K Q else K (a.put o.dst undef) w)
    (hs : AllN P md ops Q S z n l a w rs) : AllN P md ops Q S z n l a w (i :: rs) := fun j hj => by
  rcases List.mem_cons.1 hj with rfl | hj
  · exact wpOp_step ho fun K hK => h K fun a w hS hW => hK a w ⟨hS, hW⟩
  · exact hs j hj
theorem wpAnyN.ready {rs : List Nat} {n : Nat} {l : Array Bool} {a : Act} {w : World} (hr : Region.ready md ops l = rs) (hne : rs ≠ []) (h : AllN P md ops Q S z n l a w rs) : wpAnyN P md ops Q S z (n + 1) l a w :=
  ⟨fun e => absurd (hr ▸ e) hne, hr ▸ h⟩
theorem wpAnyN.done {l : Array Bool} {a : Act} {w : World} (hr : Region.ready md ops l = []) (h : Q .normal a w) : ∀ n, wpAnyN P md ops Q S z n l a w
  | 0 => ⟨hr, h⟩
  | _ + 1 => ⟨fun _ => h, by rw [hr]; simp⟩
theorem wp_region_N {id : Nat} {a : Act} {w : World} (z : Nat) (S : World → Prop) (hm : P.follows .mixedOrders = true) (h : wpAnyN P .any ops Q S z ops.size (Array.replicate ops.size false) a w.drew) : (Code.region id ops true).wp P Q a w :=
  wp_region_any hm (wpAnyN.any _ _ _ _ h)
end
end Go.Proofs.YtfmnmgnhanogmaaDoor

