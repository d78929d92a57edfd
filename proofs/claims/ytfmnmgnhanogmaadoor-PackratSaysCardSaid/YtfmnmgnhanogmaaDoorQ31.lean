/- Texts RG, laid together. -/
import Derived.Test.YtfmnmgnhanogmaaDoorQ1
import Derived.Deep.RegionHeld



namespace Go.Proofs.YtfmnmgnhanogmaaDoor
open Go.RowKit

/-- operation z waits for operation i -/
def waitsFor (md : Region.Mode) (ops : Array Oper) (z i : Nat) : Bool := match ops[z]? with
  | some o => o.after.any fun e => Region.binds md e && e.on == i
  | none => false
/-- whatever order is picked from here on; behind each operation but z S holds -/
def wpAnyL (P : Program) (md : Region.Mode) (ops : Array Oper) (Q : Exit → Act → World → Prop) (S : World → Prop) (z : Nat) : Nat → Array Bool → Act → World → Prop
  | 0, l, a, w => Region.ready md ops l = [] ∧ Q .normal a w
  | n + 1, l, a, w => (Region.ready md ops l = [] → Q .normal a w) ∧ ∀ i ∈ Region.ready md ops l, wpOp P ops Q i (fun a' w' => (i ≠ z → S w') ∧ wpAnyL P md ops Q S z n (l.setIfInBounds i true) a' w') a w
section
variable {P : Program} {ops : Array Oper} {Q : Exit → Act → World → Prop} {md : Region.Mode} {S : World → Prop} {z : Nat}
theorem wpAnyL.any : ∀ (n : Nat) (l : Array Bool) (a : Act) (w : World), wpAnyL P md ops Q S z n l a w → wpAny P md ops Q n l a w
  | 0, _, _, _, h => h
  | n + 1, _, _, _, h => ⟨h.1, fun i hi => wpOp_mono (fun a' w' q => wpAnyL.any n _ a' w' q.2) (h.2 i hi)⟩
/-- what yields its value wherever S holds may be taken first, if z waits for it -/
theorem wpAnyL.first {i : Nat} {o : Oper} {v : Value} (hi : ops[i]? = some o) (hsel : Region.noSelect ops = true) (hz : waitsFor md ops z i = true) (hQ : ∀ c a w, Q (.panic c) (a.put o.dst v) w → Q (.panic c) a w) : ∀ (n : Nat) (l : Array Bool) (a : Act) (w : World),
    (∀ j p, ops[j]? = some p → j ≠ i → l.getD j true = false → (∀ e ∈ p.after, Region.binds md e = true → e.on ≠ i) → o.apart ops p = true) → i ∈ Region.ready md ops l → YieldsIf P ops S o v a → S w →
    wpAnyL P md ops Q S z n (l.setIfInBounds i true) (a.put o.dst v) w → wpAnyL P md ops Q S z (n + 1) l a w := by
  intro n
  induction n with
  | zero =>
    intro l a w _ hr hy hS H
    refine ⟨fun e => absurd (e ▸ hr) (by simp), fun j hj => ?_⟩
    by_cases e : j = i
    · subst e; exact hy.wpOp hi hS ⟨fun _ => hS, H⟩
    · exact absurd (H.1 ▸ ready_mono hj e) (by simp)
  | succ n ih =>
    intro l a w hf hr hy hS H
    refine ⟨fun e => absurd (e ▸ hr) (by simp), fun j hj => ?_⟩
    by_cases e : j = i
    · subst e; exact hy.wpOp hi hS ⟨fun _ => hS, H⟩
    · obtain ⟨k0, p, hp, k1⟩ := mem_ready.1 hj
      have k2 := (mem_ready.1 hr).1
      have k3 : ∀ x ∈ p.after, Region.binds md x = true → x.on ≠ i := fun x hx hb q => by
        have k4 := k1 x hx hb
        rw [q] at k4
        rcases Nat.lt_or_ge i l.size with hl | hl
        · simp [hl] at k2 k4; rw [k2] at k4; cases k4
        · simp [Array.getElem?_eq_none hl] at k4
      have hjz : j ≠ z := fun q => by
        subst q
        unfold waitsFor at hz
        rw [hp] at hz
        obtain ⟨x, hx, hb⟩ := Array.any_eq_true'.1 hz
        simp only [Bool.and_eq_true, beq_iff_eq] at hb
        exact k3 x hx hb.1 hb.2
      have k5 := wpOp_putIf hp (hf j p hp e k0 k3) (fun cs b => Region.noSelect_spec hsel i o cs b hi) (fun cs b => Region.noSelect_spec hsel j p cs b hp) hQ hy (H.2 j (ready_mono hj e))
      refine wpOp_mono (fun a' w' q => ?_) k5
      obtain ⟨q1, q2, q3⟩ := q
      have hf' : ∀ k p, ops[k]? = some p → k ≠ i → (l.setIfInBounds j true).getD k true = false → (∀ e ∈ p.after, Region.binds md e = true → e.on ≠ i) → o.apart ops p = true := fun k p' hk hki hun hno => by
        refine hf k p' hk hki ?_ hno
        by_cases hjk : j = k
        · subst hjk; exact k0
        · rw [getD_set_ne true hjk] at hun; exact hun
      exact ⟨fun _ => q2 hjz, ih _ a' w' hf' (ready_mono hr (Ne.symm e)) q1 (q2 hjz) (by rw [Array.setIfInBounds_comm _ _ e]; exact q3)⟩
theorem wpAnyL.take {i : Nat} {oi : Oper} {d : Option Tmp} {v : Value} {n : Nat} {l : Array Bool} {a : Act} {w : World} (hi : ops[i]? = some oi)
    (hs : Region.noSelect ops = true) (hf : Region.free md ops l i = true) (hr : (Region.ready md ops l).contains i = true) (hz : waitsFor md ops z i = true) (hd : oi.dst = d)
    (hQ : ∀ c a w, Q (.panic c) (a.put oi.dst v) w → Q (.panic c) a w) (hy : YieldsIf P ops S oi v a) (hS : S w)
    (h : wpAnyL P md ops Q S z n (l.setIfInBounds i true) (a.put d v) w) : wpAnyL P md ops Q S z (n + 1) l a w :=
  wpAnyL.first hi hs hz hQ n l a w (Region.free_spec hi hf) (by simpa using hr) hy hS (hd ▸ h)
/-- each of the operations rs comes up next -/
def AllL (P : Program) (md : Region.Mode) (ops : Array Oper) (Q : Exit → Act → World → Prop) (S : World → Prop) (z n : Nat) (l : Array Bool) (a : Act) (w : World) (rs : List Nat) : Prop :=
  ∀ i ∈ rs, wpOp P ops Q i (fun a' w' => (i ≠ z → S w') ∧ wpAnyL P md ops Q S z n (l.setIfInBounds i true) a' w') a w
theorem AllL.nil {n : Nat} {l : Array Bool} {a : Act} {w : World} : AllL P md ops Q S z n l a w [] := fun _ h => by cases h
theorem AllL.cons {n : Nat} {l : Array Bool} {a : Act} {w : World} {i : Nat} {o : Oper} {rs : List Nat} (ho : ops[i]? = some o)
    (h : ∀ K : Act → World → Prop, Shut (∀ a w, (i ≠ z → S w) → wpAnyL P md ops Q S z n (l.setIfInBounds i true) a w → K a w) → if Region.wanted o (yielded ops a.tmps) = true then Oper.wp P o a w K Q else K (a.put o.dst undef) w)
    (hs : AllL P md ops Q S z n l a w rs) : AllL P md ops Q S z n l a w (i :: rs) := fun j hj => by
  rcases List.mem_cons.1 hj with rfl | hj
  · exact wpOp_step ho fun K hK => h K fun a w hS hW => hK a w ⟨hS, hW⟩
  · exact hs j hj
theorem wpAnyL.ready {rs : List Nat} {n : Nat} {l : Array Bool} {a : Act} {w : World} (hr : Region.ready md ops l = rs) (hne : rs ≠ []) (h : AllL P md ops Q S z n l a w rs) : wpAnyL P md ops Q S z (n + 1) l a w :=
  ⟨fun e => absurd (hr ▸ e) hne, hr ▸ h⟩
theorem wpAnyL.done {l : Array Bool} {a : Act} {w : World} (hr : Region.ready md ops l = []) (h : Q .normal a w) : ∀ n, wpAnyL P md ops Q S z n l a w
  | 0 => ⟨hr, h⟩
  | _ + 1 => ⟨fun _ => h, by rw [hr]; simp⟩
theorem wp_region_L {id : Nat} {a : Act} {w : World} (z : Nat) (S : World → Prop) (hm : P.follows .mixedOrders = true) (h : wpAnyL P .any ops Q S z ops.size (Array.replicate ops.size false) a w.drew) : (Code.region id ops true).wp P Q a w :=
  wp_region_any hm (wpAnyL.any _ _ _ _ h)
end
theorem wpAnyH_takeD {P : Program} {ops : Array Oper} {Q : Exit → Act → World → Prop} {md : Region.Mode} {S : World → Prop} {i : Nat} {oi : Oper} {d : Option Tmp} {v : Value} {fuel : Nat} {listed : Array Bool} {a : Act} {w : World} (hi : ops[i]? = some oi)
    (hs : Region.noSelect ops = true) (hf : Region.free md ops listed i = true) (hr : (Region.ready md ops listed).contains i = true) (hd : oi.dst = d)
    (hQ : ∀ c a w, Q (.panic c) (a.put oi.dst v) w → Q (.panic c) a w) (hy : YieldsIf P ops S oi v a) (hS : S w)
    (h : wpAnyH P md ops Q S fuel (listed.setIfInBounds i true) (a.put d v) w) : wpAnyH P md ops Q S (fuel + 1) listed a w :=
  wpAnyH_take hi hs hf hr hQ hy hS (hd ▸ h)
end Go.Proofs.YtfmnmgnhanogmaaDoor

