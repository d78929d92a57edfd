/- Texts HC, HD, HE, HF, HG, LG, WD, HI, HJ, LI, HN, WE, WF, ZL, ZM, WG, HX, PB, RG, PD, PE, PI, PJ, PK, PL, PN, laid together. -/
import Derived.Test.YtbfcnfgkccgbiaaGreatDoorQ5
import Derived.Test.YtbfcnfgkccgbiaaGreatDoorQ6
import Derived.Test.YtbfcnfgkccgbiaaGreatDoorQ1
import Derived.Shelf.Bits.Mul64
import Derived.Shelf.Lay
import Derived.Ground.NamesProg
import Derived.Laws.CopyOwn
import Derived.Deep.CutBlock
import Derived.Deep.RegionHeld



namespace Go.Proofs.YtbfcnfgkccgbiaaGreatDoor
open Go.RowKit

set_option maxRecDepth 100000 in
set_option maxHeartbeats 1000000 in
theorem gT_c (n : Int) (w : World) : Calls Tryz.prog 61 #[.int .i64 n] w fun e w' => e = .returned (.agg #[.bool true, .int .i64 n]) ∧ Below w.heap.size w w' := by
  go_enter Tryz.func61, Tryz.ntmps61
  go_wp2_with fail
  exact bodyPost_ret (v := .agg #[.bool true, .int .i64 n]) (by simp [results, Tryz.results61, go_sem]) rfl ⟨rfl, (Below.refl _ _).al _⟩
end Go.Proofs.YtbfcnfgkccgbiaaGreatDoor



namespace Go.Proofs.YtbfcnfgkccgbiaaGreatDoor
open Go.RowKit

theorem gN_c (n : Int) (w : World) : Calls Tryz.prog 58 #[.int .i64 n] w fun e w' => e = .returned (.agg #[.bool false, .int .i64 n]) ∧ Below w.heap.size w w' := by
  go_enter Tryz.func58, Tryz.ntmps58
  go_wp2_with fail
  exact bodyPost_ret (v := .agg #[.bool false, .int .i64 n]) (by simp [results, Tryz.results58, go_sem]) rfl ⟨rfl, (Below.refl _ _).al _⟩
end Go.Proofs.YtbfcnfgkccgbiaaGreatDoor




namespace Go.Proofs.YtbfcnfgkccgbiaaGreatDoor
open Go.RowKit

theorem OwnI.dr {w : World} {base n : Nat} {v : Value} {xs : List Int} (h : OwnI w base v n xs) : OwnI w.drew base v n xs := h.keep ((Below.refl w.heap.size w).drew) (Nat.le_refl _)
end Go.Proofs.YtbfcnfgkccgbiaaGreatDoor




namespace Go.Proofs.YtbfcnfgkccgbiaaGreatDoor
open Go.RowKit

/-- operation z waits for operation i -/
def waitsFor (md : Region.Mode) (ops : Array Oper) (z i : Nat) : Bool := match ops[z]? with
  | some o => o.after.any fun e => Region.binds md e && e.on == i
  | none => false
/-- whatever order is picked from here on; behind each operation but z S holds -/
def wpAnyL (P : Program) (md : Region.Mode) (ops : Array Oper) (Q : Exit → Act → World → Prop) (S : World → Prop) (z : Nat) : Nat → Array Bool → Act → World → Prop
  | 0, l, a, w => Region.ready md ops l = [] ∧ Q .normal a w
  | n + 1, l, a, w => (Region.ready md ops l = [] → Q .normal a w) ∧ ∀ i ∈ Region.ready md ops l, wpOp P ops Q i (fun a' w' => (i ≠ z → S w') ∧ wpAnyL P md ops Q S z n (l.setIfInBounds i true) a' w') a w
section
variable {P : Program} {ops : Array Oper} {Q : Exit → Act → World → Prop} {md : Region.Mode} {S : World → Prop} {z : Nat}
theorem wpAnyL.any : ∀ (n : Nat) (l : Array Bool) (a : Act) (w : World), wpAnyL P md ops Q S z n l a w → wpAny P md ops Q n l a w
  | 0, _, _, _, h => h
  | n + 1, _, _, _, h => ⟨h.1, fun i hi => wpOp_mono (fun a' w' q => wpAnyL.any n _ a' w' q.2) (h.2 i hi)⟩
/-- what yields its value wherever S holds may be taken first, if z waits for it -/
theorem wpAnyL.first {i : Nat} {o : Oper} {v : Value} (hi : ops[i]? = some o) (hsel : Region.noSelect ops = true) (hz : waitsFor md ops z i = true) (hQ : ∀ c a w, Q (.panic c) (a.put o.dst v) w → Q (.panic c) a w) : ∀ (n : Nat) (l : Array Bool) (a : Act) (w : World),
    (∀ j p, ops[j]? = some p → j ≠ i → l.getD j true = false → (∀ e ∈ p.after, Region.binds md e = true → e.on ≠ i) → o.apart ops p = true) → i ∈ Region.ready md ops l → YieldsIf P ops S o v a → S w →
    wpAnyL P md ops Q S z n (l.setIfInBounds i true) (a.put o.dst v) w → wpAnyL P md ops Q S z (n + 1) l a w := by
  intro n
  induction n with
  | zero =>
    intro l a w _ hr hy hS H
    refine ⟨fun e => absurd (e ▸ hr) (by simp), fun j hj => ?_⟩
    by_cases e : j = i
    · subst e; exact hy.wpOp hi hS ⟨fun _ => hS, H⟩
    · exact absurd (H.1 ▸ ready_mono hj e) (by simp)
  | succ n ih =>
    intro l a w hf hr hy hS H
    refine ⟨fun e => absurd (e ▸ hr) (by simp), fun j hj => ?_⟩
    by_cases e : j = i
    · subst e; exact hy.wpOp hi hS ⟨fun _ => hS, H⟩
    · obtain ⟨k0, p, hp, k1⟩ := mem_ready.1 hj
      have k2 := (mem_ready.1 hr).1
      have k3 : ∀ x ∈ p.after, Region.binds md x = true → x.on ≠ i := fun x hx hb q => by
        have k4 := k1 x hx hb
        rw [q] at k4
        rcases Nat.lt_or_ge i l.size with hl | hl
        · simp [hl] at k2 k4; rw [k2] at k4; cases k4
        · simp [Array.getElem?_eq_none hl] at k4
      have hjz : j ≠ z := fun q => by
        subst q
        unfold waitsFor at hz
        rw [hp] at hz
        obtain ⟨x, hx, hb⟩ := Array.any_eq_true'.1 hz
        simp only [Bool.and_eq_true, beq_iff_eq] at hb
        exact k3 x hx hb.1 hb.2
      have k5 := wpOp_putIf hp (hf j p hp e k0 k3) (fun cs b => Region.noSelect_spec hsel i o cs b hi) (fun cs b => Region.noSelect_spec hsel j p cs b hp) hQ hy (H.2 j (ready_mono hj e))
      refine wpOp_mono (fun a' w' q => ?_) k5
      obtain ⟨q1, q2, q3⟩ := q
      have hf' : ∀ k p, ops[k]? = some p → k ≠ i → (l.setIfInBounds j true).getD k true = false → (∀ e ∈ p.after, Region.binds md e = true → e.on ≠ i) → o.apart ops p = true := fun k p' hk hki hun hno => by
        refine hf k p' hk hki ?_ hno
        by_cases hjk : j = k
        · subst hjk; exact k0
        · rw [getD_set_ne true hjk] at hun; exact hun
      exact ⟨fun _ => q2 hjz, ih _ a' w' hf' (ready_mono hr (Ne.symm e)) q1 (q2 hjz) (by rw [Array.setIfInBounds_comm _ _ e]; exact q3)⟩
theorem wpAnyL.take {i : Nat} {oi : Oper} {d : Option Tmp} {v : Value} {n : Nat} {l : Array Bool} {a : Act} {w : World} (hi : ops[i]? = some oi)
    (hs : Region.noSelect ops = true) (hf : Region.free md ops l i = true) (hr : (Region.ready md ops l).contains i = true) (hz : waitsFor md ops z i = true) (hd : oi.dst = d)
    (hQ : ∀ c a w, Q (.panic c) (a.put oi.dst v) w → Q (.panic c) a w) (hy : YieldsIf P ops S oi v a) (hS : S w)
    (h : wpAnyL P md ops Q S z n (l.setIfInBounds i true) (a.put d v) w) : wpAnyL P md ops Q S z (n + 1) l a w :=
  wpAnyL.first hi hs hz hQ n l a w (Region.free_spec hi hf) (by simpa using hr) hy hS (hd ▸ h)
/-- each of the operations rs comes up next -/
def AllL (P : Program) (md : Region.Mode) (ops : Array Oper) (Q : Exit → Act → World → Prop) (S : World → Prop) (z n : Nat) (l : Array Bool) (a : Act) (w : World) (rs : List Nat) : Prop :=
  ∀ i ∈ rs, wpOp P ops Q i (fun a' w' => (i ≠ z → S w') ∧ wpAnyL P md ops Q S z n (l.setIfInBounds i true) a' w') a w
theorem AllL.nil {n : Nat} {l : Array Bool} {a : Act} {w : World} : AllL P md ops Q S z n l a w [] := fun _ h => by cases h
theorem AllL.cons {n : Nat} {l : Array Bool} {a : Act} {w : World} {i : Nat} {o : Oper} {rs : List Nat} (ho : ops[i]? = some o)
    (h : ∀ K : Act → World → Prop, Shut (∀ a w, (i ≠ z → S w) → wpAnyL P md ops Q S z n (l.setIfInBounds i true) a w → K a w) → if Region.wanted o (yielded ops a.tmps) = true then Oper.wp P o a w K Q else K (a.put o.dst undef) w)
    (hs : AllL P md ops Q S z n l a w rs) : AllL P md ops Q S z n l a w (i :: rs) := fun j hj => by
  rcases List.mem_cons.1 hj with rfl | hj
  · exact wpOp_step ho fun K hK => h K fun a w hS hW => hK a w ⟨hS, hW⟩
  · exact hs j hj
theorem wpAnyL.ready {rs : List Nat} {n : Nat} {l : Array Bool} {a : Act} {w : World} (hr : Region.ready md ops l = rs) (hne : rs ≠ []) (h : AllL P md ops Q S z n l a w rs) : wpAnyL P md ops Q S z (n + 1) l a w :=
  ⟨fun e => absurd (hr ▸ e) hne, hr ▸ h⟩
theorem wpAnyL.done {l : Array Bool} {a : Act} {w : World} (hr : Region.ready md ops l = []) (h : Q .normal a w) : ∀ n, wpAnyL P md ops Q S z n l a w
  | 0 => ⟨hr, h⟩
  | _ + 1 => ⟨fun _ => h, by rw [hr]; simp⟩
theorem wp_region_L {id : Nat} {a : Act} {w : World} (z : Nat) (S : World → Prop) (hm : P.follows .mixedOrders = true) (h : wpAnyL P .any ops Q S z ops.size (Array.replicate ops.size false) a w.drew) : (Code.region id ops true).wp P Q a w :=
  wp_region_any hm (wpAnyL.any _ _ _ _ h)
end
theorem wpAnyH_takeD {P : Program} {ops : Array Oper} {Q : Exit → Act → World → Prop} {md : Region.Mode} {S : World → Prop} {i : Nat} {oi : Oper} {d : Option Tmp} {v : Value} {fuel : Nat} {listed : Array Bool} {a : Act} {w : World} (hi : ops[i]? = some oi)
    (hs : Region.noSelect ops = true) (hf : Region.free md ops listed i = true) (hr : (Region.ready md ops listed).contains i = true) (hd : oi.dst = d)
    (hQ : ∀ c a w, Q (.panic c) (a.put oi.dst v) w → Q (.panic c) a w) (hy : YieldsIf P ops S oi v a) (hS : S w)
    (h : wpAnyH P md ops Q S fuel (listed.setIfInBounds i true) (a.put d v) w) : wpAnyH P md ops Q S (fuel + 1) listed a w :=
  wpAnyH_take hi hs hf hr hQ hy hS (hd ▸ h)
end Go.Proofs.YtbfcnfgkccgbiaaGreatDoor




namespace Go.Proofs.YtbfcnfgkccgbiaaGreatDoor
open Go.RowKit

section
variable {α ρ : Type} {E : Elem α ρ} {e T : TypeId} {W wr wa w1 : World} {bo lo k : Nat} {ok : Nat → Prop} {c0 c1 c2 v v' : Value} {ks ks' : List α}
end
theorem Own.base {α ρ : Type} {E : Elem α ρ} {e : TypeId} {ok : Nat → Prop} {w : World} {B B' n : Nat} {v : Value} {l : List α} (h : Own E e ok w B v n l) (hb : B' ≤ B) : Own E e ok w B' v n l := by
  obtain ⟨h1, raw, h3, h4, h5⟩ := h
  refine ⟨h1, raw, h3, ⟨h4.1, ?_⟩, h5⟩
  rcases h4.2 with h0 | ⟨g, cap, cur, hv, hg, hr⟩
  · exact Or.inl h0
  · exact Or.inr ⟨g, cap, cur, hv, Nat.le_trans hb hg, hr⟩
end Go.Proofs.YtbfcnfgkccgbiaaGreatDoor




namespace Go.Proofs.YtbfcnfgkccgbiaaGreatDoor
open Go.RowKit

def itVal (x : It3) : Value := .agg #[.int .i64 (x.r : Int), .int .i64 (x.d : Int), .int .i64 (x.f : Int)]
end Go.Proofs.YtbfcnfgkccgbiaaGreatDoor




namespace Go.Proofs.YtbfcnfgkccgbiaaGreatDoor
open Go.RowKit

/-! ### plain: how a list of items grows -/
structure Grew (P : It3 → Prop) (l l' : List It3) : Prop where
  pre : ∃ m, l' = l ++ m
  nd : l.Nodup → l'.Nodup
  src : ∀ x, x ∈ l' → x ∈ l ∨ P x
  all : ∀ x, P x → x ∈ l'
def addI (l : List It3) (x : It3) : List It3 := if x ∈ l then l else l ++ [x]
section
variable {P Q : It3 → Prop} {l l' l'' : List It3}
theorem Grew.none (h : ∀ x, ¬ P x) : Grew P l l := ⟨⟨[], by simp⟩, id, fun _ h => Or.inl h, fun x hx => absurd hx (h x)⟩
theorem Grew.mem (h : Grew P l l') {x : It3} (hx : x ∈ l) : x ∈ l' := by obtain ⟨m, rfl⟩ := h.pre; exact List.mem_append_left _ hx
theorem Grew.add (h : Grew P l l') (x : It3) : Grew (fun y => P y ∨ y = x) l (addI l' x) := by
  unfold addI
  by_cases hx : x ∈ l'
  · rw [if_pos hx]
    exact ⟨h.pre, h.nd, fun y hy => (h.src y hy).imp_right Or.inl, fun y hy => hy.elim (h.all y) (fun e => e ▸ hx)⟩
  · rw [if_neg hx]
    obtain ⟨m, hm⟩ := h.pre
    refine ⟨⟨m ++ [x], by rw [hm, List.append_assoc]⟩, fun hn => ?_, fun y hy => ?_, fun y hy => ?_⟩
    · rw [List.nodup_append]
      refine ⟨h.nd hn, by simp, fun a ha b hb => ?_⟩
      rw [List.mem_singleton] at hb
      exact fun e => hx (by rw [← hb, ← e]; exact ha)
    · rcases List.mem_append.1 hy with hy | hy
      · exact (h.src y hy).imp_right Or.inl
      · exact Or.inr (Or.inr (List.mem_singleton.1 hy))
    · rcases hy with hy | hy
      · exact List.mem_append_left _ (h.all y hy)
      · exact List.mem_append_right _ (List.mem_singleton.2 hy)
theorem Grew.iff (h : Grew P l l') (he : ∀ x, Q x ↔ P x) : Grew Q l l' :=
  ⟨h.pre, h.nd, fun x hx => (h.src x hx).imp_right (he x).2, fun x hx => h.all x ((he x).1 hx)⟩
theorem Grew.trans (h : Grew P l l') (k : Grew Q l' l'') : Grew (fun x => P x ∨ Q x) l l'' := by
  obtain ⟨m, hm⟩ := h.pre
  obtain ⟨m', hm'⟩ := k.pre
  refine ⟨⟨m ++ m', by rw [hm', hm, List.append_assoc]⟩, fun hn => k.nd (h.nd hn), fun x hx => ?_, fun x hx => ?_⟩
  · rcases k.src x hx with hx | hx
    · exact (h.src x hx).imp_right Or.inl
    · exact Or.inr (Or.inr hx)
  · rcases hx with hx | hx
    · exact k.mem (h.all x hx)
    · exact k.all x hx
theorem Grew.eq_of_len (h : Grew P l l') (hl : l'.length = l.length) : l' = l := by
  obtain ⟨m, hm⟩ := h.pre
  have : m = [] := List.eq_nil_of_length_eq_zero (by rw [hm, List.length_append] at hl; omega)
  rw [hm, this, List.append_nil]
theorem Grew.le (h : Grew P l l') : l.length ≤ l'.length := by obtain ⟨m, rfl⟩ := h.pre; simp
end
/-- not many items -/
theorem lenI {R : List Ru} {k : Nat} {l : List It3} (h1 : R.length ≤ 32) (h2 : ∀ u ∈ R, u.2.length ≤ 4) (hk : k ≤ 100) (hn : l.Nodup) (ho : ∀ x ∈ l, ItOk R k x) : l.length ≤ 100000 := by
  have h := items_le h2 hn ho
  have a : (4 + 1) * (k + 1) ≤ 505 := by omega
  have b : R.length * ((4 + 1) * (k + 1)) ≤ 32 * 505 := Nat.mul_le_mul h1 a
  omega

/-! ### the sets move on -/
/-- all blocks that N speaks of are as they were (two families of blocks: true, the narrow one that is left alone while one row grows; false, all that is no block of the sets) -/
structure Mov (N N' : Bool → Nat → Prop) (w w' : World) : Prop where
  env : Below 0 w w'
  agr : ∀ i, Agr (N i) w w'
  no : ∀ i b, b < w.heap.size → N i b → N' i b
section
variable {N N' N'' : Bool → Nat → Prop} {w w' w'' : World}
theorem Mov.of (hb : Below w.heap.size w w') : Mov N N w w' := ⟨hb.mono (Nat.zero_le _), fun _ => Agr.below hb, fun _ _ _ h => h⟩
theorem Mov.trans (h : Mov N N' w w') (k : Mov N' N'' w' w'') : Mov N N'' w w'' :=
  ⟨h.env.trans k.env, fun i b hb hlt => (k.agr i b (h.no i b hlt hb) (Nat.lt_of_lt_of_le hlt h.env.size)).trans (h.agr i b hb hlt), fun i b hlt hb => k.no i b (Nat.lt_of_lt_of_le hlt h.env.size) (h.no i b hlt hb)⟩
theorem Mov.via (h : Mov N N' w w') (hb : Below w'.heap.size w' w'') : Mov N N' w w'' := h.trans (.of hb)
theorem Mov.blk {i : Bool} {b : Nat} {t : TypeId} {cs : Array Value} (h : Mov N N' w w') (hB : Blk w b t cs) (hn : N i b) : Blk w' b t cs := (h.agr i b hn hB.lt).trans hB
theorem Mov.sl {i : Bool} {α ρ : Type} {E : Elem α ρ} {ok : Nat → Prop} {A : Option Addr} {n c : Nat} {l : List α} (h : Mov N N' w w') (hs0 : Sl E ok w A n c l) (hn : ∀ b, ok b → N i b) : Sl E ok w' A n c l := hs0.agr ((h.agr i).mono hn)
theorem Mov.below {base : Nat} {i : Bool} (h : Mov N N' w w') (hn : ∀ b, b < base → N i b) (hb : base ≤ w.heap.size) : Below base w w' :=
  ⟨h.env.os, h.env.tape, h.env.output, h.env.size, fun k hk => h.agr i k (hn k hk) (Nat.lt_of_lt_of_le hk hb)⟩
end
/-- neither the block of the headers nor that of the k-th row -/
def NoK (k : Nat) (v : Value) (hs : List SlV) (b : Nat) : Prop := v.ownBlock ≠ some b ∧ ∀ h, hs[k]? = some h → (slV h).ownBlock ≠ some b
def NoF (k : Nat) (v : Value) (hs : List SlV) : Bool → Nat → Prop
  | true, b => NoK k v hs b
  | false, b => Sets.no v hs b
theorem Sets.no.nok {k : Nat} {v : Value} {hs : List SlV} {b : Nat} (h : Sets.no v hs b) : NoK k v hs b := ⟨h.1, fun q hq => h.2 k q hq⟩
structure Mv (v v' : Value) (hs hs' : List SlV) (w w' : World) : Prop where
  env : Below 0 w w'
  agr : Agr (fun b => Sets.no v hs b) w w'
  no : ∀ b, b < w.heap.size → Sets.no v hs b → Sets.no v' hs' b
section
variable {v v' v'' : Value} {hs hs' hs'' : List SlV} {w w' w'' : World}
theorem Mv.of (hb : Below w.heap.size w w') : Mv v v hs hs w w' := ⟨hb.mono (Nat.zero_le _), Agr.below hb, fun _ _ h => h⟩
theorem Mv.trans (h : Mv v v' hs hs' w w') (k : Mv v' v'' hs' hs'' w' w'') : Mv v v'' hs hs'' w w'' :=
  ⟨h.env.trans k.env, fun b hb hlt => (k.agr b (h.no b hlt hb) (Nat.lt_of_lt_of_le hlt h.env.size)).trans (h.agr b hb hlt), fun b hlt hb => k.no b (Nat.lt_of_lt_of_le hlt h.env.size) (h.no b hlt hb)⟩
theorem Mv.via (h : Mv v v' hs hs' w w') (hb : Below w'.heap.size w' w'') : Mv v v' hs hs' w w'' := h.trans (.of hb)
theorem Mv.blk {b : Nat} {t : TypeId} {cs : Array Value} (h : Mv v v' hs hs' w w') (hB : Blk w b t cs) (hn : Sets.no v hs b) : Blk w' b t cs := (h.agr b hn hB.lt).trans hB
theorem Mv.sl {α ρ : Type} {E : Elem α ρ} {ok : Nat → Prop} {A : Option Addr} {n c : Nat} {l : List α} (h : Mv v v' hs hs' w w') (hs0 : Sl E ok w A n c l) (hn : ∀ b, ok b → Sets.no v hs b) : Sl E ok w' A n c l := hs0.agr (h.agr.mono hn)
end
section
variable {w w' : World} {base bf : Nat} {c0 c1 c2 v : Value} {AR : Option Addr} {nR cR : Nat} {R : List Ru} {hs : List SlV} {L : List (List It3)}
theorem Sets.no_lt {e ti : TypeId} (h : Sets e ti w base v hs L) {b : Nat} (hb : b < base) : Sets.no v hs b := by
  by_cases hn : Sets.no v hs b
  · exact hn
  · have := (h.block_lt hn).1; omega
theorem Sets.no_ge {e ti : TypeId} (h : Sets e ti w base v hs L) {b : Nat} (hb : w.heap.size ≤ b) : Sets.no v hs b := by
  by_cases hn : Sets.no v hs b
  · exact hn
  · have := (h.block_lt hn).2; omega
end
theorem grown_frozen {row : Option Nat} {w w' : World} {b : Nat} (hg : w.grownBy w' row) (hb : b < w.heap.size) (hr : some b ≠ row) (i : Nat) : w'.frozen? ⟨b, i, none⟩ = w.frozen? ⟨b, i, none⟩ := by
  unfold World.frozen?; rw [hg.block b hb hr]
theorem Mv.grow {v : Value} {hs : List SlV} {q q' : SlV} {w w1 : World} {k g i : Nat} (hq : hs[k]? = some q) (hg : w.grownBy w1 (slV q).ownBlock) (hv : (slV q').ownBlock = (slV q).ownBlock ∨ (slV q').ownBlock = some w.heap.size) (hvg : v.ownBlock = some g) (u : Value) :
    Mv v v hs (hs.set k q') w (w1.setCell ⟨g, i, none⟩ u) := by
  refine ⟨((Below.refl 0 w).grown hg (Nat.zero_le _) (fun b _ => Nat.zero_le _)).setCell (Nat.zero_le _) u, fun b hb hlt => ?_, fun b hlt hb => ⟨hb.1, fun j h hj => ?_⟩⟩
  · refine (Below.heap_setCell w1 ⟨g, i, none⟩ u b (fun e => hb.1 (by rw [hvg, e]))).trans (hg.block b hlt fun e => hb.2 k q hq e.symm)
  · by_cases e : k = j
    · subst e
      rw [List.getElem?_set_self (List.getElem?_eq_some_iff.1 hq).1] at hj
      obtain rfl := Option.some.inj hj
      rcases hv with hv | hv
      · rw [hv]; exact hb.2 k q hq
      · rw [hv]; exact fun e => by have := Option.some.inj e; omega
    · rw [List.getElem?_set_ne e] at hj
      exact hb.2 j h hj
theorem Mov.growK {v : Value} {hs : List SlV} {q q' : SlV} {w w1 : World} {k g i : Nat} (hq : hs[k]? = some q) (hg : w.grownBy w1 (slV q).ownBlock) (hv : (slV q').ownBlock = (slV q).ownBlock ∨ (slV q').ownBlock = some w.heap.size) (hvg : v.ownBlock = some g) (u : Value) :
    Mov (NoF k v hs) (NoF k v (hs.set k q')) w (w1.setCell ⟨g, i, none⟩ u) := by
  have hmv := Mv.grow (v := v) (i := i) hq hg hv hvg u
  refine ⟨hmv.env, fun t => ?_, fun t => ?_⟩
  · cases t with
    | false => exact hmv.agr
    | true => exact fun b hb hlt => (Below.heap_setCell w1 ⟨g, i, none⟩ u b (fun e => hb.1 (by rw [hvg, e]))).trans (hg.block b hlt fun e => hb.2 q hq e.symm)
  · cases t with
    | false => exact hmv.no
    | true =>
      refine fun b hlt hb => ⟨hb.1, fun h hj => ?_⟩
      rw [List.getElem?_set_self (List.getElem?_eq_some_iff.1 hq).1] at hj
      obtain rfl := Option.some.inj hj
      rcases hv with hv | hv
      · rw [hv]; exact hb.2 q hq
      · rw [hv]; exact fun e => by have := Option.some.inj e; omega
end Go.Proofs.YtbfcnfgkccgbiaaGreatDoor




namespace Go.Proofs.YtbfcnfgkccgbiaaGreatDoor
open Go.RowKit

set_option maxRecDepth 100000 in
set_option maxHeartbeats 1000000 in
theorem cnext_s (w : World) (base bf : Nat) (cs : Array Value) (AR : Option Addr) (nR cR : Nat) (R : List Ru) (hB0 : Blk w bf 79 cs) (h3 : cs[3]? = some (.slice AR nR cR)) (hr : Sl RuE (fun b => b < base) w AR nR cR R) (hbase : base ≤ w.heap.size) (hR : ∀ u ∈ R, u.2.length ≤ 1000) (x : It3) (tb : Bool) (tn : Nat) (hn : nxtI R x = some (tb, tn)) :
    Calls Tryz.prog 60 #[.pointer (some ⟨bf, 0, none⟩), .agg #[.int .i64 (x.r : Int), .int .i64 (x.d : Int), .int .i64 (x.f : Int)]] w fun e w' => e = .returned (.tuple #[.agg #[.bool tb, .int .i64 (tn : Int)], .bool true]) ∧ Below w.heap.size w w' := by
  obtain ⟨u, hu, hud, hdl⟩ := nxtI_lt hn
  have hul := hR u (List.mem_of_getElem? hu)
  have hb := ((Below.refl w.heap.size w).al (.cells #[.int .i64 (x.r : Int), .int .i64 (x.d : Int), .int .i64 (x.f : Int)] 47)).al (.cells #[.bool false, .int .i64 0] 66)
  have B1 := (Blk.new w 47 #[.int .i64 (x.r : Int), .int .i64 (x.d : Int), .int .i64 (x.f : Int)]).al (.cells #[.bool false, .int .i64 0] 66)
  have B2 := Blk.new (w.alloc (.cells #[.int .i64 (x.r : Int), .int .i64 (x.d : Int), .int .i64 (x.f : Int)] 47)) 66 #[.bool false, .int .i64 0]
  rw [World.size_alloc] at B2
  have hM := hr.via hb
  have hrn : x.r < nR := by have := (List.getElem?_eq_some_iff.1 hu).1; have := hr.len; omega
  obtain ⟨b1, o1, ⟨xl, xA, xn, xc⟩, y, rfl, hbb, hb1, hy, hbr, hc⟩ := hM.at_ hrn
  rw [hu] at hy
  obtain rfl := Option.some.inj hy
  obtain ⟨e1, e2⟩ := hbr
  simp only at e1 e2
  have r1 := hc 1 _ rfl
  simp only [RuE] at r1
  have hxn : x.d < xn := by have := e2.len; omega
  have hxl : xn ≤ 1000 := by have := e2.len; omega
  obtain ⟨b3, o3, s, s', rfl, -, hb3, hs', hss, hcs⟩ := e2.at_ hxn
  rw [hud] at hs'
  obtain rfl := Option.some.inj hs'
  obtain rfl : s = (tb, tn) := hss
  have s0 := hcs 0 _ rfl
  have s1 := hcs 1 _ rfl
  simp only [SyE, Nat.add_zero] at s0 s1
  have f3 := (hB0.via hb).cell 3
  rw [h3] at f3
  have i0 : (0 : Int) ≤ (x.r : Int) := by omega
  have i1 : (x.r : Int) < (nR : Int) := by omega
  have i2 : (0 : Int) ≤ (x.d : Int) := by omega
  have i3 : (x.d : Int) < (xn : Int) := by omega
  have hqq : ((x.d : Int) == (xn : Int)) = false := by rw [beq_eq_false_iff_ne]; omega
  have HB := Lib.hid hb
  have hbf : bf ≠ w.heap.size + 1 := by have := hB0.lt; omega
  have hb1' : b1 ≠ w.heap.size + 1 := fun e => by omega
  have B2' := Lib.hid B2
  clear hb hM hr hB0 h3 hc hcs hn hu hud e1 e2 hR hy hs' hbb
  go_enter Tryz.func60, Tryz.ntmps60
  have cB1 := B1.cell
  have fB1 := B1.frozen
  have lB1 := B1.lt
  have cB2 := B2.cell
  have fB2 := B2.frozen
  have lB2 := B2.lt
  go_upto_region 1 with fail
  generalize (w.alloc (.cells #[.int .i64 (x.r : Int), .int .i64 (x.d : Int), .int .i64 (x.f : Int)] 47)).alloc (.cells #[.bool false, .int .i64 0] 66) = W at *
  go_quiet (fail)
  go_wp2_with fail
  refine bodyPost_ret (v := .tuple #[.agg #[.bool tb, .int .i64 (tn : Int)], .bool true]) (by simp [results, Tryz.results60, go_sem, cB2]) rfl ⟨rfl, ?_⟩
  exact ((below_drewN HB.out _).setCell (by simp) _).setCell (by simp) _
set_option maxRecDepth 100000 in
set_option maxHeartbeats 1000000 in
theorem cnext_n (w : World) (base bf : Nat) (cs : Array Value) (AR : Option Addr) (nR cR : Nat) (R : List Ru) (hB0 : Blk w bf 79 cs) (h3 : cs[3]? = some (.slice AR nR cR)) (hr : Sl RuE (fun b => b < base) w AR nR cR R) (hbase : base ≤ w.heap.size) (hR : ∀ u ∈ R, u.2.length ≤ 1000) (k : Nat) (x : It3) (hx : ItOk R k x) (hn : nxtI R x = none) :
    Calls Tryz.prog 60 #[.pointer (some ⟨bf, 0, none⟩), .agg #[.int .i64 (x.r : Int), .int .i64 (x.d : Int), .int .i64 (x.f : Int)]] w fun e w' => e = .returned (.tuple #[.agg #[.bool false, .int .i64 0], .bool false]) ∧ Below w.heap.size w w' := by
  obtain ⟨-, u, hu, hdl⟩ := hx
  have hdu : x.d = u.2.length := by
    unfold nxtI at hn
    rw [hu] at hn
    have := List.getElem?_eq_none_iff.1 hn
    omega
  have hul := hR u (List.mem_of_getElem? hu)
  have hb := ((Below.refl w.heap.size w).al (.cells #[.int .i64 (x.r : Int), .int .i64 (x.d : Int), .int .i64 (x.f : Int)] 47)).al (.cells #[.bool false, .int .i64 0] 66)
  have B1 := (Blk.new w 47 #[.int .i64 (x.r : Int), .int .i64 (x.d : Int), .int .i64 (x.f : Int)]).al (.cells #[.bool false, .int .i64 0] 66)
  have B2 := Blk.new (w.alloc (.cells #[.int .i64 (x.r : Int), .int .i64 (x.d : Int), .int .i64 (x.f : Int)] 47)) 66 #[.bool false, .int .i64 0]
  rw [World.size_alloc] at B2
  have hM := hr.via hb
  have hrn : x.r < nR := by have := (List.getElem?_eq_some_iff.1 hu).1; have := hr.len; omega
  obtain ⟨b1, o1, ⟨xl, xA, xn, xc⟩, y, rfl, hbb, hb1, hy, hbr, hc⟩ := hM.at_ hrn
  rw [hu] at hy
  obtain rfl := Option.some.inj hy
  obtain ⟨e1, e2⟩ := hbr
  simp only at e1 e2
  have r1 := hc 1 _ rfl
  simp only [RuE] at r1
  have hxd : x.d = xn := by have := e2.len; omega
  have hxl : xn ≤ 1000 := by have := e2.len; omega
  have f3 := (hB0.via hb).cell 3
  rw [h3] at f3
  have i0 : (0 : Int) ≤ (x.r : Int) := by omega
  have i1 : (x.r : Int) < (nR : Int) := by omega
  have hnlt : ¬ x.d < xn := by omega
  have hqq : ((x.d : Int) == (xn : Int)) = true := by rw [beq_iff_eq]; omega
  have HB := Lib.hid hb
  have hbf : bf ≠ w.heap.size + 1 := by have := hB0.lt; omega
  have hb1' : b1 ≠ w.heap.size + 1 := fun e => by omega
  have B2' := Lib.hid B2
  clear hb hM hr hB0 h3 hc hn hu hdu hdl e1 e2 hR hy hbb hxd
  go_enter Tryz.func60, Tryz.ntmps60
  have cB1 := B1.cell
  have fB1 := B1.frozen
  have lB1 := B1.lt
  have cB2 := B2.cell
  have fB2 := B2.frozen
  have lB2 := B2.lt
  go_upto_region 1 with fail
  generalize (w.alloc (.cells #[.int .i64 (x.r : Int), .int .i64 (x.d : Int), .int .i64 (x.f : Int)] 47)).alloc (.cells #[.bool false, .int .i64 0] 66) = W at *
  go_quiet (fail)
  go_wp2_with fail
  refine bodyPost_ret (v := .tuple #[.agg #[.bool false, .int .i64 0], .bool false]) (by simp [results, Tryz.results60, go_sem, cB2]) rfl ⟨rfl, ?_⟩
  exact ((below_drewN HB.out _).setCell (by simp) _).setCell (by simp) _
end Go.Proofs.YtbfcnfgkccgbiaaGreatDoor



namespace Go.Proofs.YtbfcnfgkccgbiaaGreatDoor
open Go.RowKit

/-- what predicting symbol y gives in set k, by the first j rules -/
def PredI (R : List Ru) (k : Nat) (y : Sy) (j : Nat) (x : It3) : Prop := ∃ r u, r < j ∧ R[r]? = some u ∧ y = (false, u.1) ∧ x = ⟨r, 0, k⟩
theorem PredI.zero {R : List Ru} {k : Nat} {y : Sy} (x : It3) : ¬ PredI R k y 0 x := fun ⟨_, _, h, _⟩ => Nat.not_lt_zero _ h
theorem PredI.ok {R : List Ru} {k : Nat} {y : Sy} {j : Nat} {x : It3} (h : PredI R k y j x) : ItOk R k x := by
  obtain ⟨r, u, -, h1, -, rfl⟩ := h
  exact ⟨Nat.le_refl _, u, h1, Nat.zero_le _⟩
theorem PredI.hit {R : List Ru} {k : Nat} {y : Sy} {j : Nat} {u : Ru} (hu : R[j]? = some u) (hy : y = (false, u.1)) (x : It3) : PredI R k y (j + 1) x ↔ PredI R k y j x ∨ x = ⟨j, 0, k⟩ := by
  constructor
  · rintro ⟨r, u', h1, h2, h3, rfl⟩
    by_cases e : r = j
    · subst e; exact Or.inr rfl
    · exact Or.inl ⟨r, u', by omega, h2, h3, rfl⟩
  · rintro (⟨r, u', h1, h2, h3, rfl⟩ | rfl)
    · exact ⟨r, u', by omega, h2, h3, rfl⟩
    · exact ⟨j, u, by omega, hu, hy, rfl⟩
theorem PredI.miss {R : List Ru} {k : Nat} {y : Sy} {j : Nat} {u : Ru} (hu : R[j]? = some u) (hy : y ≠ (false, u.1)) (x : It3) : PredI R k y (j + 1) x ↔ PredI R k y j x := by
  constructor
  · rintro ⟨r, u', h1, h2, h3, rfl⟩
    by_cases e : r = j
    · subst e
      rw [hu] at h2
      obtain rfl := Option.some.inj h2
      exact absurd h3 hy
    · exact ⟨r, u', by omega, h2, h3, rfl⟩
  · rintro ⟨r, u', h1, h2, h3, rfl⟩
    exact ⟨r, u', by omega, h2, h3, rfl⟩
theorem Grew.ok {R : List Ru} {k : Nat} {P : It3 → Prop} {l l' : List It3} (h : Grew P l l') (h0 : ∀ x ∈ l, ItOk R k x) (hP : ∀ x, P x → ItOk R k x) : ∀ x ∈ l', ItOk R k x := fun x hx => (h.src x hx).elim (h0 x) (hP x)
theorem set_same {α : Type} {L : List α} {k : Nat} {l : α} (h : L[k]? = some l) : L.set k l = L := List.ext_getElem? fun j => by
  rw [List.getElem?_set]
  by_cases hj : k = j
  · subst hj
    rw [if_pos rfl, if_pos (List.getElem?_eq_some_iff.1 h).1, h]
  · rw [if_neg hj]
theorem set_get {α : Type} {L : List α} {k : Nat} {l m : α} (h : L[k]? = some l) : (L.set k m)[k]? = some m := List.getElem?_set_self (List.getElem?_eq_some_iff.1 h).1
end Go.Proofs.YtbfcnfgkccgbiaaGreatDoor



namespace Go.Proofs.YtbfcnfgkccgbiaaGreatDoor
open Go.RowKit

/-- the rows of items, their headers in the block gb -/
def Hdr (ti : TypeId) (w : World) (base : Nat) (v : Value) (L : List (List It3)) : Prop :=
  ∃ gb c, v = .slice (some ⟨gb, 0, none⟩) L.length c ∧ ∀ (j : Nat) l, L[j]? = some l → ∃ qA qc, w.cell? ⟨gb, j, none⟩ = some (.slice qA l.length qc) ∧ Own It3E ti (fun _ => False) w base (.slice qA l.length qc) l.length l
theorem Sets.hdr {e ti : TypeId} {w : World} {base : Nat} {v : Value} {hs : List SlV} {L : List (List It3)} (h : Sets e ti w base v hs L) (h0 : L ≠ []) : Hdr ti w base v L := by
  have hsl := h.len
  have hpos : 0 < L.length := List.length_pos_iff.2 h0
  obtain ⟨gb, c, hv, -, -, -, -⟩ := h.cell (List.getElem?_eq_getElem (show 0 < hs.length by omega))
  refine ⟨gb, c, hv, fun j l hl => ?_⟩
  have hjl := (List.getElem?_eq_some_iff.1 hl).1
  have hq := List.getElem?_eq_getElem (show j < hs.length by omega)
  generalize hs[j]'(by omega) = q at hq
  obtain ⟨qA, qn, qc⟩ := q
  have hit := h.items j _ l hq hl
  obtain ⟨A', c', e', -⟩ := hit.form
  simp only [slV, Value.slice.injEq] at e'
  obtain ⟨rfl, rfl, rfl⟩ := e'
  obtain ⟨gb', c'', hv', -, -, hcell, -⟩ := h.cell hq
  rw [hv] at hv'
  simp only [Value.slice.injEq, Option.some.injEq, Addr.mk.injEq, and_true, true_and] at hv'
  obtain ⟨rfl, -⟩ := hv'
  exact ⟨_, _, hcell, hit⟩

/-! ### the follower -/
section
variable {w w' : World} {base bf : Nat} {c0 c1 c2 : Value} {AR : Option Addr} {nR cR : Nat} {R : List Ru} {s : Value × List SlV} {L : List (List It3)}
end

/-! ### plain: completing a set -/
/-- l' comes out of l, and nothing is missing -/
structure Cl0 (R : List Ru) (k : Nat) (S : Nat → List It3) (l l' : List It3) : Prop where
  pre : ∃ m, l' = l ++ m
  nd : l'.Nodup
  ok : ∀ x ∈ l', ItOk R k x
  snd : ∀ s w, Done R s w S k → (∀ x ∈ l, EIt R s w k x) → ∀ x ∈ l', EIt R s w k x
structure Cl (R : List Ru) (k : Nat) (S : Nat → List It3) (l l' : List It3) : Prop extends Cl0 R k S l l' where
  shut : ∀ x ∈ l', Shut1 R k S l' x
/-- what completing item x of set k gives, by the first m of the items ys -/
def CompI (R : List Ru) (x : It3) (ys : List It3) (m : Nat) (z : It3) : Prop := ∃ i y, i < m ∧ ys[i]? = some y ∧ nxtI R y = some (false, lftI R x) ∧ z = ⟨y.r, y.d + 1, y.f⟩
section
variable {R : List Ru} {k : Nat} {S : Nat → List It3} {l l' l'' : List It3}
theorem CompI.zero {x : It3} {ys : List It3} (z : It3) : ¬ CompI R x ys 0 z := fun ⟨_, _, h, _⟩ => Nat.not_lt_zero _ h
theorem CompI.hit {x : It3} {ys : List It3} {m : Nat} {y : It3} (hy : ys[m]? = some y) (hn : nxtI R y = some (false, lftI R x)) (z : It3) : CompI R x ys (m + 1) z ↔ CompI R x ys m z ∨ z = ⟨y.r, y.d + 1, y.f⟩ := by
  constructor
  · rintro ⟨i, y', h1, h2, h3, rfl⟩
    by_cases e : i = m
    · subst e; rw [hy] at h2; cases h2; exact Or.inr rfl
    · exact Or.inl ⟨i, y', by omega, h2, h3, rfl⟩
  · rintro (⟨i, y', h1, h2, h3, rfl⟩ | rfl)
    · exact ⟨i, y', by omega, h2, h3, rfl⟩
    · exact ⟨m, y, by omega, hy, hn, rfl⟩
theorem CompI.miss {x : It3} {ys : List It3} {m : Nat} {y : It3} (hy : ys[m]? = some y) (hn : nxtI R y ≠ some (false, lftI R x)) (z : It3) : CompI R x ys (m + 1) z ↔ CompI R x ys m z := by
  constructor
  · rintro ⟨i, y', h1, h2, h3, rfl⟩
    by_cases e : i = m
    · subst e; rw [hy] at h2; cases h2; exact absurd h3 hn
    · exact ⟨i, y', by omega, h2, h3, rfl⟩
  · rintro ⟨i, y', h1, h2, h3, rfl⟩; exact ⟨i, y', by omega, h2, h3, rfl⟩
theorem CompI.ok {x : It3} {ys : List It3} {m : Nat} {z : It3} (hys : ∀ y ∈ ys, ItOk R k y) (h : CompI R x ys m z) : ItOk R k z := by
  obtain ⟨i, y, h1, h2, h3, rfl⟩ := h
  obtain ⟨u, q1, q2, q3⟩ := nxtI_lt h3
  exact ⟨(hys y (List.mem_of_getElem? h2)).1, u, q1, q3⟩
theorem Cl0.start (hn : l.Nodup) (ho : ∀ x ∈ l, ItOk R k x) : Cl0 R k S l l := ⟨⟨[], by simp⟩, hn, ho, fun _ _ _ h => h⟩
theorem Cl0.le (h : Cl0 R k S l l') : l.length ≤ l'.length := by obtain ⟨m, rfl⟩ := h.pre; simp
/-- an item whose symbol behind the position is known has been worked off -/
theorem Cl0.pred {y : Sy} {x : It3} (h : Cl0 R k S l l') (hx : x ∈ l') (hn : nxtI R x = some y) (hg : Grew (PredI R k y R.length) l' l'') : Cl0 R k S l l'' := by
  obtain ⟨m, hm⟩ := h.pre
  obtain ⟨m', hm'⟩ := hg.pre
  refine ⟨⟨m ++ m', by rw [hm', hm, List.append_assoc]⟩, hg.nd h.nd, hg.ok h.ok (fun z hz => hz.ok), fun s w hd hl z hz => ?_⟩
  rcases hg.src z hz with hz | ⟨r, u, h1, h2, h3, rfl⟩
  · exact h.snd s w hd hl z hz
  · exact (h.snd s w hd hl x hx).gives_pred h2 (by rw [hn, h3])
theorem Cl0.pred_shut {y : Sy} {x : It3} (hn : nxtI R x = some y) (hg : Grew (PredI R k y R.length) l' l') : Shut1 R k S l' x := by
  refine ⟨fun r u hr hu => hg.all _ ⟨r, u, (List.getElem?_eq_some_iff.1 hr).1, hr, ?_, rfl⟩, fun h => by rw [hn] at h; cases h⟩
  rw [hn] at hu; exact Option.some.inj hu
theorem Cl0.comp {x : It3} {ys : List It3} (h : Cl0 R k S l l') (hx : x ∈ l') (hn : nxtI R x = none) (hys : ys = if x.f = k then l' else S x.f) (hyo : ∀ y ∈ ys, ItOk R k y) (hg : Grew (CompI R x ys ys.length) l' l'') : Cl0 R k S l l'' := by
  obtain ⟨m, hm⟩ := h.pre
  obtain ⟨m', hm'⟩ := hg.pre
  refine ⟨⟨m ++ m', by rw [hm', hm, List.append_assoc]⟩, hg.nd h.nd, hg.ok h.ok (fun z hz => hz.ok hyo), fun s w hd hl z hz => ?_⟩
  rcases hg.src z hz with hz | ⟨i, y, h1, h2, h3, rfl⟩
  · exact h.snd s w hd hl z hz
  · exact EIt.gives_comp hd (h.snd s w hd hl) hx hn (by rw [← hys]; exact List.mem_of_getElem? h2) h3
theorem Cl0.comp_shut {x : It3} {ys : List It3} (hn : nxtI R x = none) (hys : ys = if x.f = k then l' else S x.f) (hg : Grew (CompI R x ys ys.length) l' l') : Shut1 R k S l' x := by
  refine ⟨fun r u hr hu => (by rw [hn] at hu; cases hu), fun _ y hy hny => ?_⟩
  rw [← hys] at hy
  obtain ⟨i, hi⟩ := List.getElem?_of_mem hy
  exact hg.all _ ⟨i, y, (List.getElem?_eq_some_iff.1 hi).1, hi, hny, rfl⟩
/-- what the pass has done so far: if nothing has come to the first n items, the first i of them are shut -/
def Pass (R : List Ru) (k : Nat) (S : Nat → List It3) (n i : Nat) (l : List It3) : Prop := n ≤ l.length ∧ (l.length = n → ∀ m x, m < i → l[m]? = some x → Shut1 R k S l x)
theorem Pass.start : Pass R k S l.length 0 l := ⟨Nat.le_refl _, fun _ _ _ h => absurd h (Nat.not_lt_zero _)⟩
theorem Pass.step {P : It3 → Prop} {n i : Nat} {x : It3} (h : Pass R k S n i l) (hx : l[i]? = some x) (hg : Grew P l l') (hs : Grew P l l → Shut1 R k S l x) : Pass R k S n (i + 1) l' := by
  refine ⟨Nat.le_trans h.1 hg.le, fun e m z hm hz => ?_⟩
  have e1 : l'.length = l.length := by have := h.1; have := hg.le; omega
  have e2 := hg.eq_of_len e1
  subst e2
  by_cases hmi : m = i
  · subst hmi
    rw [hx] at hz
    obtain rfl := Option.some.inj hz
    exact hs hg
  · exact h.2 e m z (by omega) hz
end
end Go.Proofs.YtbfcnfgkccgbiaaGreatDoor

