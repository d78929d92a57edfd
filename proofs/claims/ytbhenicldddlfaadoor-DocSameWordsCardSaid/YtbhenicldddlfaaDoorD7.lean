/- Texts DL, RG, laid together. -/
import Derived.Test.YtbhenicldddlfaaDoorD4
import Derived.Test.YtbhenicldddlfaaDoorC1
import Derived.Deep.RegionHeld


namespace Go.Proofs.YtbhenicldddlfaaDoor
open Go.RowKit

/-- a layout: what it costs, the choices, the text; and how many choices were asked for -/
structure Ly where
  ex : Nat
  ln : Nat
  ch : List Int
  tx : List UInt8
  k : Nat
/-- what was written so far, then the rest -/
def Ly.after (ex ln : Nat) (ch : List Int) (tx : List UInt8) (r : Ly) : Ly := ⟨ex + r.ex, ln + r.ln, ch ++ r.ch, tx ++ r.tx, r.k⟩
theorem Ly.after_after (ex ln ex' ln' : Nat) (ch ch' : List Int) (tx tx' : List UInt8) (r : Ly) : Ly.after ex ln ch tx (Ly.after ex' ln' ch' tx' r) = Ly.after (ex + ex') (ln + ln') (ch ++ ch') (tx ++ tx') r := by
  simp [Ly.after, Nat.add_assoc, List.append_assoc]
theorem Ly.after_nil (r : Ly) : Ly.after 0 0 [] [] r = r := by cases r; simp [Ly.after]

def bts (s : ByteArray) : List UInt8 := s.data.toList
theorem bts_len (s : ByteArray) : (bts s).length = s.size := by simp [bts]

/-- the layout of choices p (asked for the k-th time, at an operation and a column) -/
def setF (W : Nat) (p : Nat → Nat → Nat → Bool) (ops : List Opr) (i col k : Nat) : Ly :=
  if h : i < ops.length then
    if ops[i].grp = true then
      if ops[i].can = true then
        if p k i col = true then
          Ly.after (ovr W (col + ops[i].text.size) - ovr W col) 0 [0] (bts ops[i].text) (setF W p ops (max ops[i].fin (i + 1)) (col + ops[i].text.size) (k + 1))
        else Ly.after 0 0 [1] [] (setF W p ops (i + 1) col (k + 1))
      else Ly.after 0 0 [1] [] (setF W p ops (i + 1) col k)
    else if 0 ≤ ops[i].ind then Ly.after (ovr W ops[i].ind.toNat) 1 [] (10 :: List.replicate ops[i].ind.toNat 32) (setF W p ops (i + 1) ops[i].ind.toNat k)
    else Ly.after (ovr W (col + ops[i].text.size) - ovr W col) 0 [] (bts ops[i].text) (setF W p ops (i + 1) (col + ops[i].text.size) k)
  else ⟨0, 0, [], [], k⟩
termination_by ops.length - i
decreasing_by all_goals omega

section
variable {W i col k : Nat} {p : Nat → Nat → Nat → Bool} {ops : List Opr} {o : Opr}
theorem setF_end (h : ops.length ≤ i) : setF W p ops i col k = ⟨0, 0, [], [], k⟩ := by
  rw [setF, dif_neg (by omega)]
theorem setF_flat (h : ops[i]? = some o) (hg : o.grp = true) (hc : o.can = true) (hp : p k i col = true) (hf : i < o.fin) :
    setF W p ops i col k = Ly.after (ovr W (col + o.text.size) - ovr W col) 0 [0] (bts o.text) (setF W p ops o.fin (col + o.text.size) (k + 1)) := by
  obtain ⟨hi, rfl⟩ := findV_some h
  rw [setF, dif_pos hi, if_pos hg, if_pos hc, if_pos hp, show max ops[i].fin (i + 1) = ops[i].fin by omega]
theorem setF_brk (h : ops[i]? = some o) (hg : o.grp = true) (hc : o.can = true) (hp : p k i col = false) :
    setF W p ops i col k = Ly.after 0 0 [1] [] (setF W p ops (i + 1) col (k + 1)) := by
  obtain ⟨hi, rfl⟩ := findV_some h
  rw [setF, dif_pos hi, if_pos hg, if_pos hc, if_neg (by simp [hp])]
theorem setF_cannot (h : ops[i]? = some o) (hg : o.grp = true) (hc : o.can = false) :
    setF W p ops i col k = Ly.after 0 0 [1] [] (setF W p ops (i + 1) col k) := by
  obtain ⟨hi, rfl⟩ := findV_some h
  rw [setF, dif_pos hi, if_pos hg, if_neg (by simp [hc])]
theorem setF_line (h : ops[i]? = some o) (hg : o.grp = false) (hn : 0 ≤ o.ind) :
    setF W p ops i col k = Ly.after (ovr W o.ind.toNat) 1 [] (10 :: List.replicate o.ind.toNat 32) (setF W p ops (i + 1) o.ind.toNat k) := by
  obtain ⟨hi, rfl⟩ := findV_some h
  rw [setF, dif_pos hi, if_neg (by simp [hg]), if_pos hn]
theorem setF_text (h : ops[i]? = some o) (hg : o.grp = false) (hn : ¬ 0 ≤ o.ind) :
    setF W p ops i col k = Ly.after (ovr W (col + o.text.size) - ovr W col) 0 [] (bts o.text) (setF W p ops (i + 1) (col + o.text.size) k) := by
  obtain ⟨hi, rfl⟩ := findV_some h
  rw [setF, dif_pos hi, if_neg (by simp [hg]), if_neg hn]
end

/-- how it chooses what find says is best -/
def bestP (W : Nat) (ops : List Opr) (_ i col : Nat) : Bool := (findV W ops i col).fl
/-- the best layout costs what find says -/
theorem setF_best {W : Nat} {ops : List Opr} (ho : OpsOk ops) : ∀ (m i col k : Nat), ops.length - i ≤ m → (setF W (bestP W ops) ops i col k).ex = (findV W ops i col).ex ∧ (setF W (bestP W ops) ops i col k).ln = (findV W ops i col).ln := by
  intro m
  induction m with
  | zero =>
    intro i col k h
    rw [findV_end (by omega), setF_end (by omega)]; exact ⟨rfl, rfl⟩
  | succ m ih =>
    intro i col k h
    by_cases hi : i < ops.length
    · have hs : ops[i]? = some ops[i] := List.getElem?_eq_getElem hi
      generalize ops[i] = o at hs
      obtain ⟨-, -, -, hfin⟩ := ho i o hs
      cases hg : o.grp
      · by_cases hn : 0 ≤ o.ind
        · rw [setF_line hs hg hn, findV_line hs hg hn]
          obtain ⟨h1, h2⟩ := ih (i + 1) o.ind.toNat k (by omega)
          simp only [Ly.after]; omega
        · rw [setF_text hs hg hn, findV_text hs hg hn]
          obtain ⟨h1, h2⟩ := ih (i + 1) (col + o.text.size) k (by omega)
          simp only [Ly.after]; omega
      · obtain ⟨hf1, hf2⟩ := hfin hg
        cases hc : o.can
        · rw [setF_cannot hs hg hc, findV_grp hs hg hc]
          obtain ⟨h1, h2⟩ := ih (i + 1) col k (by omega)
          simp only [Ly.after]; omega
        · have hv := findV_can (W := W) (col := col) hs hg hc hf1
          cases hp : bestP W ops k i col
          · rw [setF_brk hs hg hc hp]
            obtain ⟨h1, h2⟩ := ih (i + 1) col (k + 1) (by omega)
            unfold bestP at hp
            rw [hv] at hp ⊢
            unfold pickV at hp ⊢
            split at hp
            · cases hp
            · rename_i hx
              rw [if_neg hx]
              simp only [Ly.after]; omega
          · rw [setF_flat hs hg hc hp hf1]
            obtain ⟨h1, h2⟩ := ih o.fin (col + o.text.size) (k + 1) (by omega)
            unfold bestP at hp
            rw [hv] at hp ⊢
            unfold pickV at hp ⊢
            split at hp
            · rename_i hx
              rw [if_pos hx]
              simp only [Ly.after]; omega
            · cases hp
    · rw [findV_end (by omega), setF_end (by omega)]; exact ⟨rfl, rfl⟩

/-- a greater width never needs more excess -/
theorem best_wider {W W' : Nat} (hW : W ≤ W') {ops : List Opr} (ho : OpsOk ops) : (setF W' (bestP W' ops) ops 0 0 0).ex ≤ (setF W (bestP W ops) ops 0 0 0).ex := by
  rw [(setF_best ho ops.length 0 0 0 (by omega)).1, (setF_best ho ops.length 0 0 0 (by omega)).1]
  have := findV_wider hW ho ops.length 0 0 (by omega)
  simp only [ovr, Nat.zero_sub, Nat.add_zero] at this
  exact this
/-- a group that fits in one line is laid out in one line -/
theorem best_flat {W : Nat} {o : Opr} {rest : List Opr} (hg : o.grp = true) (hc : o.can = true) (hf : o.fin = rest.length + 1) (hs : o.text.size ≤ W) :
    setF W (bestP W (o :: rest)) (o :: rest) 0 0 0 = ⟨0, 0, [0], bts o.text, 1⟩ := by
  have hx : (o :: rest)[0]? = some o := rfl
  have e1 : findV W (o :: rest) o.fin (0 + o.text.size) = ⟨0, 0, false⟩ := findV_end (by rw [hf]; simp)
  have e2 : ovr W (0 + o.text.size) - ovr W 0 = 0 := by unfold ovr; omega
  rw [setF_flat hx hg hc ?_ (by omega), setF_end (by rw [hf]; simp), e2]
  · simp [Ly.after]
  · unfold bestP
    rw [findV_can hx hg hc (by omega), e1, e2]
    unfold pickV
    rw [if_pos]
    simp only; omega
end Go.Proofs.YtbhenicldddlfaaDoor




namespace Go.Proofs.YtbhenicldddlfaaDoor
open Go.RowKit

/-- operation z waits for operation i -/
def waitsFor (md : Region.Mode) (ops : Array Oper) (z i : Nat) : Bool := match ops[z]? with
  | some o => o.after.any fun e => Region.binds md e && e.on == i
  | none => false
/-- whatever order is picked from here on; behind each operation but z S holds -/
def wpAnyL (P : Program) (md : Region.Mode) (ops : Array Oper) (Q : Exit → Act → World → Prop) (S : World → Prop) (z : Nat) : Nat → Array Bool → Act → World → Prop
  | 0, l, a, w => Region.ready md ops l = [] ∧ Q .normal a w
  | n + 1, l, a, w => (Region.ready md ops l = [] → Q .normal a w) ∧ ∀ i ∈ Region.ready md ops l, wpOp P ops Q i (fun a' w' => (i ≠ z → S w') ∧ wpAnyL P md ops Q S z n (l.setIfInBounds i true) a' w') a w
section
variable {P : Program} {ops : Array Oper} {Q : Exit → Act → World → Prop} {md : Region.Mode} {S : World → Prop} {z : Nat}
theorem wpAnyL.any : ∀ (n : Nat) (l : Array Bool) (a : Act) (w : World), wpAnyL P md ops Q S z n l a w → wpAny P md ops Q n l a w
  | 0, _, _, _, h => h
  | n + 1, _, _, _, h => ⟨h.1, fun i hi => wpOp_mono (fun a' w' q => wpAnyL.any n _ a' w' q.2) (h.2 i hi)⟩
/-- what yields its value wherever S holds may be taken first, if z waits for it -/
theorem wpAnyL.first {i : Nat} {o : Oper} {v : Value} (hi : ops[i]? = some o) (hsel : Region.noSelect ops = true) (hz : waitsFor md ops z i = true) (hQ : ∀ c a w, Q (.panic c) (a.put o.dst v) w → Q (.panic c) a w) : ∀ (n : Nat) (l : Array Bool) (a : Act) (w : World),
    (∀ j p, ops[j]? = some p → j ≠ i → l.getD j true = false → (∀ e ∈ p.after, Region.binds md e = true → e.on ≠ i) → o.apart ops p = true) → i ∈ Region.ready md ops l → YieldsIf P ops S o v a → S w →
    wpAnyL P md ops Q S z n (l.setIfInBounds i true) (a.put o.dst v) w → wpAnyL P md ops Q S z (n + 1) l a w := by
  intro n
  induction n with
  | zero =>
    intro l a w _ hr hy hS H
    refine ⟨fun e => absurd (e ▸ hr) (by simp), fun j hj => ?_⟩
    by_cases e : j = i
    · subst e; exact hy.wpOp hi hS ⟨fun _ => hS, H⟩
    · exact absurd (H.1 ▸ ready_mono hj e) (by simp)
  | succ n ih =>
    intro l a w hf hr hy hS H
    refine ⟨fun e => absurd (e ▸ hr) (by simp), fun j hj => ?_⟩
    by_cases e : j = i
    · subst e; exact hy.wpOp hi hS ⟨fun _ => hS, H⟩
    · obtain ⟨k0, p, hp, k1⟩ := mem_ready.1 hj
      have k2 := (mem_ready.1 hr).1
      have k3 : ∀ x ∈ p.after, Region.binds md x = true → x.on ≠ i := fun x hx hb q => by
        have k4 := k1 x hx hb
        rw [q] at k4
        rcases Nat.lt_or_ge i l.size with hl | hl
        · simp [hl] at k2 k4; rw [k2] at k4; cases k4
        · simp [Array.getElem?_eq_none hl] at k4
      have hjz : j ≠ z := fun q => by
        subst q
        unfold waitsFor at hz
        rw [hp] at hz
        obtain ⟨x, hx, hb⟩ := Array.any_eq_true'.1 hz
        simp only [Bool.and_eq_true, beq_iff_eq] at hb
        exact k3 x hx hb.1 hb.2
      have k5 := wpOp_putIf hp (hf j p hp e k0 k3) (fun cs b => Region.noSelect_spec hsel i o cs b hi) (fun cs b => Region.noSelect_spec hsel j p cs b hp) hQ hy (H.2 j (ready_mono hj e))
      refine wpOp_mono (fun a' w' q => ?_) k5
      obtain ⟨q1, q2, q3⟩ := q
      have hf' : ∀ k p, ops[k]? = some p → k ≠ i → (l.setIfInBounds j true).getD k true = false → (∀ e ∈ p.after, Region.binds md e = true → e.on ≠ i) → o.apart ops p = true := fun k p' hk hki hun hno => by
        refine hf k p' hk hki ?_ hno
        by_cases hjk : j = k
        · subst hjk; exact k0
        · rw [getD_set_ne true hjk] at hun; exact hun
      exact ⟨fun _ => q2 hjz, ih _ a' w' hf' (ready_mono hr (Ne.symm e)) q1 (q2 hjz) (by rw [Array.setIfInBounds_comm _ _ e]; exact q3)⟩
theorem wpAnyL.take {i : Nat} {oi : Oper} {d : Option Tmp} {v : Value} {n : Nat} {l : Array Bool} {a : Act} {w : World} (hi : ops[i]? = some oi)
    (hs : Region.noSelect ops = true) (hf : Region.free md ops l i = true) (hr : (Region.ready md ops l).contains i = true) (hz : waitsFor md ops z i = true) (hd : oi.dst = d)
    (hQ : ∀ c a w, Q (.panic c) (a.put oi.dst v) w → Q (.panic c) a w) (hy : YieldsIf P ops S oi v a) (hS : S w)
    (h : wpAnyL P md ops Q S z n (l.setIfInBounds i true) (a.put d v) w) : wpAnyL P md ops Q S z (n + 1) l a w :=
  wpAnyL.first hi hs hz hQ n l a w (Region.free_spec hi hf) (by simpa using hr) hy hS (hd ▸ h)
/-- each of the operations rs comes up next -/
def AllL (P : Program) (md : Region.Mode) (ops : Array Oper) (Q : Exit → Act → World → Prop) (S : World → Prop) (z n : Nat) (l : Array Bool) (a : Act) (w : World) (rs : List Nat) : Prop :=
  ∀ i ∈ rs, wpOp P ops Q i (fun a' w' => (i ≠ z → S w') ∧ wpAnyL P md ops Q S z n (l.setIfInBounds i true) a' w') a w
theorem AllL.nil {n : Nat} {l : Array Bool} {a : Act} {w : World} : AllL P md ops Q S z n l a w [] := fun _ h => by cases h
theorem AllL.cons {n : Nat} {l : Array Bool} {a : Act} {w : World} {i : Nat} {o : Oper} {rs : List Nat} (ho : ops[i]? = some o)
    (h : ∀ K : Act → World → Prop, Shut (∀ a w, (i ≠ z → S w) → wpAnyL P md ops Q S z n (l.setIfInBounds i true) a w → K a w) → if Region.wanted o (yielded ops a.tmps) = true then Oper.wp P o a w K Q else K (a.put o.dst undef) w)
    (hs : AllL P md ops Q S z n l a w rs) : AllL P md ops Q S z n l a w (i :: rs) := fun j hj => by
  rcases List.mem_cons.1 hj with rfl | hj
  · exact wpOp_step ho fun K hK => h K fun a w hS hW => hK a w ⟨hS, hW⟩
  · exact hs j hj
theorem wpAnyL.ready {rs : List Nat} {n : Nat} {l : Array Bool} {a : Act} {w : World} (hr : Region.ready md ops l = rs) (hne : rs ≠ []) (h : AllL P md ops Q S z n l a w rs) : wpAnyL P md ops Q S z (n + 1) l a w :=
  ⟨fun e => absurd (hr ▸ e) hne, hr ▸ h⟩
theorem wpAnyL.done {l : Array Bool} {a : Act} {w : World} (hr : Region.ready md ops l = []) (h : Q .normal a w) : ∀ n, wpAnyL P md ops Q S z n l a w
  | 0 => ⟨hr, h⟩
  | _ + 1 => ⟨fun _ => h, by rw [hr]; simp⟩
theorem wp_region_L {id : Nat} {a : Act} {w : World} (z : Nat) (S : World → Prop) (hm : P.follows .mixedOrders = true) (h : wpAnyL P .any ops Q S z ops.size (Array.replicate ops.size false) a w.drew) : (Code.region id ops true).wp P Q a w :=
  wp_region_any hm (wpAnyL.any _ _ _ _ h)
end
end Go.Proofs.YtbhenicldddlfaaDoor

