/- Texts DI, laid together. -/
import Derived.Test.YtbhenicldddlfaaDoorD3


namespace Go.Proofs.YtbhenicldddlfaaDoor
open Go.RowKit

structure Vl where
  ex : Nat
  ln : Nat
  fl : Bool
def ovr (W c : Nat) : Nat := c - W

/-- the best way to go on from an operation at a column -/
def findV (W : Nat) (ops : List Opr) (i col : Nat) : Vl :=
  if h : i < ops.length then
    if ops[i].grp = true then
      if ops[i].can = true then
        if (findV W ops (max ops[i].fin (i + 1)) (col + ops[i].text.size)).ex + (ovr W (col + ops[i].text.size) - ovr W col) < (findV W ops (i + 1) col).ex ∨
            (findV W ops (max ops[i].fin (i + 1)) (col + ops[i].text.size)).ex + (ovr W (col + ops[i].text.size) - ovr W col) = (findV W ops (i + 1) col).ex ∧ (findV W ops (max ops[i].fin (i + 1)) (col + ops[i].text.size)).ln ≤ (findV W ops (i + 1) col).ln
        then ⟨(findV W ops (max ops[i].fin (i + 1)) (col + ops[i].text.size)).ex + (ovr W (col + ops[i].text.size) - ovr W col), (findV W ops (max ops[i].fin (i + 1)) (col + ops[i].text.size)).ln, true⟩
        else ⟨(findV W ops (i + 1) col).ex, (findV W ops (i + 1) col).ln, false⟩
      else ⟨(findV W ops (i + 1) col).ex, (findV W ops (i + 1) col).ln, false⟩
    else if 0 ≤ ops[i].ind then ⟨(findV W ops (i + 1) ops[i].ind.toNat).ex + ovr W ops[i].ind.toNat, (findV W ops (i + 1) ops[i].ind.toNat).ln + 1, (findV W ops (i + 1) ops[i].ind.toNat).fl⟩
    else ⟨(findV W ops (i + 1) (col + ops[i].text.size)).ex + (ovr W (col + ops[i].text.size) - ovr W col), (findV W ops (i + 1) (col + ops[i].text.size)).ln, (findV W ops (i + 1) (col + ops[i].text.size)).fl⟩
  else ⟨0, 0, false⟩
termination_by ops.length - i
decreasing_by all_goals omega

section
variable {W i col : Nat} {ops : List Opr} {o : Opr}
theorem findV_end (h : ops.length ≤ i) : findV W ops i col = ⟨0, 0, false⟩ := by
  rw [findV, dif_neg (by omega)]
theorem findV_some (h : ops[i]? = some o) : ∃ hi : i < ops.length, ops[i] = o := by
  exact List.getElem?_eq_some_iff.1 h
/-- the best of a group that can be flat: a is the flat way's, v the broken way's -/
def pickV (a v : Vl) (d : Nat) : Vl := if a.ex + d < v.ex ∨ a.ex + d = v.ex ∧ a.ln ≤ v.ln then ⟨a.ex + d, a.ln, true⟩ else ⟨v.ex, v.ln, false⟩
theorem findV_can (h : ops[i]? = some o) (hg : o.grp = true) (hc : o.can = true) (hf : i < o.fin) :
    findV W ops i col = pickV (findV W ops o.fin (col + o.text.size)) (findV W ops (i + 1) col) (ovr W (col + o.text.size) - ovr W col) := by
  obtain ⟨hi, rfl⟩ := findV_some h
  rw [findV, dif_pos hi, if_pos hg, if_pos hc, show max ops[i].fin (i + 1) = ops[i].fin by omega]; rfl
theorem findV_grp (h : ops[i]? = some o) (hg : o.grp = true) (hc : o.can = false) :
    findV W ops i col = ⟨(findV W ops (i + 1) col).ex, (findV W ops (i + 1) col).ln, false⟩ := by
  obtain ⟨hi, rfl⟩ := findV_some h
  rw [findV, dif_pos hi, if_pos hg, if_neg (by simp [hc])]
theorem findV_line (h : ops[i]? = some o) (hg : o.grp = false) (hn : 0 ≤ o.ind) :
    findV W ops i col = ⟨(findV W ops (i + 1) o.ind.toNat).ex + ovr W o.ind.toNat, (findV W ops (i + 1) o.ind.toNat).ln + 1, (findV W ops (i + 1) o.ind.toNat).fl⟩ := by
  obtain ⟨hi, rfl⟩ := findV_some h
  rw [findV, dif_pos hi, if_neg (by simp [hg]), if_pos hn]
theorem findV_text (h : ops[i]? = some o) (hg : o.grp = false) (hn : ¬ 0 ≤ o.ind) :
    findV W ops i col = ⟨(findV W ops (i + 1) (col + o.text.size)).ex + (ovr W (col + o.text.size) - ovr W col), (findV W ops (i + 1) (col + o.text.size)).ln, (findV W ops (i + 1) (col + o.text.size)).fl⟩ := by
  obtain ⟨hi, rfl⟩ := findV_some h
  rw [findV, dif_pos hi, if_neg (by simp [hg]), if_neg hn]
end

/-- operations as a document writes them -/
def OpsOk (ops : List Opr) : Prop := ∀ (i : Nat) (o : Opr), ops[i]? = some o → o.text.size ≤ 24000 ∧ -1 ≤ o.ind ∧ o.ind ≤ 8000 ∧ (o.grp = true → i < o.fin ∧ o.fin ≤ ops.length)

theorem ovr_le (W c : Nat) : ovr W c ≤ c := Nat.sub_le _ _
theorem ovr_mono {W a b : Nat} (h : a ≤ b) : ovr W a ≤ ovr W b := by unfold ovr; omega
theorem ovr_wider {W W' c : Nat} (h : W ≤ W') : ovr W' c ≤ ovr W c := by unfold ovr; omega
theorem pickV_le (a v : Vl) (d : Nat) : (pickV a v d).ex ≤ v.ex ∧ (pickV a v d).ex ≤ a.ex + d := by
  unfold pickV; split
  · rename_i h; simp only; omega
  · rename_i h; simp only; omega
theorem pickV_cases (a v : Vl) (d : Nat) : (pickV a v d).ex = v.ex ∨ (pickV a v d).ex = a.ex + d := by
  unfold pickV; split
  · exact Or.inr rfl
  · exact Or.inl rfl

/-- a greater width never needs more -/
theorem findV_wider {W W' : Nat} (hW : W ≤ W') {ops : List Opr} (ho : OpsOk ops) : ∀ (m i col : Nat), ops.length - i ≤ m → (findV W' ops i col).ex + ovr W' col ≤ (findV W ops i col).ex + ovr W col := by
  intro m
  induction m with
  | zero =>
    intro i col h
    rw [findV_end (by omega), findV_end (by omega)]
    have := ovr_wider (c := col) hW; simp only; omega
  | succ m ih =>
    intro i col h
    by_cases hi : i < ops.length
    · have hs : ops[i]? = some ops[i] := List.getElem?_eq_getElem hi
      generalize ops[i] = o at hs
      obtain ⟨-, -, -, hfin⟩ := ho i o hs
      have k1 := ih (i + 1) col (by omega)
      have k2 := ih (i + 1) (col + o.text.size) (by omega)
      have k3 := ih (i + 1) o.ind.toNat (by omega)
      have m1 : ovr W col ≤ ovr W (col + o.text.size) := ovr_mono (by omega)
      have m2 : ovr W' col ≤ ovr W' (col + o.text.size) := ovr_mono (by omega)
      have m3 := ovr_wider (c := col) hW
      cases hg : o.grp
      · by_cases hn : 0 ≤ o.ind
        · rw [findV_line hs hg hn, findV_line hs hg hn]; simp only; omega
        · rw [findV_text hs hg hn, findV_text hs hg hn]; simp only; omega
      · obtain ⟨hf1, hf2⟩ := hfin hg
        have k4 := ih o.fin (col + o.text.size) (by omega)
        cases hc : o.can
        · rw [findV_grp hs hg hc, findV_grp hs hg hc]; simp only; omega
        · rw [findV_can hs hg hc hf1, findV_can hs hg hc hf1]
          have p1 := pickV_le (findV W' ops o.fin (col + o.text.size)) (findV W' ops (i + 1) col) (ovr W' (col + o.text.size) - ovr W' col)
          rcases pickV_cases (findV W ops o.fin (col + o.text.size)) (findV W ops (i + 1) col) (ovr W (col + o.text.size) - ovr W col) with e | e
          · rw [e]; omega
          · rw [e]; omega
    · rw [findV_end (by omega), findV_end (by omega)]
      simp only; have := ovr_wider (c := col) hW; omega

/-- how large the numbers can be -/
theorem findV_small {W : Nat} {ops : List Opr} (ho : OpsOk ops) : ∀ (m i col : Nat), ops.length - i ≤ m → (findV W ops i col).ex + ovr W col ≤ col + 40000 * m ∧ (findV W ops i col).ln ≤ m := by
  intro m
  induction m with
  | zero =>
    intro i col h
    rw [findV_end (by omega)]
    have := ovr_le W col; simp only; omega
  | succ m ih =>
    intro i col h
    by_cases hi : i < ops.length
    · have hs : ops[i]? = some ops[i] := List.getElem?_eq_getElem hi
      generalize ops[i] = o at hs
      obtain ⟨h1, h2, h3, hfin⟩ := ho i o hs
      have k1 := ih (i + 1) col (by omega)
      have k2 := ih (i + 1) (col + o.text.size) (by omega)
      have k3 := ih (i + 1) o.ind.toNat (by omega)
      have m1 : ovr W col ≤ ovr W (col + o.text.size) := ovr_mono (by omega)
      have m3 := ovr_le W col
      cases hg : o.grp
      · by_cases hn : 0 ≤ o.ind
        · rw [findV_line hs hg hn]; simp only; omega
        · rw [findV_text hs hg hn]; simp only; omega
      · obtain ⟨hf1, hf2⟩ := hfin hg
        have k4 := ih o.fin (col + o.text.size) (by omega)
        cases hc : o.can
        · rw [findV_grp hs hg hc]; simp only; omega
        · rw [findV_can hs hg hc hf1]
          unfold pickV
          split <;> (simp only; omega)
    · rw [findV_end (by omega)]
      have := ovr_le W col; simp only; omega

/-! ### what a valid document writes -/
mutual
theorem Dc.ops_ok (t : Dc) (h : t.Ok) : ∀ (ind k d : Nat), t.size ≤ 400 → d + t.size ≤ 400 → ind ≤ 20 * d → ∀ (j : Nat) (o : Opr), (t.ops ind k)[j]? = some o → o.text.size ≤ 24000 ∧ -1 ≤ o.ind ∧ o.ind ≤ 8000 ∧ (o.grp = true → k + j < o.fin ∧ o.fin ≤ k + (t.ops ind k).length) := by
  intro ind k d hs hd hi j o hj
  have hks : ∀ x ∈ t.args, Dc.Ok x := h.arg
  have hfs := Dc.flat_size t h
  have hii := h.ind_le
  cases t with
  | node kd s i ks =>
    simp only [Dc.args, Dc.ind, Dc.size] at *
    have key := fun ind' k' (hi' : ind' ≤ 20 * (d + 1)) => Dc.opsL_ok ks hks ind' k' (d + 1) (by omega) (by omega) hi'
    rw [Dc.ops] at hj ⊢
    split at hj
    · rename_i h0
      subst h0
      cases j with
      | zero =>
        simp at hj; subst hj
        cases h with
        | text s h => exact ⟨by have := h.1; simp only; omega, by simp, by simp, by simp⟩
        | line k h1 h3 => omega
      | succ j => simp at hj
    · split at hj
      · cases j with
        | zero =>
          simp at hj; subst hj
          exact ⟨Nat.zero_le _, by simp only; omega, by simp only; omega, by simp⟩
        | succ j => simp at hj
      · rename_i h0 h1
        split at hj
        · rename_i h5
          rw [if_neg h0, if_neg h1, if_pos h5]
          exact key _ _ (by omega) j o hj
        · split at hj
          · rename_i h5 h6
            rw [if_neg h0, if_neg h1, if_neg h5, if_pos h6]
            cases j with
            | zero =>
              simp at hj; subst hj
              exact ⟨by simp only; omega, by simp, by simp, fun _ => by simp only [List.length_cons]; omega⟩
            | succ j =>
              simp only [List.getElem?_cons_succ] at hj
              obtain ⟨k1, k2, k3, k4⟩ := key ind (k + 1) (by omega) j o hj
              exact ⟨k1, k2, k3, fun hg => by have := k4 hg; simp only [List.length_cons]; omega⟩
          · rename_i h5 h6
            rw [if_neg h0, if_neg h1, if_neg h5, if_neg h6]
            exact key _ _ (by omega) j o hj
theorem Dc.opsL_ok (ks : List Dc) (h : ∀ x ∈ ks, Dc.Ok x) : ∀ (ind k d : Nat), Dc.sizes ks ≤ 400 → d + Dc.sizes ks ≤ 400 → ind ≤ 20 * d → ∀ (j : Nat) (o : Opr), (Dc.opsL ind ks k)[j]? = some o → o.text.size ≤ 24000 ∧ -1 ≤ o.ind ∧ o.ind ≤ 8000 ∧ (o.grp = true → k + j < o.fin ∧ o.fin ≤ k + (Dc.opsL ind ks k).length) := by
  intro ind k d hs hd hi j o hj
  cases ks with
  | nil => simp [Dc.opsL] at hj
  | cons t ts =>
    simp only [Dc.opsL, Dc.sizes] at *
    have hps := t.size_pos
    have k1 := Dc.ops_ok t (h t (List.mem_cons_self ..)) ind k d (by omega) (by omega) hi
    have k2 := Dc.opsL_ok ts (fun x hx => h x (List.mem_cons_of_mem _ hx)) ind (k + (t.ops ind k).length) d (by omega) (by omega) hi
    rcases Nat.lt_or_ge j (t.ops ind k).length with hl | hl
    · rw [List.getElem?_append_left hl] at hj
      obtain ⟨a1, a2, a3, a4⟩ := k1 j o hj
      exact ⟨a1, a2, a3, fun hg => by have := a4 hg; simp only [List.length_append]; omega⟩
    · rw [List.getElem?_append_right hl] at hj
      obtain ⟨a1, a2, a3, a4⟩ := k2 _ o hj
      exact ⟨a1, a2, a3, fun hg => by have := a4 hg; simp only [List.length_append]; omega⟩
end
theorem Dc.opsOk {t : Dc} (h : t.Ok) (hs : t.size ≤ 400) : OpsOk (t.ops 0 0) := fun i o hi => by
  obtain ⟨a1, a2, a3, a4⟩ := Dc.ops_ok t h 0 0 0 hs (by omega) (by omega) i o hi
  exact ⟨a1, a2, a3, fun hg => by have := a4 hg; omega⟩
end Go.Proofs.YtbhenicldddlfaaDoor

