/- Texts NC, laid together. -/
import Derived.Test.YtbhenicldddlfaaN2


namespace Go.Proofs.Ytbhenicldddlfaa
open Go.RowKit

/-! ### flat -/
theorem flats_splice (xs : List Dc) : Dc.flats (spliceD xs) = Dc.flats xs := by
  induction xs with
  | nil => rfl
  | cons x xs ih =>
    have e : spliceD (x :: xs) = (if x.kind = 4 then x.args else [x]) ++ spliceD xs := rfl
    rw [e, Dc.flats_append, ih]
    simp only [Dc.flats]
    split
    · rename_i h; rw [Dc.flat_eq (by omega) (by omega)]
    · simp [Dc.flats, ba_append_nil]
theorem flats_snoc (a : List Dc) (x : Dc) : Dc.flats (a ++ [x]) = Dc.flats a ++ x.flat := by
  rw [Dc.flats_append]; simp [Dc.flats, ba_append_nil]
theorem flats_push (out : List Dc) (x : Dc) : Dc.flats (pushD out x) = Dc.flats out ++ x.flat := by
  unfold pushD
  split
  · rename_i h
    rw [Dc.flat_0 h.1]
    have : x.text = ⟨#[]⟩ := by
      have h2 := h.2
      cases hx : x.text with
      | mk d => rw [hx] at h2; simp only [ByteArray.size] at h2; rw [Array.size_eq_zero_iff.1 h2]
    rw [this, ba_append_nil]
  · split
    · rename_i z hz
      split
      · rename_i hc
        rw [List.getLast?_eq_some_iff] at hz
        obtain ⟨ys, rfl⟩ := hz
        rw [List.dropLast_concat, flats_snoc, flats_snoc, Dc.flat_0 (t := .node z.kind (z.text ++ x.text) z.ind z.args) hc.2.1, Dc.flat_0 hc.2.1, Dc.flat_0 hc.1, ByteArray.append_assoc]
        rfl
      · rw [flats_snoc]
    · rw [flats_snoc]
theorem flats_merge (l : List Dc) : Dc.flats (mergeD l) = Dc.flats l := by
  have key : ∀ (l out : List Dc), Dc.flats (l.foldl pushD out) = Dc.flats out ++ Dc.flats l := by
    intro l
    induction l with
    | nil => intro out; simp [Dc.flats, ba_append_nil]
    | cons a l ih => intro out; rw [List.foldl_cons, ih, flats_push]; simp only [Dc.flats, ByteArray.append_assoc]
  rw [mergeD, key]; simp [Dc.flats, ba_nil_append]
theorem flat_nest (s : ByteArray) (i : Nat) (xs : List Dc) (x : Dc) : (nestD s i (x :: xs) x).flat = x.flat ∨ (nestD s i (x :: xs) x).flat = Dc.flats (x :: xs) := by
  unfold nestD
  split
  · exact Or.inl rfl
  · split
    · rename_i h
      left
      rw [Dc.flat_eq (t := x) (by omega) (by omega), Dc.flat_eq (by simp [Dc.kind]) (by simp [Dc.kind])]; rfl
    · right; rw [Dc.flat_eq (by simp [Dc.kind]) (by simp [Dc.kind])]; rfl
theorem flat_cat (s : ByteArray) (i : Nat) (m : List Dc) : (catD s i m).flat = Dc.flats m := by
  unfold catD
  split
  · simp [Dc.flats, ba_append_nil]
  · rw [Dc.flat_eq (by simp [Dc.kind]) (by simp [Dc.kind])]; rfl
mutual
theorem flat_nrm (t : Dc) (h : t.Ok) : t.nrm.flat = t.flat := by
  cases t with
  | node k s i ks =>
    have hk : Dc.flats (Dc.nrms ks) = Dc.flats ks := flats_nrms ks h.arg
    rw [Dc.nrm]
    cases h with
    | text s h => simp [Dc.nrms]
    | line k h1 h3 => rw [if_neg (by omega), if_neg (by omega)]; rfl
    | cat ks h =>
      rw [if_neg (by omega), if_pos rfl, flat_cat, flats_merge, flats_splice, hk, Dc.flat_eq (by simp [Dc.kind]) (by simp [Dc.kind])]; rfl
    | nest n t hn h =>
      rw [if_pos rfl]
      simp only [Dc.nrms, Dc.flats, ba_append_nil] at hk ⊢
      rw [Dc.flat_eq (t := .node 5 _ _ [t]) (by simp [Dc.kind]) (by simp [Dc.kind])]
      simp only [Dc.args, Dc.flats, ba_append_nil]
      rcases flat_nest ⟨#[]⟩ i [] t.nrm with e | e
      · rw [e, hk]
      · rw [e]; simp only [Dc.flats, ba_append_nil]; exact hk
    | group t h =>
      rw [if_neg (by omega), if_neg (by omega), Dc.flat_eq (by simp [Dc.kind]) (by simp [Dc.kind]), Dc.flat_eq (by simp [Dc.kind]) (by simp [Dc.kind])]
      exact hk
theorem flats_nrms (ks : List Dc) (h : ∀ x ∈ ks, Dc.Ok x) : Dc.flats (Dc.nrms ks) = Dc.flats ks := by
  cases ks with
  | nil => rfl
  | cons t ts =>
    simp only [Dc.nrms, Dc.flats]
    rw [flat_nrm t (h t (List.mem_cons_self ..)), flats_nrms ts fun x hx => h x (List.mem_cons_of_mem _ hx)]
end

/-! ### kinds of lines -/
/-- a test that asks for the kind alone, and lets all but lines by -/
structure KindT (p : Dc → Bool) : Prop where
  same : ∀ x y : Dc, x.kind = y.kind → p x = p y
  let_ : ∀ x : Dc, ¬ (1 ≤ x.kind ∧ x.kind ≤ 3) → p x = true
theorem KindT.all {p : Dc → Bool} (h : KindT p) {t : Dc} (hk : ¬ (1 ≤ t.kind ∧ t.kind ≤ 3)) : t.all p = Dc.alls p t.args := by
  rw [Dc.all_eq, h.let_ t hk, Bool.true_and]
theorem KindT.text {p : Dc → Bool} (h : KindT p) {t : Dc} (ho : t.Ok) (hk : t.kind = 0) : t.all p = true := by
  rw [h.all (by omega), (ho.text_of hk).1]; rfl
theorem alls_snoc (p : Dc → Bool) (a : List Dc) (x : Dc) : Dc.alls p (a ++ [x]) = (Dc.alls p a && x.all p) := by
  rw [Dc.alls_append]; simp [Dc.alls]
theorem KindT.splice {p : Dc → Bool} (h : KindT p) (xs : List Dc) : Dc.alls p (spliceD xs) = Dc.alls p xs := by
  induction xs with
  | nil => rfl
  | cons x xs ih =>
    have e : spliceD (x :: xs) = (if x.kind = 4 then x.args else [x]) ++ spliceD xs := rfl
    rw [e, Dc.alls_append, ih]
    simp only [Dc.alls]
    split
    · rename_i hk; rw [h.all (t := x) (by omega)]
    · simp [Dc.alls]
theorem KindT.push {p : Dc → Bool} (h : KindT p) (out : List Dc) (x : Dc) (ho : ∀ y ∈ out, y.Ok) (hx : x.Ok) : Dc.alls p (pushD out x) = (Dc.alls p out && x.all p) := by
  unfold pushD
  split
  · rename_i hc; rw [h.text hx hc.1, Bool.and_true]
  · split
    · rename_i z hz
      have hzo := ho z (List.mem_of_getLast? hz)
      split
      · rename_i hc
        rw [List.getLast?_eq_some_iff] at hz
        obtain ⟨ys, rfl⟩ := hz
        have e4 : z.args = [] := by rw [(hzo.text_of hc.2.1).1]; rfl
        rw [List.dropLast_concat, alls_snoc, alls_snoc, h.text hx hc.1, h.text hzo hc.2.1, h.all (t := .node z.kind (z.text ++ x.text) z.ind z.args) (by show ¬ (1 ≤ z.kind ∧ z.kind ≤ 3); omega)]
        show (Dc.alls p ys && Dc.alls p z.args) = _
        rw [e4]
        simp [Dc.alls]
      · rw [alls_snoc]
    · rw [alls_snoc]
theorem KindT.merge {p : Dc → Bool} (h : KindT p) (l : List Dc) (hl : ∀ x ∈ l, x.Ok) : Dc.alls p (mergeD l) = Dc.alls p l := by
  have key : ∀ (l out : List Dc), (∀ x ∈ l, x.Ok) → (∀ y ∈ out, y.Ok) → Dc.alls p (l.foldl pushD out) = (Dc.alls p out && Dc.alls p l) := by
    intro l
    induction l with
    | nil => intro out _ _; simp [Dc.alls]
    | cons a l ih =>
      intro out h1 h2
      have ha := h1 a (List.mem_cons_self ..)
      rw [List.foldl_cons, ih _ (fun x hx => h1 x (List.mem_cons_of_mem _ hx)) (pushD_ok h2 ha), h.push out a h2 ha]
      simp only [Dc.alls, Bool.and_assoc]
  rw [mergeD, key l [] hl (by simp)]
  simp [Dc.alls]
mutual
theorem KindT.nrm {p : Dc → Bool} (hp : KindT p) (t : Dc) (h : t.Ok) : t.nrm.all p = t.all p := by
  cases t with
  | node k s i ks =>
    have hk : Dc.alls p (Dc.nrms ks) = Dc.alls p ks := KindT.nrms hp ks h.arg
    have hok := Dc.nrms_ok ks h.arg
    rw [Dc.nrm]
    cases h with
    | text s h => simp [Dc.nrms]
    | line k h1 h3 => rw [if_neg (by omega), if_neg (by omega)]; rfl
    | cat ks h =>
      rw [if_neg (by omega), if_pos rfl, hp.all (t := .node 4 _ _ ks) (by simp [Dc.kind])]
      simp only [Dc.args]
      rw [← hk, ← hp.splice (Dc.nrms ks), ← hp.merge _ (spliceD_ok hok)]
      unfold catD
      split
      · rename_i x e; rw [e]; simp [Dc.alls]
      · rw [hp.all (by simp [Dc.kind])]; rfl
    | nest n t hn h =>
      rw [if_pos rfl, hp.all (t := .node 5 _ _ [t]) (by simp [Dc.kind])]
      simp only [Dc.args, Dc.nrms, Dc.alls, Bool.and_true] at hk ⊢
      rw [← hk]
      unfold nestD
      split
      · rfl
      · split
        · rename_i hc
          rw [hp.all (t := t.nrm) (by omega), hp.all (by simp [Dc.kind])]; rfl
        · rw [hp.all (by simp [Dc.kind])]; simp [Dc.args, Dc.alls]
    | group t h =>
      rw [if_neg (by omega), if_neg (by omega), hp.all (t := .node 6 _ _ [t]) (by simp [Dc.kind]), hp.all (by simp [Dc.kind])]
      exact hk
theorem KindT.nrms {p : Dc → Bool} (hp : KindT p) (ks : List Dc) (h : ∀ x ∈ ks, Dc.Ok x) : Dc.alls p (Dc.nrms ks) = Dc.alls p ks := by
  cases ks with
  | nil => rfl
  | cons t ts =>
    simp only [Dc.nrms, Dc.alls]
    rw [KindT.nrm hp t (h t (List.mem_cons_self ..)), KindT.nrms hp ts fun x hx => h x (List.mem_cons_of_mem _ hx)]
end
theorem kindT_has {l : List Int} (h : ∀ x ∈ l, 1 ≤ x ∧ x ≤ 3) : KindT fun x => !decide ((x.kind : Int) ∈ l) := by
  refine ⟨fun x y e => by simp only [e], fun x hx => ?_⟩
  have : ¬ ((x.kind : Int) ∈ l) := fun e => by have := h _ e; omega
  simp [this]
theorem hasB_nrm {l : List Int} (hl : ∀ x ∈ l, 1 ≤ x ∧ x ≤ 3) {t : Dc} (h : t.Ok) : hasB l t.nrm = hasB l t := by
  unfold hasB
  rw [KindT.nrm (kindT_has hl) t h]
end Go.Proofs.Ytbhenicldddlfaa

