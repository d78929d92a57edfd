/- Texts ND, laid together. -/
import Derived.Test.YtbhenicldddlfaaN3


namespace Go.Proofs.Ytbhenicldddlfaa
open Go.RowKit

theorem Ly.then_assoc (a b c : Ly) : (a.then_ b).then_ c = a.then_ (b.then_ c) := by
  simp [Ly.then_, Ly.after, Nat.add_assoc, List.append_assoc]
theorem Ly.then_k (a b : Ly) : (a.then_ b).k = b.k := rfl
theorem runs_cons (W : Nat) (q : Nat → Bool) (ind : Nat) (t : Dc) (ts : List Dc) (col k : Nat) : Dc.runs W q ind (t :: ts) col k = ((t.run W q ind col k).1.then_ (Dc.runs W q ind ts (t.run W q ind col k).2 (t.run W q ind col k).1.k).1, (Dc.runs W q ind ts (t.run W q ind col k).2 (t.run W q ind col k).1.k).2) := by
  rw [Dc.runs]; rfl
theorem runs_append (W : Nat) (q : Nat → Bool) (ind : Nat) (a b : List Dc) : ∀ col k, Dc.runs W q ind (a ++ b) col k = ((Dc.runs W q ind a col k).1.then_ (Dc.runs W q ind b (Dc.runs W q ind a col k).2 (Dc.runs W q ind a col k).1.k).1, (Dc.runs W q ind b (Dc.runs W q ind a col k).2 (Dc.runs W q ind a col k).1.k).2) := by
  induction a with
  | nil => intro col k; simp [Dc.runs, Ly.then_, Ly.after_nil]
  | cons t ts ih =>
    intro col k
    rw [List.cons_append, runs_cons, runs_cons, ih]
    simp only [Ly.then_assoc, Ly.then_k]
theorem run_one (W : Nat) (q : Nat → Bool) (ind : Nat) (t : Dc) (col k : Nat) : Dc.runs W q ind [t] col k = t.run W q ind col k := by
  rw [runs_cons]
  simp [Dc.runs, Ly.then_, Ly.after]
theorem run_4 {W : Nat} {q : Nat → Bool} {ind : Nat} {t : Dc} (h : t.kind = 4) (col k : Nat) : t.run W q ind col k = Dc.runs W q ind t.args col k := by
  cases t; simp only [Dc.kind, Dc.args] at *; subst h; simp [Dc.run]
theorem run_5 {W : Nat} {q : Nat → Bool} {ind : Nat} {t : Dc} (h : t.kind = 5) (col k : Nat) : t.run W q ind col k = Dc.runs W q (ind + t.ind) t.args col k := by
  cases t; simp only [Dc.kind, Dc.args, Dc.ind] at *; subst h; simp [Dc.run]
theorem run_0 {W : Nat} {q : Nat → Bool} {ind : Nat} {t : Dc} (h : t.kind = 0) (col k : Nat) : t.run W q ind col k = (⟨ovr W (col + t.text.size) - ovr W col, 0, [], bts t.text, k⟩, col + t.text.size) := by
  cases t; simp only [Dc.kind, Dc.text] at *; subst h; simp [Dc.run]
theorem runs_splice (W : Nat) (q : Nat → Bool) (ind : Nat) (xs : List Dc) : ∀ col k, Dc.runs W q ind (spliceD xs) col k = Dc.runs W q ind xs col k := by
  induction xs with
  | nil => intro col k; rfl
  | cons x xs ih =>
    intro col k
    have e : spliceD (x :: xs) = (if x.kind = 4 then x.args else [x]) ++ spliceD xs := rfl
    rw [e, runs_append, runs_cons]
    split
    · rename_i h
      rw [run_4 h]
      simp only [ih]
    · rw [run_one]
      simp only [ih]
theorem bts_app (a b : ByteArray) : bts (a ++ b) = bts a ++ bts b := by simp [bts, ByteArray.data_append]
theorem runs_push (W : Nat) (q : Nat → Bool) (ind : Nat) (out : List Dc) (x : Dc) (col k : Nat) : Dc.runs W q ind (pushD out x) col k = Dc.runs W q ind (out ++ [x]) col k := by
  unfold pushD
  split
  · rename_i h
    rw [runs_append, run_one, run_0 h.1]
    have : bts x.text = [] := List.eq_nil_of_length_eq_zero (by rw [bts_len]; exact h.2)
    simp [h.2, this, Ly.then_, Ly.after]
  · split
    · rename_i z hz
      split
      · rename_i hc
        rw [List.getLast?_eq_some_iff] at hz
        obtain ⟨ys, rfl⟩ := hz
        rw [List.dropLast_concat, runs_append, run_one, runs_append, runs_append, run_one, run_one, run_0 (t := .node z.kind (z.text ++ x.text) z.ind z.args) hc.2.1, run_0 hc.2.1, run_0 hc.1]
        have e1 : (Dc.node z.kind (z.text ++ x.text) z.ind z.args).text = z.text ++ x.text := rfl
        have m1 : ∀ c, ovr W c ≤ ovr W (c + z.text.size) := fun c => ovr_mono (by omega)
        have m2 : ∀ c, ovr W (c + z.text.size) ≤ ovr W (c + z.text.size + x.text.size) := fun c => ovr_mono (by omega)
        rw [e1, ByteArray.size_append, bts_app]
        generalize Dc.runs W q ind ys col k = r
        have a1 := m1 r.2
        have a2 := m2 r.2
        simp only [Ly.then_, Ly.after, Nat.add_zero, List.append_nil, List.append_assoc, ← Nat.add_assoc, Prod.mk.injEq, Ly.mk.injEq, and_true]
        omega
      · rfl
    · rfl
theorem runs_merge (W : Nat) (q : Nat → Bool) (ind : Nat) (l : List Dc) (col k : Nat) : Dc.runs W q ind (mergeD l) col k = Dc.runs W q ind l col k := by
  have key : ∀ (l out : List Dc), Dc.runs W q ind (l.foldl pushD out) col k = Dc.runs W q ind (out ++ l) col k := by
    intro l
    induction l with
    | nil => intro out; simp
    | cons a l ih =>
      intro out
      rw [List.foldl_cons, ih, runs_append, runs_push, ← runs_append, List.append_assoc]; rfl
  exact key l []

/-! ### a document without lines does not look at the indentation -/
def noLine (x : Dc) : Bool := !decide ((x.kind : Int) ∈ [(1 : Int), 2, 3])
mutual
theorem run_ind (W : Nat) (q : Nat → Bool) (t : Dc) (h : t.all noLine = true) : ∀ i j col k, t.run W q i col k = t.run W q j col k := by
  intro i j col k
  cases t with
  | node kd s n ks =>
    rw [Dc.all_eq, Bool.and_eq_true] at h
    have hk := fun i j col k => runs_ind W q ks h.2 i j col k
    have h1 := h.1
    simp only [noLine, Dc.kind, Bool.not_eq_true', decide_eq_false_iff_not, List.mem_cons, List.not_mem_nil, or_false, not_or] at h1
    rw [Dc.run, Dc.run, hk (i + n) (j + n), hk i j col (k + 1), hk i j col k]
    by_cases h0 : kd = 0
    · simp [h0]
    · have h3 : ¬ kd ≤ 3 := by omega
      simp [h0, h3]
theorem runs_ind (W : Nat) (q : Nat → Bool) (ks : List Dc) (h : Dc.alls noLine ks = true) : ∀ i j col k, Dc.runs W q i ks col k = Dc.runs W q j ks col k := by
  intro i j col k
  cases ks with
  | nil => rfl
  | cons t ts =>
    rw [Dc.alls, Bool.and_eq_true] at h
    rw [runs_cons, runs_cons, run_ind W q t h.1 i j]
    simp only [runs_ind W q ts h.2 i j]
end
theorem run_6 {W : Nat} {q : Nat → Bool} {ind : Nat} {t : Dc} (h : t.kind = 6) (col k : Nat) : t.run W q ind col k =
    if hasB [3] t = false then
      if q k = true then (⟨ovr W (col + t.flat.size) - ovr W col, 0, [0], bts t.flat, k + 1⟩, col + t.flat.size)
      else (Ly.after 0 0 [1] [] (Dc.runs W q ind t.args col (k + 1)).1, (Dc.runs W q ind t.args col (k + 1)).2)
    else (Ly.after 0 0 [1] [] (Dc.runs W q ind t.args col k).1, (Dc.runs W q ind t.args col k).2) := by
  cases t; simp only [Dc.kind, Dc.args] at *; subst h; rw [Dc.run]; simp
mutual
/-- norm keeps what a document writes -/
theorem run_nrm (W : Nat) (q : Nat → Bool) (t : Dc) (h : t.Ok) : ∀ ind col k, t.nrm.run W q ind col k = t.run W q ind col k := by
  intro ind col k
  have hfl := flat_nrm t h
  have hhb := hasB_nrm (l := [3]) (by simp) h
  cases t with
  | node kd s i ks =>
    have hk := fun ind col k => runs_nrms W q ks h.arg ind col k
    rw [Dc.nrm] at hfl hhb ⊢
    cases h with
    | text s h => simp [Dc.nrms]
    | line k h1 h3 => rw [if_neg (by omega), if_neg (by omega)]; rfl
    | cat ks h =>
      rw [if_neg (by omega), if_pos rfl, run_4 (t := .node 4 _ _ ks) rfl]
      simp only [Dc.args]
      rw [← hk, ← runs_splice, ← runs_merge]
      unfold catD
      split
      · rename_i x e; rw [e, run_one]
      · rw [run_4 rfl]; rfl
    | nest n t hn h =>
      rw [if_pos rfl, run_5 (t := .node 5 _ _ [t]) rfl]
      simp only [Dc.args, Dc.ind, Dc.nrms] at hk ⊢
      rw [← hk, run_one]
      unfold nestD
      split
      · rename_i hc
        rcases hc with hc | hc
        · rw [hc, Nat.add_zero]
        · refine run_ind W q _ ?_ _ _ _ _
          have h2 : (!(Dc.all noLine t.nrm)) = false := hc
          simpa using h2
      · split
        · rename_i hc
          rw [run_5 rfl, run_5 hc.1]
          show Dc.runs W q (ind + (t.nrm.ind + i)) t.nrm.args col k = Dc.runs W q (ind + i + t.nrm.ind) t.nrm.args col k
          rw [show ind + (t.nrm.ind + i) = ind + i + t.nrm.ind by omega]
        · rw [run_5 rfl]
          simp only [Dc.ind, Dc.args]
          rw [run_one]
    | group t h =>
      rw [if_neg (by omega), if_neg (by omega)] at hfl hhb ⊢
      rw [run_6 rfl, run_6 (t := .node 6 _ _ [t]) rfl, hfl, hhb]
      simp only [Dc.args, hk]
theorem runs_nrms (W : Nat) (q : Nat → Bool) (ks : List Dc) (h : ∀ x ∈ ks, Dc.Ok x) : ∀ ind col k, Dc.runs W q ind (Dc.nrms ks) col k = Dc.runs W q ind ks col k := by
  intro ind col k
  cases ks with
  | nil => rfl
  | cons t ts =>
    rw [Dc.nrms, runs_cons, runs_cons, run_nrm W q t (h t (List.mem_cons_self ..))]
    simp only [runs_nrms W q ts fun x hx => h x (List.mem_cons_of_mem _ hx)]
end
end Go.Proofs.Ytbhenicldddlfaa

