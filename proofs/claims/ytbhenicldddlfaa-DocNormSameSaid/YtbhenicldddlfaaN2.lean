/- Texts NB, laid together. -/
import Derived.Test.YtbhenicldddlfaaN1
import Derived.Test.YtbhenicldddlfaaD7



namespace Go.Proofs.Ytbhenicldddlfaa
open Go.RowKit

mutual
/-- what a document writes at a column, k choices made before: and the column behind it -/
def Dc.run (W : Nat) (q : Nat → Bool) (ind : Nat) : Dc → Nat → Nat → Ly × Nat
  | .node kd s i ks, col, k =>
    if kd = 0 then (⟨ovr W (col + s.size) - ovr W col, 0, [], bts s, k⟩, col + s.size)
    else if kd ≤ 3 then (⟨ovr W ind, 1, [], 10 :: List.replicate ind 32, k⟩, ind)
    else if kd = 5 then Dc.runs W q (ind + i) ks col k
    else if kd = 6 then
      if hasB [3] (.node kd s i ks) = false then
        if q k = true then (⟨ovr W (col + (Dc.flat (.node kd s i ks)).size) - ovr W col, 0, [0], bts (Dc.flat (.node kd s i ks)), k + 1⟩, col + (Dc.flat (.node kd s i ks)).size)
        else (Ly.after 0 0 [1] [] (Dc.runs W q ind ks col (k + 1)).1, (Dc.runs W q ind ks col (k + 1)).2)
      else (Ly.after 0 0 [1] [] (Dc.runs W q ind ks col k).1, (Dc.runs W q ind ks col k).2)
    else Dc.runs W q ind ks col k
def Dc.runs (W : Nat) (q : Nat → Bool) (ind : Nat) : List Dc → Nat → Nat → Ly × Nat
  | [], col, k => (⟨0, 0, [], [], k⟩, col)
  | t :: ts, col, k =>
    let r := t.run W q ind col k
    let r2 := Dc.runs W q ind ts r.2 r.1.k
    (Ly.after r.1.ex r.1.ln r.1.ch r.1.tx r2.1, r2.2)
end
/-- a part, then the rest -/
def Ly.then_ (a : Ly) (r : Ly) : Ly := Ly.after a.ex a.ln a.ch a.tx r
theorem Ly.then_after (ex ln : Nat) (ch : List Int) (tx : List UInt8) (a r : Ly) : Ly.after ex ln ch tx (a.then_ r) = (Ly.after ex ln ch tx a).then_ r := by
  simp [Ly.then_, Ly.after, Nat.add_assoc, List.append_assoc]
mutual
theorem Dc.run_set {W : Nat} {q : Nat → Bool} {p : Nat → Nat → Nat → Bool} (hp : ∀ k i c, p k i c = q k) (ops : List Opr) (t : Dc) : ∀ (ind n col k : Nat), (∀ j o, (t.ops ind n)[j]? = some o → ops[n + j]? = some o) →
    setF W p ops n col k = (t.run W q ind col k).1.then_ (setF W p ops (n + (t.ops ind n).length) (t.run W q ind col k).2 (t.run W q ind col k).1.k) := by
  intro ind n col k h
  cases t with
  | node kd s i ks =>
    rw [Dc.ops] at h ⊢
    rw [Dc.run]
    split
    · rename_i h0
      rw [if_pos h0] at h
      have h1 := h 0 _ rfl
      rw [Nat.add_zero] at h1
      rw [setF_text h1 rfl (by simp)]
      rfl
    · rename_i h0
      rw [if_neg h0] at h
      split
      · rename_i h3
        rw [if_pos h3] at h
        have h1 := h 0 _ rfl
        rw [Nat.add_zero] at h1
        rw [setF_line h1 rfl (by simp)]
        simp only [Int.toNat_natCast]
        rfl
      · rename_i h3
        rw [if_neg h3] at h
        split
        · rename_i h5
          rw [if_pos h5] at h
          exact Dc.runs_set hp ops ks (ind + i) n col k h
        · rename_i h5
          rw [if_neg h5] at h
          split
          · rename_i h6
            rw [if_pos h6] at h
            have h1 := h 0 _ rfl
            rw [Nat.add_zero] at h1
            have h2 : ∀ j o, (Dc.opsL ind ks (n + 1))[j]? = some o → ops[n + 1 + j]? = some o := fun j o e => by
              have := h (j + 1) o (by simpa using e)
              rw [show n + 1 + j = n + (j + 1) by omega]; exact this
            have hl : n + (Dc.opsL ind ks (n + 1)).length + 1 = n + 1 + (Dc.opsL ind ks (n + 1)).length := by omega
            rw [List.length_cons, ← Nat.add_assoc, hl]
            split
            · rename_i hh
              split
              · rename_i hq
                rw [setF_flat h1 rfl (by simp [hh]) (by rw [hp]; exact hq) (by simp only; omega)]
                rfl
              · rename_i hq
                rw [setF_brk h1 rfl (by simp [hh]) (by rw [hp]; simpa using hq), Dc.runs_set hp ops ks ind (n + 1) col (k + 1) h2, Ly.then_after]
                rfl
            · rename_i hh
              rw [setF_cannot h1 rfl (by simpa using hh), Dc.runs_set hp ops ks ind (n + 1) col k h2, Ly.then_after]
              rfl
          · rename_i h6
            rw [if_neg h6] at h
            exact Dc.runs_set hp ops ks ind n col k h
theorem Dc.runs_set {W : Nat} {q : Nat → Bool} {p : Nat → Nat → Nat → Bool} (hp : ∀ k i c, p k i c = q k) (ops : List Opr) (ks : List Dc) : ∀ (ind n col k : Nat), (∀ j o, (Dc.opsL ind ks n)[j]? = some o → ops[n + j]? = some o) →
    setF W p ops n col k = (Dc.runs W q ind ks col k).1.then_ (setF W p ops (n + (Dc.opsL ind ks n).length) (Dc.runs W q ind ks col k).2 (Dc.runs W q ind ks col k).1.k) := by
  intro ind n col k h
  cases ks with
  | nil => simp [Dc.opsL, Dc.runs, Ly.then_, Ly.after_nil]
  | cons t ts =>
    rw [Dc.opsL] at h ⊢
    rw [Dc.run_set hp ops t ind n col k fun j o e => h j o (by rw [List.getElem?_append_left (List.getElem?_eq_some_iff.1 e).1]; exact e)]
    rw [Dc.runs_set hp ops ts ind (n + (t.ops ind n).length) _ _ fun j o e => by
      have := h ((t.ops ind n).length + j) o (by rw [List.getElem?_append_right (by omega)]; simpa using e)
      rw [Nat.add_assoc]; exact this]
    rw [Dc.runs]
    simp only [Ly.then_, List.length_append, Ly.after_after, Nat.add_assoc]
    simp [Ly.after]
end
end Go.Proofs.Ytbhenicldddlfaa

