/- Texts NA, laid together. -/
import Derived.Test.YtbhenicldddlfaaD4


namespace Go.Proofs.Ytbhenicldddlfaa
open Go.RowKit

def spliceD (xs : List Dc) : List Dc := xs.flatMap fun x => if x.kind = 4 then x.args else [x]
/-- one more element of a Cat: an empty text is left out, a text is joined to a text before it if both together are short enough -/
def pushD (out : List Dc) (x : Dc) : List Dc :=
  if x.kind = 0 ∧ x.text.size = 0 then out
  else match out.getLast? with
    | some y => if x.kind = 0 ∧ y.kind = 0 ∧ y.text.size + x.text.size ≤ 60 then out.dropLast ++ [.node y.kind (y.text ++ x.text) y.ind y.args] else out ++ [x]
    | none => out ++ [x]
def mergeD (l : List Dc) : List Dc := l.foldl pushD []
def nestD (s : ByteArray) (i : Nat) (xs : List Dc) (x : Dc) : Dc :=
  if i = 0 ∨ hasB [1, 2, 3] x = false then x
  else if x.kind = 5 ∧ x.ind + i ≤ 20 then .node 5 ⟨#[]⟩ (x.ind + i) x.args
  else .node 5 s i xs
def catD (s : ByteArray) (i : Nat) (m : List Dc) : Dc := match m with
  | [x] => x
  | m => .node 4 s i m
mutual
def Dc.nrm : Dc → Dc
  | .node k s i ks =>
    if k = 5 then (match Dc.nrms ks with
      | [] => .node k s i []
      | x :: xs => nestD s i (x :: xs) x)
    else if k = 4 then catD s i (mergeD (spliceD (Dc.nrms ks)))
    else .node k s i (Dc.nrms ks)
def Dc.nrms : List Dc → List Dc
  | [] => []
  | t :: ts => t.nrm :: Dc.nrms ts
end
theorem Dc.nrms_map (ks : List Dc) : Dc.nrms ks = ks.map Dc.nrm := by
  induction ks with
  | nil => rfl
  | cons t ts ih => rw [Dc.nrms, ih]; rfl
theorem textOk_app {a b : ByteArray} (ha : TextOk a) (hb : TextOk b) (h : a.size + b.size ≤ 60) : TextOk (a ++ b) := by
  refine ⟨by rw [ByteArray.size_append]; exact h, fun x hx => ?_⟩
  rw [ByteArray.data_append, Array.toList_append, List.mem_append] at hx
  exact hx.elim (ha.2 x) (hb.2 x)
theorem Dc.Ok.text_of {t : Dc} (h : t.Ok) (hk : t.kind = 0) : t = .node 0 t.text 0 [] ∧ TextOk t.text := by
  cases h with
  | text s h => exact ⟨rfl, h⟩
  | line k h1 h3 => simp only [Dc.kind] at hk; omega
  | cat ks h => simp [Dc.kind] at hk
  | nest n t hn h => simp [Dc.kind] at hk
  | group t h => simp [Dc.kind] at hk
theorem spliceD_ok {xs : List Dc} (h : ∀ x ∈ xs, x.Ok) : ∀ x ∈ spliceD xs, x.Ok := by
  intro x hx
  obtain ⟨y, hy, hm⟩ := List.mem_flatMap.1 hx
  split at hm
  · exact (h y hy).arg x hm
  · rw [List.mem_singleton.1 hm]; exact h y hy
theorem pushD_ok {out : List Dc} {x : Dc} (h : ∀ y ∈ out, y.Ok) (hx : x.Ok) : ∀ y ∈ pushD out x, y.Ok := by
  intro y hy
  unfold pushD at hy
  split at hy
  · exact h y hy
  · split at hy
    · rename_i z hz
      have hzm : z ∈ out := List.mem_of_getLast? hz
      split at hy
      · rename_i hc
        rcases List.mem_append.1 hy with hy | hy
        · exact h y (List.dropLast_subset _ hy)
        · rw [List.mem_singleton.1 hy]
          obtain ⟨e1, t1⟩ := (h z hzm).text_of hc.2.1
          obtain ⟨-, t2⟩ := hx.text_of hc.1
          have e2 : z.kind = 0 := hc.2.1
          have e3 : z.ind = 0 := by rw [e1]; rfl
          have e4 : z.args = [] := by rw [e1]; rfl
          rw [e2, e3, e4]
          exact .text _ (textOk_app t1 t2 hc.2.2)
      · rcases List.mem_append.1 hy with hy | hy
        · exact h y hy
        · rw [List.mem_singleton.1 hy]; exact hx
    · rcases List.mem_append.1 hy with hy | hy
      · exact h y hy
      · rw [List.mem_singleton.1 hy]; exact hx
theorem mergeD_ok {l : List Dc} (h : ∀ x ∈ l, x.Ok) : ∀ x ∈ mergeD l, x.Ok := by
  have key : ∀ (l : List Dc) (out : List Dc), (∀ x ∈ l, x.Ok) → (∀ y ∈ out, y.Ok) → ∀ y ∈ l.foldl pushD out, y.Ok := by
    intro l
    induction l with
    | nil => intro out _ h2; exact h2
    | cons a l ih => intro out h1 h2; exact ih _ (fun x hx => h1 x (List.mem_cons_of_mem _ hx)) (pushD_ok h2 (h1 a (List.mem_cons_self ..)))
  exact key l [] h (by simp)
mutual
theorem Dc.nrm_ok (t : Dc) (h : t.Ok) : t.nrm.Ok := by
  cases t with
  | node k s i ks =>
    have hk : ∀ x ∈ Dc.nrms ks, x.Ok := Dc.nrms_ok ks h.arg
    rw [Dc.nrm]
    cases h with
    | text s h => simpa [Dc.nrms] using Dc.Ok.text s h
    | line k h1 h3 =>
      rw [if_neg (by omega), if_neg (by omega)]
      exact .line k h1 h3
    | cat ks h =>
      rw [if_neg (by omega), if_pos rfl]
      have hm := mergeD_ok (spliceD_ok hk)
      unfold catD
      split
      · rename_i x e; exact hm x (by rw [e]; exact List.mem_cons_self ..)
      · exact .cat _ hm
    | nest n t hn h =>
      rw [if_pos rfl]
      simp only [Dc.nrms] at hk ⊢
      have hx := hk t.nrm (List.mem_cons_self ..)
      unfold nestD
      split
      · exact hx
      · split
        · rename_i hc
          obtain ⟨y, hy⟩ := hx.arg_one (Or.inl hc.1)
          rw [hy]
          exact .nest _ y hc.2 (hx.arg y (by rw [hy]; exact List.mem_cons_self ..))
        · exact .nest _ _ hn hx
    | group t h =>
      rw [if_neg (by omega), if_neg (by omega)]
      simp only [Dc.nrms] at hk ⊢
      exact .group _ (hk _ (List.mem_cons_self ..))
theorem Dc.nrms_ok (ks : List Dc) (h : ∀ x ∈ ks, Dc.Ok x) : ∀ x ∈ Dc.nrms ks, x.Ok := by
  cases ks with
  | nil => intro x hx; simp [Dc.nrms] at hx
  | cons t ts =>
    intro x hx
    rw [Dc.nrms] at hx
    rcases List.mem_cons.1 hx with rfl | hx
    · exact Dc.nrm_ok t (h t (List.mem_cons_self ..))
    · exact Dc.nrms_ok ts (fun y hy => h y (List.mem_cons_of_mem _ hy)) x hx
end

/-! ### it is not greater -/
theorem spliceD_size (xs : List Dc) : Dc.sizes (spliceD xs) ≤ Dc.sizes xs := by
  induction xs with
  | nil => simp [spliceD, Dc.sizes]
  | cons x xs ih =>
    have e : spliceD (x :: xs) = (if x.kind = 4 then x.args else [x]) ++ spliceD xs := rfl
    rw [e, Dc.sizes_append]
    simp only [Dc.sizes]
    split
    · have := x.size_eq; omega
    · simp only [Dc.sizes]; omega
theorem pushD_size (out : List Dc) (x : Dc) : Dc.sizes (pushD out x) ≤ Dc.sizes out + x.size := by
  have hx := x.size_pos
  unfold pushD
  split
  · omega
  · split
    · rename_i z hz
      split
      · have e : out = out.dropLast ++ [z] := by
          rw [List.getLast?_eq_some_iff] at hz
          obtain ⟨ys, rfl⟩ := hz
          simp
        have e2 : Dc.sizes out = Dc.sizes out.dropLast + z.size := by
          conv => lhs; rw [e]
          rw [Dc.sizes_append]; simp [Dc.sizes]
        rw [Dc.sizes_append]
        have e3 := z.size_eq
        simp only [Dc.sizes, Dc.size]
        omega
      · rw [Dc.sizes_append]; simp [Dc.sizes]
    · rw [Dc.sizes_append]; simp [Dc.sizes]
theorem mergeD_size (l : List Dc) : Dc.sizes (mergeD l) ≤ Dc.sizes l := by
  have key : ∀ (l out : List Dc), Dc.sizes (l.foldl pushD out) ≤ Dc.sizes out + Dc.sizes l := by
    intro l
    induction l with
    | nil => intro out; simp [Dc.sizes]
    | cons a l ih =>
      intro out
      have h1 := ih (pushD out a)
      have h2 := pushD_size out a
      simp only [List.foldl_cons, Dc.sizes]; omega
  have := key l []
  simpa [Dc.sizes, mergeD] using this
mutual
theorem Dc.nrm_size (t : Dc) : t.nrm.size ≤ t.size := by
  cases t with
  | node k s i ks =>
    have hk := Dc.nrms_size ks
    rw [Dc.nrm]
    simp only [Dc.size]
    split
    · split
      · simp only [Dc.size, Dc.sizes]; omega
      · rename_i x xs e
        rw [e] at hk
        simp only [Dc.sizes] at hk
        have hxe := x.size_eq
        unfold nestD
        split
        · omega
        · split
          · simp only [Dc.size]; omega
          · simp only [Dc.size, Dc.sizes]; omega
    · split
      · have h1 := mergeD_size (spliceD (Dc.nrms ks))
        have h2 := spliceD_size (Dc.nrms ks)
        unfold catD
        split
        · rename_i x e
          rw [e] at h1
          simp only [Dc.sizes] at h1
          omega
        · simp only [Dc.size]; omega
      · simp only [Dc.size]; omega
theorem Dc.nrms_size (ks : List Dc) : Dc.sizes (Dc.nrms ks) ≤ Dc.sizes ks := by
  cases ks with
  | nil => simp [Dc.nrms, Dc.sizes]
  | cons t ts =>
    have h1 := Dc.nrm_size t
    have h2 := Dc.nrms_size ts
    simp only [Dc.nrms, Dc.sizes]; omega
end
end Go.Proofs.Ytbhenicldddlfaa

