/- Texts NA, NB, NH, UA, UB, UC, UD, laid together. -/
import Derived.Test.YtbhenicldddlfaaDoorD4
import Derived.Test.YtbhenicldddlfaaDoorD7
import Derived.Test.YtbhenicldddlfaaDoorE6
import Derived.Test.YtbhenicldddlfaaDoorE8
import Derived.Test.YtbhenicldddlfaaDoorE5
import Derived.Test.YtbhenicldddlfaaDoorE1
import Derived.Test.YtbhenicldddlfaaDoorE2
import Derived.Test.YtbhenicldddlfaaDoorG1
import Derived.Lib.Replace


namespace Go.Proofs.YtbhenicldddlfaaDoor
open Go.RowKit

def spliceD (xs : List Dc) : List Dc := xs.flatMap fun x => if x.kind = 4 then x.args else [x]
/-- one more element of a Cat: an empty text is left out, a text is joined to a text before it if both together are short enough -/
def pushD (out : List Dc) (x : Dc) : List Dc :=
  if x.kind = 0 ∧ x.text.size = 0 then out
  else match out.getLast? with
    | some y => if x.kind = 0 ∧ y.kind = 0 ∧ y.text.size + x.text.size ≤ 60 then out.dropLast ++ [.node y.kind (y.text ++ x.text) y.ind y.args] else out ++ [x]
    | none => out ++ [x]
def mergeD (l : List Dc) : List Dc := l.foldl pushD []
def nestD (s : ByteArray) (i : Nat) (xs : List Dc) (x : Dc) : Dc :=
  if i = 0 ∨ hasB [1, 2, 3] x = false then x
  else if x.kind = 5 ∧ x.ind + i ≤ 20 then .node 5 ⟨#[]⟩ (x.ind + i) x.args
  else .node 5 s i xs
def catD (s : ByteArray) (i : Nat) (m : List Dc) : Dc := match m with
  | [x] => x
  | m => .node 4 s i m
mutual
def Dc.nrm : Dc → Dc
  | .node k s i ks =>
    if k = 5 then (match Dc.nrms ks with
      | [] => .node k s i []
      | x :: xs => nestD s i (x :: xs) x)
    else if k = 4 then catD s i (mergeD (spliceD (Dc.nrms ks)))
    else .node k s i (Dc.nrms ks)
def Dc.nrms : List Dc → List Dc
  | [] => []
  | t :: ts => t.nrm :: Dc.nrms ts
end
theorem Dc.nrms_map (ks : List Dc) : Dc.nrms ks = ks.map Dc.nrm := by
  induction ks with
  | nil => rfl
  | cons t ts ih => rw [Dc.nrms, ih]; rfl
theorem textOk_app {a b : ByteArray} (ha : TextOk a) (hb : TextOk b) (h : a.size + b.size ≤ 60) : TextOk (a ++ b) := by
  refine ⟨by rw [ByteArray.size_append]; exact h, fun x hx => ?_⟩
  rw [ByteArray.data_append, Array.toList_append, List.mem_append] at hx
  exact hx.elim (ha.2 x) (hb.2 x)
theorem Dc.Ok.text_of {t : Dc} (h : t.Ok) (hk : t.kind = 0) : t = .node 0 t.text 0 [] ∧ TextOk t.text := by
  cases h with
  | text s h => exact ⟨rfl, h⟩
  | line k h1 h3 => simp only [Dc.kind] at hk; omega
  | cat ks h => simp [Dc.kind] at hk
  | nest n t hn h => simp [Dc.kind] at hk
  | group t h => simp [Dc.kind] at hk
theorem spliceD_ok {xs : List Dc} (h : ∀ x ∈ xs, x.Ok) : ∀ x ∈ spliceD xs, x.Ok := by
  intro x hx
  obtain ⟨y, hy, hm⟩ := List.mem_flatMap.1 hx
  split at hm
  · exact (h y hy).arg x hm
  · rw [List.mem_singleton.1 hm]; exact h y hy
theorem pushD_ok {out : List Dc} {x : Dc} (h : ∀ y ∈ out, y.Ok) (hx : x.Ok) : ∀ y ∈ pushD out x, y.Ok := by
  intro y hy
  unfold pushD at hy
  split at hy
  · exact h y hy
  · split at hy
    · rename_i z hz
      have hzm : z ∈ out := List.mem_of_getLast? hz
      split at hy
      · rename_i hc
        rcases List.mem_append.1 hy with hy | hy
        · exact h y (List.dropLast_subset _ hy)
        · rw [List.mem_singleton.1 hy]
          obtain ⟨e1, t1⟩ := (h z hzm).text_of hc.2.1
          obtain ⟨-, t2⟩ := hx.text_of hc.1
          have e2 : z.kind = 0 := hc.2.1
          have e3 : z.ind = 0 := by rw [e1]; rfl
          have e4 : z.args = [] := by rw [e1]; rfl
          rw [e2, e3, e4]
          exact .text _ (textOk_app t1 t2 hc.2.2)
      · rcases List.mem_append.1 hy with hy | hy
        · exact h y hy
        · rw [List.mem_singleton.1 hy]; exact hx
    · rcases List.mem_append.1 hy with hy | hy
      · exact h y hy
      · rw [List.mem_singleton.1 hy]; exact hx
theorem mergeD_ok {l : List Dc} (h : ∀ x ∈ l, x.Ok) : ∀ x ∈ mergeD l, x.Ok := by
  have key : ∀ (l : List Dc) (out : List Dc), (∀ x ∈ l, x.Ok) → (∀ y ∈ out, y.Ok) → ∀ y ∈ l.foldl pushD out, y.Ok := by
    intro l
    induction l with
    | nil => intro out _ h2; exact h2
    | cons a l ih => intro out h1 h2; exact ih _ (fun x hx => h1 x (List.mem_cons_of_mem _ hx)) (pushD_ok h2 (h1 a (List.mem_cons_self ..)))
  exact key l [] h (by simp)
mutual
theorem Dc.nrm_ok (t : Dc) (h : t.Ok) : t.nrm.Ok := by
  cases t with
  | node k s i ks =>
    have hk : ∀ x ∈ Dc.nrms ks, x.Ok := Dc.nrms_ok ks h.arg
    rw [Dc.nrm]
    cases h with
    | text s h => simpa [Dc.nrms] using Dc.Ok.text s h
    | line k h1 h3 =>
      rw [if_neg (by omega), if_neg (by omega)]
      exact .line k h1 h3
    | cat ks h =>
      rw [if_neg (by omega), if_pos rfl]
      have hm := mergeD_ok (spliceD_ok hk)
      unfold catD
      split
      · rename_i x e; exact hm x (by rw [e]; exact List.mem_cons_self ..)
      · exact .cat _ hm
    | nest n t hn h =>
      rw [if_pos rfl]
      simp only [Dc.nrms] at hk ⊢
      have hx := hk t.nrm (List.mem_cons_self ..)
      unfold nestD
      split
      · exact hx
      · split
        · rename_i hc
          obtain ⟨y, hy⟩ := hx.arg_one (Or.inl hc.1)
          rw [hy]
          exact .nest _ y hc.2 (hx.arg y (by rw [hy]; exact List.mem_cons_self ..))
        · exact .nest _ _ hn hx
    | group t h =>
      rw [if_neg (by omega), if_neg (by omega)]
      simp only [Dc.nrms] at hk ⊢
      exact .group _ (hk _ (List.mem_cons_self ..))
theorem Dc.nrms_ok (ks : List Dc) (h : ∀ x ∈ ks, Dc.Ok x) : ∀ x ∈ Dc.nrms ks, x.Ok := by
  cases ks with
  | nil => intro x hx; simp [Dc.nrms] at hx
  | cons t ts =>
    intro x hx
    rw [Dc.nrms] at hx
    rcases List.mem_cons.1 hx with rfl | hx
    · exact Dc.nrm_ok t (h t (List.mem_cons_self ..))
    · exact Dc.nrms_ok ts (fun y hy => h y (List.mem_cons_of_mem _ hy)) x hx
end

/-! ### it is not greater -/
theorem spliceD_size (xs : List Dc) : Dc.sizes (spliceD xs) ≤ Dc.sizes xs := by
  induction xs with
  | nil => simp [spliceD, Dc.sizes]
  | cons x xs ih =>
    have e : spliceD (x :: xs) = (if x.kind = 4 then x.args else [x]) ++ spliceD xs := rfl
    rw [e, Dc.sizes_append]
    simp only [Dc.sizes]
    split
    · have := x.size_eq; omega
    · simp only [Dc.sizes]; omega
theorem pushD_size (out : List Dc) (x : Dc) : Dc.sizes (pushD out x) ≤ Dc.sizes out + x.size := by
  have hx := x.size_pos
  unfold pushD
  split
  · omega
  · split
    · rename_i z hz
      split
      · have e : out = out.dropLast ++ [z] := by
          rw [List.getLast?_eq_some_iff] at hz
          obtain ⟨ys, rfl⟩ := hz
          simp
        have e2 : Dc.sizes out = Dc.sizes out.dropLast + z.size := by
          conv => lhs; rw [e]
          rw [Dc.sizes_append]; simp [Dc.sizes]
        rw [Dc.sizes_append]
        have e3 := z.size_eq
        simp only [Dc.sizes, Dc.size]
        omega
      · rw [Dc.sizes_append]; simp [Dc.sizes]
    · rw [Dc.sizes_append]; simp [Dc.sizes]
theorem mergeD_size (l : List Dc) : Dc.sizes (mergeD l) ≤ Dc.sizes l := by
  have key : ∀ (l out : List Dc), Dc.sizes (l.foldl pushD out) ≤ Dc.sizes out + Dc.sizes l := by
    intro l
    induction l with
    | nil => intro out; simp [Dc.sizes]
    | cons a l ih =>
      intro out
      have h1 := ih (pushD out a)
      have h2 := pushD_size out a
      simp only [List.foldl_cons, Dc.sizes]; omega
  have := key l []
  simpa [Dc.sizes, mergeD] using this
mutual
theorem Dc.nrm_size (t : Dc) : t.nrm.size ≤ t.size := by
  cases t with
  | node k s i ks =>
    have hk := Dc.nrms_size ks
    rw [Dc.nrm]
    simp only [Dc.size]
    split
    · split
      · simp only [Dc.size, Dc.sizes]; omega
      · rename_i x xs e
        rw [e] at hk
        simp only [Dc.sizes] at hk
        have hxe := x.size_eq
        unfold nestD
        split
        · omega
        · split
          · simp only [Dc.size]; omega
          · simp only [Dc.size, Dc.sizes]; omega
    · split
      · have h1 := mergeD_size (spliceD (Dc.nrms ks))
        have h2 := spliceD_size (Dc.nrms ks)
        unfold catD
        split
        · rename_i x e
          rw [e] at h1
          simp only [Dc.sizes] at h1
          omega
        · simp only [Dc.size]; omega
      · simp only [Dc.size]; omega
theorem Dc.nrms_size (ks : List Dc) : Dc.sizes (Dc.nrms ks) ≤ Dc.sizes ks := by
  cases ks with
  | nil => simp [Dc.nrms, Dc.sizes]
  | cons t ts =>
    have h1 := Dc.nrm_size t
    have h2 := Dc.nrms_size ts
    simp only [Dc.nrms, Dc.sizes]; omega
end
end Go.Proofs.YtbhenicldddlfaaDoor




namespace Go.Proofs.YtbhenicldddlfaaDoor
open Go.RowKit

mutual
/-- what a document writes at a column, k choices made before: and the column behind it -/
def Dc.run (W : Nat) (q : Nat → Bool) (ind : Nat) : Dc → Nat → Nat → Ly × Nat
  | .node kd s i ks, col, k =>
    if kd = 0 then (⟨ovr W (col + s.size) - ovr W col, 0, [], bts s, k⟩, col + s.size)
    else if kd ≤ 3 then (⟨ovr W ind, 1, [], 10 :: List.replicate ind 32, k⟩, ind)
    else if kd = 5 then Dc.runs W q (ind + i) ks col k
    else if kd = 6 then
      if hasB [3] (.node kd s i ks) = false then
        if q k = true then (⟨ovr W (col + (Dc.flat (.node kd s i ks)).size) - ovr W col, 0, [0], bts (Dc.flat (.node kd s i ks)), k + 1⟩, col + (Dc.flat (.node kd s i ks)).size)
        else (Ly.after 0 0 [1] [] (Dc.runs W q ind ks col (k + 1)).1, (Dc.runs W q ind ks col (k + 1)).2)
      else (Ly.after 0 0 [1] [] (Dc.runs W q ind ks col k).1, (Dc.runs W q ind ks col k).2)
    else Dc.runs W q ind ks col k
def Dc.runs (W : Nat) (q : Nat → Bool) (ind : Nat) : List Dc → Nat → Nat → Ly × Nat
  | [], col, k => (⟨0, 0, [], [], k⟩, col)
  | t :: ts, col, k =>
    let r := t.run W q ind col k
    let r2 := Dc.runs W q ind ts r.2 r.1.k
    (Ly.after r.1.ex r.1.ln r.1.ch r.1.tx r2.1, r2.2)
end
/-- a part, then the rest -/
def Ly.then_ (a : Ly) (r : Ly) : Ly := Ly.after a.ex a.ln a.ch a.tx r
theorem Ly.then_after (ex ln : Nat) (ch : List Int) (tx : List UInt8) (a r : Ly) : Ly.after ex ln ch tx (a.then_ r) = (Ly.after ex ln ch tx a).then_ r := by
  simp [Ly.then_, Ly.after, Nat.add_assoc, List.append_assoc]
mutual
theorem Dc.run_set {W : Nat} {q : Nat → Bool} {p : Nat → Nat → Nat → Bool} (hp : ∀ k i c, p k i c = q k) (ops : List Opr) (t : Dc) : ∀ (ind n col k : Nat), (∀ j o, (t.ops ind n)[j]? = some o → ops[n + j]? = some o) →
    setF W p ops n col k = (t.run W q ind col k).1.then_ (setF W p ops (n + (t.ops ind n).length) (t.run W q ind col k).2 (t.run W q ind col k).1.k) := by
  intro ind n col k h
  cases t with
  | node kd s i ks =>
    rw [Dc.ops] at h ⊢
    rw [Dc.run]
    split
    · rename_i h0
      rw [if_pos h0] at h
      have h1 := h 0 _ rfl
      rw [Nat.add_zero] at h1
      rw [setF_text h1 rfl (by simp)]
      rfl
    · rename_i h0
      rw [if_neg h0] at h
      split
      · rename_i h3
        rw [if_pos h3] at h
        have h1 := h 0 _ rfl
        rw [Nat.add_zero] at h1
        rw [setF_line h1 rfl (by simp)]
        simp only [Int.toNat_natCast]
        rfl
      · rename_i h3
        rw [if_neg h3] at h
        split
        · rename_i h5
          rw [if_pos h5] at h
          exact Dc.runs_set hp ops ks (ind + i) n col k h
        · rename_i h5
          rw [if_neg h5] at h
          split
          · rename_i h6
            rw [if_pos h6] at h
            have h1 := h 0 _ rfl
            rw [Nat.add_zero] at h1
            have h2 : ∀ j o, (Dc.opsL ind ks (n + 1))[j]? = some o → ops[n + 1 + j]? = some o := fun j o e => by
              have := h (j + 1) o (by simpa using e)
              rw [show n + 1 + j = n + (j + 1) by omega]; exact this
            have hl : n + (Dc.opsL ind ks (n + 1)).length + 1 = n + 1 + (Dc.opsL ind ks (n + 1)).length := by omega
            rw [List.length_cons, ← Nat.add_assoc, hl]
            split
            · rename_i hh
              split
              · rename_i hq
                rw [setF_flat h1 rfl (by simp [hh]) (by rw [hp]; exact hq) (by simp only; omega)]
                rfl
              · rename_i hq
                rw [setF_brk h1 rfl (by simp [hh]) (by rw [hp]; simpa using hq), Dc.runs_set hp ops ks ind (n + 1) col (k + 1) h2, Ly.then_after]
                rfl
            · rename_i hh
              rw [setF_cannot h1 rfl (by simpa using hh), Dc.runs_set hp ops ks ind (n + 1) col k h2, Ly.then_after]
              rfl
          · rename_i h6
            rw [if_neg h6] at h
            exact Dc.runs_set hp ops ks ind n col k h
theorem Dc.runs_set {W : Nat} {q : Nat → Bool} {p : Nat → Nat → Nat → Bool} (hp : ∀ k i c, p k i c = q k) (ops : List Opr) (ks : List Dc) : ∀ (ind n col k : Nat), (∀ j o, (Dc.opsL ind ks n)[j]? = some o → ops[n + j]? = some o) →
    setF W p ops n col k = (Dc.runs W q ind ks col k).1.then_ (setF W p ops (n + (Dc.opsL ind ks n).length) (Dc.runs W q ind ks col k).2 (Dc.runs W q ind ks col k).1.k) := by
  intro ind n col k h
  cases ks with
  | nil => simp [Dc.opsL, Dc.runs, Ly.then_, Ly.after_nil]
  | cons t ts =>
    rw [Dc.opsL] at h ⊢
    rw [Dc.run_set hp ops t ind n col k fun j o e => h j o (by rw [List.getElem?_append_left (List.getElem?_eq_some_iff.1 e).1]; exact e)]
    rw [Dc.runs_set hp ops ts ind (n + (t.ops ind n).length) _ _ fun j o e => by
      have := h ((t.ops ind n).length + j) o (by rw [List.getElem?_append_right (by omega)]; simpa using e)
      rw [Nat.add_assoc]; exact this]
    rw [Dc.runs]
    simp only [Ly.then_, List.length_append, Ly.after_after, Nat.add_assoc]
    simp [Ly.after]
end
end Go.Proofs.YtbhenicldddlfaaDoor




namespace Go.Proofs.YtbhenicldddlfaaDoor
open Go.RowKit

theorem setF_ch {W : Nat} {a b : Nat} {ops : List Opr} (ho : OpsOk ops) : ∀ (m i col k : Nat), ops.length - i ≤ m → (setF W (maskP a) ops i col k).ch = (setF W (maskP b) ops i col k).ch → setF W (maskP a) ops i col k = setF W (maskP b) ops i col k := by
  intro m
  induction m with
  | zero => intro i col k h _; rw [setF_end (by omega), setF_end (by omega)]
  | succ m ih =>
    intro i col k h
    by_cases hi : i < ops.length
    · have hs : ops[i]? = some ops[i] := List.getElem?_eq_getElem hi
      generalize ops[i] = o at hs
      obtain ⟨-, -, -, hfin⟩ := ho i o hs
      cases hg : o.grp
      · by_cases hn : 0 ≤ o.ind
        · rw [setF_line hs hg hn, setF_line hs hg hn]
          simp only [Ly.after, List.nil_append]
          intro e
          rw [ih (i + 1) o.ind.toNat k (by omega) e]
        · rw [setF_text hs hg hn, setF_text hs hg hn]
          simp only [Ly.after, List.nil_append]
          intro e
          rw [ih (i + 1) _ k (by omega) e]
      · obtain ⟨hf1, hf2⟩ := hfin hg
        cases hc : o.can
        · rw [setF_cannot hs hg hc, setF_cannot hs hg hc]
          simp only [Ly.after]
          intro e
          rw [ih (i + 1) col k (by omega) (List.append_cancel_left e)]
        · cases hp : maskP a k i col <;> cases hq : maskP b k i col
          · rw [setF_brk hs hg hc hp, setF_brk hs hg hc hq]
            simp only [Ly.after]
            intro e
            rw [ih (i + 1) col (k + 1) (by omega) (List.append_cancel_left e)]
          · rw [setF_brk hs hg hc hp, setF_flat hs hg hc hq hf1]
            simp [Ly.after]
          · rw [setF_flat hs hg hc hp hf1, setF_brk hs hg hc hq]
            simp [Ly.after]
          · rw [setF_flat hs hg hc hp hf1, setF_flat hs hg hc hq hf1]
            simp only [Ly.after]
            intro e
            rw [ih o.fin _ (k + 1) (by omega) (List.append_cancel_left e)]
    · intro _; rw [setF_end (by omega), setF_end (by omega)]
theorem allN_same {W n : Nat} {ops : List Opr} (ho : OpsOk ops) {x y : Lz} (hx : x ∈ allN W ops n) (hy : y ∈ allN W ops n) (h : x.ch = y.ch) : x = y := by
  obtain ⟨a, -, rfl⟩ := List.mem_map.1 hx
  obtain ⟨b, -, rfl⟩ := List.mem_map.1 hy
  have e : layM W ops a = layM W ops b := setF_ch ho ops.length 0 0 0 (by omega) h
  rw [e]
theorem sorted_only {W n : Nat} {ops : List Opr} (ho : OpsOk ops) {xs ys : List Lz} (hx : xs.Perm (allN W ops n)) (hy : ys.Perm (allN W ops n)) (px : xs.Pairwise fun x y => lzC x y ≤ 0) (py : ys.Pairwise fun x y => lzC x y ≤ 0) : xs = ys := by
  refine List.Perm.eq_of_pairwise (le := fun x y => lzC x y ≤ 0) ?_ px py (hx.trans hy.symm)
  intro a b ha hb h1 h2
  have h3 : lzC a b = 0 := by
    have e : lzC a b = - lzC b a := by rw [lzC_key, lzC_key, cmpL_anti]
    omega
  rw [lzC_key] at h3
  have h4 := cmpL_zero.1 h3
  simp only [Lz.key, List.cons.injEq] at h4
  exact allN_same ho (hx.mem_iff.1 ha) (hy.mem_iff.1 hb) h4.2.2
end Go.Proofs.YtbhenicldddlfaaDoor




namespace Go.Proofs.YtbhenicldddlfaaDoor
open Go.RowKit

/-- the excess of a text over a width, from a column on -/
def exL (W : Nat) : Nat → List UInt8 → Nat
  | col, [] => ovr W col
  | col, b :: r => if b = 10 then ovr W col + exL W 0 r else exL W (col + 1) r
def bareL (l : List UInt8) : List UInt8 := l.filter fun b => b ≠ 32 && b ≠ 10
theorem bareL_append (a b : List UInt8) : bareL (a ++ b) = bareL a ++ bareL b := by simp [bareL]
theorem exL_text (W : Nat) (s r : List UInt8) (h : ∀ b ∈ s, b ≠ 10) : ∀ col, exL W col (s ++ r) = exL W (col + s.length) r := by
  induction s with
  | nil => intro col; rfl
  | cons a s ih =>
    intro col
    rw [List.cons_append, exL, if_neg (h a (List.mem_cons_self ..)), ih (fun b hb => h b (List.mem_cons_of_mem _ hb)), List.length_cons]
    congr 1; omega
theorem no10 {s : List UInt8} (h : ∀ b ∈ s, b ≠ 10) : s.count 10 = 0 := List.count_eq_zero.2 fun hm => h 10 hm rfl
theorem textOk_10 {s : ByteArray} (h : TextOk s) : ∀ b ∈ bts s, b ≠ 10 := fun b hb e => by
  have := (h.2 b hb).1
  subst e
  have : (10 : UInt8).toNat = 10 := rfl
  omega
theorem bts_append (a b : ByteArray) : bts (a ++ b) = bts a ++ bts b := by simp [bts, ByteArray.data_append]
mutual
theorem flat_10 (t : Dc) (h : t.Ok) : ∀ b ∈ bts t.flat, b ≠ 10 := by
  cases t with
  | node k s i ks =>
    by_cases h0 : k = 0
    · rw [Dc.flat_0 (t := .node k s i ks) h0]
      exact textOk_10 (h.text_of h0).2
    · by_cases h1 : k = 1
      · rw [Dc.flat_1 (t := .node k s i ks) h1]
        intro b hb
        have : b = 32 := by simpa [bts] using hb
        subst this; decide
      · rw [Dc.flat_eq (t := .node k s i ks) h0 h1]
        exact flats_10 ks h.arg
theorem flats_10 (ks : List Dc) (h : ∀ x ∈ ks, Dc.Ok x) : ∀ b ∈ bts (Dc.flats ks), b ≠ 10 := by
  cases ks with
  | nil => intro b hb; simp [Dc.flats, bts] at hb
  | cons t ts =>
    rw [Dc.flats, bts_append]
    intro b hb
    rcases List.mem_append.1 hb with hb | hb
    · exact flat_10 t (h t (List.mem_cons_self ..)) b hb
    · exact flats_10 ts (fun x hx => h x (List.mem_cons_of_mem _ hx)) b hb
end
/-- what a text, its excess, its lines and its bytes have to do with each other -/
structure Txt (W col : Nat) (L : Ly) (col' : Nat) (fl : List UInt8) : Prop where
  ex : ∀ r, exL W col (L.tx ++ r) + ovr W col' = exL W col' r + L.ex + ovr W col
  ln : L.tx.count 10 = L.ln
  br : bareL L.tx = bareL fl
theorem Txt.text {W col k : Nat} {ch : List Int} {s : ByteArray} (h : ∀ b ∈ bts s, b ≠ 10) : Txt W col ⟨ovr W (col + s.size) - ovr W col, 0, ch, bts s, k⟩ (col + s.size) (bts s) := by
  refine ⟨fun r => ?_, no10 h, rfl⟩
  have := ovr_mono (W := W) (show col ≤ col + s.size by omega)
  simp only
  rw [exL_text W _ r h col, bts_len]
  omega
theorem Txt.line {W col ind k : Nat} {ch : List Int} : Txt W col ⟨ovr W ind, 1, ch, 10 :: List.replicate ind 32, k⟩ ind [] := by
  have h32 : ∀ b ∈ List.replicate ind (32 : UInt8), b ≠ 10 := fun b hb => by
    rw [(List.mem_replicate.1 hb).2]; decide
  refine ⟨fun r => ?_, ?_, ?_⟩
  · simp only
    rw [List.cons_append, exL, if_pos rfl, exL_text W _ r h32 0, List.length_replicate, Nat.zero_add]
    omega
  · simp only
    rw [List.count_cons, no10 h32]; rfl
  · simp only [bareL]
    rw [List.filter_cons_of_neg (by decide), List.filter_eq_nil_iff.2 fun b hb => by rw [(List.mem_replicate.1 hb).2]; decide]
    rfl
theorem Txt.same {W col : Nat} {L : Ly} {col' : Nat} {fl : List UInt8} (h : Txt W col L col' fl) (ch : List Int) (k : Nat) : Txt W col ⟨L.ex, L.ln, ch, L.tx, k⟩ col' fl := ⟨h.ex, h.ln, h.br⟩
theorem Txt.app {W col c1 c2 : Nat} {L M : Ly} {f g : List UInt8} (h : Txt W col L c1 f) (h2 : Txt W c1 M c2 g) : Txt W col (Ly.after L.ex L.ln L.ch L.tx M) c2 (f ++ g) := by
  refine ⟨fun r => ?_, ?_, ?_⟩
  · have e1 := h.ex (M.tx ++ r)
    have e2 := h2.ex r
    simp only [Ly.after, List.append_assoc]
    omega
  · simp only [Ly.after, List.count_append, h.ln, h2.ln]
  · simp only [Ly.after, bareL_append, h.br, h2.br]
theorem bare_32 : bareL (bts ⟨#[32]⟩) = [] := by decide
mutual
theorem run_txt (W : Nat) (q : Nat → Bool) (t : Dc) (h : t.Ok) : ∀ ind col k, Txt W col (t.run W q ind col k).1 (t.run W q ind col k).2 (bts t.flat) := by
  intro ind col k
  cases t with
  | node kd s i ks =>
    have hk : ∀ ind col k, Txt W col (Dc.runs W q ind ks col k).1 (Dc.runs W q ind ks col k).2 (bts (Dc.flats ks)) := runs_txt W q ks h.arg
    have hf := flat_10 _ h
    rw [Dc.run]
    by_cases h0 : kd = 0
    · rw [if_pos h0, Dc.flat_0 (t := .node kd s i ks) h0]
      exact Txt.text (textOk_10 (h.text_of h0).2)
    · rw [if_neg h0]
      by_cases h3 : kd ≤ 3
      · rw [if_pos h3]
        have hb : bareL (bts (Dc.node kd s i ks).flat) = [] := by
          by_cases h1 : kd = 1
          · rw [Dc.flat_1 (t := .node kd s i ks) h1]; exact bare_32
          · rw [Dc.flat_eq (t := .node kd s i ks) h0 h1]
            have : ks = [] := by
              cases h with
              | text s h => exact absurd rfl h0
              | line k h1 h3 => rfl
              | cat ks h => omega
              | nest n t hn h => omega
              | group t h => omega
            simp only [Dc.args, this, Dc.flats]; decide
        have hl : Txt W col ⟨ovr W ind, 1, [], 10 :: List.replicate ind 32, k⟩ ind [] := Txt.line
        exact ⟨hl.ex, hl.ln, hl.br.trans hb.symm⟩
      · rw [if_neg h3, Dc.flat_eq (t := .node kd s i ks) h0 (by show kd ≠ 1; omega)]
        rw [Dc.flat_eq (t := .node kd s i ks) h0 (by show kd ≠ 1; omega)] at hf
        simp only [Dc.args] at hf ⊢
        have e1 : ∀ (L : Ly), Ly.after 0 0 [1] [] L = ⟨L.ex, L.ln, 1 :: L.ch, L.tx, L.k⟩ := fun L => by simp [Ly.after]
        split
        · exact hk _ _ _
        · split
          · split
            · split
              · exact Txt.text hf
              · rw [e1]; exact (hk _ _ _).same _ _
            · rw [e1]; exact (hk _ _ _).same _ _
          · exact hk _ _ _
theorem runs_txt (W : Nat) (q : Nat → Bool) (ks : List Dc) (h : ∀ x ∈ ks, Dc.Ok x) : ∀ ind col k, Txt W col (Dc.runs W q ind ks col k).1 (Dc.runs W q ind ks col k).2 (bts (Dc.flats ks)) := by
  intro ind col k
  cases ks with
  | nil => exact ⟨fun r => by simp [Dc.runs], rfl, rfl⟩
  | cons t ts =>
    rw [Dc.runs, Dc.flats, bts_append]
    exact (run_txt W q t (h t (List.mem_cons_self ..)) ind col k).app (runs_txt W q ts (fun x hx => h x (List.mem_cons_of_mem _ hx)) ind _ _)
end
theorem layM_is (W : Nat) (t : Dc) (m : Nat) : layM W (t.ops 0 0) m = (t.run W (fun k => !(m.testBit k)) 0 0 0).1 := by
  unfold layM
  rw [Dc.run_set (q := fun k => !(m.testBit k)) (p := maskP m) (fun _ _ _ => rfl) (t.ops 0 0) t 0 0 0 0 (fun j o e => by rw [Nat.zero_add]; exact e), setF_end (by omega)]
  simp [Ly.then_, Ly.after]
/-- the law of one layout -/
theorem layM_txt (W : Nat) {t : Dc} (h : t.Ok) (m : Nat) : exL W 0 (layM W (t.ops 0 0) m).tx = (layM W (t.ops 0 0) m).ex ∧ (layM W (t.ops 0 0) m).tx.count 10 = (layM W (t.ops 0 0) m).ln ∧ bareL (layM W (t.ops 0 0) m).tx = bareL (bts t.flat) := by
  rw [layM_is]
  have hT := run_txt W (fun k => !(m.testBit k)) t h 0 0 0
  have h1 := hT.ex []
  rw [List.append_nil] at h1
  have h0 : ovr W 0 = 0 := by simp [ovr]
  simp only [exL, h0] at h1
  exact ⟨by omega, hT.ln, hT.br⟩
end Go.Proofs.YtbhenicldddlfaaDoor




namespace Go.Proofs.YtbhenicldddlfaaDoor
open Go.RowKit

def le3 (a b : Ly) : Prop := a.ex < b.ex ∨ a.ex = b.ex ∧ (a.ln < b.ln ∨ a.ln = b.ln ∧ cmpL a.ch b.ch ≤ 0)
theorem cmpL_cons (c : Int) (x y : List Int) : cmpL (c :: x) (c :: y) = cmpL x y := by rw [cmpL, if_pos (cmpI_self c)]
theorem le3.step {a b : Ly} (h : le3 a b) (ex ln : Nat) (tx tx' : List UInt8) : le3 (Ly.after ex ln [] tx a) (Ly.after ex ln [] tx' b) := by
  simp only [le3, Ly.after, List.nil_append] at h ⊢; omega
theorem le3.step1 {a b : Ly} (h : le3 a b) (ex ln : Nat) (c : Int) (tx tx' : List UInt8) : le3 (Ly.after ex ln [c] tx a) (Ly.after ex ln [c] tx' b) := by
  simp only [le3, Ly.after, List.singleton_append, cmpL_cons] at h ⊢; omega
theorem cmp_01 (x y : List Int) : cmpL (0 :: x) (1 :: y) ≤ 0 := by simp [cmpL, cmpI]
theorem best_le {W : Nat} {ops : List Opr} (ho : OpsOk ops) (p : Nat → Nat → Nat → Bool) : ∀ (m i col k k' : Nat), ops.length - i ≤ m → le3 (setF W (bestP W ops) ops i col k) (setF W p ops i col k') := by
  intro m
  induction m with
  | zero => intro i col k k' h; rw [setF_end (by omega), setF_end (by omega)]; exact Or.inr ⟨rfl, Or.inr ⟨rfl, by simp [cmpL]⟩⟩
  | succ m ih =>
    intro i col k k' h
    by_cases hi : i < ops.length
    · have hs : ops[i]? = some ops[i] := List.getElem?_eq_getElem hi
      generalize ops[i] = o at hs
      obtain ⟨-, -, -, hfin⟩ := ho i o hs
      cases hg : o.grp
      · by_cases hn : 0 ≤ o.ind
        · rw [setF_line hs hg hn, setF_line hs hg hn]
          exact (ih (i + 1) _ k k' (by omega)).step _ _ _ _
        · rw [setF_text hs hg hn, setF_text hs hg hn]
          exact (ih (i + 1) _ k k' (by omega)).step _ _ _ _
      · obtain ⟨hf1, hf2⟩ := hfin hg
        cases hc : o.can
        · rw [setF_cannot hs hg hc, setF_cannot hs hg hc]
          exact (ih (i + 1) col k k' (by omega)).step1 _ _ _ _ _
        · have b1 := setF_best (W := W) ho _ o.fin (col + o.text.size) (k + 1) (Nat.le_refl _)
          have b2 := setF_best (W := W) ho _ (i + 1) col (k + 1) (Nat.le_refl _)
          have i1 := ih o.fin (col + o.text.size) (k + 1) (k' + 1) (by omega)
          have i2 := ih (i + 1) col (k + 1) (k' + 1) (by omega)
          have hv := findV_can (W := W) (col := col) hs hg hc hf1
          generalize ovr W (col + o.text.size) - ovr W col = d at hv
          by_cases hC : (findV W ops o.fin (col + o.text.size)).ex + (ovr W (col + o.text.size) - ovr W col) < (findV W ops (i + 1) col).ex ∨ (findV W ops o.fin (col + o.text.size)).ex + (ovr W (col + o.text.size) - ovr W col) = (findV W ops (i + 1) col).ex ∧ (findV W ops o.fin (col + o.text.size)).ln ≤ (findV W ops (i + 1) col).ln
          · have hb : bestP W ops k i col = true := by unfold bestP; rw [findV_can hs hg hc hf1, pickV, if_pos hC]
            rw [setF_flat hs hg hc hb hf1]
            cases hp : p k' i col
            · rw [setF_brk hs hg hc hp]
              have h01 := cmp_01 (setF W (bestP W ops) ops o.fin (col + o.text.size) (k + 1)).ch (setF W p ops (i + 1) col (k' + 1)).ch
              simp only [le3, Ly.after, List.singleton_append] at i1 i2 ⊢
              omega
            · rw [setF_flat hs hg hc hp hf1]
              exact i1.step1 _ _ _ _ _
          · have hb : bestP W ops k i col = false := by unfold bestP; rw [findV_can hs hg hc hf1, pickV, if_neg hC]
            rw [setF_brk hs hg hc hb]
            cases hp : p k' i col
            · rw [setF_brk hs hg hc hp]
              exact i2.step1 _ _ _ _ _
            · rw [setF_flat hs hg hc hp hf1]
              simp only [le3, Ly.after, List.singleton_append] at i1 i2 ⊢
              omega
    · rw [setF_end (by omega), setF_end (by omega)]; exact Or.inr ⟨rfl, Or.inr ⟨rfl, by simp [cmpL]⟩⟩
theorem cmpI_lt {x y : Int} (h : x < y) : cmpI x y = -1 := by unfold cmpI; rw [if_pos h]
theorem le3_lz {a b : Ly} (h : le3 a b) : lzC a.z b.z ≤ 0 := by
  rw [lzC_key]
  simp only [Lz.key, Ly.z]
  rcases h with h | ⟨h, h' | ⟨h2, h3⟩⟩
  · rw [cmpL, cmpI_lt (by omega), if_neg (by omega)]; omega
  · rw [h, cmpL_cons, cmpL, cmpI_lt (by omega), if_neg (by omega)]; omega
  · rw [h, cmpL_cons, h2, cmpL_cons]; exact h3

/-! ### each way of choosing is that of a number -/
theorem grpN_drop (ops : List Opr) {i j : Nat} (h : i ≤ j) : grpN (ops.drop j) ≤ grpN (ops.drop i) := by
  unfold grpN
  have e : ops.drop j = (ops.drop i).drop (j - i) := by rw [List.drop_drop]; congr 1; omega
  rw [e]
  exact ((List.drop_sublist _ _).filter _).length_le
theorem grpN_at {ops : List Opr} {i : Nat} {o : Opr} (h : ops[i]? = some o) (hg : o.grp = true) : grpN (ops.drop i) = grpN (ops.drop (i + 1)) + 1 := by
  have hl := List.getElem?_eq_some_iff.1 h
  unfold grpN
  rw [List.drop_eq_getElem_cons hl.1, hl.2, List.filter_cons_of_pos (by simpa using hg), List.length_cons]
theorem mask_of {W : Nat} {ops : List Opr} (ho : OpsOk ops) (p : Nat → Nat → Nat → Bool) : ∀ (n i col k : Nat), ops.length - i ≤ n →
    ∃ K m, (setF W p ops i col k).k = k + K ∧ m < 2 ^ K ∧ K ≤ grpN (ops.drop i) ∧ ∀ M : Nat, (∀ j, j < K → M.testBit (k + j) = m.testBit j) → setF W (maskP M) ops i col k = setF W p ops i col k := by
  intro n
  induction n with
  | zero => intro i col k h; exact ⟨0, 0, by rw [setF_end (by omega)]; rfl, by omega, Nat.zero_le _, fun M _ => by rw [setF_end (by omega), setF_end (by omega)]⟩
  | succ n ih =>
    intro i col k h
    by_cases hi : i < ops.length
    · have hs : ops[i]? = some ops[i] := List.getElem?_eq_getElem hi
      generalize ops[i] = o at hs
      obtain ⟨-, -, -, hfin⟩ := ho i o hs
      have hd := grpN_drop ops (show i ≤ i + 1 by omega)
      cases hg : o.grp
      · by_cases hn : 0 ≤ o.ind
        · obtain ⟨K, m, h1, h2, h3, h4⟩ := ih (i + 1) o.ind.toNat k (by omega)
          exact ⟨K, m, by rw [setF_line hs hg hn]; exact h1, h2, by omega, fun M hM => by rw [setF_line hs hg hn, setF_line hs hg hn, h4 M hM]⟩
        · obtain ⟨K, m, h1, h2, h3, h4⟩ := ih (i + 1) (col + o.text.size) k (by omega)
          exact ⟨K, m, by rw [setF_text hs hg hn]; exact h1, h2, by omega, fun M hM => by rw [setF_text hs hg hn, setF_text hs hg hn, h4 M hM]⟩
      · obtain ⟨hf1, hf2⟩ := hfin hg
        have hgd := grpN_at hs hg
        cases hc : o.can
        · obtain ⟨K, m, h1, h2, h3, h4⟩ := ih (i + 1) col k (by omega)
          exact ⟨K, m, by rw [setF_cannot hs hg hc]; exact h1, h2, by omega, fun M hM => by rw [setF_cannot hs hg hc, setF_cannot hs hg hc, h4 M hM]⟩
        · have hfd := grpN_drop ops (show i + 1 ≤ o.fin by omega)
          cases hp : p k i col
          · obtain ⟨K, m, h1, h2, h3, h4⟩ := ih (i + 1) col (k + 1) (by omega)
            refine ⟨K + 1, 2 * m + 1, by rw [setF_brk hs hg hc hp]; show (setF W p ops (i + 1) col (k + 1)).k = _; omega, by rw [Nat.pow_succ]; omega, by omega, fun M hM => ?_⟩
            have hm : maskP M k i col = false := by
              have := hM 0 (by omega)
              rw [Nat.add_zero] at this
              unfold maskP
              rw [this, Nat.testBit_zero]
              have : (2 * m + 1) % 2 = 1 := by omega
              simp [this]
            rw [setF_brk hs hg hc hp, setF_brk hs hg hc hm, h4 M fun j hj => by
              have := hM (j + 1) (by omega)
              rw [Nat.testBit_succ, show (2 * m + 1) / 2 = m by omega] at this
              rw [← this]; congr 1; omega]
          · obtain ⟨K, m, h1, h2, h3, h4⟩ := ih o.fin (col + o.text.size) (k + 1) (by omega)
            refine ⟨K + 1, 2 * m, by rw [setF_flat hs hg hc hp hf1]; show (setF W p ops o.fin (col + o.text.size) (k + 1)).k = _; omega, by rw [Nat.pow_succ]; omega, by omega, fun M hM => ?_⟩
            have hm : maskP M k i col = true := by
              have := hM 0 (by omega)
              rw [Nat.add_zero] at this
              unfold maskP
              rw [this, Nat.testBit_zero]
              have : (2 * m) % 2 = 0 := by omega
              simp [this]
            rw [setF_flat hs hg hc hp hf1, setF_flat hs hg hc hm hf1, h4 M fun j hj => by
              have := hM (j + 1) (by omega)
              rw [Nat.testBit_succ, show (2 * m) / 2 = m by omega] at this
              rw [← this]; congr 1; omega]
    · exact ⟨0, 0, by rw [setF_end (by omega)]; rfl, by omega, Nat.zero_le _, fun M _ => by rw [setF_end (by omega), setF_end (by omega)]⟩
theorem best_in {W : Nat} {t : Dc} (ho : t.Ok) (hs : t.size ≤ 400) : (BestR W t).z ∈ allN W (t.ops 0 0) (2 ^ grpN (t.ops 0 0)) := by
  obtain ⟨K, m, h1, h2, h3, h4⟩ := mask_of (W := W) (Dc.opsOk ho hs) (bestP W (t.ops 0 0)) _ 0 0 0 (Nat.le_refl _)
  have e : layM W (t.ops 0 0) m = BestR W t := h4 m fun j _ => by rw [Nat.zero_add]
  rw [List.drop_zero] at h3
  have hp : 2 ^ K ≤ 2 ^ grpN (t.ops 0 0) := Nat.pow_le_pow_right (by omega) h3
  refine List.mem_map.2 ⟨m, List.mem_filter.2 ⟨List.mem_range.2 (by omega), ?_⟩, by rw [e]⟩
  unfold okM
  rw [e, show (BestR W t).k = 0 + K from h1, Nat.zero_add, Nat.div_eq_of_lt h2]; rfl
/-- the first of the sorted list is the best -/
theorem best_first {W : Nat} {t : Dc} (ho : t.Ok) (hs : t.size ≤ 400) {x : Lz} {ys : List Lz} (h1 : (x :: ys).Perm (allN W (t.ops 0 0) (2 ^ grpN (t.ops 0 0)))) (h2 : (x :: ys).Pairwise fun x y => lzC x y ≤ 0) : x = (BestR W t).z := by
  have hb := best_in (W := W) ho hs
  have hx := h1.mem_iff.1 (List.mem_cons_self ..)
  have h3 : lzC (BestR W t).z x ≤ 0 := by
    obtain ⟨m, -, rfl⟩ := List.mem_map.1 hx
    exact le3_lz (best_le (Dc.opsOk ho hs) _ _ 0 0 0 0 (Nat.le_refl _))
  rcases List.mem_cons.1 (h1.mem_iff.2 hb) with e | e
  · exact e.symm
  · have h4 : lzC x (BestR W t).z ≤ 0 := (List.pairwise_cons.1 h2).1 _ e
    have h5 : lzC x (BestR W t).z = 0 := by
      have e : lzC x (BestR W t).z = - lzC (BestR W t).z x := by rw [lzC_key, lzC_key, cmpL_anti]
      omega
    rw [lzC_key] at h5
    have h6 := cmpL_zero.1 h5
    simp only [Lz.key, List.cons.injEq] at h6
    exact allN_same (Dc.opsOk ho hs) hx hb h6.2.2
end Go.Proofs.YtbhenicldddlfaaDoor




namespace Go.Proofs.YtbhenicldddlfaaDoor
open Go.RowKit

theorem cut1 (c : UInt8) : ∀ s : List UInt8, (Lib.index s [c] = -1 ∧ c ∉ s) ∨ ∃ a r, s = a ++ c :: r ∧ c ∉ a ∧ Lib.index s [c] = (a.length : Int) := by
  intro s
  rw [Lib.index_one]
  induction s with
  | nil => left; exact ⟨rfl, by simp⟩
  | cons b s ih =>
    by_cases h : b = c
    · right
      subst h
      exact ⟨[], s, rfl, by simp, by simp [Lib.indexByte]⟩
    · rcases ih with ⟨h1, h2⟩ | ⟨a, r, h1, h2, h3⟩
      · left
        exact ⟨by simp [Lib.indexByte, h, h1], by simp [h2, Ne.symm h]⟩
      · right
        refine ⟨b :: a, r, by rw [h1]; rfl, by simp [h2, Ne.symm h], ?_⟩
        have hn : ¬ ((a.length : Int) = -1) := by omega
        simp [Lib.indexByte, h, h3, hn]
theorem count1 (c : UInt8) (s : List UInt8) : Lib.count s [c] = s.count c := Lib.count_one c s
/-- the excess of a list of lines, the first of them from a column on -/
def exP (W : Nat) : Nat → List (List UInt8) → Nat
  | _, [] => 0
  | col, p :: ps => ovr W (col + p.length) + exP W 0 ps
theorem exP_split (W : Nat) : ∀ (n : Nat) (s : List UInt8) (col : Nat), s.length ≤ n → exP W col (Lib.splitK [10] 0 (s.count 10) s) = exL W col s ∧ (Lib.splitK [10] 0 (s.count 10) s).length = s.count 10 + 1 := by
  intro n
  induction n with
  | zero =>
    intro s col h
    obtain rfl : s = [] := List.eq_nil_of_length_eq_zero (by omega)
    simp [Lib.splitK, exP, exL]
  | succ n ih =>
    intro s col h
    rcases cut1 10 s with ⟨h1, h2⟩ | ⟨a, r, h1, h2, h3⟩
    · have h0 : s.count 10 = 0 := List.count_eq_zero.2 h2
      rw [h0]
      have e := exL_text W s [] (fun b hb e => h2 (e ▸ hb)) col
      rw [List.append_nil] at e
      simp [Lib.splitK, exP, e, exL]
    · have hc : s.count 10 = r.count 10 + 1 := by
        rw [h1, List.count_append, List.count_cons, List.count_eq_zero.2 h2]; simp
      have hl : r.length ≤ n := by
        have := congrArg List.length h1
        simp at this; omega
      have hi : ¬ (Lib.index s [10] == -1) = true := by rw [h3]; simp
      have ht : s.take a.length = a := by rw [h1]; simp
      have hd : s.drop (a.length + 1) = r := by rw [h1, ← List.drop_drop]; simp
      rw [hc, Lib.splitK, if_neg hi, h3]
      rw [Int.toNat_natCast, Nat.add_zero, ht, show ([10] : List UInt8).length = 1 from rfl, hd, exP, List.length_cons]
      obtain ⟨i1, i2⟩ := ih r 0 hl
      rw [i1, i2]
      refine ⟨?_, rfl⟩
      rw [h1, exL_text W a _ (fun b hb e => h2 (e ▸ hb)) col, exL, if_pos rfl]
theorem replace1 (c : UInt8) : ∀ (n : Nat) (s : List UInt8), s.length ≤ n → Lib.replaceK [c] [] (s.count c) s = s.filter fun b => b ≠ c := by
  intro n
  induction n with
  | zero =>
    intro s h
    obtain rfl : s = [] := List.eq_nil_of_length_eq_zero (by omega)
    simp [Lib.replaceK]
  | succ n ih =>
    intro s h
    rcases cut1 c s with ⟨h1, h2⟩ | ⟨a, r, h1, h2, h3⟩
    · have h0 : s.count c = 0 := List.count_eq_zero.2 h2
      rw [h0, Lib.replaceK, List.filter_eq_self.2]
      intro b hb
      have : b ≠ c := fun e => h2 (e ▸ hb)
      simpa using this
    · have hc : s.count c = r.count c + 1 := by
        rw [h1, List.count_append, List.count_cons, List.count_eq_zero.2 h2]; simp
      have hl : r.length ≤ n := by
        have := congrArg List.length h1
        simp at this; omega
      have hi : ¬ (Lib.index s [c] == -1) = true := by rw [h3]; simp
      have ht : s.take a.length = a := by rw [h1]; simp
      have hd : s.drop (a.length + 1) = r := by rw [h1, ← List.drop_drop]; simp
      rw [hc, Lib.replaceK, if_neg hi, h3]
      simp only [Int.toNat_natCast, List.length_singleton, ht, hd, List.append_nil]
      rw [ih r hl, h1, List.filter_append, List.filter_cons_of_neg (by simp)]
      congr 1
      rw [List.filter_eq_self.2]
      intro b hb
      have : b ≠ c := fun e => h2 (e ▸ hb)
      simpa using this
theorem replaceAll1 (c : UInt8) (s : List UInt8) : Lib.replaceAll s [c] [] = s.filter fun b => b ≠ c := by
  unfold Lib.replaceAll Lib.replace Lib.replaceNum
  rw [if_neg (by simp), if_pos (Or.inl (by omega)), count1]
  exact replace1 c s.length s (Nat.le_refl _)
theorem bare_is (s : List UInt8) : Lib.replaceAll (Lib.replaceAll s [32] []) [10] [] = bareL s := by
  rw [replaceAll1, replaceAll1, List.filter_filter]
  unfold bareL
  congr 1
  funext b
  simp [Bool.and_comm]
end Go.Proofs.YtbhenicldddlfaaDoor






namespace Go.Proofs.YtbhenicldddlfaaDoor
open Go.RowKit

theorem setF_txlen {W : Nat} {p : Nat → Nat → Nat → Bool} {ops : List Opr} (ho : OpsOk ops) : ∀ (m i col k : Nat), ops.length - i ≤ m → (setF W p ops i col k).tx.length ≤ 24000 * m := by
  intro m
  induction m with
  | zero => intro i col k h; rw [setF_end (by omega)]; simp
  | succ m ih =>
    intro i col k h
    by_cases hi : i < ops.length
    · have hs : ops[i]? = some ops[i] := List.getElem?_eq_getElem hi
      generalize ops[i] = o at hs
      obtain ⟨g1, g2, g3, hfin⟩ := ho i o hs
      have gb : (bts o.text).length ≤ 24000 := by rw [bts_len]; exact g1
      cases hg : o.grp
      · by_cases hn : 0 ≤ o.ind
        · rw [setF_line hs hg hn]
          have := ih (i + 1) o.ind.toNat k (by omega)
          simp only [Ly.after, List.length_append, List.length_cons, List.length_replicate]; omega
        · rw [setF_text hs hg hn]
          have := ih (i + 1) (col + o.text.size) k (by omega)
          simp only [Ly.after, List.length_append]; omega
      · obtain ⟨hf1, hf2⟩ := hfin hg
        cases hc : o.can
        · rw [setF_cannot hs hg hc]
          have := ih (i + 1) col k (by omega)
          simp only [Ly.after, List.length_append, List.length_nil]; omega
        · cases hp : p k i col
          · rw [setF_brk hs hg hc hp]
            have := ih (i + 1) col (k + 1) (by omega)
            simp only [Ly.after, List.length_append, List.length_nil]; omega
          · rw [setF_flat hs hg hc hp hf1]
            have := ih o.fin (col + o.text.size) (k + 1) (by omega)
            simp only [Ly.after, List.length_append]; omega
    · rw [setF_end (by omega)]; simp
theorem exL_le (W : Nat) : ∀ (s : List UInt8) (col : Nat), exL W col s ≤ col + s.length := by
  intro s
  induction s with
  | nil => intro col; exact Nat.le_trans (ovr_le W col) (by simp)
  | cons b s ih =>
    intro col
    rw [exL]
    split
    · have h1 := ovr_le W col
      have h2 := ih 0
      simp only [List.length_cons]; omega
    · have h2 := ih (col + 1)
      simp only [List.length_cons]; omega
/-- what is known of each layout of All's list -/
structure LzOk (W : Nat) (fl : List UInt8) (x : Lz) : Prop where
  size : x.tx.size ≤ 9600000
  ex : exL W 0 (bts x.tx) = x.ex
  ln : (bts x.tx).count 10 = x.ln
  br : bareL (bts x.tx) = bareL fl
theorem bts_mk (l : List UInt8) : bts ⟨l.toArray⟩ = l := by simp [bts]
theorem allN_ok {W n : Nat} {t : Dc} (ho : t.Ok) (hs : t.size ≤ 400) : ∀ x ∈ allN W (t.ops 0 0) n, LzOk W (bts t.flat) x := by
  intro x hx
  obtain ⟨m, -, rfl⟩ := List.mem_map.1 hx
  obtain ⟨h1, h2, h3⟩ := layM_txt W ho m
  have hl := setF_txlen (W := W) (p := maskP m) (Dc.opsOk ho hs) _ 0 0 0 (Nat.le_refl _)
  have h4 := Dc.ops_len 0 t 0
  have e : bts (layM W (t.ops 0 0) m).z.tx = (layM W (t.ops 0 0) m).tx := bts_mk _
  have hz : (layM W (t.ops 0 0) m).z.tx.size = (layM W (t.ops 0 0) m).tx.length := by rw [← bts_len, e]
  refine ⟨?_, by rw [e]; exact h1, by rw [e]; exact h2, by rw [e]; exact h3⟩
  rw [hz]; unfold layM; omega
/-- the pieces of a text at its line feeds: their excess, their number -/
def pcs (s : ByteArray) : List ByteArray := Lib.splitB ⟨#[10]⟩ 0 (Lib.countB s ⟨#[10]⟩) s
theorem cnt_is (s : ByteArray) : Lib.countB s ⟨#[10]⟩ = (bts s).count 10 := Lib.count_one 10 _
theorem pcs_len (s : ByteArray) : (pcs s).length = (bts s).count 10 + 1 := by
  have h := congrArg List.length (Lib.splitB_data ⟨#[10]⟩ 0 (Lib.countB s ⟨#[10]⟩) s)
  rw [List.length_map, cnt_is] at h
  have h2 := (exP_split 0 _ (bts s) 0 (Nat.le_refl _)).2
  unfold pcs
  rw [cnt_is, h]; exact h2
def exS (W : Nat) (l : List ByteArray) : Nat := (l.map fun p => ovr W p.size).sum
theorem exS_exP (W : Nat) (l : List ByteArray) : exS W l = exP W 0 (l.map fun p => p.data.toList) := by
  induction l with
  | nil => rfl
  | cons a l ih =>
    simp only [exS, List.map_cons, List.sum_cons, exP] at ih ⊢
    rw [ih, Nat.zero_add]
    rfl
theorem pcs_ex (W : Nat) (s : ByteArray) : exS W (pcs s) = exL W 0 (bts s) := by
  rw [exS_exP]
  unfold pcs
  rw [Lib.splitB_data, cnt_is]
  exact (exP_split W _ (bts s) 0 (Nat.le_refl _)).1
theorem exS_take {W : Nat} {l : List ByteArray} {k : Nat} {y : ByteArray} (h : l[k]? = some y) : exS W (l.take (k + 1)) = exS W (l.take k) + ovr W y.size := by
  have hl := List.getElem?_eq_some_iff.1 h
  unfold exS
  rw [List.take_succ_eq_append_getElem hl.1, hl.2, List.map_append, List.sum_append]
  simp
theorem exS_take_le (W : Nat) (l : List ByteArray) (k : Nat) : exS W (l.take k) ≤ exS W l := by
  have e : exS W (l.take k) + exS W (l.drop k) = exS W l := by
    unfold exS
    rw [← List.sum_append, ← List.map_append, List.take_append_drop]
  omega
theorem pcs_at_le {s y : ByteArray} {k : Nat} (h : (pcs s)[k]? = some y) : y.size ≤ s.size := by
  have h1 := exS_take (W := 0) h
  have h2 := exS_take_le 0 (pcs s) (k + 1)
  rw [pcs_ex] at h2
  have h3 := exL_le 0 (bts s) 0
  rw [bts_len] at h3
  have h4 : ovr 0 y.size = y.size := by simp [ovr]
  omega
/-- the pair has two layouts -/
theorem pair_two : grpN (pairD.ops 0 0) = 1 ∧ (allN 4 (pairD.ops 0 0) (2 ^ 1)).length = 2 := by
  have hops : pairD.ops 0 0 = [⟨pairD.flat, 0, true, !hasB [3] pairD, 4⟩, ⟨⟨#[97, 98]⟩, -1, false, false, 0⟩, ⟨⟨#[]⟩, 0, false, false, 0⟩, ⟨⟨#[99, 100]⟩, -1, false, false, 0⟩] := by
    simp [pairD, Dc.ops, Dc.opsL]
  have hh : hasB [3] pairD = false := by simp [hasB, pairD, Dc.all, Dc.alls, Dc.kind]
  rw [hops, hh]
  generalize pairD.flat = f
  refine ⟨rfl, ?_⟩
  generalize hL : ([⟨f, 0, true, !false, 4⟩, ⟨⟨#[97, 98]⟩, -1, false, false, 0⟩, ⟨⟨#[]⟩, 0, false, false, 0⟩, ⟨⟨#[99, 100]⟩, -1, false, false, 0⟩] : List Opr) = L
  have g0 : L[0]? = some ⟨f, 0, true, true, 4⟩ := by rw [← hL]; rfl
  have g1 : L[1]? = some ⟨⟨#[97, 98]⟩, -1, false, false, 0⟩ := by rw [← hL]; rfl
  have g2 : L[2]? = some ⟨⟨#[]⟩, 0, false, false, 0⟩ := by rw [← hL]; rfl
  have g3 : L[3]? = some ⟨⟨#[99, 100]⟩, -1, false, false, 0⟩ := by rw [← hL]; rfl
  have e4 : ∀ (p : Nat → Nat → Nat → Bool) c k, (setF 4 p L 4 c k).k = k := fun p c k => by rw [setF_end (by rw [← hL]; simp)]
  have e3 : ∀ (p : Nat → Nat → Nat → Bool) c k, (setF 4 p L 3 c k).k = k := fun p c k => by rw [setF_text g3 rfl (by simp)]; exact e4 _ _ _
  have e2 : ∀ (p : Nat → Nat → Nat → Bool) c k, (setF 4 p L 2 c k).k = k := fun p c k => by rw [setF_line g2 rfl (by simp)]; exact e3 _ _ _
  have e1 : ∀ (p : Nat → Nat → Nat → Bool) c k, (setF 4 p L 1 c k).k = k := fun p c k => by rw [setF_text g1 rfl (by simp)]; exact e2 _ _ _
  have e0 : ∀ m, (layM 4 L m).k = 1 := fun m => by
    unfold layM
    cases hp : maskP m 0 0 0
    · rw [setF_brk g0 rfl rfl hp]; exact e1 _ _ _
    · rw [setF_flat g0 rfl rfl hp (by simp)]; exact e4 _ _ _
  unfold allN
  have hf : (List.range (2 ^ 1)).filter (okM 4 L) = [0, 1] := by
    have : List.range (2 ^ 1) = [0, 1] := rfl
    rw [this]
    have o0 : okM 4 L 0 = true := by unfold okM; rw [e0]; decide
    have o1 : okM 4 L 1 = true := by unfold okM; rw [e0]; decide
    simp [o0, o1]
  rw [hf]; rfl
set_option maxRecDepth 100000 in
set_option maxHeartbeats 4000000 in
theorem Doc_f (A : Option Addr) (m c : Nat) (ls : List Int) (w : World) (h : Ints w A m c ls) : Calls Tryd.prog 7 #[.slice A m c] w (DocR (fun t => t.Ok ∧ t.size ≤ 341 ∧ t = (docF 4 ls).1) w) := by
  have hB := ((Below.refl w.heap.size w).al (.cells #[.int .i64 0, .string ⟨#[]⟩, .int .i64 0, .slice none 0 0] 29)).al (.cells #[.slice A m c] 62)
  have B0 := (Blk.new w 29 #[.int .i64 0, .string ⟨#[]⟩, .int .i64 0, .slice none 0 0]).al (.cells #[.slice A m c] 62)
  have B1 := Blk.new1 w (.cells #[.int .i64 0, .string ⟨#[]⟩, .int .i64 0, .slice none 0 0] 29) 62 #[.slice A m c]
  have HR := Lib.hid (RdL.mk ⟨A, m, c, B1, h⟩ hB (by omega) : RdL w ((w.alloc (.cells #[.int .i64 0, .string ⟨#[]⟩, .int .i64 0, .slice none 0 0] 29)).alloc (.cells #[.slice A m c] 62)) (w.heap.size + 1) ls)
  have hz : w.heap.size + 2 ≤ ((w.alloc (.cells #[.int .i64 0, .string ⟨#[]⟩, .int .i64 0, .slice none 0 0] 29)).alloc (.cells #[.slice A m c] 62)).heap.size := by simp
  clear hB h B1
  go_enter Tryd.func7, Tryd.ntmps7
  go_wp2_with fail
  generalize (w.alloc (.cells #[.int .i64 0, .string ⟨#[]⟩, .int .i64 0, .slice none 0 0] 29)).alloc (.cells #[.slice A m c] 62) = W1 at *
  refine (document_f w (w.heap.size + 1) 4 (Nat.le_refl _) W1 4 ls rfl HR.out).mono ?_
  rintro e W2 ⟨v, t, l2, rfl, h1, h2, h3, h4, h5, h6, h7⟩
  replace B0 := B0.agr h5 (show w.heap.size ≠ w.heap.size + 1 by omega)
  have HT := Lib.hid h1
  have HO := Lib.hid (show t.Ok ∧ t.size ≤ 341 ∧ t = (docF 4 ls).1 from ⟨h2, Nat.le_trans h3 (dcMax_le (Nat.le_refl _)), by rw [h7]⟩)
  have HB := Lib.hid h4.bel
  clear h1 h2 h3 h4 h5 h6 h7 HR
  obtain ⟨k, s, i, B, n, d⟩ := v
  simp only [dcVal]
  have cB0 := B0.cell
  have fB0 := B0.frozen
  have lB0 := B0.lt
  go_wp2_with fail
  refine bodyPost_ret (v := dcVal (k, s, i, B, n, d)) (by simp [results, Tryd.results7, go_sem, dcVal, cB0]) rfl ⟨(k, s, i, B, n, d), t, rfl, ?_, HO.out, ?_⟩
  · exact (((((HT.out.far _ fun b hb => by show b ≠ w.heap.size; omega).far _ fun b hb => by show b ≠ w.heap.size; omega).far _ fun b hb => by show b ≠ w.heap.size; omega).far _ fun b hb => by show b ≠ w.heap.size; omega).mono fun _ _ _ => trivial)
  · exact (((HB.out.setCell (Nat.le_refl _) _).setCell (Nat.le_refl _) _).setCell (Nat.le_refl _) _).setCell (Nat.le_refl _) _
end Go.Proofs.YtbhenicldddlfaaDoor

