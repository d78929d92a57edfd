/- Texts NH, laid together. -/
import Derived.Test.YtbhenicldddlfaaN5
import Derived.Test.YtbhenicldddlfaaE6
import Derived.Test.YtbhenicldddlfaaE8




namespace Go.Proofs.Ytbhenicldddlfaa
open Go.RowKit

theorem setF_ch {W : Nat} {a b : Nat} {ops : List Opr} (ho : OpsOk ops) : ∀ (m i col k : Nat), ops.length - i ≤ m → (setF W (maskP a) ops i col k).ch = (setF W (maskP b) ops i col k).ch → setF W (maskP a) ops i col k = setF W (maskP b) ops i col k := by
  intro m
  induction m with
  | zero => intro i col k h _; rw [setF_end (by omega), setF_end (by omega)]
  | succ m ih =>
    intro i col k h
    by_cases hi : i < ops.length
    · have hs : ops[i]? = some ops[i] := List.getElem?_eq_getElem hi
      generalize ops[i] = o at hs
      obtain ⟨-, -, -, hfin⟩ := ho i o hs
      cases hg : o.grp
      · by_cases hn : 0 ≤ o.ind
        · rw [setF_line hs hg hn, setF_line hs hg hn]
          simp only [Ly.after, List.nil_append]
          intro e
          rw [ih (i + 1) o.ind.toNat k (by omega) e]
        · rw [setF_text hs hg hn, setF_text hs hg hn]
          simp only [Ly.after, List.nil_append]
          intro e
          rw [ih (i + 1) _ k (by omega) e]
      · obtain ⟨hf1, hf2⟩ := hfin hg
        cases hc : o.can
        · rw [setF_cannot hs hg hc, setF_cannot hs hg hc]
          simp only [Ly.after]
          intro e
          rw [ih (i + 1) col k (by omega) (List.append_cancel_left e)]
        · cases hp : maskP a k i col <;> cases hq : maskP b k i col
          · rw [setF_brk hs hg hc hp, setF_brk hs hg hc hq]
            simp only [Ly.after]
            intro e
            rw [ih (i + 1) col (k + 1) (by omega) (List.append_cancel_left e)]
          · rw [setF_brk hs hg hc hp, setF_flat hs hg hc hq hf1]
            simp [Ly.after]
          · rw [setF_flat hs hg hc hp hf1, setF_brk hs hg hc hq]
            simp [Ly.after]
          · rw [setF_flat hs hg hc hp hf1, setF_flat hs hg hc hq hf1]
            simp only [Ly.after]
            intro e
            rw [ih o.fin _ (k + 1) (by omega) (List.append_cancel_left e)]
    · intro _; rw [setF_end (by omega), setF_end (by omega)]
theorem allN_same {W n : Nat} {ops : List Opr} (ho : OpsOk ops) {x y : Lz} (hx : x ∈ allN W ops n) (hy : y ∈ allN W ops n) (h : x.ch = y.ch) : x = y := by
  obtain ⟨a, -, rfl⟩ := List.mem_map.1 hx
  obtain ⟨b, -, rfl⟩ := List.mem_map.1 hy
  have e : layM W ops a = layM W ops b := setF_ch ho ops.length 0 0 0 (by omega) h
  rw [e]
theorem sorted_only {W n : Nat} {ops : List Opr} (ho : OpsOk ops) {xs ys : List Lz} (hx : xs.Perm (allN W ops n)) (hy : ys.Perm (allN W ops n)) (px : xs.Pairwise fun x y => lzC x y ≤ 0) (py : ys.Pairwise fun x y => lzC x y ≤ 0) : xs = ys := by
  refine List.Perm.eq_of_pairwise (le := fun x y => lzC x y ≤ 0) ?_ px py (hx.trans hy.symm)
  intro a b ha hb h1 h2
  have h3 : lzC a b = 0 := by
    have e : lzC a b = - lzC b a := by rw [lzC_key, lzC_key, cmpL_anti]
    omega
  rw [lzC_key] at h3
  have h4 := cmpL_zero.1 h3
  simp only [Lz.key, List.cons.injEq] at h4
  exact allN_same ho (hx.mem_iff.1 ha) (hy.mem_iff.1 hb) h4.2.2
end Go.Proofs.Ytbhenicldddlfaa

