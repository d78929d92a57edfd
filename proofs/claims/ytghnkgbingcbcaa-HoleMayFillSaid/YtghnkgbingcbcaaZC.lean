/- Corrections: every step makes a state smaller: plain laws. -/
import Derived.Test.YtghnkgbingcbcaaZB
namespace Go.Proofs.Ytghnkgbingcbcaa
open Go.RowKit

/-! ### every step makes a state smaller -/
def numW (B : Nat) : List Int → Nat
  | [] => 0
  | x :: xs => x.toNat * B ^ xs.length + numW B xs
theorem numW_lt {B : Nat} : ∀ {xs : List Int}, (∀ x ∈ xs, 0 ≤ x ∧ x < (B : Int)) → numW B xs < B ^ xs.length
  | [], _ => by simp [numW]
  | x :: xs, h => by
    have h1 := numW_lt (B := B) (xs := xs) fun y hy => h y (List.mem_cons_of_mem _ hy)
    have h2 := h x (List.mem_cons_self ..)
    have h3 : x.toNat + 1 ≤ B := by omega
    have h4 : (x.toNat + 1) * B ^ xs.length ≤ B * B ^ xs.length := Nat.mul_le_mul_right _ h3
    have h5 : (x.toNat + 1) * B ^ xs.length = x.toNat * B ^ xs.length + B ^ xs.length := by rw [Nat.add_mul, Nat.one_mul]
    have h6 : B ^ (x :: xs).length = B * B ^ xs.length := by rw [List.length_cons, Nat.pow_succ, Nat.mul_comm]
    rw [numW, h6]; omega
theorem numW_mono {B : Nat} : ∀ {xs ys : List Int}, xs.length = ys.length → (∀ x ∈ xs, 0 ≤ x ∧ x < (B : Int)) → (∀ x ∈ ys, 0 ≤ x ∧ x < (B : Int)) → cmpL xs ys < 0 → numW B xs < numW B ys
  | [], [], _, _, _, h => by simp [cmpL] at h
  | [], _ :: _, hl, _, _, _ => by simp at hl
  | _ :: _, [], hl, _, _, _ => by simp at hl
  | x :: xs, y :: ys, hl, hx, hy, h => by
    have hl' : xs.length = ys.length := by simpa using hl
    rw [cmpL] at h
    rw [numW, numW, hl']
    split at h
    · rename_i e
      have := numW_mono hl' (fun z hz => hx z (List.mem_cons_of_mem _ hz)) (fun z hz => hy z (List.mem_cons_of_mem _ hz)) h
      rw [cmpI_zero.1 e]; omega
    · have h1 := cmpI_neg.1 h
      have h2 := numW_lt (B := B) (xs := xs) fun z hz => hx z (List.mem_cons_of_mem _ hz)
      have hx0 := hx x (List.mem_cons_self ..)
      have h3 : x.toNat + 1 ≤ y.toNat := by omega
      have h4 : (x.toNat + 1) * B ^ ys.length ≤ y.toNat * B ^ ys.length := Nat.mul_le_mul_right _ h3
      rw [Nat.add_mul, Nat.one_mul] at h4
      rw [hl'] at h2
      omega
theorem lex_lt {a a' b b' P : Nat} (h : a < a' ∨ a = a' ∧ b < b') (hb : b < P) : a * P + b < a' * P + b' := by
  rcases h with h | ⟨rfl, h⟩
  · have : (a + 1) * P ≤ a' * P := Nat.mul_le_mul_right _ h
    rw [Nat.add_mul, Nat.one_mul] at this; omega
  · omega
def long : Nat := 2000
def rankW (M B : Nat) (x : Way) : Nat := if x.ok then (x.cost.toNat * (M + 1) + x.size.toNat) * B ^ long + numW B x.w else ((M + 1) * (M + 1)) * B ^ long
/-- the form of a way: its word has as many letters as it says, or is not kept -/
structure Frm (M B : Nat) (x : Way) : Prop where
  c : 0 ≤ x.cost ∧ x.cost ≤ (M : Int)
  s : 0 ≤ x.size ∧ x.size ≤ (M : Int)
  l : x.w.length = if x.size ≤ 2000 then x.size.toNat else 0
  a : ∀ y ∈ x.w, 0 ≤ y ∧ y < (B : Int)
theorem Frm.num {M B : Nat} (hB : 1 ≤ B) {x : Way} (h : Frm M B x) : numW B x.w < B ^ long := by
  refine Nat.lt_of_lt_of_le (numW_lt h.a) (Nat.pow_le_pow_right hB ?_)
  have := h.l; unfold long; split at this <;> omega
theorem rankW_lt {M B : Nat} (hB : 1 ≤ B) {x y : Way} (hx : x.ok = true → Frm M B x) (hy : y.ok = true → Frm M B y) (h : lessW x y = true) : rankW M B x < rankW M B y := by
  have ho := lessW_ok h
  have fx := hx ho
  have nx := fx.num hB
  have := fx.c; have := fx.s
  unfold rankW
  rw [if_pos ho]
  have hM : x.cost.toNat * (M + 1) + x.size.toNat < (M + 1) * (M + 1) := by
    have : x.cost.toNat * (M + 1) ≤ M * (M + 1) := Nat.mul_le_mul_right _ (by omega)
    have e : (M + 1) * (M + 1) = M * (M + 1) + (M + 1) := by rw [Nat.add_mul, Nat.one_mul]
    omega
  cases hyo : y.ok with
  | false =>
    rw [if_neg (by simp)]
    have := lex_lt (b' := 0) (P := B ^ long) (Or.inl hM) nx
    omega
  | true =>
    rw [if_pos rfl]
    have fy := hy hyo
    have := fy.c; have := fy.s
    have hc := lessW_both h hyo
    refine lex_lt ?_ nx
    unfold wcmp at hc
    by_cases e1 : cmpI x.cost y.cost = 0
    · by_cases e2 : cmpI x.size y.size = 0
      · have e3 := cmpI_zero.1 e1; have e4 := cmpI_zero.1 e2
        right
        refine ⟨by rw [e3, e4], ?_⟩
        refine numW_mono (by rw [fx.l, fy.l, e4]) fx.a fy.a ?_
        simp only [orL, e1, e2, if_true] at hc
        split at hc <;> omega
      · have e3 := cmpI_zero.1 e1
        left
        rw [e3]
        simp only [orL, e1, if_true, e2, if_false] at hc
        have := cmpI_neg.1 hc
        omega
    · left
      simp only [orL, e1, if_false] at hc
      have h1 := cmpI_neg.1 hc
      refine lex_lt (P := M + 1) (Or.inl ?_) ?_ <;> omega
def sumTo (f : Nat → Nat) : Nat → Nat
  | 0 => 0
  | n + 1 => sumTo f n + f n
theorem sumTo_le {f g : Nat → Nat} (n : Nat) (h : ∀ k, f k ≤ g k) : sumTo f n ≤ sumTo g n := by
  induction n with
  | zero => exact Nat.le_refl _
  | succ n ih => have := h n; simp only [sumTo]; omega
theorem sumTo_lt {f g : Nat → Nat} {n k : Nat} (h : ∀ k, f k ≤ g k) (hk : k < n) (hl : f k < g k) : sumTo f n < sumTo g n := by
  induction n with
  | zero => omega
  | succ n ih =>
    simp only [sumTo]
    by_cases e : k = n
    · subst e; have := sumTo_le (f := f) (g := g) k h; omega
    · have := ih (by omega); have := h n; omega
def total (M B nons n : Nat) (st : WSt) : Nat := sumTo (fun N => sumTo (fun i => sumTo (fun j => rankW M B (st N i j)) (n + 1)) (n + 1)) nons
theorem total_lt {M B nons n : Nat} {st : WSt} {N i j : Nat} {x : Way} (hN : N < nons) (hi : i ≤ n) (hj : j ≤ n) (h : rankW M B x < rankW M B (st N i j)) : total M B nons n (updS st N i j x) < total M B nons n st := by
  have hle : ∀ a b c, rankW M B (updS st N i j x a b c) ≤ rankW M B (st a b c) := fun a b c => by
    by_cases e : a = N ∧ b = i ∧ c = j
    · obtain ⟨rfl, rfl, rfl⟩ := e; rw [updS_same]; omega
    · rw [updS_ne _ _ e]; exact Nat.le_refl _
  refine sumTo_lt (fun a => sumTo_le _ fun b => sumTo_le _ fun c => hle a b c) hN ?_
  refine sumTo_lt (fun b => sumTo_le _ fun c => hle N b c) (k := i) (by omega) ?_
  refine sumTo_lt (fun c => hle N i c) (k := j) (by omega) ?_
  rw [updS_same]; exact h
/-- the letters of a word -/
theorem Dv.lets {rules : List Ru} {B : Nat} (hr : ∀ r ∈ rules, ∀ s ∈ r.2, s.1 = true → s.2 < B) {l : List Sy} {v : List Int} (h : Dv rules l v) : (∀ s ∈ l, s.1 = true → s.2 < B) → ∀ y ∈ v, 0 ≤ y ∧ y < (B : Int) := by
  induction h with
  | nil => intro _ y hy; cases hy
  | @term t l v h ih =>
    intro hl y hy
    rcases List.mem_cons.1 hy with rfl | hy
    · have := hl (true, t) (List.mem_cons_self ..) rfl
      simp only at this; omega
    · exact ih (fun s hs => hl s (List.mem_cons_of_mem _ hs)) y hy
  | @non N rhs l u v hm h1 h2 ih1 ih2 =>
    intro hl y hy
    rcases List.mem_append.1 hy with hy | hy
    · exact ih1 (hr _ hm) y hy
    · exact ih2 (fun s hs => hl s (List.mem_cons_of_mem _ hs)) y hy
section
variable {p : Pm} {st st1 stI : WSt} {r : Ru} {i j : Nat}
def big : Nat := 2000000000
theorem four_pow {k : Nat} (h : k ≤ 10) : (4 : Int) ^ k ≤ 1048576 := by
  have : (4 : Nat) ^ k ≤ 4 ^ 10 := Nat.pow_le_pow_right (by omega) h
  have h2 : (4 : Int) ^ k ≤ 4 ^ 10 := by exact_mod_cast this
  exact h2
theorem Snd.frm (hp : p.Ok) {N i j : Nat} {x : Way} {X : Int} (h : p.Snd [(false, N)] i j x) (hc : x.cost ≤ X) (hX : X ≤ 1363148800) (ho : x.ok = true) : Frm big 8 x := by
  obtain ⟨h1, h2, v, h3, h4, h5, h6⟩ := h ho
  have k1 := h4.pos (by have := hp.c0; omega) (by have := hp.c1; omega) (by have := hp.c2; omega)
  have k2 := h4.len (by have := hp.c0; omega) (by have := hp.c1; omega) (by have := hp.c2; omega)
  rw [part_len h2] at k2
  have k3 := hp.len
  refine ⟨⟨k1, by unfold big; omega⟩, ⟨by omega, by unfold big; omega⟩, ?_, ?_⟩
  · rw [h6, h5]; split
    · rw [if_pos (by omega)]; simp
    · rw [if_neg (by omega)]; rfl
  · rw [h6]; split
    · exact h3.lets hp.lets fun s hs hb => by rw [List.mem_singleton.1 hs] at hb; cases hb
    · intro y hy; cases hy
theorem Frm.bnd {x : Way} (h : Frm big 8 x) : Bnd 2000000000 x :=
  ⟨h.c.1, h.c.2, h.s.1, h.s.2, by rw [h.l]; have := h.s; split <;> omega, by rw [h.l]; split <;> omega⟩
theorem Good.cost (h : Good p st) (hp : p.Ok) {N i j : Nat} (ho : (st N i j).ok = true) : (st N i j).cost ≤ 1363148800 := by
  have h1 := h.bnd N i j ho
  have h2 := four_pow (Nat.le_trans (cnt_le p.nons st) hp.nons)
  unfold lev at h1; omega
theorem Mid.cost (h : Mid p st1 r i j st) (hg : Good p st1) (hp : p.Ok) (hr : r ∈ p.rules) {N a b : Nat} (ho : (st N a b).ok = true) : (st N a b).cost ≤ 1363148800 := by
  by_cases e : N = r.1
  · subst e
    have h1 := h.bnd a b ho
    cases hk : (st1 r.1 0 0).ok with
    | true =>
      rw [hk] at h1
      have h2 := four_pow (Nat.le_trans (cnt_le p.nons st1) hp.nons)
      simp only [if_true] at h1
      unfold lev at h1; omega
    | false =>
      rw [hk] at h1
      simp only [Bool.false_eq_true, if_false] at h1
      have hlt : cnt p.nons st1 + 1 ≤ cnt p.nons (fun N a b => if N = r.1 then ⟨0, 0, [], true⟩ else st1 N a b) :=
        cnt_lt (fun N hN => by split; rfl; exact hN) (hp.left r hr) hk (by simp)
      have h2 := four_pow (Nat.le_trans (Nat.le_trans hlt (cnt_le _ _)) hp.nons)
      rw [Int.pow_succ] at h2
      unfold lev at h1; omega
  · rw [h.oth N e] at ho ⊢; exact hg.cost hp ho
theorem Good.frm (h : Good p st) (hp : p.Ok) (N i j : Nat) (ho : (st N i j).ok = true) : Frm big 8 (st N i j) := Snd.frm hp (h.snd N i j) (h.cost hp ho) (Int.le_refl _) ho
theorem Mid.frm (h : Mid p st1 r i j st) (hg : Good p st1) (hp : p.Ok) (hr : r ∈ p.rules) (N a b : Nat) (ho : (st N a b).ok = true) : Frm big 8 (st N a b) := Snd.frm hp (h.snd N a b) (h.cost hg hp hr ho) (Int.le_refl _) ho
theorem Mid.bnds (h : Mid p st1 r i j st) (hg : Good p st1) (hp : p.Ok) (hr : r ∈ p.rules) (N a b : Nat) : Bnd 2000000000 (st N a b) := by
  cases ho : (st N a b).ok with
  | true => exact (h.frm hg hp hr N a b ho).bnd
  | false => rw [h.no N a b ho]; exact .no (by omega)
/-- what the loops have seen: nothing has changed and every rule so far gave nothing better, or the state is smaller -/
structure Prg (p : Pm) (st0 st : WSt) (again : Bool) (V : Ru → Nat → Nat → Prop) : Prop where
  no : again = false → st = st0 ∧ ∀ r i j, V r i j → lessW (p.rule st0 i r.2 j) (st0 r.1 i j) = false
  yes : again = true → total big 8 p.nons p.w.length st < total big 8 p.nons p.w.length st0
theorem Prg.put {st0 : WSt} {again : Bool} {V V' : Ru → Nat → Nat → Prop} (hp : p.Ok) (hr : r ∈ p.rules) (hg : Good p st1) (hI : Mid p st1 r i 0 stI) (hm : Mid p st1 r i j st) (h : Prg p st0 st again V) (hi : i ≤ p.w.length) (hj : j ≤ p.w.length)
    (hx : lessW (p.rule stI i r.2 j) (st r.1 i j) = true) : Prg p st0 (updS st r.1 i j (p.rule stI i r.2 j)) true V' := by
  refine ⟨fun h => by (cases h), fun _ => ?_⟩
  have hput := Mid.put hp hr hg hI hm hi hx
  have h1 : rankW big 8 (p.rule stI i r.2 j) < rankW big 8 (st r.1 i j) := by
    refine rankW_lt (by omega) (fun ho => ?_) (fun ho => hm.frm hg hp hr r.1 i j ho) hx
    have := hput.frm hg hp hr r.1 i j (by rw [updS_same]; exact ho)
    rwa [updS_same] at this
  have h2 := total_lt (nons := p.nons) (n := p.w.length) (st := st) (hp.left r hr) hi hj h1
  cases ha : again with
  | false => obtain ⟨rfl, -⟩ := h.no ha; exact h2
  | true => exact Nat.lt_trans h2 (h.yes ha)
theorem Prg.skip {st0 : WSt} {again : Bool} {V V' : Ru → Nat → Nat → Prop} (h : Prg p st0 st again V) (hI : again = false → stI = st0) (hx : lessW (p.rule stI i r.2 j) (st r.1 i j) = false)
    (hV : ∀ r' i' j', V' r' i' j' → V r' i' j' ∨ (r' = r ∧ i' = i ∧ j' = j)) : Prg p st0 st again V' := by
  refine ⟨fun ha => ?_, h.yes⟩
  obtain ⟨rfl, h2⟩ := h.no ha
  have := hI ha
  subst this
  refine ⟨rfl, fun r' i' j' hv => ?_⟩
  rcases hV r' i' j' hv with h3 | ⟨rfl, rfl, rfl⟩
  · exact h2 r' i' j' h3
  · exact hx
theorem Prg.mono {st0 : WSt} {again : Bool} {V V' : Ru → Nat → Nat → Prop} (h : Prg p st0 st again V) (hV : ∀ r' i' j', V' r' i' j' → V r' i' j') : Prg p st0 st again V' :=
  ⟨fun ha => ⟨(h.no ha).1, fun r i j hv => (h.no ha).2 r i j (hV r i j hv)⟩, h.yes⟩
theorem Prg.start (st : WSt) : Prg p st st false (fun _ _ _ => False) := ⟨fun _ => ⟨rfl, fun _ _ _ h => h.elim⟩, fun h => by (cases h)⟩
end
end Go.Proofs.Ytghnkgbingcbcaa
