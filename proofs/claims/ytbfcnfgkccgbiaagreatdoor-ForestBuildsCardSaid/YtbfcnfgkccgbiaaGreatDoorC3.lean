/- Texts RL, RM, laid together. -/
import Derived.Test.YtbfcnfgkccgbiaaGreatDoorC2


namespace Go.Proofs.YtbfcnfgkccgbiaaGreatDoor
open Go.RowKit

def dpR (c1 : Int) (g : Int → Int → Int → Int) (x : Int) (f : List Int → Int) (n : Nat) : List Int → Int
  | [] => c1 * (n : Int)
  | y :: ys => if x = y then f ys else g (f ys) (f (y :: ys)) (dpR c1 g x f n ys)
/-- the distance of two words -/
def dpT (c0 c1 : Int) (g : Int → Int → Int → Int) : List Int → List Int → Int
  | [], ys => c0 * (ys.length : Int)
  | x :: xs, ys => dpR c1 g x (dpT c0 c1 g xs) (xs.length + 1) ys
section
variable {c0 c1 : Int} {g : Int → Int → Int → Int}
theorem dpT_nil (ys : List Int) : dpT c0 c1 g [] ys = c0 * (ys.length : Int) := rfl
theorem dpT_nil2 (xs : List Int) : dpT c0 c1 g xs [] = c1 * (xs.length : Int) := by
  cases xs with
  | nil => simp [dpT]
  | cons x xs => rfl
theorem dpT_eq (x : Int) (xs ys : List Int) : dpT c0 c1 g (x :: xs) (x :: ys) = dpT c0 c1 g xs ys := by simp [dpT, dpR]
theorem dpT_ne {x y : Int} (h : x ≠ y) (xs ys : List Int) : dpT c0 c1 g (x :: xs) (y :: ys) = g (dpT c0 c1 g xs ys) (dpT c0 c1 g xs (y :: ys)) (dpT c0 c1 g (x :: xs) ys) := by simp [dpT, dpR, h]
/-- what the least of three may be -/
structure Least (c0 c1 : Int) (g : Int → Int → Int → Int) : Prop where
  p0 : 0 ≤ c0
  p1 : 0 ≤ c1
  lo : ∀ a b c, 0 ≤ a → 0 ≤ b → 0 ≤ c → 0 ≤ g a b c
  hi : ∀ a b c, g a b c ≤ b + c1
theorem dpT_bound (h : Least c0 c1 g) : ∀ xs ys : List Int, 0 ≤ dpT c0 c1 g xs ys ∧ dpT c0 c1 g xs ys ≤ c1 * (xs.length : Int) + c0 * (ys.length : Int)
  | [], ys => by rw [dpT_nil]; have := Int.mul_nonneg h.p0 (Int.natCast_nonneg ys.length); simp; exact this
  | x :: xs, [] => by
    rw [dpT_nil2]; have := Int.mul_nonneg h.p1 (Int.natCast_nonneg (x :: xs).length)
    constructor
    · exact this
    · simp
  | x :: xs, y :: ys => by
    have e1 : c1 * ((x :: xs).length : Int) = c1 * (xs.length : Int) + c1 := by simp [Int.mul_add]
    have e2 : c0 * ((y :: ys).length : Int) = c0 * (ys.length : Int) + c0 := by simp [Int.mul_add]
    have p0 := h.p0
    have p1 := h.p1
    by_cases hxy : x = y
    · subst hxy
      rw [dpT_eq]
      have := dpT_bound h xs ys
      rw [e1, e2]; omega
    · rw [dpT_ne hxy]
      have b1 := dpT_bound h xs ys
      have b2 := dpT_bound h xs (y :: ys)
      have b3 := dpT_bound h (x :: xs) ys
      have b4 := h.lo _ _ _ b1.1 b2.1 b3.1
      have b5 := h.hi (dpT c0 c1 g xs ys) (dpT c0 c1 g xs (y :: ys)) (dpT c0 c1 g (x :: xs) ys)
      rw [e1]; omega
/-- the value of cell (i, j) -/
def dpV (c0 c1 : Int) (g : Int → Int → Int → Int) (xs ys : List Int) (i j : Nat) : Int := dpT c0 c1 g (xs.drop i) (ys.drop j)
variable {xs ys : List Int}
theorem dpV_bottom (j : Nat) (hj : j ≤ ys.length) : dpV c0 c1 g xs ys xs.length j = ((ys.length : Int) - (j : Int)) * c0 := by
  unfold dpV
  rw [List.drop_of_length_le (Nat.le_refl _), dpT_nil, List.length_drop, Int.mul_comm]
  congr 1; omega
theorem dpV_right (i : Nat) (hi : i ≤ xs.length) : dpV c0 c1 g xs ys i ys.length = ((xs.length : Int) - (i : Int)) * c1 := by
  unfold dpV
  rw [List.drop_of_length_le (l := ys) (Nat.le_refl _), dpT_nil2, List.length_drop, Int.mul_comm]
  congr 1; omega
theorem dpV_eq {i j : Nat} (hi : i < xs.length) (hj : j < ys.length) (h : xs.getD i 0 = ys.getD j 0) : dpV c0 c1 g xs ys i j = dpV c0 c1 g xs ys (i + 1) (j + 1) := by
  unfold dpV
  rw [List.drop_eq_getElem_cons hi, List.drop_eq_getElem_cons hj]
  have : xs[i] = ys[j] := by simpa [List.getD_eq_getElem?_getD, hi, hj] using h
  rw [this, dpT_eq]
theorem dpV_ne {i j : Nat} (hi : i < xs.length) (hj : j < ys.length) (h : xs.getD i 0 ≠ ys.getD j 0) : dpV c0 c1 g xs ys i j = g (dpV c0 c1 g xs ys (i + 1) (j + 1)) (dpV c0 c1 g xs ys (i + 1) j) (dpV c0 c1 g xs ys i (j + 1)) := by
  unfold dpV
  have hne : xs[i] ≠ ys[j] := by simpa [List.getD_eq_getElem?_getD, hi, hj] using h
  rw [List.drop_eq_getElem_cons hi, List.drop_eq_getElem_cons hj, dpT_ne hne]
theorem dpV_bound (h : Least c0 c1 g) (hc0 : c0 ≤ 100) (hc1 : c1 ≤ 100) (i j : Nat) : 0 ≤ dpV c0 c1 g xs ys i j ∧ dpV c0 c1 g xs ys i j ≤ 100 * (xs.length : Int) + 100 * (ys.length : Int) := by
  have h1 := dpT_bound h (xs.drop i) (ys.drop j)
  refine ⟨h1.1, Int.le_trans h1.2 ?_⟩
  have k1 : c1 * ((xs.drop i).length : Int) ≤ 100 * (xs.length : Int) := Int.le_trans (Int.mul_le_mul_of_nonneg_right hc1 (Int.natCast_nonneg _)) (by simp)
  have k2 : c0 * ((ys.drop j).length : Int) ≤ 100 * (ys.length : Int) := Int.le_trans (Int.mul_le_mul_of_nonneg_right hc0 (Int.natCast_nonneg _)) (by simp)
  omega
end

/-- a counter on its way down -/
def down : Nat → Int
  | 0 => -1
  | k + 1 => (k : Int)
theorem down_eq (k : Nat) : (k : Int) - 1 = down k := by cases k <;> simp [down]

/-! ### make -/
theorem ints_info : (Tryz.prog.info? 25).map (fun i => (i.zero, i.size, i.bytes)) = some (some (.slice none 0 0), 1, 24) := by kernel_rfl
def mkCells (z : Value) (n : Nat) : Array Value := madeCells #[z] n
theorem mkCells_size (z : Value) (n : Nat) : (mkCells z n).size = n := size_madeCells _ _
theorem mk_ints (n : Nat) (hn : n ≤ 1000000) : ∀ w : World, (Instr.makeSlice 25 (.int .i64 ((n : Int) + 1)) (.int .i64 ((n : Int) + 1))).run Tryz.prog w = .ok (.slice (some ⟨w.heap.size, 0, none⟩) (n + 1) (n + 1)) (w.alloc (.cells (mkCells (.int .i64 0) (n + 1)) 3)) := by
  intro w
  obtain ⟨i, hi, hz, hs, hb⟩ := info_parts int_info
  have := run_make (P := Tryz.prog) w 25 3 i _ Tryz.underlying25 hi hz .i64 .i64 ((n : Int) + 1) ((n : Int) + 1) (by omega) (by omega) (by rw [hb]; omega) (by omega)
  rw [show ((n : Int) + 1).toNat = n + 1 from by omega, hs, Nat.mul_one] at this
  exact this
/-! ### a table in memory: the rows from i on are filled -/
structure Tab (w : World) (bd n m i : Nat) (rb : Nat → Nat) (V : Nat → Nat → Int) (lo : Nat) : Prop where
  top : ∃ C : Array Value, Blk w bd 25 C ∧ C.size = n + 1 ∧ ∀ k, i ≤ k → k ≤ n → C[k]? = some (.slice (some ⟨rb k, 0, none⟩) (m + 1) (m + 1))
  row : ∀ k, i ≤ k → k ≤ n → ∃ D : Array Value, Blk w (rb k) 3 D ∧ D.size = m + 1 ∧ ∀ j, j ≤ m → D[j]? = some (.int .i64 (V k j))
  lo : lo ≤ bd
  up : ∀ k, i ≤ k → k ≤ n → bd < rb k
section
variable {w w' : World} {bd n m i lo : Nat} {rb : Nat → Nat} {V : Nat → Nat → Int}
theorem Tab.via (h : Tab w bd n m i rb V lo) (hb : Below w.heap.size w w') : Tab w' bd n m i rb V lo := by
  obtain ⟨⟨C, h1, h2, h3⟩, h4, h5, h6⟩ := h
  refine ⟨⟨C, h1.via hb, h2, h3⟩, fun k k1 k2 => ?_, h5, h6⟩
  obtain ⟨D, d1, d2, d3⟩ := h4 k k1 k2
  exact ⟨D, d1.via hb, d2, d3⟩
theorem Tab.al (h : Tab w bd n m i rb V lo) (o : Obj) : Tab (w.alloc o) bd n m i rb V lo := h.via ((Below.refl w.heap.size w).alloc (Nat.le_refl _) o)
theorem Tab.lt (h : Tab w bd n m i rb V lo) : bd < w.heap.size := by obtain ⟨⟨C, h1, _⟩, _⟩ := h; exact h1.lt
theorem Tab.cellTop (h : Tab w bd n m i rb V lo) {k : Nat} (h1 : i ≤ k) (h2 : k ≤ n) : w.cell? ⟨bd, k, none⟩ = some (.slice (some ⟨rb k, 0, none⟩) (m + 1) (m + 1)) := by
  obtain ⟨⟨C, c1, c2, c3⟩, _⟩ := h
  exact (c1.cell k).trans (c3 k h1 h2)
theorem Tab.cellRow (h : Tab w bd n m i rb V lo) {k j : Nat} (h1 : i ≤ k) (h2 : k ≤ n) (hj : j ≤ m) : w.cell? ⟨rb k, j, none⟩ = some (.int .i64 (V k j)) := by
  obtain ⟨D, d1, d2, d3⟩ := h.row k h1 h2
  exact (d1.cell j).trans (d3 j hj)
theorem Tab.frozen (h : Tab w bd n m i rb V lo) (j : Nat) : w.frozen? ⟨bd, j, none⟩ = false := by obtain ⟨⟨C, c1, _⟩, _⟩ := h; exact c1.frozen j
theorem Tab.someTop (h : Tab w bd n m i rb V lo) {k : Nat} (h2 : k ≤ n) : ∃ u, w.cell? ⟨bd, k, none⟩ = some u := by
  obtain ⟨⟨C, c1, c2, c3⟩, _⟩ := h
  exact ⟨C[k], (c1.cell k).trans (Array.getElem?_eq_getElem (by omega))⟩
/-- a store outside of the filled rows and of the top row -/
theorem Tab.far (h : Tab w bd n m i rb V lo) {p : Addr} (u : Value) (h1 : bd ≠ p.block) (h2 : ∀ k, i ≤ k → k ≤ n → rb k ≠ p.block) : Tab (w.setCell p u) bd n m i rb V lo := by
  obtain ⟨⟨C, c1, c2, c3⟩, h4, h5, h6⟩ := h
  refine ⟨⟨C, c1.far h1 u, c2, c3⟩, fun k k1 k2 => ?_, h5, h6⟩
  obtain ⟨D, d1, d2, d3⟩ := h4 k k1 k2
  exact ⟨D, d1.far (h2 k k1 k2) u, d2, d3⟩
/-- the top row's cell i - 1 is set to a new row -/
theorem Tab.hang (h : Tab w bd n m i rb V lo) {k b : Nat} (hk : k < i) : Tab (w.setCell ⟨bd, k, none⟩ (.slice (some ⟨b, 0, none⟩) (m + 1) (m + 1))) bd n m i rb V lo := by
  obtain ⟨⟨C, c1, c2, c3⟩, h4, h5, h6⟩ := h
  refine ⟨⟨C.setIfInBounds k (.slice (some ⟨b, 0, none⟩) (m + 1) (m + 1)), c1.set_ k _, by simpa using c2, fun j j1 j2 => ?_⟩, fun j k1 k2 => ?_, h5, h6⟩
  · rw [Array.getElem?_setIfInBounds_ne (by omega)]; exact c3 j j1 j2
  · obtain ⟨D, d1, d2, d3⟩ := h4 j k1 k2
    exact ⟨D, d1.far (by have := h6 j k1 k2; show rb j ≠ bd; omega) _, d2, d3⟩
end
/-- the row that is being filled, from column j on; the top row points to it -/
structure Cur (w : World) (bd m k b j : Nat) (V : Nat → Int) : Prop where
  top : w.cell? ⟨bd, k, none⟩ = some (.slice (some ⟨b, 0, none⟩) (m + 1) (m + 1))
  row : ∃ D : Array Value, Blk w b 3 D ∧ D.size = m + 1 ∧ ∀ l, j ≤ l → l ≤ m → D[l]? = some (.int .i64 (V l))
section
variable {w : World} {bd m k b j : Nat} {V : Nat → Int}
theorem Cur.put (h : Cur w bd m k b (j + 1) V) (hb : bd ≠ b) (hj : j ≤ m) {x : Int} (hx : V j = x) : Cur (w.setCell ⟨b, j, none⟩ (.int .i64 x)) bd m k b j V := by
  obtain ⟨h1, D, d1, d2, d3⟩ := h
  refine ⟨?_, D.setIfInBounds j (.int .i64 x), d1.set_ j _, by simpa using d2, fun l l1 l2 => ?_⟩
  · rw [World.cell?_setCell_other w _ _ _ (fun e => hb (congrArg Addr.block e).symm)]; exact h1
  · by_cases hl : l = j
    · subst hl; rw [Array.getElem?_setIfInBounds_self_of_lt (by omega), hx]
    · rw [Array.getElem?_setIfInBounds_ne (by omega)]; exact d3 l (by omega) l2
theorem Cur.cell (h : Cur w bd m k b j V) {l : Nat} (h1 : j ≤ l) (h2 : l ≤ m) : w.cell? ⟨b, l, none⟩ = some (.int .i64 (V l)) := by
  obtain ⟨_, D, d1, d2, d3⟩ := h
  exact (d1.cell l).trans (d3 l h1 h2)
theorem Cur.frozen (h : Cur w bd m k b j V) (l : Nat) : w.frozen? ⟨b, l, none⟩ = false := by
  obtain ⟨_, D, d1, _⟩ := h; exact d1.frozen l
theorem Cur.some (h : Cur w bd m k b j V) {l : Nat} (h2 : l ≤ m) : ∃ u, w.cell? ⟨b, l, none⟩ = some u := by
  obtain ⟨_, D, d1, d2, d3⟩ := h
  exact ⟨D[l], (d1.cell l).trans (Array.getElem?_eq_getElem (by omega))⟩
theorem Cur.lt (h : Cur w bd m k b j V) : b < w.heap.size := by obtain ⟨_, D, d1, _⟩ := h; exact d1.lt
end
theorem Cur.via {w w' : World} {bd m k b j : Nat} {V : Nat → Int} (h : Cur w bd m k b j V) (hbd : bd < w.heap.size) (hb : Below w.heap.size w w') : Cur w' bd m k b j V := by
  obtain ⟨h1, D, d1, d2⟩ := h
  exact ⟨(hb.cell (p := ⟨bd, k, none⟩) hbd).trans h1, D, d1.via hb, d2⟩
/-- while the row of block b is being filled; block g holds the costs -/
structure InR (w : World) (bd n m k b j : Nat) (rb : Nat → Nat) (V : Nat → Nat → Int) (ct : TypeId) (cs : Array Value) (wr : World) : Prop where
  tab : Tab wr bd n m (k + 1) rb V w.heap.size
  cur : Cur wr bd m k b j (V k)
  con : bd = w.heap.size + 1 → Blk wr w.heap.size ct cs
  bel : Below w.heap.size w wr
theorem InR.via {w wr wa : World} {bd n m k b j : Nat} {rb : Nat → Nat} {V : Nat → Nat → Int} {ct : TypeId} {cs : Array Value} (h : InR w bd n m k b j rb V ct cs wr) (hb : Below wr.heap.size wr wa) : InR w bd n m k b j rb V ct cs wa :=
  ⟨h.tab.via hb, h.cur.via h.tab.lt hb, fun e => (h.con e).via hb, h.bel.via hb⟩
theorem InR.dr {w wr : World} {bd n m k b j : Nat} {rb : Nat → Nat} {V : Nat → Nat → Int} {ct : TypeId} {cs : Array Value} (h : InR w bd n m k b j rb V ct cs wr) : InR w bd n m k b j rb V ct cs wr.drew := h.via (Below.refl _ _).drew
theorem InR.drN {w wr : World} {bd n m k b j : Nat} {rb : Nat → Nat} {V : Nat → Nat → Int} {ct : TypeId} {cs : Array Value} (h : InR w bd n m k b j rb V ct cs wr) (q : Nat) : InR w bd n m k b j rb V ct cs (wr.drewN q) := h.via (below_drewN (Below.refl _ _) q)
theorem InR.put {w wr : World} {bd n m k b j : Nat} {rb : Nat → Nat} {V : Nat → Nat → Int} {ct : TypeId} {cs : Array Value} (h : InR w bd n m k b (j + 1) rb V ct cs wr) (hb : bd < b) (hu : ∀ k', k + 1 ≤ k' → k' ≤ n → rb k' < b) (hj : j ≤ m) {x : Int} (hx : V k j = x) :
    InR w bd n m k b j rb V ct cs (wr.setCell ⟨b, j, none⟩ (.int .i64 x)) :=
  ⟨h.tab.far (p := ⟨b, j, none⟩) _ (Nat.ne_of_lt hb) (fun k' h1 h2 => Nat.ne_of_lt (hu k' h1 h2)), h.cur.put (Nat.ne_of_lt hb) hj hx, fun e => (h.con e).far (p := ⟨b, j, none⟩) (by have := h.tab.lo; show w.heap.size ≠ b; omega) _, h.bel.setCell (p := ⟨b, j, none⟩) (by have := h.tab.lo; show w.heap.size ≤ b; omega) _⟩
/-- the filled row joins the table -/
theorem Tab.join {w : World} {bd n m k b lo : Nat} {rb : Nat → Nat} {V : Nat → Nat → Int} (h : Tab w bd n m (k + 1) rb V lo) (c : Cur w bd m k b 0 (V k)) (hk : k ≤ n) (hb : bd < b) :
    Tab w bd n m k (fun i => if i = k then b else rb i) V lo := by
  obtain ⟨⟨C, c1, c2, c3⟩, h4, h5, h6⟩ := h
  refine ⟨⟨C, c1, c2, fun j j1 j2 => ?_⟩, fun j j1 j2 => ?_, h5, fun j j1 j2 => ?_⟩
  · by_cases hj : j = k
    · subst hj; rw [if_pos rfl, ← c1.cell j]; exact c.top
    · rw [if_neg hj]; exact c3 j (by omega) j2
  · by_cases hj : j = k
    · subst hj; rw [if_pos rfl]; obtain ⟨_, D, d1, d2, d3⟩ := c; exact ⟨D, d1, d2, fun l hl => d3 l (Nat.zero_le _) hl⟩
    · rw [if_neg hj]; exact h4 j (by omega) j2
  · by_cases hj : j = k
    · rw [if_pos hj]; exact hb
    · rw [if_neg hj]; exact h6 j (by omega) j2
end Go.Proofs.YtbfcnfgkccgbiaaGreatDoor



namespace Go.Proofs.YtbfcnfgkccgbiaaGreatDoor
open Go.RowKit

/-- the least of three, of an alignment with the costs c0 (insert), c1 (delete), c2 (replace) -/
def gR (c0 c1 c2 a b c : Int) : Int := if a + c2 ≤ b + c1 then (if a + c2 ≤ c + c0 then a + c2 else c + c0) else (if b + c1 ≤ c + c0 then b + c1 else c + c0)
theorem gR_least {c0 c1 c2 : Int} (h0 : 0 ≤ c0) (h1 : 0 ≤ c1) (h2 : 0 ≤ c2) : Least c0 c1 (gR c0 c1 c2) where
  p0 := h0
  p1 := h1
  lo a b c := by unfold gR; intros; split <;> split <;> omega
  hi a b c := by unfold gR; split <;> split <;> omega

def TabP (w : World) (n m : Nat) (V : Nat → Nat → Int) (e : Ending) (w' : World) : Prop :=
  ∃ bd rb, e = .returned (.slice (some ⟨bd, 0, none⟩) (n + 1) (n + 1)) ∧ Tab w' bd n m 0 rb V w.heap.size ∧ Below w.heap.size w w'

end Go.Proofs.YtbfcnfgkccgbiaaGreatDoor

