/- Words for int slices in memory, and the leaf contract of parlmake.Below. No condition beyond what each theorem states. -/
import Derived.Test.YtghnkgbingcbcaaRows
import Derived.WalkKit
import Derived.WalkSpells
import Derived.WalkLawsBesides
import Derived.BigQuiet
import Derived.Deep.QuietTactic
import Derived.Deep.RegionHeld3
import Derived.StillTailTactics
import Derived.Deep.DeepFit
import Derived.Deep.DeepCutAuto
import Derived.Deep.LoopGhost
import Derived.Deep.DeepMust
import Derived.Lib.Hide
import Derived.Maps.AppendAt
import Derived.Deep.AppendLies
namespace Go.Proofs.Ytghnkgbingcbcaa
open Go.RowKit

theorem block_of_add (a : Addr) (n : Nat) : (a.add n).block = a.block := by unfold Addr.add; split <;> rfl

/-- the slice value '.slice A n c' reads as xs in w -/
def Ints (w : World) (A : Option Addr) (n c : Nat) (xs : List Int) : Prop :=
  xs.length = n ∧ n ≤ c ∧ (0 < n → ∃ b off, A = some ⟨b, off, none⟩ ∧ ∀ i, i < n → w.cell? ⟨b, off + i, none⟩ = some (.int .i64 (xs.getD i 0)))

section
variable {w w' : World} {A : Option Addr} {n c : Nat} {xs : List Int}
theorem Ints.len (h : Ints w A n c xs) : xs.length = n := h.1
theorem Ints.le (h : Ints w A n c xs) : n ≤ c := h.2.1
theorem Ints.nil (w : World) : Ints w none 0 0 [] := ⟨rfl, Nat.le_refl _, fun h => absurd h (by omega)⟩
theorem Ints.at_ (h : Ints w A n c xs) {k : Nat} (hk : k < n) : ∃ b off, A = some ⟨b, off, none⟩ ∧ b < w.heap.size ∧ w.cell? ⟨b, off + k, none⟩ = some (.int .i64 (xs.getD k 0)) := by
  obtain ⟨b, off, e, hc⟩ := h.2.2 (by omega)
  have := hc k hk
  exact ⟨b, off, e, World.block_lt_of_cell? w _ this, this⟩
theorem Ints.keep (h : Ints w A n c xs) {B : Nat} (hb : Below B w w') (hB : w.heap.size ≤ B) : Ints w' A n c xs :=
  ⟨h.1, h.2.1, fun hn => by
    obtain ⟨b, off, e, hc⟩ := h.2.2 hn
    refine ⟨b, off, e, fun i hi => ?_⟩
    rw [hb.cell (p := ⟨b, off + i, none⟩)]
    · exact hc i hi
    · exact Nat.lt_of_lt_of_le (World.block_lt_of_cell? w _ (hc i hi)) hB⟩
theorem Ints.drewN (h : Ints w A n c xs) (k : Nat) : Ints (w.drewN k) A n c xs := h
theorem Ints.cut (h : Ints w A n c xs) {l m : Nat} (hl : l ≤ m) (hm : m ≤ n) :
    Ints w (if c = l then A else A.map (·.add (l * 1))) (m - l) (c - l) ((xs.take m).drop l) := by
  have hle := h.2.1
  refine ⟨by simp [h.1]; omega, by omega, fun hn => ?_⟩
  obtain ⟨b, off, e, hc⟩ := h.2.2 (by omega)
  rw [if_neg (by omega)]
  refine ⟨b, off + l, ?_, fun i hi => ?_⟩
  · subst e; simp only [Option.map_some, Nat.mul_one]
    unfold Addr.add
    split
    · rename_i h0; simp [h0]
    · rfl
  · have := hc (l + i) (by omega)
    rw [← Nat.add_assoc] at this
    rw [this]
    congr 2
    simp only [List.getD_eq_getElem?_getD, List.getElem?_drop, List.getElem?_take]
    rw [if_pos (by omega)]
theorem Ints.head (h : Ints w A n c xs) {m : Nat} (hm : m ≤ n) : Ints w A m c (xs.take m) := by
  refine ⟨by simp [h.1]; omega, Nat.le_trans hm h.2.1, fun hn => ?_⟩
  obtain ⟨b, off, e, hc⟩ := h.2.2 (by omega)
  refine ⟨b, off, e, fun i hi => ?_⟩
  rw [hc i (by omega)]
  congr 2
  simp only [List.getD_eq_getElem?_getD, List.getElem?_take]
  rw [if_pos hi]
theorem Ints.tail (h : Ints w A n c xs) {l : Nat} (hl : l ≤ n) : ∃ A', (if c = l then A else Option.map (fun x => x.add l) A) = A' ∧ Ints w A' (n - l) (c - l) (xs.drop l) := by
  have h' := Ints.cut h hl (Nat.le_refl n)
  rw [List.take_of_length_le (by rw [h.1]; exact Nat.le_refl _), Nat.mul_one] at h'
  exact ⟨_, rfl, h'⟩
theorem Ints.mid (h : Ints w A n c xs) {l m : Nat} (hl : l ≤ m) (hm : m ≤ n) : ∃ A', (if c = l then A else Option.map (fun x => x.add l) A) = A' ∧ Ints w A' (m - l) (c - l) ((xs.take m).drop l) := by
  have h' := Ints.cut h hl hm
  rw [Nat.mul_one] at h'
  exact ⟨_, rfl, h'⟩
theorem Ints.drew (h : Ints w A n c xs) : Ints w.drew A n c xs := h
end

theorem ints_of_cells {w : World} {x : Addr} {len cap : Nat} {zs : List Int} (hl : len ≤ cap) (hz : zs.length = cap) (hc : ∀ i, i < zs.length → w.cell? (x.add i) = some (.int .i64 (zs.getD i 0))) : Ints w (some x) len cap (zs.take len) := by
  refine ⟨by simp; omega, hl, fun hn => ?_⟩
  obtain ⟨b, off, spot⟩ := x
  have hspot : spot = none := by
    have h0 := hc 0 (by omega)
    simp only [Addr.add, if_true] at h0
    cases spot with
    | none => rfl
    | some sp =>
      unfold World.cell? at h0
      split at h0 <;> simp at h0
  subst hspot
  refine ⟨b, off, rfl, fun i hi => ?_⟩
  have := hc i (by omega)
  rw [Addr.add_lit] at this
  rw [this]
  congr 2
  simp only [List.getD_eq_getElem?_getD, List.getElem?_take]
  rw [if_pos hi]

@[go_sem] theorem World.cell?_setCell_apart (w : World) (b i c j : Nat) (v : Value) (h : b ≠ c) : (w.setCell ⟨b, i, none⟩ v).cell? ⟨c, j, none⟩ = w.cell? ⟨c, j, none⟩ :=
  World.cell?_setCell_other w _ _ v (fun e => h (congrArg Addr.block e))

/-- block g is just the cells cs, of element type t, none frozen -/
def Blk (w : World) (g : Nat) (t : TypeId) (cs : Array Value) : Prop := w.heap[g]? = some (.cells cs t (0, 0))
section
variable {w w' : World} {g : Nat} {t : TypeId} {cs : Array Value}
theorem Blk.lt (h : Blk w g t cs) : g < w.heap.size := (Array.getElem?_eq_some_iff.1 h).1
theorem Blk.cell (h : Blk w g t cs) (i : Nat) : w.cell? ⟨g, i, none⟩ = cs[i]? := cell_of_row w g i cs t (0, 0) h
theorem Blk.frozen (h : Blk w g t cs) (i : Nat) : w.frozen? ⟨g, i, none⟩ = false := by
  unfold Blk at h
  simp [World.frozen?, h]
theorem Blk.new (w : World) (t : TypeId) (cs : Array Value) : Blk (w.alloc (.cells cs t)) w.heap.size t cs := heap_alloc_new w _
theorem Blk.drew (h : Blk w g t cs) : Blk w.drew g t cs := h
theorem Blk.alloc (h : Blk w g t cs) (o : Obj) : Blk (w.alloc o) g t cs := (Below.heap_alloc w o g h.lt).trans h
theorem Blk.set_ (h : Blk w g t cs) (i : Nat) (u : Value) : Blk (w.setCell ⟨g, i, none⟩ u) g t (cs.setIfInBounds i u) := by
  unfold Blk at h ⊢
  simp [World.setCell, Array.getElem?_modify, h]
theorem Blk.far (h : Blk w g t cs) {p : Addr} (hp : g ≠ p.block) (u : Value) : Blk (w.setCell p u) g t cs := (Below.heap_setCell w p u g hp).trans h
theorem Blk.below {B : Nat} (h : Blk w g t cs) (hb : Below B w w') (hg : g < B) : Blk w' g t cs := (hb.block g hg).trans h
theorem Blk.grown {row : Option Nat} (h : Blk w g t cs) (hb : w.grownBy w' row) (hg : some g ≠ row) : Blk w' g t cs := (hb.block g h.lt hg).trans h
end

/-! facts carried over a call ('via'), over a new block ('al'), over a draw ('dr') -/
section
variable {w w' w0 : World} {A : Option Addr} {n c g : Nat} {xs : List Int} {t : TypeId} {cs : Array Value}
theorem Ints.via (h : Ints w A n c xs) (hb : Below w.heap.size w w') : Ints w' A n c xs := h.keep hb (Nat.le_refl _)
theorem Ints.al (h : Ints w A n c xs) (o : Obj) : Ints (w.alloc o) A n c xs := h.keep ((Below.refl w.heap.size w).alloc (Nat.le_refl _) o) (Nat.le_refl _)
theorem Ints.dr (h : Ints w A n c xs) : Ints w.drew A n c xs := h
theorem Blk.via (h : Blk w g t cs) (hb : Below w.heap.size w w') : Blk w' g t cs := h.below hb h.lt
theorem Blk.al (h : Blk w g t cs) (o : Obj) : Blk (w.alloc o) g t cs := h.alloc o
theorem Blk.dr (h : Blk w g t cs) : Blk w.drew g t cs := h
theorem _root_.Go.RowKit.Below.via (h : Below w0.heap.size w0 w) (hb : Below w.heap.size w w') : Below w0.heap.size w0 w' := h.trans (hb.mono h.size)
theorem _root_.Go.RowKit.Below.al (h : Below w0.heap.size w0 w) (o : Obj) : Below w0.heap.size w0 (w.alloc o) := h.alloc h.size o
theorem _root_.Go.RowKit.Below.dr (h : Below w0.heap.size w0 w) : Below w0.heap.size w0 w.drew := h.drew
/-- a store elsewhere -/
theorem Ints.far (h : Ints w A n c xs) {p : Addr} (hp : ∀ ad, A = some ad → ad.block ≠ p.block) (u : Value) : Ints (w.setCell p u) A n c xs := by
  refine ⟨h.1, h.2.1, fun hn => ?_⟩
  obtain ⟨b, off, e, hc⟩ := h.2.2 hn
  refine ⟨b, off, e, fun i hi => ?_⟩
  rw [World.cell?_setCell_other w p ⟨b, off + i, none⟩ u (fun e' => hp _ e (by rw [e']))]
  exact hc i hi
/-- the heap is at least so large -/
def Sz (w : World) (n : Nat) : Prop := n ≤ w.heap.size
theorem Sz.via {n : Nat} (h : Sz w n) (hb : Below w.heap.size w w') : Sz w' n := Nat.le_trans h hb.size
theorem Sz.al {n : Nat} (h : Sz w n) (o : Obj) : Sz (w.alloc o) n := by unfold Sz at *; simp; omega
end

/-- parlmake.Below on plain integers -/
def belowI (x n : Int) : Int := if x.tmod n < 0 then x.tmod n + n else x.tmod n
theorem tmod_lo (x n : Int) (h : 1 ≤ n) : -n < x.tmod n := by
  rcases Int.le_total 0 x with hx | hx
  · have := Int.tmod_nonneg (b := n) hx; omega
  · have h1 := Int.tmod_lt_of_pos (-x) (show 0 < n by omega)
    rw [Int.neg_tmod] at h1; omega
theorem belowI_lo (x n : Int) (h1 : 1 ≤ n) : 0 ≤ belowI x n := by
  have := Int.tmod_lt_of_pos x (show 0 < n by omega)
  have := tmod_lo x n h1
  unfold belowI; split <;> omega
theorem belowI_hi (x n : Int) (h1 : 1 ≤ n) : belowI x n < n := by
  have := Int.tmod_lt_of_pos x (show 0 < n by omega)
  unfold belowI; split <;> omega

set_option maxHeartbeats 400000 in
theorem below_c (x n : Int) (w : World) (h1 : 1 ≤ n) (h2 : n ≤ 1000000000000) :
    Calls Try.prog 17 #[.int .i64 x, .int .i64 n] w fun e w' => e = .returned (.int .i64 (belowI x n)) ∧ w = w' := by
  have b1 := Int.tmod_lt_of_pos x (show 0 < n by omega)
  have b2 := tmod_lo x n h1
  by_cases hx : x.tmod n < 0
  all_goals
    have hv : Hid (belowI x n = _) := (show belowI x n = ite _ _ _ from rfl)
    go_enter Try.func17, Try.ntmps17
    go_wp2
    go_ret
    rw [hv.out]
    refine ⟨?_, rfl⟩
    congr 2
    repeat (first | rfl | omega | split)

end Go.Proofs.Ytghnkgbingcbcaa
