/- edit.apply, Apply, Inverse; slices.Equal at []int. -/
import Derived.Test.YtdccgeiniockpaaF
namespace Go.Proofs.Ytdccgeiniockpaa
open Go.RowKit

/-- what an edit does to a word -/
def applyI (xs : List Int) (f g : Nat) (ns : List Int) : List Int := xs.take f ++ ns ++ xs.drop g
/-- a function that hands back a word -/
def WordP (w : World) (n : Nat) (xs : List Int) (e : Ending) (w' : World) : Prop := ∃ A c, e = .returned (.slice A n c) ∧ Ints w' A n c xs ∧ Below w.heap.size w w'

set_option maxRecDepth 100000 in
set_option maxHeartbeats 2000000 in
theorem apply_in (A A2 : Option Addr) (n c m c2 f g : Nat) (xs ns : List Int) (w : World) (h1 : Ints w A n c xs) (h2 : Ints w A2 m c2 ns) (hfg : f ≤ g) (hgn : g ≤ n) (k1 : n ≤ 1000000) (k2 : m ≤ 1000000) :
    Calls Try.prog 42 #[.slice A n c, .agg #[.int .i64 (f : Int), .int .i64 (g : Int), .slice A2 m c2]] w (WordP w (f + m + (n - g)) (applyI xs f g ns)) := by
  have hc := h1.le
  have b1 : (0 : Int) ≤ (f : Int) := by omega
  have b2 : (f : Int) ≤ (c : Int) := by omega
  have b3 : (0 : Int) ≤ (g : Int) := by omega
  have b4 : (g : Int) ≤ (n : Int) := by omega
  obtain ⟨A3, hA3, hI3⟩ := h1.tail hgn
  have hI1 := h1.head (m := f) (by omega)
  clear h1
  go_enter Try.func42, Try.ntmps42
  go_wp2_with fail
  go_region_held3 (fun w' => w'.cell? ⟨w.heap.size, 0, none⟩ = some (.int .i64 (f : Int)) ∧ w'.cell? ⟨w.heap.size, 1, none⟩ = some (.int .i64 (g : Int)) ∧ w'.cell? ⟨w.heap.size, 2, none⟩ = some (.slice A2 m c2)) (first | (simp [go_sem]; done) | (refine ⟨?_, ?_, ?_⟩ <;> (rw [hb.cell (by simp; omega)]; simp [go_sem]))) ((go_at_call 65; refine (concat_c (w.heap.size + 1) A A2 A3 f c m c2 (n - g) (c - g) _ _ _ _ ((hI1.alloc _).alloc _).drew ((h2.alloc _).alloc _).drew ((hI3.alloc _).alloc _).drew (by have := Blk.new (w.alloc (.cells #[.int .i64 (f : Int), .int .i64 (g : Int), .slice A2 m c2] 24)) 22 #[.slice A f c, .slice A2 m c2, .slice A3 (n - g) (c - g)]; simpa using this.drew) (by omega) k2 (by omega)).mono ?_; rintro e w' ⟨B, d, rfl, hB, hb⟩))
  go_wp2
  go_ret
  exact ⟨_, _, rfl, hB, (((Below.refl _ _).alloc (Nat.le_refl _) _).alloc (by simp) _).drew.trans (hb.mono (by simp; omega))⟩

theorem check_ok (n f g : Nat) (A : Option Addr) (m c : Nat) (w : World) (h1 : f ≤ g) (h2 : g ≤ n) (h3 : n - (g - f) + m ≤ 2000) (h4 : n ≤ 1000000) :
    Calls Try.prog 39 #[.int .i64 (n : Int), .agg #[.int .i64 (f : Int), .int .i64 (g : Int), .slice A m c]] w fun e w' => e = .returned (.int .i64 0) ∧ Below w.heap.size w w' :=
  (check_c (n : Int) f g A m c w (by omega) (by omega) (by omega) (by omega) (by omega) (by omega) (by omega)).mono fun e w' ⟨h, hb⟩ => ⟨by
    rw [h]; unfold checkI; rw [if_neg (by omega), if_neg (by omega)], hb⟩

/-- a function that hands back a word and no error -/
def WordOk (w : World) (n : Nat) (xs : List Int) (e : Ending) (w' : World) : Prop := ∃ A c, e = .returned (.tuple #[.slice A n c, .int .i64 0]) ∧ Ints w' A n c xs ∧ Below w.heap.size w w'

set_option maxHeartbeats 1000000 in
theorem apply_c (A A2 : Option Addr) (n c m c2 f g : Nat) (xs ns : List Int) (w : World) (h1 : Ints w A n c xs) (h2 : Ints w A2 m c2 ns) (hfg : f ≤ g) (hgn : g ≤ n) (k1 : n ≤ 1000000) (k2 : n - (g - f) + m ≤ 2000) :
    Calls Try.prog 14 #[.slice A n c, .agg #[.int .i64 (f : Int), .int .i64 (g : Int), .slice A2 m c2]] w (WordOk w (f + m + (n - g)) (applyI xs f g ns)) := by
  go_enter Try.func14, Try.ntmps14
  go_wp2_with fail
  refine (check_ok n f g A2 m c2 _ hfg hgn k2 k1).mono ?_
  rintro e w1 ⟨rfl, hb1⟩
  have z0 := hb1.cell (p := ⟨w.heap.size, 0, none⟩) (by simp)
  have z1 := hb1.cell (p := ⟨w.heap.size, 1, none⟩) (by simp)
  have z2 := hb1.cell (p := ⟨w.heap.size, 2, none⟩) (by simp)
  simp [go_sem] at z0 z1 z2
  have hb0 := ((Below.refl w.heap.size w).alloc (Nat.le_refl _) (.cells #[.int .i64 (f : Int), .int .i64 (g : Int), .slice A2 m c2] 24)).trans (hb1.mono (by simp))
  clear hb1
  go_wp2_with fail
  refine (apply_in A A2 n c m c2 f g xs ns w1 (h1.keep hb0 (Nat.le_refl _)) (h2.keep hb0 (Nat.le_refl _)) hfg hgn k1 (by omega)).mono ?_
  rintro e w2 ⟨B, d, rfl, hB, hb2⟩
  go_wp2_with fail
  go_ret2
  exact ⟨_, _, rfl, hB, hb0.trans (hb2.mono hb0.size)⟩

/-- the inverse of an edit -/
def InvOk (w : World) (f m k : Nat) (ns : List Int) (e : Ending) (w' : World) : Prop := ∃ A c t, e = .returned (.tuple #[.agg #[.int .i64 (f : Int), .int .i64 ((t : Nat) : Int), .slice A k c], .int .i64 0]) ∧ t = f + m ∧ Ints w' A k c ns ∧ Below w.heap.size w w'

set_option maxHeartbeats 2000000 in
theorem inverse_c (A A2 : Option Addr) (n c m c2 f g : Nat) (xs : List Int) (w : World) (h1 : Ints w A n c xs) (hfg : f ≤ g) (hgn : g ≤ n) (k1 : n ≤ 1000000) (k2 : n - (g - f) + m ≤ 2000) :
    Calls Try.prog 11 #[.slice A n c, .agg #[.int .i64 (f : Int), .int .i64 (g : Int), .slice A2 m c2]] w (InvOk w f m (g - f) ((xs.take g).drop f)) := by
  have hc := h1.le
  have b1 : (0 : Int) ≤ (f : Int) := by omega
  have b2 : (f : Int) ≤ (g : Int) := by omega
  have b3 : (g : Int) ≤ (c : Int) := by omega
  have q1 : IntKind.i64.wrap ((f : Int) + m) = (f : Int) + m := IntWalk.i64_in _ (by omega)
  obtain ⟨A3, hA3, hI3⟩ := h1.mid hfg hgn
  clear h1
  go_enter Try.func11, Try.ntmps11
  go_wp2_with fail
  refine (check_ok n f g A2 m c2 _ hfg hgn k2 k1).mono ?_
  rintro e w1 ⟨rfl, hb1⟩
  have z0 := hb1.cell (p := ⟨w.heap.size, 0, none⟩) (by simp; omega)
  have z1 := hb1.cell (p := ⟨w.heap.size, 1, none⟩) (by simp; omega)
  have z2 := hb1.cell (p := ⟨w.heap.size, 2, none⟩) (by simp; omega)
  have r0 := hb1.cell (p := ⟨w.heap.size + 1, 0, none⟩) (by simp)
  have r1 := hb1.cell (p := ⟨w.heap.size + 1, 1, none⟩) (by simp)
  have r2 := hb1.cell (p := ⟨w.heap.size + 1, 2, none⟩) (by simp)
  have rf := fun i => hb1.frozen (p := ⟨w.heap.size + 1, i, none⟩) (by simp)
  simp [go_sem] at z0 z1 z2 r0 r1 r2 rf
  have hsz : w.heap.size + 2 ≤ w1.heap.size := by have := hb1.size; simpa using this
  have hb0 := (((Below.refl w.heap.size w).alloc (Nat.le_refl _) (.cells #[.int .i64 (f : Int), .int .i64 (g : Int), .slice A2 m c2] 24)).alloc (by simp) (.cells #[.int .i64 0, .int .i64 0, .slice none 0 0] 24)).trans (hb1.mono (by simp; omega))
  go_wp2_with fail
  go_region_held3 (fun w' => w'.cell? ⟨w.heap.size, 0, none⟩ = some (.int .i64 (f : Int)) ∧ w'.cell? ⟨w.heap.size, 1, none⟩ = some (.int .i64 (g : Int)) ∧ w'.cell? ⟨w.heap.size, 2, none⟩ = some (.slice A2 m c2)) (first | (simp [go_sem, *]; done) | (refine ⟨?_, ?_, ?_⟩ <;> (rw [hb.cell (by simp; omega)]; simp [go_sem, z0, z1, z2]))) ((go_at_call 40; refine (clone_s A3 (g - f) (c - f) _ _ (hI3.keep hb0 (Nat.le_refl _)).drew (by omega)).mono ?_; rintro e w2 ⟨B, d, rfl, hB, hb⟩; have s0 := (hb.cell (p := ⟨w.heap.size + 1, 0, none⟩) (by simp; omega)).trans r0; have s1 := (hb.cell (p := ⟨w.heap.size + 1, 1, none⟩) (by simp; omega)).trans r1; have s2 := (hb.cell (p := ⟨w.heap.size + 1, 2, none⟩) (by simp; omega)).trans r2; have sf := fun i => (hb.frozen (p := ⟨w.heap.size + 1, i, none⟩) (by simp; omega)).trans (rf i)))
  go_wp2_with fail
  refine bodyPost_ret (v := .tuple #[.agg #[.int .i64 (f : Int), .int .i64 ((f + m : Nat) : Int), .slice B (g - f) d], .int .i64 0]) (by simp [results, Try.results11, go_sem, s0, s1, s2]) rfl ?_
  refine ⟨_, _, f + m, rfl, rfl, ?_, ?_⟩
  · exact (((hB.setCell (by simp; omega) _).setCell (by simp; omega) _).setCell (by simp; omega) _).toInts
  · exact (((hb0.drew.trans (hb.mono hb0.size)).setCell (by simp) _).setCell (by simp) _).setCell (by simp) _
end Go.Proofs.Ytdccgeiniockpaa

