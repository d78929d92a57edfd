/- parlkeep4.EditUndone: the walk. -/
import Derived.Test.YtdccgeiniockpaaH
namespace Go.Proofs.Ytdccgeiniockpaa
open Go.RowKit

theorem applyI_len (xs ns : List Int) (n f g m : Nat) (hx : xs.length = n) (hm : ns.length = m) (hf : f ≤ g) (hg : g ≤ n) : (applyI xs f g ns).length = f + m + (n - g) := by
  simp [applyI, hx, hm]; omega
theorem undo_word (xs ns : List Int) (n f g m : Nat) (hx : xs.length = n) (hm : ns.length = m) (hf : f ≤ g) (hg : g ≤ n) : applyI (applyI xs f g ns) f (f + m) ((xs.take g).drop f) = xs := by
  unfold applyI
  have e1 : (xs.take f ++ ns ++ xs.drop g).take f = xs.take f := by
    rw [List.append_assoc, List.take_append_of_le_length (by simp; omega), List.take_take, Nat.min_self]
  have e2 : (xs.take f ++ ns ++ xs.drop g).drop (f + m) = xs.drop g := by
    rw [List.drop_append_of_le_length (by simp; omega), List.drop_of_length_le (by simp; omega)]; rfl
  rw [e1, e2]
  have e3 : xs.take f ++ (xs.take g).drop f = xs.take g := by
    have := List.take_append_drop f (xs.take g)
    rw [List.take_take, Nat.min_eq_left hf] at this
    exact this
  rw [e3]
  exact List.take_append_drop g xs
theorem undo_new (xs ns : List Int) (n f g m : Nat) (hx : xs.length = n) (hm : ns.length = m) (hf : f ≤ g) (hg : g ≤ n) : ((applyI xs f g ns).take (f + m)).drop f = ns := by
  unfold applyI
  rw [List.take_append_of_le_length (by simp; omega), List.take_of_length_le (by simp; omega), List.drop_append_of_le_length (by simp; omega), List.drop_of_length_le (by simp; omega)]
  rfl

set_option maxRecDepth 100000 in
set_option maxHeartbeats 4000000 in
theorem undone_walk (A B : Option Addr) (n c m d : Nat) (ws ls : List Int) (w : World) (h1 : Ints w A n c ws) (h2 : Ints w B m d ls) :
    Calls Try.prog 3 #[.slice A n c, .slice B m d] w fun e w' => e = .returned (.bool true) ∧ Below w.heap.size w w' := by
  go_enter Try.func3, Try.ntmps3
  go_wp2_with fail
  refine (inverse_c _ none 2 2 0 0 0 1 [1, 2] _ ⟨rfl, Nat.le_refl _, fun _ => ⟨w.heap.size, 0, rfl, fun i hi => by match i, hi with | 0, _ => simp | 1, _ => simp⟩⟩ (by omega) (by omega) (by omega) (by omega)).mono ?_
  rintro e w1 ⟨A1, c1, t1, rfl, ht1, hI1, hb1⟩
  obtain rfl : t1 = 0 := by omega
  have hB1 := ((Below.refl w.heap.size w).alloc (Nat.le_refl _) _).trans (hb1.mono (by simp))
  clear hI1 hb1 ht1
  go_wp2_with fail
  have hB1' := hB1.alloc hB1.size (.cells #[.int .i64 0, .int .i64 0, .slice A1 1 c1] 24)
  refine (word_c 3 40 A n c ws _ (h1.keep hB1' (Nat.le_refl _)) (by omega) (by omega) (by omega)).mono ?_
  rintro e w2 ⟨v, k, rfl, ho, hb2⟩
  obtain ⟨A2, c2, rfl, hI2⟩ := ho.form
  have hk : k ≤ 40 := by have := wordI_len 3 40 ws; rw [hI2.len] at this; exact this
  have hB2 := hB1'.trans (hb2.mono hB1'.size)
  clear ho hb2 hB1' hB1 h1
  generalize wordI 3 40 ws = xs at *
  go_wp2_with fail
  refine (edit_c _ 3 B m d ls _ (h2.keep hB2 (Nat.le_refl _)) (by omega) (by omega) (by omega) (by omega)).mono ?_
  rintro e w3 ⟨f, g, A3, p, c3, ns, rfl, hfg, hgk, hg3, hp, hI3, hb3⟩
  have hgk' : g ≤ k := by omega
  have hB3 := hB2.trans (hb3.mono hB2.size)
  have hJ2 := hI2.keep hb3 (Nat.le_refl _)
  clear hI2 hb3 hB2 h2 hgk
  go_wp2_with fail
  refine (apply_c A2 A3 k c2 p c3 f g xs ns _ (hJ2.alloc _) (hI3.alloc _) hfg hgk' (by omega) (by omega)).mono ?_
  rintro e w4 ⟨A4, c4, rfl, hI4, hb4⟩
  have x0 := hb4.cell (p := ⟨w3.heap.size, 0, none⟩) (by simp)
  have x1 := hb4.cell (p := ⟨w3.heap.size, 1, none⟩) (by simp)
  have x2 := hb4.cell (p := ⟨w3.heap.size, 2, none⟩) (by simp)
  simp [go_sem] at x0 x1 x2
  have hbx : w3.heap.size < w4.heap.size := by have := hb4.size; simp at this; omega
  have hB4 := (hB3.alloc hB3.size _).trans (hb4.mono (by have := hB3.size; simp; omega))
  have hK2 := (hJ2.alloc _).keep hb4 (Nat.le_refl _)
  have hK3 := (hI3.alloc _).keep hb4 (Nat.le_refl _)
  clear hJ2 hI3 hb4 hB3
  go_wp2_with fail
  refine (inverse_c A2 A3 k c2 p c3 f g xs _ hK2 hfg hgk' (by omega) (by omega)).mono ?_
  rintro e w5 ⟨A5, c5, t, rfl, ht, hI5, hb5⟩
  have t1 : f ≤ t := by omega
  have t2 : t ≤ f + p + (k - g) := by omega
  have t3 : f + p + (k - g) - (t - f) + (g - f) ≤ 2000 := by omega
  have Ht := Lib.hid ht
  have y0 := (hb5.cell (p := ⟨w3.heap.size, 0, none⟩) hbx).trans x0
  have y1 := (hb5.cell (p := ⟨w3.heap.size, 1, none⟩) hbx).trans x1
  have y2 := (hb5.cell (p := ⟨w3.heap.size, 2, none⟩) hbx).trans x2
  have hby : w3.heap.size < w5.heap.size := by have := hb5.size; omega
  have hB5 := hB4.trans (hb5.mono hB4.size)
  have hL2 := hK2.keep hb5 (Nat.le_refl _)
  have hL3 := hK3.keep hb5 (Nat.le_refl _)
  have hL4 := hI4.keep hb5 (Nat.le_refl _)
  clear hK2 hK3 hI4 hb5 hB4 x0 x1 x2 hbx ht
  obtain ⟨n4, hn4⟩ : ∃ n4, n4 = f + p + (k - g) := ⟨_, rfl⟩
  rw [← hn4] at hL4 t2 t3 ⊢
  have k4 : n4 ≤ 1000000 := by omega
  have Hn4 := Lib.hid hn4
  clear hn4
  go_wp2_with fail
  have hle4 := hL4.len
  have hleN := hL3.len
  have hleX := hL2.len
  have HU := Lib.hid (undo_word xs ns k f g p hleX hleN hfg hgk')
  have HV := Lib.hid (undo_new xs ns k f g p hleX hleN hfg hgk')
  rw [← Ht.out] at HU HV
  clear hle4 hleN hleX
  generalize applyI xs f g ns = vs at *
  refine (apply_c A4 A5 n4 c4 (g - f) c5 f t vs _ _ (hL4.alloc _) (hI5.alloc _) t1 t2 k4 t3).mono ?_
  rintro e w6 ⟨A6, c6, rfl, hI6, hb6⟩
  rw [HU.out] at hI6
  have x0 := (hb6.cell (p := ⟨w3.heap.size, 0, none⟩) (by simp; omega))
  have x1 := (hb6.cell (p := ⟨w3.heap.size, 1, none⟩) (by simp; omega))
  have x2 := (hb6.cell (p := ⟨w3.heap.size, 2, none⟩) (by simp; omega))
  have v0 := hb6.cell (p := ⟨w5.heap.size, 0, none⟩) (by simp)
  have v1 := hb6.cell (p := ⟨w5.heap.size, 1, none⟩) (by simp)
  have v2 := hb6.cell (p := ⟨w5.heap.size, 2, none⟩) (by simp)
  simp [go_sem] at v0 v1 v2
  simp [go_sem, hby, y0, y1, y2] at x0 x1 x2
  have hbz : w5.heap.size < w6.heap.size := by have := hb6.size; simp at this; omega
  have hB6 := (hB5.alloc hB5.size _).trans (hb6.mono (by have := hB5.size; simp; omega))
  have hM2 := (hL2.alloc _).keep hb6 (Nat.le_refl _)
  have hM3 := (hL3.alloc _).keep hb6 (Nat.le_refl _)
  have hM4 := (hL4.alloc _).keep hb6 (Nat.le_refl _)
  clear hL2 hL3 hL4 hb6 hB5 y0 y1 y2 hI5
  have k6 : f + (g - f) + (n4 - t) ≤ 1000000 := by omega
  generalize f + (g - f) + (n4 - t) = n6 at *
  go_wp2_with fail
  refine (inverse_c A4 A5 n4 c4 (g - f) c5 f t vs _ hM4 t1 t2 k4 t3).mono ?_
  rintro e w7 ⟨A7, c7, t', rfl, ht', hI7, hb7⟩
  obtain rfl : t' = g := by omega
  rw [HV.out] at hI7
  have y0 := (hb7.cell (p := ⟨w3.heap.size, 0, none⟩) (by simp; omega)).trans x0
  have y1 := (hb7.cell (p := ⟨w3.heap.size, 1, none⟩) (by simp; omega)).trans x1
  have y2 := (hb7.cell (p := ⟨w3.heap.size, 2, none⟩) (by simp; omega)).trans x2
  have hlx : w3.heap.size < w7.heap.size := by have := hb7.size; omega
  have hB7 := hB6.trans (hb7.mono hB6.size)
  have hN2 := hM2.keep hb7 (Nat.le_refl _)
  have hN3 := hM3.keep hb7 (Nat.le_refl _)
  have hN6 := hI6.keep hb7 (Nat.le_refl _)
  clear hM2 hM3 hM4 hI6 hb7 hB6 x0 x1 x2 v0 v1 v2 ht' Ht
  go_wp2_with fail
  refine (equal_yes A6 A2 n6 c6 k c2 xs xs _ (hN6.alloc _) (hN2.alloc _) (by omega) rfl).mono ?_
  rintro e w8 ⟨rfl, hb8⟩
  have x0 := (hb8.cell (p := ⟨w3.heap.size, 0, none⟩) (by simp; omega))
  have x1 := (hb8.cell (p := ⟨w3.heap.size, 1, none⟩) (by simp; omega))
  have x2 := (hb8.cell (p := ⟨w3.heap.size, 2, none⟩) (by simp; omega))
  have v0 := hb8.cell (p := ⟨w7.heap.size, 0, none⟩) (by simp)
  have v1 := hb8.cell (p := ⟨w7.heap.size, 1, none⟩) (by simp)
  have v2 := hb8.cell (p := ⟨w7.heap.size, 2, none⟩) (by simp)
  simp [go_sem] at v0 v1 v2
  simp [go_sem, hlx, y0, y1, y2] at x0 x1 x2
  have hB8 := (hB7.alloc hB7.size _).trans (hb8.mono (by have := hB7.size; simp; omega))
  have hO3 := (hN3.alloc _).keep hb8 (Nat.le_refl _)
  have hO7 := (hI7.alloc _).keep hb8 (Nat.le_refl _)
  clear hN3 hN2 hN6 hI7 hb8 hB7 y0 y1 y2
  go_wp2_with fail
  refine (equal_yes A7 A3 (t - f) c7 p c3 ns ns _ hO7 hO3 (by omega) rfl).mono ?_
  rintro e w9 ⟨rfl, hb9⟩
  have hB9 := hB8.trans (hb9.mono hB8.size)
  clear x0 x1 x2 v0 v1 v2 hO3 hO7 hb9 hB8
  go_wp2_with fail
  go_ret
  exact ⟨rfl, hB9⟩
end Go.Proofs.Ytdccgeiniockpaa
