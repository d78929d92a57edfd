/- gram.Word of a word over the terminals; costs that Best takes. -/
import Derived.Test.YtghnkgbingcbcaaGD
namespace Go.Proofs.Ytghnkgbingcbcaa
open Go.RowKit

set_option maxRecDepth 100000 in
set_option maxHeartbeats 1000000 in
theorem rngB_c (x : Int) (w : World) (h1 : 1 ≤ x) (h2 : x ≤ 100) : Calls Try.prog 27 #[.int .i64 x] w fun e w' => e = .returned (.bool false) ∧ w' = w := by
  have e1 : decide (x < 1) = false := by simp; omega
  have e2 : decide (100 < x) = false := by simp; omega
  go_enter Try.func27, Try.ntmps27
  go_wp2_with fail
  go_ret
  exact ⟨rfl, rfl⟩
set_option maxRecDepth 100000 in
set_option maxHeartbeats 1000000 in
theorem indexB_c (A : Option Addr) (n c : Nat) (xs : List Int) (w : World) (h : Ints w A n c xs) (hn : n ≤ 1000) (hx : ∀ x ∈ xs, 1 ≤ x ∧ x ≤ 100) :
    Calls Try.prog 55 #[.slice A n c, .func (.func 27) #[] #[]] w (IntS w (-1)) := by
  have H := Lib.hid h
  have HX := Lib.hid hx
  clear h hx
  go_enter Try.func55, Try.ntmps55
  go_wp2_with fail
  go_loopw [8] (fun i wr => ∃ k : Nat, i = .int .i64 k ∧ k ≤ n ∧ wr = w) (fun i _ => n - (intOf i).toNat)
  case atStart => exact ⟨0, rfl, Nat.zero_le _, rfl⟩
  case round =>
    obtain ⟨k, rfl, hk, rfl⟩ := hrel
    by_cases hkn : k < n
    · obtain ⟨b1, o1, rfl, hb1, hc⟩ := H.out.at_ hkn
      have i0 : (0 : Int) ≤ (k : Int) := by omega
      have i1 : (k : Int) < (n : Int) := by omega
      obtain ⟨x, hxx⟩ : ∃ x, x = xs.getD k 0 := ⟨_, rfl⟩
      rw [← hxx] at hc
      have hr : 1 ≤ x ∧ x ≤ 100 := by
        have hl := H.out.len
        rw [hxx, List.getD_eq_getElem?_getD, List.getElem?_eq_getElem (by omega)]
        exact HX.out _ (List.getElem_mem _)
      clear hxx
      go_wp2_with (go_at_call 27; refine (rngB_c x _ hr.1 hr.2).mono ?_; rintro e w' ⟨rfl, rfl⟩)
      exact ⟨⟨k + 1, by go_num, by omega, by trivial⟩, by simp [intOf]; omega⟩
    · go_wp2_with fail
      go_ret
      exact ⟨rfl, rfl⟩
set_option maxRecDepth 100000 in
set_option maxHeartbeats 1000000 in
theorem containsB_c (A : Option Addr) (n c : Nat) (xs : List Int) (w : World) (h : Ints w A n c xs) (hn : n ≤ 1000) (hx : ∀ x ∈ xs, 1 ≤ x ∧ x ≤ 100) :
    Calls Try.prog 26 #[.slice A n c, .func (.func 27) #[] #[]] w fun e w' => e = .returned (.bool false) ∧ w = w' := by
  have H := Lib.hid h
  have HX := Lib.hid hx
  clear h hx
  go_enter Try.func26, Try.ntmps26
  go_wp2_with fail
  refine (indexB_c A n c xs w H.out hn HX.out).mono ?_
  rintro e w' ⟨rfl, rfl⟩
  go_wp2_with fail
  go_ret
  exact ⟨rfl, rfl⟩

set_option maxRecDepth 100000 in
set_option maxHeartbeats 1000000 in
theorem letter_c (bg : Nat) (g : Gr) (A : Option Addr) (n c : Nat) (x : Int) (w : World) (hg : Blk w bg 28 (grCells g A n c)) (h1 : 0 ≤ x) (h2 : x < (g.terms : Int)) :
    Calls Try.prog 54 #[.int .i64 x, .pointer (some ⟨bg, 0, none⟩)] w fun e w' => e = .returned (.bool false) ∧ w' = w := by
  unfold grCells at hg
  have e1 : decide (x < 0) = false := by simp; omega
  have e2 : decide ((g.terms : Int) ≤ x) = false := by simp; omega
  have chg := hg.cell
  have fhg := hg.frozen
  have lhg := hg.lt
  go_enter Try.func54, Try.ntmps54
  go_wp2_with fail
  go_ret
  exact ⟨rfl, rfl⟩
set_option maxRecDepth 100000 in
set_option maxHeartbeats 1000000 in
theorem indexW_c (bg : Nat) (g : Gr) (Ag : Option Addr) (ng cg : Nat) (A : Option Addr) (n c : Nat) (xs : List Int) (w : World) (hg : Blk w bg 28 (grCells g Ag ng cg)) (h : Ints w A n c xs) (hn : n ≤ 100000) (hx : ∀ x ∈ xs, 0 ≤ x ∧ x < (g.terms : Int)) :
    Calls Try.prog 55 #[.slice A n c, .func (.func 54) #[] #[.pointer (some ⟨bg, 0, none⟩)]] w (IntS w (-1)) := by
  have H := Lib.hid h
  have HX := Lib.hid hx
  have HG := Lib.hid hg
  clear h hx hg
  go_enter Try.func55, Try.ntmps55
  go_wp2_with fail
  go_loopw [8] (fun i wr => ∃ k : Nat, i = .int .i64 k ∧ k ≤ n ∧ wr = w) (fun i _ => n - (intOf i).toNat)
  case atStart => exact ⟨0, rfl, Nat.zero_le _, rfl⟩
  case round =>
    obtain ⟨k, rfl, hk, rfl⟩ := hrel
    by_cases hkn : k < n
    · obtain ⟨b1, o1, rfl, hb1, hc⟩ := H.out.at_ hkn
      have i0 : (0 : Int) ≤ (k : Int) := by omega
      have i1 : (k : Int) < (n : Int) := by omega
      obtain ⟨x, hxx⟩ : ∃ x, x = xs.getD k 0 := ⟨_, rfl⟩
      rw [← hxx] at hc
      have hr : 0 ≤ x ∧ x < (g.terms : Int) := by
        have hl := H.out.len
        rw [hxx, List.getD_eq_getElem?_getD, List.getElem?_eq_getElem (by omega)]
        exact HX.out _ (List.getElem_mem _)
      clear hxx
      go_wp2_with (go_at_call 54; refine (letter_c bg g Ag ng cg x _ HG.out hr.1 hr.2).mono ?_; rintro e w' ⟨rfl, rfl⟩)
      exact ⟨⟨k + 1, by go_num, by omega, by trivial⟩, by simp [intOf]; omega⟩
    · go_wp2_with fail
      go_ret
      exact ⟨rfl, rfl⟩
set_option maxRecDepth 100000 in
set_option maxHeartbeats 1000000 in
theorem containsW_c (bg : Nat) (g : Gr) (Ag : Option Addr) (ng cg : Nat) (A : Option Addr) (n c : Nat) (xs : List Int) (w : World) (hg : Blk w bg 28 (grCells g Ag ng cg)) (h : Ints w A n c xs) (hn : n ≤ 100000) (hx : ∀ x ∈ xs, 0 ≤ x ∧ x < (g.terms : Int)) :
    Calls Try.prog 26 #[.slice A n c, .func (.func 54) #[] #[.pointer (some ⟨bg, 0, none⟩)]] w fun e w' => e = .returned (.bool false) ∧ w = w' := by
  have H := Lib.hid h
  have HX := Lib.hid hx
  have HG := Lib.hid hg
  clear h hx hg
  go_enter Try.func26, Try.ntmps26
  go_wp2_with fail
  refine (indexW_c bg g Ag ng cg A n c xs w HG.out H.out hn HX.out).mono ?_
  rintro e w' ⟨rfl, rfl⟩
  go_wp2_with fail
  go_ret
  exact ⟨rfl, rfl⟩
set_option maxRecDepth 100000 in
set_option maxHeartbeats 1000000 in
theorem word_ok (g : Gr) (Ag : Option Addr) (ng cg : Nat) (A : Option Addr) (n c most : Nat) (xs : List Int) (w : World) (h : Ints w A n c xs) (hn : n ≤ most) (hm : most ≤ 100000) (hx : ∀ x ∈ xs, 0 ≤ x ∧ x < (g.terms : Int)) :
    Calls Try.prog 25 #[grVal g Ag ng cg, .slice A n c, .int .i64 (most : Int)] w (IntO w 0) := by
  simp only [grVal]
  have HB0 := Lib.hid (Blk.new w 28 #[.int .i64 (g.terms : Int), .int .i64 (g.nons : Int), .int .i64 (g.start : Int), .slice Ag ng cg])
  have H := Lib.hid (h.alloc (.cells #[.int .i64 (g.terms : Int), .int .i64 (g.nons : Int), .int .i64 (g.start : Int), .slice Ag ng cg] 28))
  have HB := Lib.hid ((Below.refl w.heap.size w).al (.cells #[.int .i64 (g.terms : Int), .int .i64 (g.nons : Int), .int .i64 (g.start : Int), .slice Ag ng cg] 28))
  have HX := Lib.hid hx
  have e1 : decide ((most : Int) < (n : Int)) = false := by simp; omega
  clear h hx
  go_enter Try.func25, Try.ntmps25
  go_wp2_with fail
  refine (containsW_c w.heap.size g Ag ng cg A n c xs _ HB0.out H.out (by omega) HX.out).mono ?_
  rintro e w' ⟨rfl, rfl⟩
  go_wp2_with fail
  go_ret
  exact ⟨rfl, HB.out⟩
end Go.Proofs.Ytghnkgbingcbcaa
