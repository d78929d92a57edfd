/- parlmake.Word at []int. -/
import Derived.Test.YtghnkgbingcbcaaKR
namespace Go.Proofs.Ytghnkgbingcbcaa
open Go.RowKit

def wordI (t : Int) (q : Nat) (ls : List Int) : List Int := (ls.take q).map (belowI · t)
theorem wordI_len (t : Int) (q : Nat) (ls : List Int) : (wordI t q ls).length ≤ q := by simp [wordI]; omega
theorem wordI_mem (t : Int) (q : Nat) (ls : List Int) (ht : 1 ≤ t) : ∀ x ∈ wordI t q ls, 0 ≤ x ∧ x < t := by
  intro x hx
  obtain ⟨y, _, rfl⟩ := List.mem_map.1 hx
  exact ⟨belowI_lo y t ht, belowI_hi y t ht⟩
theorem take_snoc {α : Type} (l : List α) (d : α) (k : Nat) (h : k < l.length) : l.take (k + 1) = l.take k ++ [l.getD k d] := by
  rw [List.take_succ_eq_append_getElem h]; simp [List.getD_eq_getElem?_getD, h]

/-- after k rounds -/
def WordRel (w : World) (t : Int) (n q : Nat) (ls : List Int) (k : Nat) (v : Value) (wr : World) : Prop :=
  k ≤ n ∧ k ≤ q ∧ OwnI wr w.heap.size v k ((ls.take k).map (belowI · t)) ∧ Below w.heap.size w wr
def WordPost (w : World) (t : Int) (q : Nat) (ls : List Int) (e : Ending) (w' : World) : Prop :=
  ∃ v k, e = .returned v ∧ OwnI w' w.heap.size v k (wordI t q ls) ∧ Below w.heap.size w w'
theorem WordRel.done {w : World} {t : Int} {n q : Nat} {ls : List Int} {k : Nat} {v : Value} {wr : World} (h : WordRel w t n q ls k v wr) (hl : ls.length = n) (hk : k = q ∨ k = n) : WordPost w t q ls (.returned v) wr := by
  obtain ⟨h1, h2, h3, h4⟩ := h
  refine ⟨v, k, rfl, ?_, h4⟩
  have : wordI t q ls = (ls.take k).map (belowI · t) := by
    unfold wordI
    rcases hk with rfl | rfl
    · rfl
    · rw [List.take_of_length_le (by omega), List.take_of_length_le (by omega)]
  rw [this]; exact h3

set_option maxHeartbeats 1000000 in
theorem word_c (t : Int) (q : Nat) (A : Option Addr) (n c : Nat) (ls : List Int) (w : World) (h : Ints w A n c ls) (ht : 1 ≤ t) (ht2 : t ≤ 1000000) (hq : q ≤ 1000000) :
    Calls Try.prog 9 #[.int .i64 t, .int .i64 (q : Int), .slice A n c] w (WordPost w t q ls) := by
  have HL := Lib.hid h.len
  go_enter Try.func9, Try.ntmps9
  go_wp2
  go_loopw [7, 12] (fun v i wr => ∃ k : Nat, i = .int .i64 k ∧ WordRel w t n q ls k v wr) (fun _ i _ => n - (intOf i).toNat)
  case atStart => exact ⟨0, rfl, Nat.zero_le _, Nat.zero_le _, OwnI.nil _ _, Below.refl _ _⟩
  case round =>
    obtain ⟨k, rfl, hr⟩ := hrel
    obtain ⟨A1, c1, rfl, hI1⟩ := hr.2.2.1.form
    have hkn := hr.1
    have hkq := hr.2.1
    by_cases hlt : k < n
    · obtain ⟨b, off, hA, hb, hx⟩ := h.at_ hlt
      have hx' : wr.cell? ⟨b, off + k, none⟩ = some (.int .i64 (ls.getD k 0)) := (hr.2.2.2.cell (p := ⟨b, off + k, none⟩) hb).trans hx
      have hsn := take_snoc ls 0 k (by rw [h.len]; exact hlt)
      have HS := Lib.hid hsn
      have HR := Lib.hid hr
      subst hA
      generalize ls.getD k 0 = x at *
      by_cases hkq' : k = q
      · subst hkq'
        clear hsn hr hx h hI1
        have HE := Lib.hid (HR.out.done HL.out (Or.inl rfl))
        clear HR
        go_wp2_with fail
        go_ret
        exact HE.out
      · have k1 : ((k : Int) == (q : Int)) = false := by simp; omega
        have hown := hr.2.2.1
        have hsz := hr.2.2.2.size
        clear hsn hr hx h hI1
        go_wp2_with (first | (go_at_call 17; refine (below_c x t _ (by omega) (by omega)).mono ?_; rintro e w' ⟨rfl, rfl⟩) | (at_builtin; refine wpList_append_ints _ rfl (.tmp 20) (.tmp 24) rfl w.heap.size (.slice A1 k c1) k _ rfl (hown.alloc _) (some ⟨wr.heap.size, 0, none⟩) 1 1 [belowI x t] rfl (Ints.one _ _ _) (by omega) (by simp; omega) ?_; intro Av1 cv1 w1 hown1 hg1 hat1))
        go_roundw
        case rel =>
          refine ⟨k + 1, by go_num, by omega, by omega, ?_, ?_⟩
          · rw [HS.out, List.map_append]; exact hown1
          · exact (HR.out.2.2.1.alloc _).grown (HR.out.2.2.2.alloc hsz _) hg1 (Nat.le_refl _) (by simp; omega)
        case measure => simp [intOf]; omega
    · clear h hI1
      have HE := Lib.hid (hr.done HL.out (Or.inr (by omega)))
      clear hr
      go_wp2_with fail
      go_ret
      exact HE.out
end Go.Proofs.Ytghnkgbingcbcaa
