/- Texts EK, laid together. -/
import Derived.Test.YtbfcnfgkccgbiaaGreatDoorC1


namespace Go.Proofs.YtbfcnfgkccgbiaaGreatDoor
open Go.RowKit

/-- a function that only computes a Bool -/
def BoolP (w : World) (b : Bool) (e : Ending) (w' : World) : Prop := e = .returned (.bool b) ∧ ∃ q, w' = w.drewN q
theorem BoolP.below {w w' : World} {b : Bool} {e : Ending} (h : BoolP w b e w') : e = .returned (.bool b) ∧ Below w.heap.size w w' := by
  obtain ⟨he, q, rfl⟩ := h
  exact ⟨he, below_drewN (Below.refl _ _) q⟩

/-- the first k elements agree -/
def AgreeN (xs ys : List Int) (k : Nat) : Prop := ∀ j, j < k → xs.getD j 0 = ys.getD j 0
theorem AgreeN.full {xs ys : List Int} {n : Nat} (h : AgreeN xs ys n) (hx : xs.length = n) (hy : ys.length = n) : xs = ys := by
  apply List.ext_getElem (by omega)
  intro i h1 h2
  have := h i (by omega)
  simpa [List.getD_eq_getElem?_getD, h1, h2] using this

set_option maxHeartbeats 1000000 in
theorem equal_c (A B : Option Addr) (n c m d : Nat) (xs ys : List Int) (w : World) (h1 : Ints w A n c xs) (h2 : Ints w B m d ys) (hn : n ≤ 17592186044416) :
    Calls Tryz.prog 36 #[.slice A n c, .slice B m d] w (BoolP w (decide (xs = ys))) := by
  by_cases hnm : n = m
  · subst hnm
    have k0 : ((n : Int) != (n : Int)) = false := by simp
    go_enter Tryz.func36, Tryz.ntmps36
    go_wp2_with fail
    go_loopw [13] (fun i wr => ∃ k : Nat, i = .int .i64 k ∧ k ≤ n ∧ AgreeN xs ys k ∧ ∃ q, wr = w.drewN q) (fun i _ => n - (intOf i).toNat)
    case atStart => exact ⟨0, rfl, Nat.zero_le _, fun j hj => absurd hj (by omega), 0, rfl⟩
    case round =>
      obtain ⟨k, rfl, hk, hag, q, rfl⟩ := hrel
      by_cases hlt : k < n
      · obtain ⟨b1, o1, rfl, hb1, hx⟩ := h1.at_ hlt
        obtain ⟨b2, o2, rfl, hb2, hy⟩ := h2.at_ hlt
        have i0 : (0 : Int) ≤ (k : Int) := by omega
        have i1 : (k : Int) < (n : Int) := by omega
        have H1 := Lib.hid h1.len
        have H2 := Lib.hid h2.len
        have HA := Lib.hid hag
        by_cases he : xs.getD k 0 = ys.getD k 0
        · have hag' : AgreeN xs ys (k + 1) := fun j hj => by
            rcases Nat.lt_or_ge j k with hj' | hj'
            · exact HA.out j hj'
            · obtain rfl : j = k := by omega
              exact he
          have HA' := Lib.hid hag'
          rw [he] at hx
          generalize ys.getD k 0 = y at *
          have e0 : (y != y) = false := by simp
          clear hag hag' he h1 h2
          go_wp2_with fail
          go_quiet (fail)
          go_wp2_with fail
          go_roundw
          case rel => exact ⟨k + 1, by go_num, by omega, HA'.out, _, rfl⟩
          case measure => simp [intOf]; omega
        · have hne : xs ≠ ys := fun e => he (by rw [e])
          have HN := Lib.hid hne
          generalize ys.getD k 0 = y at *
          generalize xs.getD k 0 = x at *
          have e0 : (x != y) = true := by simpa using he
          clear hag he h1 h2 hne
          go_wp2_with fail
          go_quiet (fail)
          go_wp2_with fail
          go_ret
          exact ⟨by simp [HN.out], q + nq, (World.drewN_drewN _ _ _)⟩
      · have hkn : k = n := by omega
        have hfin : xs = ys := AgreeN.full (n := n) (hkn ▸ hag) h1.len h2.len
        have HF := Lib.hid hfin
        clear hfin h1 h2 hag hkn
        go_wp2_with fail
        go_ret
        exact ⟨by simp [HF.out], _, rfl⟩
  · have k0 : ((n : Int) != (m : Int)) = true := by simp; omega
    have hne : xs ≠ ys := fun e => hnm (by rw [← h1.len, ← h2.len, e])
    have HN := Lib.hid hne
    clear hnm hne
    go_enter Tryz.func36, Tryz.ntmps36
    go_wp2_with fail
    go_ret
    exact ⟨by simp [HN.out], 0, rfl⟩
theorem equal_yes (A B : Option Addr) (n c m d : Nat) (xs ys : List Int) (w : World) (h1 : Ints w A n c xs) (h2 : Ints w B m d ys) (hn : n ≤ 17592186044416) (h : xs = ys) :
    Calls Tryz.prog 36 #[.slice A n c, .slice B m d] w fun e w' => e = .returned (.bool true) ∧ Below w.heap.size w w' :=
  (equal_c A B n c m d xs ys w h1 h2 hn).mono fun e w' hp => by
    have := hp.below
    rwa [show decide (xs = ys) = true from by simp [h]] at this
end Go.Proofs.YtbfcnfgkccgbiaaGreatDoor


