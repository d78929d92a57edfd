/- Slices of bools, terminals; what completions say of each other; the walk of HoleMayFill: it returns true. No condition. -/
import Derived.Test.YtghnkgbingcbcaaHQ
import Derived.Test.YtghnkgbingcbcaaZN
namespace Go.Proofs.Ytghnkgbingcbcaa
open Go.RowKit

def IdxBP (w : World) (xs : List Bool) (v : Bool) (e : Ending) (w' : World) : Prop := ∃ r : Int, e = .returned (.int .i64 r) ∧ (0 ≤ r ↔ v ∈ xs) ∧ w' = w
set_option maxRecDepth 100000 in
set_option maxHeartbeats 1000000 in
theorem indexBo_c (A : Option Addr) (n c : Nat) (xs : List Bool) (v : Bool) (w : World) (ok : Nat → Prop) (h : Sl BoE ok w A n c xs) (hn : n ≤ 1000000) :
    Calls Try.prog 43 #[.slice A n c, .bool v] w (IdxBP w xs v) := by
  have H := Lib.hid h
  clear h
  go_enter Try.func43, Try.ntmps43
  go_wp2_with fail
  go_loopw [8] (fun i wr => ∃ k : Nat, i = .int .i64 k ∧ k ≤ n ∧ Hid (∀ j, j < k → xs[j]? ≠ some v) ∧ wr = w) (fun i _ => n - (intOf i).toNat)
  case atStart => exact ⟨0, rfl, Nat.zero_le _, Lib.hid (fun j h => by omega), rfl⟩
  case round =>
    obtain ⟨k, rfl, hk, HN, rfl⟩ := hrel
    by_cases hkn : k < n
    · obtain ⟨b1, o1, x, x', rfl, -, hb1, hy, hxy, hc⟩ := H.out.at_ hkn
      obtain rfl : x = x' := hxy
      have hx := hc 0 _ rfl
      simp only [BoE, Nat.mul_one, Nat.add_zero] at hx
      have i0 : (0 : Int) ≤ (k : Int) := by omega
      have i1 : (k : Int) < (n : Int) := by omega
      have HX := Lib.hid hy
      clear hy hc
      by_cases e : v = x
      · have he : (v == x) = true := by simpa using e
        have HE := Lib.hid e
        clear e
        go_wp2_with fail
        go_ret
        refine ⟨k, rfl, ⟨fun _ => ?_, fun _ => by omega⟩, rfl⟩
        rw [HE.out]
        exact List.mem_of_getElem? HX.out
      · have he : (v == x) = false := by simpa using e
        have HE := Lib.hid e
        clear e
        go_wp2_with fail
        refine ⟨⟨k + 1, by go_num, by omega, Lib.hid fun j hj => ?_, by trivial⟩, by simp [intOf]; omega⟩
        by_cases e2 : j = k
        · rw [e2, HX.out]; exact fun h => HE.out (Option.some.inj h).symm
        · exact HN.out j (by omega)
    · go_wp2_with fail
      go_ret
      refine ⟨-1, rfl, ⟨fun h => by omega, fun h => ?_⟩, rfl⟩
      exfalso
      obtain ⟨j, hj, e⟩ := List.getElem_of_mem h
      have hl := H.out.len
      refine HN.out j (by omega) ?_
      rw [List.getElem?_eq_getElem hj, e]
set_option maxRecDepth 100000 in
set_option maxHeartbeats 1000000 in
theorem containsBo_c (A : Option Addr) (n c : Nat) (xs : List Bool) (v : Bool) (w : World) (ok : Nat → Prop) (h : Sl BoE ok w A n c xs) (hn : n ≤ 1000000) :
    Calls Try.prog 19 #[.slice A n c, .bool v] w fun e w' => e = .returned (.bool (decide (v ∈ xs))) ∧ w' = w := by
  have H := Lib.hid h
  clear h
  go_enter Try.func19, Try.ntmps19
  go_wp2_with fail
  refine (indexBo_c A n c xs v w ok H.out hn).mono ?_
  rintro e w' ⟨r, rfl, hr, rfl⟩
  have HR := Lib.hid hr
  clear hr
  go_wp2_with fail
  go_ret
  refine ⟨?_, rfl⟩
  rw [show decide (v ∈ xs) = decide (0 ≤ r) from decide_eq_decide.2 HR.out.symm]
  rfl


set_option maxRecDepth 100000 in
set_option maxHeartbeats 2000000 in
theorem equalBo_one (ok ok' : Nat → Prop) (A B : Option Addr) (c d : Nat) (w : World) (h : Sl BoE ok w A 1 c [true]) (h' : Sl BoE ok' w B 1 d [true]) :
    Calls Try.prog 15 #[.slice A 1 c, .slice B 1 d] w (TellB w true) := by
  obtain ⟨b1, o1, x, x', rfl, -, hb1, hy, hxy, hc⟩ := h.at_ (i := 0) (by omega)
  obtain rfl : x = x' := hxy
  have hx := hc 0 _ rfl
  simp only [BoE, Nat.mul_one, Nat.add_zero] at hx
  obtain ⟨b2, o2, y, y', rfl, -, hb2, hy2, hxy2, hc2⟩ := h'.at_ (i := 0) (by omega)
  obtain rfl : y = y' := hxy2
  have hx2 := hc2 0 _ rfl
  simp only [BoE, Nat.mul_one, Nat.add_zero] at hx2
  simp at hy hy2
  subst hy; subst hy2
  clear h h' hc hc2
  go_enter Try.func15, Try.ntmps15
  go_wp2_with fail
  go_loopw [13] (fun i wr => ∃ k : Nat, i = .int .i64 k ∧ k ≤ 1 ∧ Below w.heap.size w wr) (fun i _ => 1 - (intOf i).toNat)
  case atStart => exact ⟨0, rfl, Nat.zero_le _, Below.refl _ _⟩
  case round =>
    obtain ⟨k, rfl, hk, hb⟩ := hrel
    by_cases hk0 : k = 0
    · subst hk0
      have c1 := (hb.cell (p := ⟨b1, o1 + 0, none⟩) hb1).trans hx
      have c2 := (hb.cell (p := ⟨b2, o2 + 0, none⟩) hb2).trans hx2
      have HB := Lib.hid hb
      clear hb
      simp only [Nat.add_zero] at c1 c2
      go_upto_region 6 with fail
      go_quiet (fail)
      have HB2 := Lib.hid (below_drewN HB.out nq)
      clear c1 c2 HB
      generalize wr.drewN nq = w5 at *
      go_wp2_with fail
      exact ⟨⟨1, by go_num, by omega, HB2.out⟩, by simp [intOf]⟩
    · obtain rfl : k = 1 := by omega
      have HB := Lib.hid hb
      clear hb
      go_wp2_with fail
      go_ret
      exact ⟨rfl, HB.out⟩

def TermsP (w : World) (n : Nat) (xs : List Int) (e : Ending) (w' : World) : Prop :=
  ∃ B d, e = .returned (.slice B n d) ∧ Own CeE 48 (fun _ => False) w' w.heap.size (.slice B n d) n (xs.map fun x => (true, x)) ∧ Below w.heap.size w w'
set_option maxRecDepth 100000 in
set_option maxHeartbeats 2000000 in
theorem terminals_c (A : Option Addr) (n c : Nat) (xs : List Int) (w : World) (h : Ints w A n c xs) (hn : n ≤ 100000) :
    Calls Try.prog 16 #[.slice A n c] w (TermsP w n xs) := by
  have H := Lib.hid h
  have hl := h.len
  have HL := Lib.hid hl
  clear h hl
  go_enter Try.func16, Try.ntmps16
  go_wp2_with fail
  go_loopw [3, 8] (fun a q wr => ∃ (k : Nat) (Ab : Option Addr) (cb : Nat), q = .int .i64 k ∧ k ≤ n ∧ a = .slice Ab k cb ∧ Own CeE 48 (fun _ => False) wr w.heap.size (.slice Ab k cb) k ((xs.take k).map fun x => (true, x)) ∧ Below w.heap.size w wr) (fun _ q _ => n - (intOf q).toNat)
  case atStart => exact ⟨0, none, 0, rfl, Nat.zero_le _, rfl, Own.nil _ _, Below.refl _ _⟩
  case round =>
    obtain ⟨k, Ab, cb, rfl, hk, rfl, how, hbe⟩ := hrel
    by_cases hkn : k < n
    · obtain ⟨b, off, hA, hb, hx⟩ := (H.out.keep hbe (Nat.le_refl _)).at_ hkn
      have HS := Lib.hid (take_snoc xs 0 k (by rw [HL.out]; exact hkn))
      subst hA
      generalize xs.getD k 0 = x at *
      have i0 : (0 : Int) ≤ (k : Int) := by omega
      have i1 : (k : Int) < (n : Int) := by omega
      have HOW := Lib.hid (how.al (.cells #[.bool true, .int .i64 x] 48))
      have HBE := Lib.hid (hbe.al (.cells #[.bool true, .int .i64 x] 48))
      have Bn := Blk.new wr 48 #[.bool true, .int .i64 x]
      have hws := hbe.size
      clear how hbe
      go_wp2_with (at_builtin; refine wpList_append_ce _ rfl (.tmp 12) (.tmp 15) rfl w.heap.size (.slice Ab k cb) k _ rfl HOW.out wr.heap.size (true, x) rfl ((Bn.cell 0).trans rfl) ((Bn.cell 1).trans rfl) (by omega) (by simp; omega) ?_; intro A' c' w7 ho1 hg1 ha1)
      have HOW7 := Lib.hid (show Own CeE 48 (fun _ => False) w7 w.heap.size (.slice A' (k + 1) c') (k + 1) ((xs.take (k + 1)).map fun x => (true, x)) by
        rw [HS.out, List.map_append]; exact ho1)
      have HBE7 := Lib.hid (HBE.out.grown hg1 (by simp; omega) fun j e => (HOW.out.lt j e).1)
      clear ho1 hg1 ha1 Bn HOW HBE
      exact ⟨⟨k + 1, A', c', by go_num, by omega, rfl, HOW7.out, HBE7.out⟩, by simp [intOf]; omega⟩
    · obtain rfl : k = n := by omega
      have HF := Lib.hid (show Own CeE 48 (fun _ => False) wr w.heap.size (.slice Ab k cb) k (xs.map fun x => (true, x)) by
        rw [List.take_of_length_le (by rw [HL.out]; exact Nat.le_refl _)] at how; exact how)
      have HBE := Lib.hid hbe
      clear how hbe
      go_wp2_with fail
      go_ret
      exact ⟨_, _, rfl, HF.out, HBE.out⟩
end Go.Proofs.Ytghnkgbingcbcaa
