/- Texts JD, laid together. -/
import Derived.Test.YthkldiehokblcaaJC


namespace Go.Proofs.Ythkldiehokblcaa
open Go.RowKit

def okT (T : Int) (t : Int) : Bool := decide (0 ≤ t) && decide (t < T)
def chkW (T : Int) (most : Nat) (xs : List Int) : Int := if most < xs.length then 2 else if (xs.any fun t => !okT T t) = true then 1 else 0
set_option maxRecDepth 100000 in
set_option maxHeartbeats 1000000 in
theorem idxI_c (fid : Nat) (he : ∀ (args : Array Value) (w : World), (callFunc fid args).run Try.prog w = .ok (.enter fid args) w) (caps : Array Value) (A : Option Addr) (n c : Nat) (xs : List Int) (p : Int → Bool) (w : World) (h : Ints w A n c xs) (hn : n ≤ 1000000)
    (hf : ∀ w' x, Below w.heap.size w w' → x ∈ xs → Calls Try.prog fid (#[.int .i64 x] ++ caps) w' fun e w'' => e = .returned (.bool (p x)) ∧ Below w'.heap.size w' w'') :
    Calls Try.prog 48 #[.slice A n c, .func (.func fid) #[] caps] w (IdxFP p xs w) := by
  have H := Lib.hid h
  have HF := Lib.hid hf
  clear h hf
  go_enter Try.func48, Try.ntmps48
  go_wp2_with fail
  go_loopw [8] (fun i wr => ∃ j : Nat, i = .int .i64 j ∧ j ≤ n ∧ Hid (∀ (k : Nat) x, k < j → xs[k]? = some x → p x = false) ∧ Hid (Below w.heap.size w wr)) (fun i _ => n - (intOf i).toNat)
  case atStart => exact ⟨0, rfl, Nat.zero_le _, Lib.hid (fun k x h => absurd h (Nat.not_lt_zero _)), Lib.hid (Below.refl _ _)⟩
  case round =>
    obtain ⟨j, rfl, hj, HN, HB⟩ := hrel
    by_cases hjl : j < n
    · obtain ⟨b1, o1, rfl, hb1, hc⟩ := (H.out.via HB.out).at_ hjl
      have hlen := H.out.len
      obtain ⟨x, hx⟩ : ∃ x, xs[j]? = some x := ⟨_, List.getElem?_eq_getElem (by omega)⟩
      have e6 : xs.getD j 0 = x := by simp [List.getD_eq_getElem?_getD, hx]
      rw [e6] at hc
      have i0 : (0 : Int) ≤ (j : Int) := by omega
      have i1 : (j : Int) < (n : Int) := by omega
      have HX := Lib.hid hx
      clear hx hb1 e6 hlen
      go_wp2_with fail
      clear hc
      refine (HF.out wr x HB.out (List.mem_of_getElem? HX.out)).mono ?_
      rintro e w2 ⟨rfl, hb2⟩
      have HB2 := Lib.hid (HB.out.via hb2)
      clear hb2
      cases hp : p x
      case false =>
        have HP := Lib.hid hp
        clear hp
        go_wp2_with fail
        exact ⟨⟨j + 1, by go_num, by omega, Lib.hid (fun k y hk hy => by
          rcases Nat.lt_or_ge k j with h1 | h1
          · exact HN.out k y h1 hy
          · obtain rfl : k = j := by omega
            rw [HX.out] at hy; cases hy; exact HP.out), HB2⟩, by simp [intOf]; omega⟩
      case true =>
        have HP := Lib.hid hp
        clear hp
        go_wp2_with fail
        go_ret
        exact ⟨j, rfl, HB2.out, Or.inr ⟨j, rfl, ⟨x, HX.out, HP.out⟩, HN.out⟩⟩
    · go_wp2_with fail
      go_ret
      exact ⟨-1, rfl, HB.out, Or.inl ⟨rfl, fun x hx => by
        obtain ⟨k, hk⟩ := List.getElem?_of_mem hx
        have := (List.getElem?_eq_some_iff.1 hk).1
        have := H.out.len
        exact HN.out k x (by omega) hk⟩⟩
set_option maxHeartbeats 1000000 in
theorem conI_c (fid : Nat) (he : ∀ (args : Array Value) (w : World), (callFunc fid args).run Try.prog w = .ok (.enter fid args) w) (caps : Array Value) (A : Option Addr) (n c : Nat) (xs : List Int) (p : Int → Bool) (w : World) (h : Ints w A n c xs) (hn : n ≤ 1000000)
    (hf : ∀ w' x, Below w.heap.size w w' → x ∈ xs → Calls Try.prog fid (#[.int .i64 x] ++ caps) w' fun e w'' => e = .returned (.bool (p x)) ∧ Below w'.heap.size w' w'') :
    Calls Try.prog 29 #[.slice A n c, .func (.func fid) #[] caps] w fun e w' => e = .returned (.bool (xs.any p)) ∧ Below w.heap.size w w' := by
  have HC := Lib.hid (idxI_c fid he caps A n c xs p w h hn hf)
  clear h hf
  go_enter Try.func29, Try.ntmps29
  go_wp2_with fail
  refine HC.out.mono ?_
  rintro e w1 ⟨r, rfl, hb, hr⟩
  have HB := Lib.hid hb
  have HV := Lib.hid (show decide (0 ≤ r) = xs.any p by
    rcases hr with ⟨rfl, h0⟩ | ⟨i, rfl, ⟨x, hx, hp⟩, -⟩
    · rw [decide_eq_false (by omega)]
      exact (List.any_eq_false.2 fun x hx => by rw [h0 x hx]; simp).symm
    · rw [decide_eq_true (by omega)]
      exact (List.any_eq_true.2 ⟨x, List.mem_of_getElem? hx, hp⟩).symm)
  obtain ⟨bv, hbv⟩ : ∃ bv, decide (0 ≤ r) = bv := ⟨_, rfl⟩
  have HW := Lib.hid (show bv = xs.any p by rw [← hbv]; exact HV.out)
  clear hr hb HV
  go_wp2_with fail
  go_ret
  exact ⟨by rw [HW.out]; rfl, HB.out⟩
theorem letI_c (bg : Nat) (T N S : Int) (A : Option Addr) (n c : Nat) (x : Int) (w : World) (hg : Blk w bg 24 (giCells T N S A n c)) :
    Calls Try.prog 41 (#[.int .i64 x] ++ #[.pointer (some ⟨bg, 0, none⟩)]) w (TellB w (!okT T x)) := by
  unfold giCells at hg
  obtain ⟨b0, h0⟩ : ∃ b, decide (x < 0) = b := ⟨_, rfl⟩
  obtain ⟨b1, h1⟩ : ∃ b, decide (T ≤ x) = b := ⟨_, rfl⟩
  have HV := Lib.hid (show (!okT T x) = (b0 || b1) by
    rw [← h0, ← h1]; unfold okT
    by_cases a : x < 0
    · rw [dlt a, dgt (by omega : ¬ 0 ≤ x)]; rfl
    · rw [dge a, dle (by omega : 0 ≤ x)]
      by_cases b : T ≤ x
      · rw [dle b, dge (by omega : ¬ x < T)]; rfl
      · rw [dgt b, dlt (by omega : x < T)]; rfl)
  have chg := hg.cell
  have fhg := hg.frozen
  have lhg := hg.lt
  cases b0 <;> cases b1 <;>
  · go_enter Try.func41, Try.ntmps41
    go_wp2_with fail
    go_ret
    exact ⟨by rw [HV.out]; rfl, Below.refl _ _⟩
theorem ref2_c (bg : Nat) (T N S : Int) (hT : 1 ≤ T ∧ T ≤ 8) (A : Option Addr) (n c : Nat) (x : Int) (w : World) (hg : Blk w bg 24 (giCells T N S A n c)) :
    Calls Try.prog 30 (#[.int .i64 x] ++ #[.pointer (some ⟨bg, 0, none⟩)]) w (TellB w (!okT T x)) := by
  unfold giCells at hg
  have hTS : IntKind.i64.wrap (T - 1) = T - 1 := by rw [IntKind.wrap_i64]; omega
  have HV := Lib.hid (show okT T x = (decide (0 ≤ x) && decide (x ≤ T - 1)) by unfold okT; congr 1; exact decide_eq_decide.2 ⟨fun h => by omega, fun h => by omega⟩)
  have chg := hg.cell
  have fhg := hg.frozen
  have lhg := hg.lt
  go_enter Try.func30, Try.ntmps30
  go_wp2_with fail
  refine (in_c x 0 (T - 1) w).mono ?_
  rintro e w' ⟨rfl, rfl⟩
  rw [← HV.out]
  generalize okT T x = bv at *
  go_wp2_with fail
  go_ret
  exact ⟨rfl, Below.refl _ _⟩
set_option maxRecDepth 100000 in
set_option maxHeartbeats 1000000 in
theorem wordI_c (T N S : Int) (hT : 1 ≤ T ∧ T ≤ 8) (Ag : Option Addr) (ng cg : Nat) (A : Option Addr) (n c most : Nat) (xs : List Int) (w : World) (h : Ints w A n c xs) (hm : most ≤ 100000) :
    Calls Try.prog 17 #[.agg #[.int .i64 T, .int .i64 N, .int .i64 S, .slice Ag ng cg], .slice A n c, .int .i64 (most : Int)] w (IntO w (chkW T most xs)) := by
  have HB0 := Lib.hid (Blk.new w 24 #[.int .i64 T, .int .i64 N, .int .i64 S, .slice Ag ng cg])
  have H := Lib.hid (h.alloc (.cells #[.int .i64 T, .int .i64 N, .int .i64 S, .slice Ag ng cg] 24))
  have HB := Lib.hid ((Below.refl w.heap.size w).al (.cells #[.int .i64 T, .int .i64 N, .int .i64 S, .slice Ag ng cg] 24))
  have HLEN := Lib.hid h.len
  have HT := Lib.hid hT
  clear h hT
  by_cases hn : most < n
  · have e1 : decide ((most : Int) < (n : Int)) = true := dlt (by omega)
    have HV := Lib.hid (show chkW T most xs = 2 by unfold chkW; rw [if_pos (by rw [HLEN.out]; exact hn)])
    go_enter Try.func17, Try.ntmps17
    go_wp2_with fail
    go_ret
    exact ⟨by rw [HV.out]; rfl, HB.out⟩
  · have e1 : decide ((most : Int) < (n : Int)) = false := dge (by omega)
    go_enter Try.func17, Try.ntmps17
    go_wp2_with fail
    refine (conI_c 41 (enters_c rfl rfl rfl) #[.pointer (some ⟨w.heap.size, 0, none⟩)] A n c xs (fun t => !okT T t) _ H.out (by omega) ?_).mono ?_
    · intro w' x hb' _
      exact letI_c w.heap.size T N S Ag ng cg x w' (HB0.out.via hb')
    rintro e w2 ⟨rfl, hb⟩
    have HF := Lib.hid (HB.out.via hb)
    clear hb e1
    cases hany : xs.any fun t => !okT T t with
    | true =>
      have HV := Lib.hid (show chkW T most xs = 1 by unfold chkW; rw [if_neg (by rw [HLEN.out]; exact hn), if_pos hany])
      clear hany
      go_wp2_with fail
      go_ret
      exact ⟨by rw [HV.out]; rfl, HF.out⟩
    | false =>
      have HV := Lib.hid (show chkW T most xs = 0 by unfold chkW; rw [if_neg (by rw [HLEN.out]; exact hn), if_neg (by rw [hany]; simp)])
      clear hany
      go_wp2_with fail
      go_ret
      exact ⟨by rw [HV.out]; rfl, HF.out⟩
set_option maxRecDepth 100000 in
set_option maxHeartbeats 1000000 in
theorem refword_c (T N S : Int) (hT : 1 ≤ T ∧ T ≤ 8) (Ag : Option Addr) (ng cg : Nat) (A : Option Addr) (n c most : Nat) (xs : List Int) (w : World) (h : Ints w A n c xs) (hm : most ≤ 100000) :
    Calls Try.prog 11 #[.agg #[.int .i64 T, .int .i64 N, .int .i64 S, .slice Ag ng cg], .slice A n c, .int .i64 (most : Int)] w (IntO w (chkW T most xs)) := by
  have HB0 := Lib.hid (Blk.new w 24 #[.int .i64 T, .int .i64 N, .int .i64 S, .slice Ag ng cg])
  have H := Lib.hid (h.alloc (.cells #[.int .i64 T, .int .i64 N, .int .i64 S, .slice Ag ng cg] 24))
  have HB := Lib.hid ((Below.refl w.heap.size w).al (.cells #[.int .i64 T, .int .i64 N, .int .i64 S, .slice Ag ng cg] 24))
  have HLEN := Lib.hid h.len
  have HT := Lib.hid hT
  clear h hT
  by_cases hn : most < n
  · have e1 : decide ((most : Int) < (n : Int)) = true := dlt (by omega)
    have HV := Lib.hid (show chkW T most xs = 2 by unfold chkW; rw [if_pos (by rw [HLEN.out]; exact hn)])
    go_enter Try.func11, Try.ntmps11
    go_wp2_with fail
    go_ret
    exact ⟨by rw [HV.out]; rfl, HB.out⟩
  · have e1 : decide ((most : Int) < (n : Int)) = false := dge (by omega)
    go_enter Try.func11, Try.ntmps11
    go_wp2_with fail
    refine (conI_c 30 (enters_c rfl rfl rfl) #[.pointer (some ⟨w.heap.size, 0, none⟩)] A n c xs (fun t => !okT T t) _ H.out (by omega) ?_).mono ?_
    · intro w' x hb' _
      exact ref2_c w.heap.size T N S HT.out Ag ng cg x w' (HB0.out.via hb')
    rintro e w2 ⟨rfl, hb⟩
    have HF := Lib.hid (HB.out.via hb)
    clear hb e1
    cases hany : xs.any fun t => !okT T t with
    | true =>
      have HV := Lib.hid (show chkW T most xs = 1 by unfold chkW; rw [if_neg (by rw [HLEN.out]; exact hn), if_pos hany])
      clear hany
      go_wp2_with fail
      go_ret
      exact ⟨by rw [HV.out]; rfl, HF.out⟩
    | false =>
      have HV := Lib.hid (show chkW T most xs = 0 by unfold chkW; rw [if_neg (by rw [HLEN.out]; exact hn), if_neg (by rw [hany]; simp)])
      clear hany
      go_wp2_with fail
      go_ret
      exact ⟨by rw [HV.out]; rfl, HF.out⟩
end Go.Proofs.Ythkldiehokblcaa

