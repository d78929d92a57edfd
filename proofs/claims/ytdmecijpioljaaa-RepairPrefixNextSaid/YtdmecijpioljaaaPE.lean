/- Texts PE, PF, laid together. -/
import Derived.Test.YtdmecijpioljaaaPB
import Derived.Test.YtdmecijpioljaaaPD



namespace Go.Proofs.Ytdmecijpioljaaa
open Go.RowKit

def syVal (s : Sy) : Value := .agg #[.bool s.1, .int .i64 (s.2 : Int)]
def ruVal (r : Nat × SlV) : Value := .agg #[.int .i64 (r.1 : Int), .slice r.2.1 r.2.2.1 r.2.2.2]
/-- where the first element is that meets p -/
def IdxFP {α : Type} (p : α → Bool) (xs : List α) (w : World) (e : Ending) (w' : World) : Prop :=
  ∃ r : Int, e = .returned (.int .i64 r) ∧ Below w.heap.size w w' ∧ ((r = -1 ∧ ∀ x ∈ xs, p x = false) ∨ ∃ i : Nat, r = (i : Int) ∧ (∃ x, xs[i]? = some x ∧ p x = true) ∧ ∀ (j : Nat) x, j < i → xs[j]? = some x → p x = false)
set_option maxRecDepth 100000 in
set_option maxHeartbeats 1000000 in
theorem idxSy_c (fid : Nat) (he : ∀ (args : Array Value) (w : World), (callFunc fid args).run Try.prog w = .ok (.enter fid args) w) (caps : Array Value) (ok : Nat → Prop) (A : Option Addr) (n c : Nat) (xs : List Sy) (p : Sy → Bool) (w : World) (h : Sl SyE ok w A n c xs) (hn : n ≤ 1000000)
    (hf : ∀ w' r x, Below w.heap.size w w' → x ∈ xs → SyE.rel ok w' r x → Calls Try.prog fid (#[syVal r] ++ caps) w' fun e w'' => e = .returned (.bool (p x)) ∧ Below w'.heap.size w' w'') :
    Calls Try.prog 43 #[.slice A n c, .func (.func fid) #[] caps] w (IdxFP p xs w) := by
  have H := Lib.hid h
  have HF := Lib.hid hf
  clear h hf
  go_enter Try.func43, Try.ntmps43
  go_wp2_with fail
  go_loopw [8] (fun i wr => ∃ j : Nat, i = .int .i64 j ∧ j ≤ n ∧ Hid (∀ (k : Nat) x, k < j → xs[k]? = some x → p x = false) ∧ Hid (Below w.heap.size w wr)) (fun i _ => n - (intOf i).toNat)
  case atStart => exact ⟨0, rfl, Nat.zero_le _, Lib.hid (fun k x h => absurd h (Nat.not_lt_zero _)), Lib.hid (Below.refl _ _)⟩
  case round =>
    obtain ⟨j, rfl, hj, HN, HB⟩ := hrel
    by_cases hjl : j < n
    · obtain ⟨b1, o1, ⟨xb, xn⟩, x, rfl, -, hb1, hx, hxr, hc⟩ := (H.out.via HB.out).at_ hjl
      have c0 := hc 0 _ rfl
      have c1 := hc 1 _ rfl
      simp only [SyE, Nat.add_zero] at c0 c1
      have i0 : (0 : Int) ≤ (j : Int) := by omega
      have i1 : (j : Int) < (n : Int) := by omega
      have HX := Lib.hid hx
      have HXR := Lib.hid hxr
      clear hc hx hxr hb1
      go_wp2_with fail
      clear c0 c1
      refine (HF.out wr ⟨xb, xn⟩ x HB.out (List.mem_of_getElem? HX.out) HXR.out).mono ?_
      rintro e w2 ⟨rfl, hb2⟩
      have HB2 := Lib.hid (HB.out.via hb2)
      clear hb2
      cases hp : p x
      case false =>
        have HP := Lib.hid hp
        clear hp
        go_wp2_with fail
        exact ⟨⟨j + 1, by go_num, by omega, Lib.hid (fun k y hk hy => by
          rcases Nat.lt_or_ge k j with h1 | h1
          · exact HN.out k y h1 hy
          · obtain rfl : k = j := by omega
            rw [HX.out] at hy; cases hy; exact HP.out), HB2⟩, by simp [intOf]; omega⟩
      case true =>
        have HP := Lib.hid hp
        clear hp
        go_wp2_with fail
        go_ret
        exact ⟨j, rfl, HB2.out, Or.inr ⟨j, rfl, ⟨x, HX.out, HP.out⟩, HN.out⟩⟩
    · go_wp2_with fail
      go_ret
      exact ⟨-1, rfl, HB.out, Or.inl ⟨rfl, fun x hx => by
        obtain ⟨k, hk⟩ := List.getElem?_of_mem hx
        have := (List.getElem?_eq_some_iff.1 hk).1
        have := H.out.len
        exact HN.out k x (by omega) hk⟩⟩
set_option maxRecDepth 100000 in
set_option maxHeartbeats 1000000 in
theorem idxRu_c (fid : Nat) (he : ∀ (args : Array Value) (w : World), (callFunc fid args).run Try.prog w = .ok (.enter fid args) w) (caps : Array Value) (ok : Nat → Prop) (A : Option Addr) (n c : Nat) (xs : List Ru) (p : Ru → Bool) (w : World) (h : Sl RuE ok w A n c xs) (hn : n ≤ 1000000)
    (hf : ∀ w' r x, Below w.heap.size w w' → x ∈ xs → RuE.rel ok w' r x → Calls Try.prog fid (#[ruVal r] ++ caps) w' fun e w'' => e = .returned (.bool (p x)) ∧ Below w'.heap.size w' w'') :
    Calls Try.prog 42 #[.slice A n c, .func (.func fid) #[] caps] w (IdxFP p xs w) := by
  have H := Lib.hid h
  have HF := Lib.hid hf
  clear h hf
  go_enter Try.func42, Try.ntmps42
  go_wp2_with fail
  go_loopw [8] (fun i wr => ∃ j : Nat, i = .int .i64 j ∧ j ≤ n ∧ Hid (∀ (k : Nat) x, k < j → xs[k]? = some x → p x = false) ∧ Hid (Below w.heap.size w wr)) (fun i _ => n - (intOf i).toNat)
  case atStart => exact ⟨0, rfl, Nat.zero_le _, Lib.hid (fun k x h => absurd h (Nat.not_lt_zero _)), Lib.hid (Below.refl _ _)⟩
  case round =>
    obtain ⟨j, rfl, hj, HN, HB⟩ := hrel
    by_cases hjl : j < n
    · obtain ⟨b1, o1, ⟨xl, xA, xn, xc⟩, x, rfl, -, hb1, hx, hxr, hc⟩ := (H.out.via HB.out).at_ hjl
      have c0 := hc 0 _ rfl
      have c1 := hc 1 _ rfl
      simp only [RuE, Nat.add_zero] at c0 c1
      have i0 : (0 : Int) ≤ (j : Int) := by omega
      have i1 : (j : Int) < (n : Int) := by omega
      have HX := Lib.hid hx
      have HXR := Lib.hid hxr
      clear hc hx hxr hb1
      go_wp2_with fail
      clear c0 c1
      refine (HF.out wr ⟨xl, xA, xn, xc⟩ x HB.out (List.mem_of_getElem? HX.out) HXR.out).mono ?_
      rintro e w2 ⟨rfl, hb2⟩
      have HB2 := Lib.hid (HB.out.via hb2)
      clear hb2
      cases hp : p x
      case false =>
        have HP := Lib.hid hp
        clear hp
        go_wp2_with fail
        exact ⟨⟨j + 1, by go_num, by omega, Lib.hid (fun k y hk hy => by
          rcases Nat.lt_or_ge k j with h1 | h1
          · exact HN.out k y h1 hy
          · obtain rfl : k = j := by omega
            rw [HX.out] at hy; cases hy; exact HP.out), HB2⟩, by simp [intOf]; omega⟩
      case true =>
        have HP := Lib.hid hp
        clear hp
        go_wp2_with fail
        go_ret
        exact ⟨j, rfl, HB2.out, Or.inr ⟨j, rfl, ⟨x, HX.out, HP.out⟩, HN.out⟩⟩
    · go_wp2_with fail
      go_ret
      exact ⟨-1, rfl, HB.out, Or.inl ⟨rfl, fun x hx => by
        obtain ⟨k, hk⟩ := List.getElem?_of_mem hx
        have := (List.getElem?_eq_some_iff.1 hk).1
        have := H.out.len
        exact HN.out k x (by omega) hk⟩⟩
set_option maxHeartbeats 1000000 in
theorem conSy_c (fid : Nat) (he : ∀ (args : Array Value) (w : World), (callFunc fid args).run Try.prog w = .ok (.enter fid args) w) (caps : Array Value) (ok : Nat → Prop) (A : Option Addr) (n c : Nat) (xs : List Sy) (p : Sy → Bool) (w : World) (h : Sl SyE ok w A n c xs) (hn : n ≤ 1000000)
    (hf : ∀ w' r x, Below w.heap.size w w' → x ∈ xs → SyE.rel ok w' r x → Calls Try.prog fid (#[syVal r] ++ caps) w' fun e w'' => e = .returned (.bool (p x)) ∧ Below w'.heap.size w' w'') :
    Calls Try.prog 21 #[.slice A n c, .func (.func fid) #[] caps] w fun e w' => e = .returned (.bool (xs.any p)) ∧ Below w.heap.size w w' := by
  have HC := Lib.hid (idxSy_c fid he caps ok A n c xs p w h hn hf)
  clear h hf
  go_enter Try.func21, Try.ntmps21
  go_wp2_with fail
  refine HC.out.mono ?_
  rintro e w1 ⟨r, rfl, hb, hr⟩
  have HB := Lib.hid hb
  have HV := Lib.hid (show decide (0 ≤ r) = xs.any p by
    rcases hr with ⟨rfl, h0⟩ | ⟨i, rfl, ⟨x, hx, hp⟩, -⟩
    · rw [decide_eq_false (by omega)]
      exact (List.any_eq_false.2 fun x hx => by rw [h0 x hx]; simp).symm
    · rw [decide_eq_true (by omega)]
      exact (List.any_eq_true.2 ⟨x, List.mem_of_getElem? hx, hp⟩).symm)
  obtain ⟨bv, hbv⟩ : ∃ bv, decide (0 ≤ r) = bv := ⟨_, rfl⟩
  have HW := Lib.hid (show bv = xs.any p by rw [← hbv]; exact HV.out)
  clear hr hb HV
  go_wp2_with fail
  go_ret
  exact ⟨by rw [HW.out]; rfl, HB.out⟩
end Go.Proofs.Ytdmecijpioljaaa



namespace Go.Proofs.Ytdmecijpioljaaa
open Go.RowKit

/-- a nonterminal without words, by the list of ends -/
def badS (E : List Bool) (s : Sy) : Bool := !s.1 && !(E.getD s.2 false)
def badR (E : List Bool) (u : Ru) : Bool := u.2.any (badS E)
set_option maxHeartbeats 1000000 in
theorem newBad1_c (ok : Nat → Prop) (be : Nat) (A : Option Addr) (n c : Nat) (E : List Bool) (s : Sy) (w : World) (hb : Blk w be 32 #[.slice A n c]) (hE : Sl BoE ok w A n c E) (hs : s.1 = false → s.2 < n) :
    Calls Try.prog 34 #[syVal s, .pointer (some ⟨be, 0, none⟩)] w fun e w' => e = .returned (.bool (badS E s)) ∧ Below w.heap.size w w' := by
  obtain ⟨sb, sn⟩ := s
  have hB := (Below.refl w.heap.size w).al (.cells #[.bool sb, .int .i64 (sn : Int)] 45)
  have B1 := Blk.new w 45 #[.bool sb, .int .i64 (sn : Int)]
  have B0 := hb.via hB
  have HE := Lib.hid (hE.via hB)
  have HB := Lib.hid hB
  clear hb hE hB
  dsimp only [syVal] at hs ⊢
  go_enter Try.func34, Try.ntmps34
  go_upto_region 1 with fail
  generalize w.alloc (.cells #[.bool sb, .int .i64 (sn : Int)] 45) = W at *
  have cB0 := B0.cell
  have fB0 := B0.frozen
  have lB0 := B0.lt
  have cB1 := B1.cell
  have fB1 := B1.frozen
  have lB1 := B1.lt
  cases sb
  case true =>
    clear hs
    go_wp2_with fail
    go_ret
    exact ⟨rfl, HB.out⟩
  case false =>
    have hsn := hs rfl
    clear hs
    obtain ⟨b1, o1, r, x, rfl, -, hb1, hx, hxr, hc⟩ := HE.out.at_ hsn
    have c0 := hc 0 _ rfl
    simp only [BoE, Nat.add_zero, Nat.mul_one] at c0
    obtain rfl : r = x := hxr
    have i0 : (0 : Int) ≤ (sn : Int) := by omega
    have i1 : (sn : Int) < (n : Int) := by omega
    have HX := Lib.hid (show badS E (false, sn) = !r by simp [badS, List.getD_eq_getElem?_getD, hx])
    clear hc hx hsn
    go_wp2_with fail
    go_ret
    exact ⟨by rw [HX.out]; rfl, HB.out⟩
set_option maxHeartbeats 1000000 in
theorem newBad_c (ok okr : Nat → Prop) (be : Nat) (A : Option Addr) (n c : Nat) (E : List Bool) (r : Nat × SlV) (u : Ru) (w : World) (hb : Blk w be 32 #[.slice A n c]) (hE : Sl BoE ok w A n c E) (hr : RuE.rel okr w r u) (hl : u.2.length ≤ 1000000) (hs : ∀ s ∈ u.2, s.1 = false → s.2 < n) :
    Calls Try.prog 33 #[ruVal r, .pointer (some ⟨be, 0, none⟩)] w fun e w' => e = .returned (.bool (badR E u)) ∧ Below w.heap.size w w' := by
  obtain ⟨xl, xA, xn, xc⟩ := r
  obtain ⟨h1, h2⟩ := hr
  simp only at h1 h2
  have hB := (Below.refl w.heap.size w).al (.cells #[.int .i64 (xl : Int), .slice xA xn xc] 47)
  have B1 := Blk.new w 47 #[.int .i64 (xl : Int), .slice xA xn xc]
  have HB0 := Lib.hid (hb.via hB)
  have HE := Lib.hid (hE.via hB)
  have HX := Lib.hid (h2.via hB)
  have HB := Lib.hid hB
  have HS := Lib.hid hs
  have hxn : xn ≤ 1000000 := by have := h2.len; omega
  clear hb hE hB h1 h2 hs
  dsimp only [ruVal]
  go_enter Try.func33, Try.ntmps33
  go_upto_region 1 with fail
  generalize w.alloc (.cells #[.int .i64 (xl : Int), .slice xA xn xc] 47) = W at *
  have cB1 := B1.cell
  have fB1 := B1.frozen
  have lB1 := B1.lt
  go_wp2_with fail
  refine (conSy_c 34 (enters_c rfl rfl rfl) #[.pointer (some ⟨be, 0, none⟩)] okr xA xn xc u.2 (badS E) W HX.out hxn ?_).mono ?_
  · intro w' s x hb' hx hrel
    obtain rfl : s = x := hrel
    exact newBad1_c ok be A n c E s w' (HB0.out.via hb') (HE.out.via hb') (HS.out s hx)
  rintro e w1 ⟨rfl, hb1⟩
  have HF := Lib.hid (HB.out.via hb1)
  clear hb1
  go_wp2_with fail
  go_ret
  exact ⟨rfl, HF.out⟩
set_option maxHeartbeats 1000000 in
theorem nextBad1_c (ok : Nat → Prop) (be : Nat) (A : Option Addr) (n c : Nat) (E : List Bool) (s : Sy) (w : World) (hb : Blk w be 32 #[.slice A n c]) (hE : Sl BoE ok w A n c E) (hs : s.1 = false → s.2 < n) :
    Calls Try.prog 22 #[syVal s, .pointer (some ⟨be, 0, none⟩)] w fun e w' => e = .returned (.bool (badS E s)) ∧ Below w.heap.size w w' := by
  obtain ⟨sb, sn⟩ := s
  have hB := (Below.refl w.heap.size w).al (.cells #[.bool sb, .int .i64 (sn : Int)] 45)
  have B1 := Blk.new w 45 #[.bool sb, .int .i64 (sn : Int)]
  have B0 := hb.via hB
  have HE := Lib.hid (hE.via hB)
  have HB := Lib.hid hB
  clear hb hE hB
  dsimp only [syVal] at hs ⊢
  go_enter Try.func22, Try.ntmps22
  go_upto_region 1 with fail
  generalize w.alloc (.cells #[.bool sb, .int .i64 (sn : Int)] 45) = W at *
  have cB0 := B0.cell
  have fB0 := B0.frozen
  have lB0 := B0.lt
  have cB1 := B1.cell
  have fB1 := B1.frozen
  have lB1 := B1.lt
  cases sb
  case true =>
    clear hs
    go_wp2_with fail
    go_ret
    exact ⟨rfl, HB.out⟩
  case false =>
    have hsn := hs rfl
    clear hs
    obtain ⟨b1, o1, r, x, rfl, -, hb1, hx, hxr, hc⟩ := HE.out.at_ hsn
    have c0 := hc 0 _ rfl
    simp only [BoE, Nat.add_zero, Nat.mul_one] at c0
    obtain rfl : r = x := hxr
    have i0 : (0 : Int) ≤ (sn : Int) := by omega
    have i1 : (sn : Int) < (n : Int) := by omega
    have HX := Lib.hid (show badS E (false, sn) = !r by simp [badS, List.getD_eq_getElem?_getD, hx])
    clear hc hx hsn
    go_wp2_with fail
    go_ret
    exact ⟨by rw [HX.out]; rfl, HB.out⟩
set_option maxHeartbeats 1000000 in
theorem nextBad_c (ok okr : Nat → Prop) (be : Nat) (A : Option Addr) (n c : Nat) (E : List Bool) (r : Nat × SlV) (u : Ru) (w : World) (hb : Blk w be 32 #[.slice A n c]) (hE : Sl BoE ok w A n c E) (hr : RuE.rel okr w r u) (hl : u.2.length ≤ 1000000) (hs : ∀ s ∈ u.2, s.1 = false → s.2 < n) :
    Calls Try.prog 20 #[ruVal r, .pointer (some ⟨be, 0, none⟩)] w fun e w' => e = .returned (.bool (badR E u)) ∧ Below w.heap.size w w' := by
  obtain ⟨xl, xA, xn, xc⟩ := r
  obtain ⟨h1, h2⟩ := hr
  simp only at h1 h2
  have hB := (Below.refl w.heap.size w).al (.cells #[.int .i64 (xl : Int), .slice xA xn xc] 47)
  have B1 := Blk.new w 47 #[.int .i64 (xl : Int), .slice xA xn xc]
  have HB0 := Lib.hid (hb.via hB)
  have HE := Lib.hid (hE.via hB)
  have HX := Lib.hid (h2.via hB)
  have HB := Lib.hid hB
  have HS := Lib.hid hs
  have hxn : xn ≤ 1000000 := by have := h2.len; omega
  clear hb hE hB h1 h2 hs
  dsimp only [ruVal]
  go_enter Try.func20, Try.ntmps20
  go_upto_region 1 with fail
  generalize w.alloc (.cells #[.int .i64 (xl : Int), .slice xA xn xc] 47) = W at *
  have cB1 := B1.cell
  have fB1 := B1.frozen
  have lB1 := B1.lt
  go_wp2_with fail
  refine (conSy_c 22 (enters_c rfl rfl rfl) #[.pointer (some ⟨be, 0, none⟩)] okr xA xn xc u.2 (badS E) W HX.out hxn ?_).mono ?_
  · intro w' s x hb' hx hrel
    obtain rfl : s = x := hrel
    exact nextBad1_c ok be A n c E s w' (HB0.out.via hb') (HE.out.via hb') (HS.out s hx)
  rintro e w1 ⟨rfl, hb1⟩
  have HF := Lib.hid (HB.out.via hb1)
  clear hb1
  go_wp2_with fail
  go_ret
  exact ⟨rfl, HF.out⟩
end Go.Proofs.Ytdmecijpioljaaa

