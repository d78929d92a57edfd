/- gram.T, hole.is. -/
import Derived.Test.YtghnkgbingcbcaaHB
import Derived.Test.YtghnkgbingcbcaaHP
namespace Go.Proofs.Ytghnkgbingcbcaa
open Go.RowKit

def CeE : Elem Ce Ce where
  k := 2
  cells s := [.bool s.1, .int .i64 s.2]
  rel _ _ r x := r = x
  pos := by omega
  len _ := rfl
  one r u hu := by simp at hu; rcases hu with rfl | rfl <;> rfl
  agr h _ := h
  mono h _ := h
set_option maxRecDepth 100000 in
set_option maxHeartbeats 1000000 in
theorem gT_c (n : Int) (w : World) : Calls Try.prog 40 #[.int .i64 n] w fun e w' => e = .returned (.agg #[.bool true, .int .i64 n]) ∧ Below w.heap.size w w' := by
  go_enter Try.func40, Try.ntmps40
  go_wp2_with fail
  exact bodyPost_ret (v := .agg #[.bool true, .int .i64 n]) (by simp [results, Try.results40, go_sem]) rfl ⟨rfl, (Below.refl _ _).al _⟩
set_option maxRecDepth 100000 in
set_option maxHeartbeats 2000000 in
theorem is_c (s : Sy) (c : Ce) (w : World) : Calls Try.prog 88 #[.agg #[.bool s.1, .int .i64 (s.2 : Int)], .agg #[.bool c.1, .int .i64 c.2]] w (TellB w (isC s c)) := by
  obtain ⟨sb, sn⟩ := s
  obtain ⟨cb, cn⟩ := c
  have hB := ((Below.refl w.heap.size w).al (.cells #[.bool sb, .int .i64 (sn : Int)] 48)).al (.cells #[.bool cb, .int .i64 cn] 48)
  have B0 := (Blk.new w 48 #[.bool sb, .int .i64 (sn : Int)]).al (.cells #[.bool cb, .int .i64 cn] 48)
  have B1 := Blk.new (w.alloc (.cells #[.bool sb, .int .i64 (sn : Int)] 48)) 48 #[.bool cb, .int .i64 cn]
  rw [World.size_alloc] at B1
  by_cases h : cb = sb ∧ cn = (sn : Int)
  · obtain ⟨rfl, rfl⟩ := h
    have hi : isC (cb, sn) (cb, (sn : Int)) = true := by simp [isC]
    rw [hi]
    have HB := Lib.hid hB
    have c0 := B0.cell
    have c1 := B1.cell
    clear hB hi B0 B1
    go_enter Try.func88, Try.ntmps88
    go_upto_region 1 with fail
    generalize (w.alloc (.cells #[.bool cb, .int .i64 (sn : Int)] 48)).alloc (.cells #[.bool cb, .int .i64 (sn : Int)] 48) = W at *
    go_quiet (fail)
    go_wp2_with fail
    go_ret
    exact ⟨rfl, below_drewN HB.out _⟩
  · cases sb with
    | false =>
      have hi : isC (false, sn) (cb, cn) = false := by
        simp only [isC, Bool.false_and, Bool.or_false, decide_eq_false_iff_not]
        intro e; exact h ⟨congrArg Prod.fst e, congrArg Prod.snd e⟩
      rw [hi]
      have HB := Lib.hid hB
      have c0 := B0.cell
      have c1 := B1.cell
      have hq : cb = true ∨ ((sn : Int) == cn) = false := by
        cases cb with
        | true => exact Or.inl rfl
        | false => exact Or.inr (by rw [beq_eq_false_iff_ne]; exact fun e => h ⟨rfl, e.symm⟩)
      clear hB hi B0 B1 h
      cases cb with
      | true =>
        clear hq
        go_enter Try.func88, Try.ntmps88
        go_upto_region 1 with fail
        generalize (w.alloc (.cells #[.bool false, .int .i64 (sn : Int)] 48)).alloc (.cells #[.bool true, .int .i64 cn] 48) = W at *
        go_quiet (fail)
        go_wp2_with fail
        go_ret
        exact ⟨rfl, below_drewN HB.out _⟩
      | false =>
        have hq2 : ((sn : Int) == cn) = false := hq.resolve_left (by simp)
        clear hq
        go_enter Try.func88, Try.ntmps88
        go_upto_region 1 with fail
        generalize (w.alloc (.cells #[.bool false, .int .i64 (sn : Int)] 48)).alloc (.cells #[.bool false, .int .i64 cn] 48) = W at *
        go_quiet (fail)
        go_wp2_with fail
        go_ret
        exact ⟨rfl, below_drewN HB.out _⟩
    | true =>
      cases cb with
      | false =>
        have hi : isC (true, sn) (false, cn) = false := by simp [isC]
        rw [hi]
        clear hi h
        go_enter Try.func88, Try.ntmps88
        go_upto_region 1 with fail
        generalize (w.alloc (.cells #[.bool true, .int .i64 (sn : Int)] 48)).alloc (.cells #[.bool false, .int .i64 cn] 48) = W at *
        have SOF := Lib.hid (show ∀ w', Below W.heap.size W w' → ((∀ i, w'.cell? ⟨w.heap.size, i, none⟩ = #[.bool true, .int .i64 (sn : Int)][i]?) ∧ (∀ i, w'.cell? ⟨w.heap.size + 1, i, none⟩ = #[.bool false, .int .i64 cn][i]?) ∧ Below W.heap.size W w') from fun w' hb => ⟨(B0.via hb).cell, (B1.via hb).cell, hb⟩)
        have hb0 := (Below.refl W.heap.size W).drew
        have HB := Lib.hid hB
        clear hB B0 B1
        go_region_held3 (fun w' => (∀ i, w'.cell? ⟨w.heap.size, i, none⟩ = #[.bool true, .int .i64 (sn : Int)][i]?) ∧ (∀ i, w'.cell? ⟨w.heap.size + 1, i, none⟩ = #[.bool false, .int .i64 cn][i]?) ∧ Below W.heap.size W w') (exact SOF.out _ (by assumption)) (first
          | (go_at_call 40; (with_reducible refine (gT_c _ _).mono ?_); rintro ee wn ⟨rfl, hbn⟩; have hbm : Below W.heap.size W wn := Below.via (by assumption) hbn))
        have HF := Lib.hid (HB.out.via hbm)
        clear hb0 hbm hbn
        go_wp2_with fail
        go_ret
        exact ⟨rfl, HF.out⟩
      | true =>
        have hq2 : ((sn : Int) == cn) = false := by rw [beq_eq_false_iff_ne]; exact fun e => h ⟨rfl, e.symm⟩
        by_cases hm : cn = -1
        · subst hm
          have hi : isC (true, sn) (true, -1) = true := by simp [isC]
          rw [hi]
          clear hi h
          go_enter Try.func88, Try.ntmps88
          go_upto_region 1 with fail
          generalize (w.alloc (.cells #[.bool true, .int .i64 (sn : Int)] 48)).alloc (.cells #[.bool true, .int .i64 (-1)] 48) = W at *
          have SOF := Lib.hid (show ∀ w', Below W.heap.size W w' → ((∀ i, w'.cell? ⟨w.heap.size, i, none⟩ = #[.bool true, .int .i64 (sn : Int)][i]?) ∧ (∀ i, w'.cell? ⟨w.heap.size + 1, i, none⟩ = #[.bool true, .int .i64 (-1)][i]?) ∧ Below W.heap.size W w') from fun w' hb => ⟨(B0.via hb).cell, (B1.via hb).cell, hb⟩)
          have hb0 := (Below.refl W.heap.size W).drew
          have HB := Lib.hid hB
          clear hB B0 B1
          go_region_held3 (fun w' => (∀ i, w'.cell? ⟨w.heap.size, i, none⟩ = #[.bool true, .int .i64 (sn : Int)][i]?) ∧ (∀ i, w'.cell? ⟨w.heap.size + 1, i, none⟩ = #[.bool true, .int .i64 (-1)][i]?) ∧ Below W.heap.size W w') (exact SOF.out _ (by assumption)) (first
            | (go_at_call 40; (with_reducible refine (gT_c _ _).mono ?_); rintro ee wn ⟨rfl, hbn⟩; have hbm : Below W.heap.size W wn := Below.via (by assumption) hbn))
          have HF := Lib.hid (HB.out.via hbm)
          clear hb0 hbm hbn
          go_wp2_with fail
          go_ret
          exact ⟨rfl, HF.out⟩
        · have hi : isC (true, sn) (true, cn) = false := by
            simp only [isC, Bool.true_and, Bool.or_eq_false_iff, decide_eq_false_iff_not]
            exact ⟨fun e => h ⟨rfl, congrArg Prod.snd e⟩, fun e => hm (congrArg Prod.snd e)⟩
          rw [hi]
          have hq3 : (cn == -1) = false := by rw [beq_eq_false_iff_ne]; exact hm
          clear hi h hm
          go_enter Try.func88, Try.ntmps88
          go_upto_region 1 with fail
          generalize (w.alloc (.cells #[.bool true, .int .i64 (sn : Int)] 48)).alloc (.cells #[.bool true, .int .i64 cn] 48) = W at *
          have SOF := Lib.hid (show ∀ w', Below W.heap.size W w' → ((∀ i, w'.cell? ⟨w.heap.size, i, none⟩ = #[.bool true, .int .i64 (sn : Int)][i]?) ∧ (∀ i, w'.cell? ⟨w.heap.size + 1, i, none⟩ = #[.bool true, .int .i64 cn][i]?) ∧ Below W.heap.size W w') from fun w' hb => ⟨(B0.via hb).cell, (B1.via hb).cell, hb⟩)
          have hb0 := (Below.refl W.heap.size W).drew
          have HB := Lib.hid hB
          clear hB B0 B1
          go_region_held3 (fun w' => (∀ i, w'.cell? ⟨w.heap.size, i, none⟩ = #[.bool true, .int .i64 (sn : Int)][i]?) ∧ (∀ i, w'.cell? ⟨w.heap.size + 1, i, none⟩ = #[.bool true, .int .i64 cn][i]?) ∧ Below W.heap.size W w') (exact SOF.out _ (by assumption)) (first
            | (go_at_call 40; (with_reducible refine (gT_c _ _).mono ?_); rintro ee wn ⟨rfl, hbn⟩; have hbm : Below W.heap.size W wn := Below.via (by assumption) hbn))
          have HF := Lib.hid (HB.out.via hbm)
          clear hb0 hbm hbn
          go_wp2_with fail
          go_ret
          exact ⟨rfl, HF.out⟩
end Go.Proofs.Ytghnkgbingcbcaa
