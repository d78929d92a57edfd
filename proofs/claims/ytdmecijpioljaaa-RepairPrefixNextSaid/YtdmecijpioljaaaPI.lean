/- Texts PI, laid together. -/
import Derived.Test.YtdmecijpioljaaaPH
import Derived.Test.YtdmecijpioljaaaPE



namespace Go.Proofs.Ytdmecijpioljaaa
open Go.RowKit

def itVal (x : It3) : Value := .agg #[.int .i64 (x.r : Int), .int .i64 (x.d : Int), .int .i64 (x.f : Int)]
def IdxIP (w : World) (xs : List It3) (v : It3) (e : Ending) (w' : World) : Prop := ∃ r : Int, e = .returned (.int .i64 r) ∧ (0 ≤ r ↔ v ∈ xs) ∧ Below w.heap.size w w'
set_option maxRecDepth 100000 in
set_option maxHeartbeats 2000000 in
theorem indexIt_c (A : Option Addr) (n c : Nat) (xs : List It3) (v1 v2 v3 : Nat) (w : World) (ok : Nat → Prop) (h : Sl It3E ok w A n c xs) (hn : n ≤ 1000000) :
    Calls Try.prog 74 #[.slice A n c, .agg #[.int .i64 (v1 : Int), .int .i64 (v2 : Int), .int .i64 (v3 : Int)]] w (IdxIP w xs ⟨v1, v2, v3⟩) := by
  have H := Lib.hid h
  clear h
  go_enter Try.func74, Try.ntmps74
  go_wp2_with fail
  go_loopw [8] (fun i wr => ∃ k : Nat, i = .int .i64 k ∧ k ≤ n ∧ Hid (∀ j, j < k → xs[j]? ≠ some (⟨v1, v2, v3⟩ : It3)) ∧ Hid (Below w.heap.size w wr) ∧ wr.cell? ⟨w.heap.size, 0, none⟩ = some (.int .i64 (v1 : Int)) ∧ wr.cell? ⟨w.heap.size, 1, none⟩ = some (.int .i64 (v2 : Int)) ∧ wr.cell? ⟨w.heap.size, 2, none⟩ = some (.int .i64 (v3 : Int))) (fun i _ => n - (intOf i).toNat)
  case atStart =>
    have B := Blk.new w 68 #[.int .i64 (v1 : Int), .int .i64 (v2 : Int), .int .i64 (v3 : Int)]
    exact ⟨0, rfl, Nat.zero_le _, Lib.hid (fun j h => by omega), Lib.hid ((Below.refl w.heap.size w).alloc (Nat.le_refl _) _), B.cell 0, B.cell 1, B.cell 2⟩
  case round =>
    obtain ⟨k, rfl, hk, HN, HB, p0, p1, p2⟩ := hrel
    by_cases hkn : k < n
    · obtain ⟨b1, o1, ⟨x1, x2, x3⟩, x', rfl, -, hb1, hy, hxy, hc⟩ := (H.out.via HB.out).at_ hkn
      obtain rfl : (⟨x1, x2, x3⟩ : It3) = x' := hxy
      have c0 := hc 0 _ rfl
      have c1 := hc 1 _ rfl
      have c2 := hc 2 _ rfl
      simp only [It3E, Nat.add_zero] at c0 c1 c2
      have i0 : (0 : Int) ≤ (k : Int) := by omega
      have i1 : (k : Int) < (n : Int) := by omega
      have HX := Lib.hid hy
      clear hy hc
      have hne : (⟨v1, v2, v3⟩ : It3) ≠ ⟨x1, x2, x3⟩ → Hid (∀ j, j < k + 1 → xs[j]? ≠ some (⟨v1, v2, v3⟩ : It3)) := fun hd => Lib.hid fun j hj => by
        by_cases e2 : j = k
        · rw [e2, HX.out]; exact fun h => hd (Option.some.inj h).symm
        · exact HN.out j (by omega)
      have HE := Lib.hid hne
      clear hne
      by_cases e1 : v1 = x1
      · subst e1
        by_cases e2 : v2 = x2
        · subst e2
          by_cases e3 : v3 = x3
          · subst e3
            go_upto_region 4 with fail
            go_quiet (fail)
            go_wp2_with fail
            go_ret
            exact ⟨k, rfl, ⟨fun _ => List.mem_of_getElem? HX.out, fun _ => by omega⟩, below_drewN HB.out _⟩
          · have he : ((v3 : Int) == (x3 : Int)) = false := by rw [beq_eq_false_iff_ne]; omega
            have HN2 := HE.out (fun e => e3 (congrArg It3.f e))
            clear e3
            go_upto_region 4 with fail
            go_quiet (fail)
            go_wp2_with fail
            exact ⟨⟨k + 1, by go_num, by omega, HN2, Lib.hid (below_drewN HB.out _), by rw [World.cell?_drewN]; exact p0, by rw [World.cell?_drewN]; exact p1, by rw [World.cell?_drewN]; exact p2⟩, by simp [intOf]; omega⟩
        · have he : ((v2 : Int) == (x2 : Int)) = false := by rw [beq_eq_false_iff_ne]; omega
          have HN2 := HE.out (fun e => e2 (congrArg It3.d e))
          clear e2
          go_upto_region 4 with fail
          go_quiet (fail)
          go_wp2_with fail
          exact ⟨⟨k + 1, by go_num, by omega, HN2, Lib.hid (below_drewN HB.out _), by rw [World.cell?_drewN]; exact p0, by rw [World.cell?_drewN]; exact p1, by rw [World.cell?_drewN]; exact p2⟩, by simp [intOf]; omega⟩
      · have he : ((v1 : Int) == (x1 : Int)) = false := by rw [beq_eq_false_iff_ne]; omega
        have HN2 := HE.out (fun e => e1 (congrArg It3.r e))
        clear e1
        go_upto_region 4 with fail
        go_quiet (fail)
        go_wp2_with fail
        exact ⟨⟨k + 1, by go_num, by omega, HN2, Lib.hid (below_drewN HB.out _), by rw [World.cell?_drewN]; exact p0, by rw [World.cell?_drewN]; exact p1, by rw [World.cell?_drewN]; exact p2⟩, by simp [intOf]; omega⟩
    · go_wp2_with fail
      go_ret
      refine ⟨-1, rfl, ⟨fun h => by omega, fun h => ?_⟩, HB.out⟩
      exfalso
      obtain ⟨j, hj, e⟩ := List.getElem_of_mem h
      have hl := H.out.len
      refine HN.out j (by omega) ?_
      rw [List.getElem?_eq_getElem hj, e]
set_option maxRecDepth 100000 in
set_option maxHeartbeats 1000000 in
theorem conIt_c (A : Option Addr) (n c : Nat) (xs : List It3) (x : It3) (w : World) (ok : Nat → Prop) (h : Sl It3E ok w A n c xs) (hn : n ≤ 1000000) :
    Calls Try.prog 62 #[.slice A n c, .agg #[.int .i64 (x.r : Int), .int .i64 (x.d : Int), .int .i64 (x.f : Int)]] w fun e w' => e = .returned (.bool (decide (x ∈ xs))) ∧ Below w.heap.size w w' := by
  have H := Lib.hid h
  clear h
  go_enter Try.func62, Try.ntmps62
  have hB := (Below.refl w.heap.size w).alloc (Nat.le_refl _) (.cells #[.int .i64 (x.r : Int), .int .i64 (x.d : Int), .int .i64 (x.f : Int)] 68)
  have HB := Lib.hid hB
  clear hB
  go_wp2_with fail
  refine (indexIt_c A n c xs x.r x.d x.f _ ok (H.out.via HB.out) hn).mono ?_
  rintro e w' ⟨r, rfl, hr, hb⟩
  have HR := Lib.hid hr
  have HB2 := Lib.hid (Below.via HB.out hb)
  clear hr hb
  go_wp2_with fail
  go_ret
  refine ⟨?_, HB2.out⟩
  rw [show decide (x ∈ xs) = decide (0 ≤ r) from decide_eq_decide.2 HR.out.symm]
  rfl
end Go.Proofs.Ytdmecijpioljaaa

