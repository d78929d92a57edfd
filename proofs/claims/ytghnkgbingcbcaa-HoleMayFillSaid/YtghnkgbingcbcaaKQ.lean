/- parlmake.has: is a rule among rules? -/
import Derived.Test.YtghnkgbingcbcaaKP
namespace Go.Proofs.Ytghnkgbingcbcaa
open Go.RowKit

theorem slice_decide_take {α : Type} [DecidableEq α] (xs ys : List α) (k : Nat) (hx : k < xs.length) (hy : k < ys.length) :
    decide (xs.take (k + 1) = ys.take (k + 1)) = (decide (xs.take k = ys.take k) && decide (xs[k] = ys[k])) := by
  rw [List.take_succ_eq_append_getElem hx, List.take_succ_eq_append_getElem hy, Bool.eq_iff_iff]
  simp only [Bool.and_eq_true, decide_eq_true_eq]
  constructor
  · intro h
    have hl : (xs.take k).length = (ys.take k).length := by simp; omega
    obtain ⟨h1, h2⟩ := List.append_inj h hl
    exact ⟨h1, by simpa using h2⟩
  · rintro ⟨h1, h2⟩
    rw [h1, h2]

/-- a function that computes a Bool, and may make blocks -/
def BoolB (w : World) (b : Bool) (e : Ending) (w' : World) : Prop := e = .returned (.bool b) ∧ Below w.heap.size w w'
/-- behind k rounds of has -/
def HasRel (w : World) (l : List Ru) (x : Ru) (k : Nat) (B : Option Addr) (m d : Nat) (wr : World) : Prop :=
  (∀ j, j < k → l[j]? ≠ some x) ∧ Blk wr w.heap.size 75 #[.int .i64 (x.1 : Int), .slice B m d] ∧ Below w.heap.size w wr

theorem HasRel.next {w : World} {l : List Ru} {x : Ru} {k : Nat} {B : Option Addr} {m d : Nat} {wr : World} {o : Obj} (h : HasRel w l x k B m d wr) (hn : l[k]? ≠ some x) : HasRel w l x (k + 1) B m d (wr.alloc o) :=
  ⟨fun j hj => by
    rcases Nat.lt_or_ge j k with h1 | h1
    · exact h.1 j h1
    · obtain rfl : j = k := by omega
      exact hn, h.2.1.al _, h.2.2.al _⟩
theorem HasRel.drewN {w : World} {l : List Ru} {x : Ru} {k : Nat} {B : Option Addr} {m d : Nat} {wr : World} (h : HasRel w l x k B m d wr) (q : Nat) : HasRel w l x k B m d (wr.drewN q) :=
  ⟨h.1, h.2.1, below_drewN h.2.2 q⟩
theorem mem_of_at {l : List Ru} {x : Ru} {k : Nat} (h : l[k]? = some x) : x ∈ l := List.mem_of_getElem? h
theorem not_mem_of {l : List Ru} {x : Ru} {n : Nat} (h : ∀ j, j < n → l[j]? ≠ some x) (hl : l.length = n) : x ∉ l := fun hm => by
  obtain ⟨j, hj, e⟩ := List.mem_iff_getElem.1 hm
  exact h j (by omega) (by rw [List.getElem?_eq_getElem hj, e])

set_option maxRecDepth 100000 in
set_option maxHeartbeats 4000000 in
theorem has_c (ok ok' : Nat → Prop) (A B : Option Addr) (n c m d : Nat) (l : List Ru) (x : Ru) (w : World) (hl : Sl RuE ok w A n c l) (hx : Sl SyE ok' w B m d x.2) (hn : n ≤ 1000000) (hm : m ≤ 1000000) :
    Calls Try.prog 32 #[.slice A n c, .agg #[.int .i64 (x.1 : Int), .slice B m d]] w (BoolB w (decide (x ∈ l))) := by
  obtain ⟨bb, hbb⟩ : ∃ bb, bb = decide (x ∈ l) := ⟨_, rfl⟩
  rw [← hbb]
  have HB := Lib.hid hbb
  clear hbb
  have HL := Lib.hid hl
  have HX := Lib.hid hx
  have hlen := hl.len
  have Hlen := Lib.hid hlen
  have hxl := Lib.hid hx.len
  clear hl hx hlen
  go_enter Try.func32, Try.ntmps32
  go_wp2_with fail
  go_loopw [11] (fun i wr => ∃ k : Nat, i = .int .i64 k ∧ k ≤ n ∧ HasRel w l x k B m d wr) (fun i _ => n - (intOf i).toNat)
  case atStart => exact ⟨0, rfl, Nat.zero_le _, fun j hj => absurd hj (by omega), Blk.new _ _ _, (Below.refl _ _).al _⟩
  case round =>
    obtain ⟨k, rfl, hk, hr⟩ := hrel
    by_cases hlt : k < n
    · obtain ⟨b, off, raw, y, rfl, -, hb, hy, ⟨hy1, hy2⟩, hc⟩ := HL.out.at_ hlt
      have c0 := hc 0 _ rfl
      have c1 := hc 1 _ rfl
      simp only [RuE, Nat.add_zero] at c0 c1
      replace c0 := (hr.2.2.cell (p := ⟨b, off + k * 2, none⟩) hb).trans c0
      replace c1 := (hr.2.2.cell (p := ⟨b, off + k * 2 + 1, none⟩) hb).trans c1
      have i0 : (0 : Int) ≤ (k : Int) := by omega
      have i1 : (k : Int) < (n : Int) := by omega
      obtain ⟨rl, Ay, ny, cy⟩ := raw
      simp only at hy1 hy2 c0 c1
      subst hy1
      have HY := Lib.hid hy
      have HY2 := Lib.hid hy2
      have HR := Lib.hid hr
      have Br := hr.2.1
      have hB := hr.2.2
      clear hc hy hy2 hr hb
      by_cases e1 : y.1 = x.1
      · have t1 : ((y.1 : Int) != (x.1 : Int)) = false := by rw [bne_eq_false_iff_eq]; omega
        have E1 := Lib.hid e1
        clear e1
        by_cases e2 : ny = m
        · subst e2
          have t2 : ((ny : Int) != (ny : Int)) = false := by simp
          have hnB := hB.size
          have cBr := Br.cell
          have fBr := Br.frozen
          have lBr := Br.lt
          go_wp2_with fail
          obtain ⟨wo, rfl⟩ : ∃ wo : World, wo = wr := ⟨_, rfl⟩
          have Bx := Blk.new wo 75 #[.int .i64 (y.1 : Int), .slice Ay ny cy]
          replace Br := Br.al (.cells #[.int .i64 (y.1 : Int), .slice Ay ny cy] 75)
          have hB2 := hB.al (.cells #[.int .i64 (y.1 : Int), .slice Ay ny cy] 75)
          clear cBr fBr lBr
          go_loopw [7, 32] (fun sm i wr => ∃ j : Nat, i = .int .i64 j ∧ j ≤ ny ∧ sm = .bool (decide (y.2.take j = x.2.take j)) ∧ ∃ q, wr = (wo.alloc (.cells #[.int .i64 (y.1 : Int), .slice Ay ny cy] 75)).drewN q) (fun _ i _ => ny - (intOf i).toNat)
          case atStart => exact ⟨0, rfl, Nat.zero_le _, by simp, 0, rfl⟩
          case round =>
            obtain ⟨j, rfl, hj, rfl, q, rfl⟩ := hrel
            by_cases hjl : j < ny
            · obtain ⟨b1, o1, s1, s1', rfl, -, hb1, hs1, hs1', hc1⟩ := HY2.out.at_ hjl
              obtain ⟨b2, o2, s2, s2', rfl, -, hb2, hs2, hs2', hc2⟩ := HX.out.at_ hjl
              have hs1'' : s1 = s1' := hs1'
              have hs2'' : s2 = s2' := hs2'
              subst hs1'' hs2''
              have d0 := (hB2.cell (p := ⟨b1, o1 + j * 2, none⟩) hb1).trans (hc1 0 _ rfl)
              have d1 := (hB2.cell (p := ⟨b1, o1 + j * 2 + 1, none⟩) hb1).trans (hc1 1 _ rfl)
              have d2 := (hB2.cell (p := ⟨b2, o2 + j * 2, none⟩) hb2).trans (hc2 0 _ rfl)
              have d3 := (hB2.cell (p := ⟨b2, o2 + j * 2 + 1, none⟩) hb2).trans (hc2 1 _ rfl)
              have hly : j < y.2.length := (List.getElem?_eq_some_iff.1 hs1).1
              have hlx : j < x.2.length := (List.getElem?_eq_some_iff.1 hs2).1
              have hsn := slice_decide_take y.2 x.2 j hly hlx
              rw [(List.getElem?_eq_some_iff.1 hs1).2, (List.getElem?_eq_some_iff.1 hs2).2] at hsn
              have HS := Lib.hid hsn
              have j0 : (0 : Int) ≤ (j : Int) := by omega
              have j1 : (j : Int) < (ny : Int) := by omega
              clear hs1 hs2 hc1 hc2 hsn hs1' hs2' hb1 hb2 hly hlx
              obtain ⟨p1, p2⟩ := s1
              obtain ⟨p3, p4⟩ := s2
              have cBr := Br.cell
              have fBr := Br.frozen
              have lBr := Br.lt
              have cBx := Bx.cell
              have fBx := Bx.frozen
              have lBx := Bx.lt
              by_cases hd : y.2.take j = x.2.take j
              · have hd' : decide (y.2.take j = x.2.take j) = true := by simpa using hd
                have HD := Lib.hid hd'
                rw [hd']
                clear hd hd'
                by_cases g1 : p1 = p3
                · by_cases g2 : p2 = p4
                  · subst g1 g2
                    go_wp2_with fail
                    go_quiet (fail)
                    go_wp2_with fail
                    exact ⟨⟨j + 1, by go_num, by omega, by rw [HS.out, HD.out]; simp, _, rfl⟩, by simp [intOf]; omega⟩
                  · have t3 : ((p2 : Int) == (p4 : Int)) = false := by rw [beq_eq_false_iff_ne]; omega
                    have t4 : (p2 == p4) = false := by rw [beq_eq_false_iff_ne]; omega
                    have G2 := Lib.hid g2
                    subst g1
                    clear g2
                    go_wp2_with fail
                    go_quiet (fail)
                    go_wp2_with fail
                    exact ⟨⟨j + 1, by go_num, by omega, by rw [HS.out, HD.out]; simp [G2.out], _, rfl⟩, by simp [intOf]; omega⟩
                · have t3 : (p1 == p3) = false := by rw [beq_eq_false_iff_ne]; exact g1
                  have G1 := Lib.hid g1
                  clear g1
                  go_wp2_with fail
                  go_quiet (fail)
                  go_wp2_with fail
                  exact ⟨⟨j + 1, by go_num, by omega, by rw [HS.out, HD.out]; simp [G1.out], _, rfl⟩, by simp [intOf]; omega⟩
              · have hd' : decide (y.2.take j = x.2.take j) = false := by simpa using hd
                have HD := Lib.hid hd'
                rw [hd']
                clear hd hd'
                go_wp2_with fail
                go_quiet (fail)
                go_wp2_with fail
                exact ⟨⟨j + 1, by go_num, by omega, by rw [HS.out, HD.out]; simp, _, rfl⟩, by simp [intOf]; omega⟩
            · have hje : j = ny := by omega
              have hjj : decide (y.2.take j = x.2.take j) = decide (l[k]? = some x) := by
                rw [HY.out, List.take_of_length_le (by rw [HY2.out.len]; omega), List.take_of_length_le (by rw [hxl.out]; omega), Bool.eq_iff_iff]
                simp only [decide_eq_true_eq, Option.some.injEq]
                constructor
                · intro e; exact Prod.ext E1.out e
                · intro e; rw [e]
              rw [hjj]
              by_cases hd : l[k]? = some x
              · have hd' : decide (l[k]? = some x) = true := by simpa using hd
                rw [hd']
                have hin : decide (x ∈ l) = true := by simpa using List.mem_of_getElem? hd
                have HI := Lib.hid hin
                clear hd hd' hin hjj hje
                go_wp2_with fail
                go_ret
                exact ⟨by rw [HB.out, HI.out]; rfl, below_drewN hB2 _⟩
              · have hd' : decide (l[k]? = some x) = false := by simpa using hd
                rw [hd']
                have HN := Lib.hid hd
                clear hd hd' hjj hje
                go_wp2_with fail
                exact ⟨⟨k + 1, by go_num, by omega, (HasRel.next HR.out HN.out).drewN q⟩, by simp [intOf]; omega⟩
        · have t2 : ((ny : Int) != (m : Int)) = true := by rw [bne_iff_ne]; omega
          have hne : l[k]? ≠ some x := fun e => e2 (by rw [HY.out] at e; cases e; rw [← HY2.out.len, hxl.out])
          have HN := Lib.hid hne
          clear e2 hne
          have cBr := Br.cell
          have fBr := Br.frozen
          have lBr := Br.lt
          go_wp2_with fail
          exact ⟨⟨k + 1, by go_num, by omega, HasRel.next HR.out HN.out⟩, by simp [intOf]; omega⟩
      · have t1 : ((y.1 : Int) != (x.1 : Int)) = true := by rw [bne_iff_ne]; omega
        have hne : l[k]? ≠ some x := fun e => e1 (by rw [HY.out] at e; cases e; rfl)
        have HN := Lib.hid hne
        clear e1 hne
        have cBr := Br.cell
        have fBr := Br.frozen
        have lBr := Br.lt
        go_wp2_with fail
        exact ⟨⟨k + 1, by go_num, by omega, HasRel.next HR.out HN.out⟩, by simp [intOf]; omega⟩
    · have hfin : decide (x ∈ l) = false := by
        have := not_mem_of (n := n) (fun j hj => hr.1 j (by omega)) Hlen.out
        simpa using this
      have HF := Lib.hid hfin
      have hB := hr.2.2
      clear hfin hr
      go_wp2_with fail
      go_ret
      exact ⟨by rw [HB.out, HF.out]; rfl, hB⟩
end Go.Proofs.Ytghnkgbingcbcaa
