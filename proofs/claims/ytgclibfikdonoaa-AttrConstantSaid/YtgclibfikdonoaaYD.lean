/- parlkeep4.occurrences, parlkeep4.attributes. -/
import Derived.Test.YtgclibfikdonoaaYC
namespace Go.Proofs.Ytgclibfikdonoaa
open Go.RowKit

def OccP (w : World) (na : Nat) (e : Ending) (w' : World) : Prop :=
  ∃ A n c xs, e = .returned (.slice A n c) ∧ Own RfE 25 (fun _ => True) w' w.heap.size (.slice A n c) n xs ∧ n ≤ na ∧ Below w.heap.size w w'
structure ORel (w : World) (k : Nat) (v : Value) (n : Nat) (xs : List Rf) (wr : World) : Prop where
  own : Own RfE 25 (fun _ => True) wr w.heap.size v n xs
  bel : Below w.heap.size w wr
  le : n ≤ k
section
variable {w wr wa w1 : World} {k n : Nat} {v v' : Value} {xs xs' : List Rf}
theorem ORel.via (h : ORel w k v n xs wr) (hb : Below wr.heap.size wr wa) : ORel w k v n xs wa := ⟨h.own.via hb, h.bel.via hb, h.le⟩
theorem ORel.skip (h : ORel w k v n xs wr) : ORel w (k + 1) v n xs wr := ⟨h.own, h.bel, by have := h.le; omega⟩
theorem ORel.push (h : ORel w k v n xs wr) (ho : Own RfE 25 (fun _ => True) w1 w.heap.size v' (n + 1) xs') (hg : wr.grownBy w1 v.ownBlock) : ORel w (k + 1) v' (n + 1) xs' w1 :=
  ⟨ho, h.bel.grown hg h.bel.size fun j e => (h.own.lt j e).1, by have := h.le; omega⟩
end

set_option maxRecDepth 100000 in
set_option maxHeartbeats 2000000 in
theorem occ_c (ok oka : Nat → Prop) (g : Gr) (Ag : Option Addr) (ng cg : Nat) (Aa : Option Addr) (na ca : Nat) (attrs : List At) (Ae : Option Addr) (ne ce : Nat) (rule at_ : Nat) (q : Int) (hq : q = (at_ : Int)) (inh : Bool) (w : World)
    (hg : Sl RuE ok w Ag ng cg g.rules) (ha : Sl AtE oka w Aa na ca attrs) (hru : rule < ng) (hat : ∀ x, g.rules[rule]? = some x → at_ ≤ x.2.length) (hna : na ≤ 1000) (hsm : at_ ≤ 1000) :
    Calls Try.prog 23 #[grVal g Ag ng cg, .agg #[.slice Aa na ca, .slice Ae ne ce], .int .i64 (rule : Int), .int .i64 q, .bool inh] w (OccP w na) := by
  obtain ⟨b, off, raw, x, rfl, hob, hb, hx, ⟨hx1, hx2⟩, hc⟩ := hg.at_ hru
  obtain ⟨rl, Ax, nx, cx⟩ := raw
  have hat2 := hat x hx
  rw [hx2.len] at hat2
  simp only at hat2
  have c0 := hc 0 _ rfl
  have c1 := hc 1 _ rfl
  have i0 : (0 : Int) ≤ (rule : Int) := by omega
  have i1 : (rule : Int) < (ng : Int) := by omega
  simp only [RuE, Nat.add_zero] at c0 c1
  simp only [grVal]
  have HA := Lib.hid ha
  have hB := ((Below.refl w.heap.size w).al (.cells #[.int .i64 (g.terms : Int), .int .i64 (g.nons : Int), .int .i64 (g.start : Int), .slice (some ⟨b, off, none⟩) ng cg] 32)).al (.cells #[.slice Aa na ca, .slice Ae ne ce] 38)
  have HX := Lib.hid hx2
  clear ha hc hx hx2 hat hg hx1
  go_enter Try.func23, Try.ntmps23
  rcases Nat.eq_zero_or_pos at_ with h0 | h0
  · have hq0 : ¬ (0 : Int) < q := by omega
    clear HX c1 hat2 h0
    replace hq := Lib.hid hq
    go_wp2_with fail
    clear c0
    generalize rl = nn
    have HQ := hq
    clear hq
    have hqq := HQ.out
    subst hqq
    clear HQ
    go_loopw [13, 41] (fun v i wr => ∃ (k n : Nat) (xs : List Rf), i = .int .i64 k ∧ k ≤ na ∧ ORel w k v n xs wr) (fun _ i _ => na - (intOf i).toNat)
    case atStart => exact ⟨0, 0, [], rfl, Nat.zero_le _, Own.nil _ _, hB, Nat.le_refl _⟩
    case round =>
      obtain ⟨k, n, xs, rfl, hk, hr⟩ := hrel
      obtain ⟨Av, cv, rfl, -⟩ := hr.own.form
      have hnk := hr.le
      have hszr := hr.bel.size
      by_cases hkl : k < na
      · obtain ⟨b2, o2, s1, s2, rfl, hob2, hb2, hs1, hs2, hc2⟩ := ((HA.out.mono (ok' := fun b => b < w.heap.size) fun b hb _ => hb).via hr.bel).at_ hkl
        have e0 := hc2 0 _ rfl
        have e1 := hc2 1 _ rfl
        obtain ⟨sn2, sb2⟩ := s1
        simp only [AtE, Nat.add_zero] at e0 e1
        have i0 : (0 : Int) ≤ (k : Int) := by omega
        have i1 : (k : Int) < (na : Int) := by omega
        have HR := Lib.hid (hr.via ((Below.refl wr.heap.size wr).alloc (Nat.le_refl _) (.cells #[.int .i64 (sn2 : Int), .bool sb2] 74)))
        clear hc2 hr hs1 hs2
        cases hb0 : ((sn2 : Int) == (nn : Int)) with
        | false =>
          go_wp2_with fail
          exact ⟨⟨k + 1, n, xs, by go_num, by omega, HR.out.skip⟩, by simp [intOf]; omega⟩
        | true =>
          cases sb2 <;> cases inh
          all_goals
            go_wp2_with (at_builtin; refine wpList_append_rf _ rfl (.tmp 56) (.tmp 60) rfl (fun _ => True) w.heap.size (.slice Av n cv) n xs rfl (HR.out.own.al _) (wr.heap.size + 1) (at_, k) rfl (Blk.newAt _ 25 #[.int .i64 (at_ : Int), .int .i64 (k : Int)] _ (by simp)) (by omega) (by simp; omega) ?_; intro Av1 cv1 w1 ho1 hg1 hat1)
            first
              | exact ⟨⟨k + 1, n, xs, by go_num, by omega, HR.out.skip⟩, by simp [intOf]; omega⟩
              | exact ⟨⟨k + 1, n + 1, xs ++ [(at_, k)], by go_num, by omega, (HR.out.via ((Below.refl _ _).alloc (Nat.le_refl _) _)).push ho1 hg1⟩, by simp [intOf]; omega⟩
      · have HK := Lib.hid (show k = na by omega)
        have HR := Lib.hid hr
        clear hr
        go_wp2_with fail
        go_ret
        exact ⟨Av, n, cv, xs, rfl, HR.out.own, by have := HK.out; omega, HR.out.bel⟩
  · obtain ⟨p, hp⟩ : ∃ p : Nat, p + 1 = at_ := ⟨at_ - 1, by omega⟩
    have hq0 : (0 : Int) < q := by omega
    have ew : IntKind.i64.wrap (q - 1) = (p : Int) := (IntWalk.i64_in _ (by omega)).trans (by omega)
    obtain ⟨b1, o1, s1, s2, rfl, hob1, hb1, hs1, hs2, hc1⟩ := HX.out.at_ (i := p) (show p < nx by omega)
    have d0 := hc1 0 _ rfl
    have d1 := hc1 1 _ rfl
    obtain ⟨sb, sn⟩ := s1
    simp only [SyE, Nat.add_zero] at d0 d1
    have p0 : (0 : Int) ≤ (p : Int) := by omega
    have p1 : (p : Int) < (nx : Int) := by omega
    clear hc1 hs1 hs2 HX hp
    replace hq := Lib.hid hq
    cases sb with
    | true =>
      go_wp2_with fail
      go_ret
      exact ⟨none, 0, 0, [], rfl, Own.nil _ _, Nat.zero_le _, hB.al _⟩
    | false =>
      go_wp2_with fail
      clear c0 c1 d0 d1
      generalize sn = nn
      clear ew
      have HQ := hq
      clear hq
      have hqq := HQ.out
      subst hqq
      clear HQ
      go_loopw [13, 41] (fun v i wr => ∃ (k n : Nat) (xs : List Rf), i = .int .i64 k ∧ k ≤ na ∧ ORel w k v n xs wr) (fun _ i _ => na - (intOf i).toNat)
      case atStart => exact ⟨0, 0, [], rfl, Nat.zero_le _, Own.nil _ _, hB.al _, Nat.le_refl _⟩
      case round =>
        obtain ⟨k, n, xs, rfl, hk, hr⟩ := hrel
        obtain ⟨Av, cv, rfl, -⟩ := hr.own.form
        have hnk := hr.le
        have hszr := hr.bel.size
        by_cases hkl : k < na
        · obtain ⟨b2, o2, s1, s2, rfl, hob2, hb2, hs1, hs2, hc2⟩ := ((HA.out.mono (ok' := fun b => b < w.heap.size) fun b hb _ => hb).via hr.bel).at_ hkl
          have e0 := hc2 0 _ rfl
          have e1 := hc2 1 _ rfl
          obtain ⟨sn2, sb2⟩ := s1
          simp only [AtE, Nat.add_zero] at e0 e1
          have i0 : (0 : Int) ≤ (k : Int) := by omega
          have i1 : (k : Int) < (na : Int) := by omega
          have HR := Lib.hid (hr.via ((Below.refl wr.heap.size wr).alloc (Nat.le_refl _) (.cells #[.int .i64 (sn2 : Int), .bool sb2] 74)))
          clear hc2 hr hs1 hs2
          cases hb0 : ((sn2 : Int) == (nn : Int)) with
          | false =>
            go_wp2_with fail
            exact ⟨⟨k + 1, n, xs, by go_num, by omega, HR.out.skip⟩, by simp [intOf]; omega⟩
          | true =>
            cases sb2 <;> cases inh
            all_goals
              go_wp2_with (at_builtin; refine wpList_append_rf _ rfl (.tmp 56) (.tmp 60) rfl (fun _ => True) w.heap.size (.slice Av n cv) n xs rfl (HR.out.own.al _) (wr.heap.size + 1) (at_, k) rfl (Blk.newAt _ 25 #[.int .i64 (at_ : Int), .int .i64 (k : Int)] _ (by simp)) (by omega) (by simp; omega) ?_; intro Av1 cv1 w1 ho1 hg1 hat1)
              first
                | exact ⟨⟨k + 1, n, xs, by go_num, by omega, HR.out.skip⟩, by simp [intOf]; omega⟩
                | exact ⟨⟨k + 1, n + 1, xs ++ [(at_, k)], by go_num, by omega, (HR.out.via ((Below.refl _ _).alloc (Nat.le_refl _) _)).push ho1 hg1⟩, by simp [intOf]; omega⟩
        · have HK := Lib.hid (show k = na by omega)
          have HR := Lib.hid hr
          clear hr
          go_wp2_with fail
          go_ret
          exact ⟨Av, n, cv, xs, rfl, HR.out.own, by have := HK.out; omega, HR.out.bel⟩
end Go.Proofs.Ytgclibfikdonoaa
