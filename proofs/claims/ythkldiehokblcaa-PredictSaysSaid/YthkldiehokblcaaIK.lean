/- Texts IK, laid together. -/
import Derived.Test.YthkldiehokblcaaIG
import Derived.Test.YthkldiehokblcaaIH



namespace Go.Proofs.Ythkldiehokblcaa
open Go.RowKit

/-- a row of sets -/
structure MpR (w : World) (A : Option Addr) (n : Nat) (bs : Nat → Nat) (fs : Nat → Nat → Bool) : Prop where
  row : ∃ b off, A = some ⟨b, off, none⟩ ∧ b < w.heap.size ∧ ∀ i, i < n → w.cell? ⟨b, off + i, none⟩ = some (.map (some (bs i)))
  set : ∀ i, i < n → SetM w (bs i) (fs i)
theorem MpR.via {w w' : World} {A : Option Addr} {n : Nat} {bs : Nat → Nat} {fs : Nat → Nat → Bool} (h : MpR w A n bs fs) (k : Below w.heap.size w w') : MpR w' A n bs fs := by
  obtain ⟨b, off, e, hb, hc⟩ := h.row
  exact ⟨⟨b, off, e, Nat.lt_of_lt_of_le hb k.size, fun i hi => (k.cell (p := ⟨b, off + i, none⟩) hb).trans (hc i hi)⟩, fun i hi => (h.set i hi).via k⟩
section
variable {es : Nat → Bool} {fs : Nat → Nat → Bool}
theorem ofE_app {a b : List Sy} (h : ofE es a = true) : ofE es (a ++ b) = ofE es b := by
  induction a with
  | nil => rfl
  | cons s a ih =>
    obtain ⟨c, M⟩ := s
    cases c with
    | true => simp [ofE] at h
    | false =>
      simp only [ofE, Bool.and_eq_true] at h
      simp only [List.cons_append, ofE, h.1, Bool.true_and, ih h.2]
theorem ofB_app {a b : List Sy} (h : ofE es a = true) (t : Nat) : ofB es fs (a ++ b) t = (ofB es fs a t || ofB es fs b t) := by
  induction a with
  | nil => rfl
  | cons s a ih =>
    obtain ⟨c, M⟩ := s
    cases c with
    | true => simp [ofE] at h
    | false =>
      simp only [ofE, Bool.and_eq_true] at h
      simp only [List.cons_append, ofB, h.1, Bool.true_and, ih h.2, Bool.or_assoc]
end
theorem splitL_at {α : Type} {l : List α} {k : Nat} {x : α} (h : l[k]? = some x) : l = l.take k ++ x :: l.drop (k + 1) := by
  obtain ⟨h1, h2⟩ := List.getElem?_eq_some_iff.1 h
  have h3 := List.take_append_drop k l
  rw [List.drop_eq_getElem_cons h1, h2] at h3
  exact h3.symm
theorem ofB_at {es : Nat → Bool} {fs : Nat → Nat → Bool} {l : List Sy} {k : Nat} {x : Sy} (h : l[k]? = some x) (he : ofE es (l.take k) = true) (t : Nat) : ofB es fs l t = (ofB es fs (l.take k) t || ofB es fs (x :: l.drop (k + 1)) t) := by
  rw [← ofB_app he, ← splitL_at h]
theorem ofE_at {es : Nat → Bool} {l : List Sy} {k : Nat} {x : Sy} (h : l[k]? = some x) (he : ofE es (l.take k) = true) : ofE es l = ofE es (x :: l.drop (k + 1)) := by
  have := ofE_app (b := x :: l.drop (k + 1)) he
  rw [← splitL_at h] at this
  exact this
def BegP (w : World) (es : Nat → Bool) (fs : Nat → Nat → Bool) (l : List Sy) (e : Ending) (w' : World) : Prop :=
  ∃ bm, e = .returned (.tuple #[.map (some bm), .bool (ofE es l)]) ∧ SetM w' bm (ofB es fs l) ∧ w.heap.size ≤ bm ∧ Below w.heap.size w w'
set_option maxRecDepth 100000 in
set_option maxHeartbeats 4000000 in
theorem begins_c (ok : Nat → Prop) (A : Option Addr) (n c : Nat) (l : List Sy) (bn nn s : Nat) (es : Nat → Bool) (mA : Option Addr) (mc : Nat) (bs : Nat → Nat) (fs : Nat → Nat → Bool) (w : World) (hl : Sl SyE ok w A n c l) (hn : n ≤ 100) (hy : ∀ y ∈ l, if y.1 then y.2 < 100 else y.2 < nn)
    (he : BRowS w bn s nn es) (hm : MpR w mA nn bs fs) :
    Calls Try.prog 28 #[.slice A n c, .slice (some ⟨bn, 0, none⟩) nn nn, .slice mA nn mc] w (BegP w es fs l) := by
  have hmm := @run_makeMap Try.prog
  have HL := Lib.hid hl
  have HE := Lib.hid he
  have HM := Lib.hid hm
  have HY := Lib.hid hy
  have hlen := hl.len
  have HO := Lib.hid (SetM.made w)
  have HB := Lib.hid ((Below.refl w.heap.size w).al (.map #[] 0))
  clear hl he hm hy
  go_enter Try.func28, Try.ntmps28
  go_upto_region 2 with fail
  have hW : w.heap.size < (w.alloc (.map #[] 0)).heap.size := by simp
  generalize w.alloc (.map #[] 0) = W at *
  clear hmm
  go_wp2_with fail
  go_loopw [15] (fun a wr => ∃ k : Nat, a = .int .i64 k ∧ k ≤ n ∧ Hid (SetM wr w.heap.size (ofB es fs (l.take k)) ∧ Below w.heap.size w wr ∧ ofE es (l.take k) = true)) (fun a _ => n - (intOf a).toNat)
  case atStart => exact ⟨0, rfl, Nat.zero_le _, Lib.hid ⟨HO.out.ext (fun _ => by simp [ofB]), HB.out, by simp [ofE]⟩⟩
  case round =>
    obtain ⟨k, rfl, hk, HR⟩ := hrel
    clear HO HB
    by_cases hkn : k < n
    · obtain ⟨b1, o1, s1, s2, rfl, hob, hb1, hs1, hs2, hc⟩ := HL.out.at_ hkn
      have hs12 : s1 = s2 := hs2
      subst hs12
      have d0 := (HR.out.2.1.cell hb1).trans (hc 0 _ rfl)
      have d1 := (HR.out.2.1.cell hb1).trans (hc 1 _ rfl)
      obtain ⟨sb, sn⟩ := s1
      simp only [SyE, Nat.add_zero] at d0 d1
      have i0 : (0 : Int) ≤ (k : Int) := by omega
      have i1 : (k : Int) < (n : Int) := by omega
      have hal := (Below.refl wr.heap.size wr).al (.cells #[.bool sb, .int .i64 (sn : Int)] 68)
      have BX := Blk.new wr 68 #[.bool sb, .int .i64 (sn : Int)]
      have HS1 := Lib.hid hs1
      have HR4 := Lib.hid (And.intro (HR.out.1.via hal) (And.intro (HR.out.2.1.trans (hal.mono HR.out.2.1.size)) HR.out.2.2))
      have hsy := HY.out _ (List.mem_of_getElem? hs1)
      have hlt := HR.out.1.lt
      clear hc hs1 hs2 hal hb1 HR
      go_upto_region 5 with fail
      clear d0 d1
      have hw4 : wr.heap.size < (wr.alloc (.cells #[.bool sb, .int .i64 (sn : Int)] 68)).heap.size := by simp
      generalize wr.alloc (.cells #[.bool sb, .int .i64 (sn : Int)] 68) = W4 at *
      generalize wr.heap.size = bX at *
      cases sb with
      | true =>
        simp only [if_true] at hsy
        have cBX := BX.cell
        have fBX := BX.frozen
        have lBX := BX.lt
        go_wp2_with (at_mapUpdate; refine wpList_put_S rfl _ _ _ rfl w.heap.size _ sn rfl rfl rfl HR4.out.1 hsy ?_)
        intro w5 hs5 hg5 hz5
        have HS5 := Lib.hid (hs5.ext (g := ofB es fs l) fun t => by
          rw [ofB_at HS1.out HR4.out.2.2, show (t == sn) = decide (t = sn) from by by_cases e : t = sn <;> simp [e]]
          simp [ofB])
        have HE5 := Lib.hid (show ofE es l = false by
          rw [ofE_at HS1.out HR4.out.2.2]; rfl)
        have HB5 := Lib.hid (HR4.out.2.1.grown hg5 (by omega) (fun j e => by cases e; exact Nat.le_refl _))
        clear hs5 hg5 hz5
        go_wp2_with fail
        go_ret2
        refine ⟨w.heap.size, ?_, HS5.out, Nat.le_refl _, HB5.out⟩
        rw [HE5.out]; try rfl
      | false =>
        simp only [Bool.false_eq_true, if_false] at hsy
        have HM4 := HM.out.via HR4.out.2.1
        obtain ⟨mb, mo, hmA, hmb, hmc⟩ := HM4.row
        subst hmA
        have cm := hmc sn hsy
        have hset := HM4.set sn hsy
        have s0 : (0 : Int) ≤ (sn : Int) := by omega
        have s1 : (sn : Int) < (nn : Int) := by omega
        have hbs : bs sn < w.heap.size := (HM.out.set sn hsy).lt
        clear hmc hmb HM4
        have cBX := BX.cell
        have fBX := BX.frozen
        have lBX := BX.lt
        go_wp2_with (at_range; refine wpList_range_S rfl _ rfl (bs sn) (fs sn) rfl hset ?_)
        intro w5 cnt0 hrg0 hb5 hz5
        clear cBX fBX lBX
        go_wp2_with fail
        have HRG := Lib.hid hrg0
        have HS5 := Lib.hid (HR4.out.1.via hb5)
        have HB5 := Lib.hid (HR4.out.2.1.trans (hb5.mono HR4.out.2.1.size))
        have HX5 := Lib.hid (BX.via hb5)
        have h45 : W4.heap.size < w5.heap.size := by omega
        clear BX cm hset hrg0 hb5
        go_loopw [11] (fun _ wr => ∃ (left : Nat → Bool) (cnt : Nat), Hid (RngS wr W4.heap.size (bs sn) left cnt ∧ (∀ t, left t = true → fs sn t = true) ∧ SetM wr w.heap.size (fun t => ofB es fs (l.take k) t || (fs sn t && !left t)) ∧ Below w.heap.size w wr ∧ Blk wr bX 68 #[.bool false, .int .i64 (sn : Int)])) (fun _ wr => World.rngLeft wr W4.heap.size)
        case atStart => exact ⟨_, _, Lib.hid ⟨HRG.out, fun _ h => h, HS5.out.ext (fun t => by cases fs sn t <;> simp), HB5.out, HX5.out⟩⟩
        case round =>
          obtain ⟨left, cnt, HQ⟩ := hrel
          clear HRG HS5 HB5 HX5
          go_wp2_with (at_next; refine wpList_next_S rfl _ rfl W4.heap.size (bs sn) left cnt rfl HQ.out.1 (by omega) ?_ ?_)
          · intro hd
            have HS6 := Lib.hid (HQ.out.2.2.1.ext (g := fun t => ofB es fs (l.take k) t || fs sn t) fun t => by simp [hd t])
            have BX6 := HQ.out.2.2.2.2
            have HB6 := Lib.hid HQ.out.2.2.2.1
            have c7 := (HE.out.via HB6.out).cell hsy
            clear HQ hd
            cases hv : es sn with
            | true =>
              rw [hv] at c7
              have cBX6 := BX6.cell
              have fBX6 := BX6.frozen
              have lBX6 := BX6.lt
              go_wp2_with fail
              refine ⟨⟨k + 1, by go_num, by omega, ?_⟩, by simp [intOf]; omega⟩
              obtain ⟨k1, k2⟩ := List.getElem?_eq_some_iff.1 HS1.out
              rw [List.take_succ_eq_append_getElem k1, k2]
              refine Lib.hid ⟨HS6.out.ext (fun t => ?_), HB6.out, ?_⟩
              · rw [ofB_app HR4.out.2.2]; simp [ofB]
              · rw [ofE_app HR4.out.2.2]; simp [ofE, hv]
            | false =>
              rw [hv] at c7
              have cBX6 := BX6.cell
              have fBX6 := BX6.frozen
              have lBX6 := BX6.lt
              go_wp2_with fail
              go_ret2
              have e1 : ofE es l = false := by rw [ofE_at HS1.out HR4.out.2.2]; simp [ofE, hv]
              refine ⟨w.heap.size, ?_, HS6.out.ext (fun t => ?_), Nat.le_refl _, HB6.out⟩
              · rw [e1]; try rfl
              · rw [ofB_at HS1.out HR4.out.2.2]; simp [ofB, hv]
          · intro t w6 cnt1 hlt1 ht1 hrg1 hlt2 hg1 hz1 hen
            have hs6 := HQ.out.2.2.1.grown hg1 (by intro e; have := Option.some.inj e; omega)
            go_wp2_with (at_mapUpdate; refine wpList_put_S rfl _ _ _ rfl w.heap.size _ t rfl rfl rfl hs6 ht1 ?_)
            intro w7 hs7 hg7 hz7
            have hrg7 := hrg1.grown hg7 (by intro e; have := Option.some.inj e; omega) (by intro e; have := Option.some.inj e; omega)
            have e0 := HQ.out.1.left_eq
            have e1 := hrg7.left_eq
            have HQ7 := Lib.hid (show RngS w7 W4.heap.size (bs sn) (fun k => left k && k != t) cnt1 ∧ (∀ z, (left z && z != t) = true → fs sn z = true) ∧ SetM w7 w.heap.size (fun z => ofB es fs (l.take k) z || (fs sn z && !(left z && z != t))) ∧ Below w.heap.size w w7 ∧ Blk w7 bX 68 #[.bool false, .int .i64 (sn : Int)] from by
              refine ⟨hrg7, fun z hz => HQ.out.2.1 z (by simp only [Bool.and_eq_true] at hz; exact hz.1), hs7.ext (fun z => ?_), (HQ.out.2.2.2.1.grown hg1 (by have := HQ.out.2.2.2.1.size; omega) (fun j e => by cases e; omega)).grown hg7 (by have := HQ.out.2.2.2.1.size; omega) (fun j e => by cases e; exact Nat.le_refl _), (HQ.out.2.2.2.2.grown hg1 (by intro e; have := Option.some.inj e; omega)).grown hg7 (by intro e; have := Option.some.inj e; omega)⟩
              by_cases e : z = t
              · subst e
                have := HQ.out.2.1 z hlt1
                simp [this]
              · have e2 : (z == t) = false := by simpa using e
                have e3 : (z != t) = true := by simpa using e
                simp [e2, e3])
            clear hs7 hg7 hrg7 hs6 hrg1 hg1
            go_wp2_with fail
            exact ⟨⟨_, _, HQ7⟩, by rw [e0, e1]; exact hlt2⟩
    · obtain rfl : k = n := by omega
      have HK := Lib.hid HR.out
      go_wp2_with fail
      go_ret2
      have h1 := HK.out.1
      have h3 := HK.out.2.2
      rw [List.take_of_length_le (by omega)] at h1 h3
      refine ⟨w.heap.size, ?_, h1, Nat.le_refl _, HK.out.2.1⟩
      rw [h3]; try rfl
end Go.Proofs.Ythkldiehokblcaa

