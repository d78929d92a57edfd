/- repair.Run. -/
import Derived.Test.YtdccgeiniockpaaNN
namespace Go.Proofs.Ytdccgeiniockpaa
open Go.RowKit

def RunP (w : World) (ys : List Int) (e : Ending) (w' : World) : Prop :=
  ∃ A k c, e = .returned (.tuple #[.slice A k c, .int .i64 0]) ∧ Ints w' A k c ys ∧ Below w.heap.size w w'
/-- behind k operations -/
structure RunR (w : World) (ys : List Int) (os : List OpV) (k : Nat) (v : Value) (wr : World) : Prop where
  own : OwnI wr w.heap.size v (jOf (os.take k)) (ys.take (jOf (os.take k)))
  le : jOf (os.take k) ≤ ys.length
  bel : Below w.heap.size w wr
theorem RunR.al {w wr : World} {ys : List Int} {os : List OpV} {k : Nat} {v : Value} (h : RunR w ys os k v wr) (o : Obj) : RunR w ys os k v (wr.alloc o) := ⟨h.own.alloc o, h.le, h.bel.al o⟩
theorem RunR.stay {w wr : World} {ys : List Int} {os : List OpV} {k : Nat} {v : Value} {o : OpV} (h : RunR w ys os k v wr) (ho : os[k]? = some o) (hk : o.1 = 2) : RunR w ys os (k + 1) v wr := by
  have e : jOf (os.take (k + 1)) = jOf (os.take k) := by rw [take_at ho, jOf_snoc, if_pos hk]; omega
  obtain ⟨h1, h2, h3⟩ := h
  rw [← e] at h1 h2
  exact ⟨h1, h2, h3⟩
theorem RunR.push {w wr w1 : World} {ys : List Int} {os : List OpV} {k : Nat} {v v' : Value} {o : OpV} (h : RunR w ys os k v wr) (ho : os[k]? = some o) (hk : o.1 ≠ 2) (hy : ys[jOf (os.take k)]? = some o.2.2)
    (h1 : OwnI w1 w.heap.size v' (jOf (os.take k) + 1) (ys.take (jOf (os.take k)) ++ [o.2.2])) (hg : wr.grownBy w1 v.ownBlock) : RunR w ys os (k + 1) v' w1 := by
  have e : jOf (os.take (k + 1)) = jOf (os.take k) + 1 := by rw [take_at ho, jOf_snoc, if_neg hk]
  have hl := (List.getElem?_eq_some_iff.1 hy).1
  refine ⟨?_, by omega, h.own.grown h.bel hg (Nat.le_refl _) h.bel.size⟩
  rw [e, take_at hy]
  exact h1

set_option maxRecDepth 100000 in
set_option maxHeartbeats 8000000 in
theorem run_c (ok : Nat → Prop) (A B : Option Addr) (n c m d : Nat) (xs ys : List Int) (os : List OpV) (w : World) (h : Ints w A n c xs) (hos : Sl OpE ok w B m d os) (hok : OpsOk xs ys os) (hi : iOf os = n) (hj : jOf os = ys.length) (hn : n ≤ 100000) (hm : m ≤ 100000) (hy : ys.length ≤ 100000) :
    Calls Try.prog 26 #[.slice A n c, .slice B m d] w (RunP w ys) := by
  have HX := Lib.hid h.len
  have HI := Lib.hid h
  have HO := Lib.hid hos
  have HOK := Lib.hid hok
  have Hi := Lib.hid hi
  have Hj := Lib.hid hj
  clear h hos hok hi hj
  go_enter Try.func26, Try.ntmps26
  go_wp2_with fail
  go_loopw [6, 7, 12] (fun v i kk wr => ∃ k : Nat, kk = .int .i64 k ∧ k ≤ m ∧ i = .int .i64 (iOf (os.take k) : Nat) ∧ RunR w ys os k v wr) (fun _ _ kk _ => m - (intOf kk).toNat)
  case atStart => exact ⟨0, rfl, Nat.zero_le _, rfl, ⟨OwnI.nil _ _, Nat.zero_le _, Below.refl _ _⟩⟩
  case round =>
    obtain ⟨k, rfl, hk, rfl, hr⟩ := hrel
    obtain ⟨Av, cv, rfl, -⟩ := hr.own.form
    have hle := hr.le
    by_cases hlt : k < m
    · obtain ⟨bo, oo, raw, o, rfl, -, hbo, ho, hrel, hc⟩ := HO.out.at_ hlt
      have hrel' : raw = o := hrel
      subst hrel'
      obtain ⟨kd, at_, tm⟩ := raw
      have c0 := (hr.bel.cell (p := ⟨bo, oo + k * 3, none⟩) hbo).trans (hc 0 _ rfl)
      have c1 := (hr.bel.cell (p := ⟨bo, oo + k * 3 + 1, none⟩) hbo).trans (hc 1 _ rfl)
      have c2 := (hr.bel.cell (p := ⟨bo, oo + k * 3 + 2, none⟩) hbo).trans (hc 2 _ rfl)
      simp only at c0 c1 c2
      have i0 : (0 : Int) ≤ (k : Int) := by omega
      have i1 : (k : Int) < (m : Int) := by omega
      have hop := HOK.out k _ ho
      have HO2 := Lib.hid ho
      have hio := iOf_snoc (os.take k) (kd, at_, tm)
      rw [← take_at ho] at hio
      have hHio := Lib.hid hio
      have hilt := Lib.hid (show ∀ i, i < xs.length → i < n from fun i h => by rw [← HX.out]; exact h)
      have Bo := Blk.new wr 55 #[.int .i64 kd, .int .i64 at_, .int .i64 tm]
      have HR := Lib.hid (hr.al (.cells #[.int .i64 kd, .int .i64 at_, .int .i64 tm] 55))
      have hneb : some wr.heap.size ≠ Value.ownBlock (.slice Av (jOf (os.take k)) cv) := fun e => by have := (hr.own.lt _ e.symm).2; omega
      have hsz := hr.bel.size
      have hjb : jOf (os.take k) + 1 ≤ 17592186044416 := by omega
      obtain ⟨e1, hop⟩ := hop
      simp only at e1 hop
      have hRI := Lib.hid (HI.out.keep (hr.bel.al (.cells #[.int .i64 kd, .int .i64 at_, .int .i64 tm] 55)) (Nat.le_refl _))
      clear hrel hr hc ho hio hbo
      obtain ⟨ii, hii⟩ : ∃ ii, ii = iOf (os.take k) := ⟨_, rfl⟩
      rw [← hii] at e1 hop hHio ⊢
      have HII := Lib.hid hii
      clear hii
      subst e1
      have hne1 : ((ii : Int) != (ii : Int)) = false := by simp
      rcases hop with ⟨rfl, h1, h2⟩ | ⟨rfl, h2⟩ | ⟨rfl, h1⟩ | ⟨rfl, h1, h2⟩
      · have hil := hilt.out ii (List.getElem?_eq_some_iff.1 h1).1
        obtain ⟨bx, ox, rfl, hbx, hcx⟩ := hRI.out.at2 h1
        have j0 : (0 : Int) ≤ (ii : Int) := by omega
        have j1 : (ii : Int) < (n : Int) := by omega
        have H2 := Lib.hid h2
        have hin : ((ii : Int) == (n : Int)) = false := by rw [beq_eq_false_iff_ne]; omega
        clear h1 h2 hilt
        have cBo := Bo.cell
        have fBo := Bo.frozen
        have lBo := Bo.lt
        go_wp2_with (at_builtin; refine wpList_append_ints _ rfl (.tmp 45) (.tmp 50) rfl w.heap.size (.slice Av (jOf (os.take k)) cv) (jOf (os.take k)) _ rfl (HR.out.own.alloc _) (some ⟨wr.heap.size + 1, 0, none⟩) 1 1 [tm] rfl (by have := Ints.one (wr.alloc (.cells #[.int .i64 0, .int .i64 (ii : Int), .int .i64 tm] 55)) tm 3; rw [World.size_alloc] at this; exact this) hjb (by simp; omega) ?_; intro Av1 cv1 w4 ho1 hg1 hat1; have Bg := (Bo.al (.cells #[.int .i64 tm] 3)).grown hg1 hneb; have cg := Bg.cell; have fg := Bg.frozen)
        have HQ := Lib.hid (RunR.push (HR.out.al (.cells #[.int .i64 tm] 3)) HO2.out (by simp) H2.out ho1 hg1)
        exact ⟨⟨k + 1, by go_num, by omega, by rw [hHio.out]; simp, HQ.out⟩, by simp [intOf]; omega⟩
      · have H2 := Lib.hid h2
        clear h2 hilt
        have cBo := Bo.cell
        have fBo := Bo.frozen
        have lBo := Bo.lt
        go_wp2_with (at_builtin; refine wpList_append_ints _ rfl (.tmp 55) (.tmp 58) rfl w.heap.size (.slice Av (jOf (os.take k)) cv) (jOf (os.take k)) _ rfl (HR.out.own.alloc _) (some ⟨wr.heap.size + 1, 0, none⟩) 1 1 [tm] rfl (by have := Ints.one (wr.alloc (.cells #[.int .i64 1, .int .i64 (ii : Int), .int .i64 tm] 55)) tm 3; rw [World.size_alloc] at this; exact this) hjb (by simp; omega) ?_; intro Av1 cv1 w4 ho1 hg1 hat1; have Bg := (Bo.al (.cells #[.int .i64 tm] 3)).grown hg1 hneb; have cg := Bg.cell; have fg := Bg.frozen)
        have HQ := Lib.hid (RunR.push (HR.out.al (.cells #[.int .i64 tm] 3)) HO2.out (by simp) H2.out ho1 hg1)
        exact ⟨⟨k + 1, by go_num, by omega, by rw [hHio.out]; simp, HQ.out⟩, by simp [intOf]; omega⟩
      · have hil := hilt.out ii h1
        have hin : ((ii : Int) == (n : Int)) = false := by rw [beq_eq_false_iff_ne]; omega
        clear h1 hilt
        have cBo := Bo.cell
        have fBo := Bo.frozen
        have lBo := Bo.lt
        go_wp2_with fail
        exact ⟨⟨k + 1, by go_num, by omega, by rw [hHio.out]; simp, HR.out.stay HO2.out rfl⟩, by simp [intOf]; omega⟩
      · have hil := hilt.out ii h1
        have hin : ((ii : Int) == (n : Int)) = false := by rw [beq_eq_false_iff_ne]; omega
        have H2 := Lib.hid h2
        clear h1 h2 hilt
        have cBo := Bo.cell
        have fBo := Bo.frozen
        have lBo := Bo.lt
        go_wp2_with (at_builtin; refine wpList_append_ints _ rfl (.tmp 55) (.tmp 58) rfl w.heap.size (.slice Av (jOf (os.take k)) cv) (jOf (os.take k)) _ rfl (HR.out.own.alloc _) (some ⟨wr.heap.size + 1, 0, none⟩) 1 1 [tm] rfl (by have := Ints.one (wr.alloc (.cells #[.int .i64 3, .int .i64 (ii : Int), .int .i64 tm] 55)) tm 3; rw [World.size_alloc] at this; exact this) hjb (by simp; omega) ?_; intro Av1 cv1 w4 ho1 hg1 hat1; have Bg := (Bo.al (.cells #[.int .i64 tm] 3)).grown hg1 hneb; have cg := Bg.cell; have fg := Bg.frozen)
        have HQ := Lib.hid (RunR.push (HR.out.al (.cells #[.int .i64 tm] 3)) HO2.out (by simp) H2.out ho1 hg1)
        exact ⟨⟨k + 1, by go_num, by omega, by rw [hHio.out]; simp, HQ.out⟩, by simp [intOf]; omega⟩
    · have hkm : k = m := by omega
      have hfin : iOf (os.take k) = n := by rw [List.take_of_length_le (by rw [HO.out.len]; omega)]; exact Hi.out
      have hjf : jOf (os.take k) = ys.length := by rw [List.take_of_length_le (by rw [HO.out.len]; omega)]; exact Hj.out
      have hlt2 : decide ((n : Int) < (n : Int)) = false := by simp
      have HJF := Lib.hid hjf
      have HR := Lib.hid hr
      rw [hfin]
      clear hkm hfin hjf hr
      go_wp2_with fail
      go_ret2
      refine ⟨Av, _, cv, rfl, ?_, HR.out.bel⟩
      have := HR.out.own.toInts
      rw [HJF.out, List.take_length] at this
      rw [HJF.out]
      exact this
end Go.Proofs.Ytdccgeiniockpaa
