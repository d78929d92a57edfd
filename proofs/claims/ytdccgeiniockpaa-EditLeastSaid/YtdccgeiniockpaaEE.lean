/- same, on any two trees. -/
import Derived.Test.YtdccgeiniockpaaDD
namespace Go.Proofs.Ytdccgeiniockpaa
open Go.RowKit

theorem Tr.ext' {s t : Tr} (h1 : s.rl = t.rl) (h2 : s.tm = t.tm) (h3 : s.kids = t.kids) : s = t := by
  cases s with
  | leaf a => cases t with
    | leaf b => simp only [Tr.tm] at h2; have : a = b := by omega
                rw [this]
    | node r ks => simp only [Tr.rl] at h1; omega
  | node r ks => cases t with
    | leaf b => simp only [Tr.rl] at h1; omega
    | node r' ks' =>
      simp only [Tr.rl] at h1
      simp only [Tr.kids] at h3
      have : r = r' := by omega
      rw [this, h3]
/-- a function that tells whether p holds -/
def TellP (p : Prop) (w : World) (e : Ending) (w' : World) : Prop := ∃ b, e = .returned (.bool b) ∧ (b = true ↔ p) ∧ Below w.heap.size w w'
theorem TellP.yes {p : Prop} {w w' : World} (h : p) (hb : Below w.heap.size w w') : TellP p w (.returned (.bool true)) w' := ⟨true, rfl, by simp [h], hb⟩
theorem TellP.no {p : Prop} {w w' : World} (h : ¬ p) (hb : Below w.heap.size w w') : TellP p w (.returned (.bool false)) w' := ⟨false, rfl, by simp [h], hb⟩

set_option maxRecDepth 100000 in
set_option maxHeartbeats 2000000 in
theorem eqf_any (ok : Nat → Prop) (N : Nat)
    (ih : ∀ (ok : Nat → Prop) (v1 v2 : TrV) (s t : Tr) (w : World), TreeR ok w v1 s → TreeR ok w v2 t → s.size ≤ N → Calls Try.prog 23 #[trVal v1, trVal v2] w (TellP (s = t) w))
    (A B : Option Addr) (n c m d : Nat) (l l2 : List Tr) (w : World) (h1 : Sl TrE ok w A n c l) (h2 : Sl TrE ok w B m d l2) (hl : ∀ x ∈ l, x.size ≤ N) (hn : n ≤ 1000000) :
    Calls Try.prog 51 #[.slice A n c, .slice B m d, .func (.func 23) #[] #[]] w (TellP (l = l2) w) := by
  have H1 := Lib.hid h1
  have H2 := Lib.hid h2
  have HL := Lib.hid hl
  have L1 := Lib.hid h1.len
  have L2 := Lib.hid h2.len
  clear h1 h2 hl
  by_cases hnm : n = m
  · subst hnm
    have hne : ((n : Int) != (n : Int)) = false := by simp
    go_enter Try.func51, Try.ntmps51
    go_wp2_with fail
    go_loopw [17] (fun i wr => ∃ (k : Nat), i = .int .i64 k ∧ k ≤ n ∧ Hid (∀ j, j < k → l[j]? = l2[j]?) ∧ Below w.heap.size w wr) (fun i _ => n - (intOf i).toNat)
    case atStart => exact ⟨0, rfl, Nat.zero_le _, Lib.hid (fun j hj => absurd hj (by omega)), Below.refl _ _⟩
    case round =>
      obtain ⟨k, rfl, hk, HE, hr⟩ := hrel
      by_cases hlt : k < n
      · obtain ⟨b1, o1, x1, y1, rfl, hob1, hb1, hy1, hx1, hc1⟩ := H1.out.at_ hlt
        obtain ⟨b2, o2, x2, y2, rfl, hob2, hb2, hy2, hx2, hc2⟩ := H2.out.at_ hlt
        have hx1' : TreeR ok w x1 y1 := hx1
        have hx2' : TreeR ok w x2 y2 := hx2
        obtain ⟨xa, xb, xA, xn, xc⟩ := x1
        obtain ⟨ya, yb, yA, yn, yc⟩ := x2
        have c0 := (hr.cell (p := ⟨b1, o1 + k * 3, none⟩) hb1).trans (hc1 0 _ rfl)
        have c1 := (hr.cell (p := ⟨b1, o1 + k * 3 + 1, none⟩) hb1).trans (hc1 1 _ rfl)
        have c2 := (hr.cell (p := ⟨b1, o1 + k * 3 + 2, none⟩) hb1).trans (hc1 2 _ rfl)
        have d0 := (hr.cell (p := ⟨b2, o2 + k * 3, none⟩) hb2).trans (hc2 0 _ rfl)
        have d1 := (hr.cell (p := ⟨b2, o2 + k * 3 + 1, none⟩) hb2).trans (hc2 1 _ rfl)
        have d2 := (hr.cell (p := ⟨b2, o2 + k * 3 + 2, none⟩) hb2).trans (hc2 2 _ rfl)
        simp only at c0 c1 c2 d0 d1 d2
        have i0 : (0 : Int) ≤ (k : Int) := by omega
        have i1 : (k : Int) < (n : Int) := by omega
        have hbr : b2 < wr.heap.size := Nat.lt_of_lt_of_le hb2 hr.size
        have hbr1 : b1 < wr.heap.size := Nat.lt_of_lt_of_le hb1 hr.size
        have hsz := HL.out _ (List.mem_of_getElem? hy1)
        have hbe := ((Below.refl wr.heap.size wr).al (.cells #[.int .i64 xa, .int .i64 xb, .slice xA xn xc] 36)).al (.cells #[.int .i64 ya, .int .i64 yb, .slice yA yn yc] 36)
        have HX1 := Lib.hid ((hx1'.agr (Agr.below hr)).agr (Agr.below hbe))
        have HX2 := Lib.hid ((hx2'.agr (Agr.below hr)).agr (Agr.below hbe))
        have HB := Lib.hid (hr.via hbe)
        have HY1 := Lib.hid hy1
        have HY2 := Lib.hid hy2
        clear hc1 hc2 hy1 hy2 hx1 hx2 hx1' hx2' hr hbe hb1 hb2
        go_wp2_with fail
        refine (ih ok (xa, xb, xA, xn, xc) (ya, yb, yA, yn, yc) y1 y2 _ HX1.out HX2.out hsz).mono ?_
        rintro e w2 ⟨b, rfl, hbb, hb3⟩
        have HB3 := Lib.hid (HB.out.via hb3)
        have HBB := Lib.hid hbb
        clear hb3 c0 c1 c2 d0 d1 d2 HB hbb
        cases b with
        | true =>
          go_wp2_with fail
          refine ⟨⟨k + 1, by go_num, by omega, Lib.hid fun j hj => ?_, HB3.out⟩, by simp [intOf]; omega⟩
          rcases Nat.lt_or_ge j k with h | h
          · exact HE.out j h
          · obtain rfl : j = k := by omega
            rw [HY1.out, HY2.out, HBB.out.1 (by first | trivial | rfl)]
        | false =>
          go_wp2_with fail
          go_ret
          refine TellP.no (fun e => ?_) HB3.out
          have h1 := HY1.out
          rw [e, HY2.out] at h1
          have := HBB.out.2 (Option.some.inj h1).symm
          cases this
      · have HR := Lib.hid hr
        have HKE := Lib.hid (show k = n by omega)
        clear hr
        go_wp2_with fail
        go_ret
        refine TellP.yes (List.ext_getElem? fun j => ?_) HR.out
        rcases Nat.lt_or_ge j k with h | h
        · exact HE.out j h
        · rw [List.getElem?_eq_none (by rw [L1.out]; have := HKE.out; omega), List.getElem?_eq_none (by rw [L2.out]; have := HKE.out; omega)]
  · have hne : ((n : Int) != (m : Int)) = true := by rw [bne_iff_ne]; omega
    have HN := Lib.hid hnm
    clear hnm
    go_enter Try.func51, Try.ntmps51
    go_wp2_with fail
    go_ret
    exact TellP.no (fun e => HN.out (by rw [← L1.out, ← L2.out, e])) (Below.refl _ _)

set_option maxRecDepth 100000 in
set_option maxHeartbeats 2000000 in
theorem same_any (N : Nat) (hN : N ≤ 1000000) : ∀ (ok : Nat → Prop) (v1 v2 : TrV) (s t : Tr) (w : World), TreeR ok w v1 s → TreeR ok w v2 t → s.size ≤ N → Calls Try.prog 23 #[trVal v1, trVal v2] w (TellP (s = t) w) := by
  induction N with
  | zero => intro ok v1 v2 s t w _ _ h; have := s.size_pos; omega
  | succ N ih =>
    intro ok v1 v2 s t w h1 h2 ht
    obtain ⟨a, b, A, n, c⟩ := v1
    obtain ⟨a2, b2, B, m, d⟩ := v2
    obtain ⟨e1, e2, e3⟩ := h1.parts
    obtain ⟨f1, f2, f3⟩ := h2.parts
    simp only at e1 e2 e3 f1 f2 f3
    subst e1 e2 f1 f2
    have hlen := s.kids_len
    rw [e3.len] at hlen
    have hbe := ((Below.refl w.heap.size w).al (.cells #[.int .i64 s.rl, .int .i64 s.tm, .slice A n c] 36)).al (.cells #[.int .i64 t.rl, .int .i64 t.tm, .slice B m d] 36)
    have H1 := Lib.hid (e3.agr (Agr.below hbe))
    have H2 := Lib.hid (f3.agr (Agr.below hbe))
    have HB := Lib.hid hbe
    clear h1 h2 e3 f3 hbe
    simp only [trVal]
    by_cases g1 : s.rl = t.rl
    · by_cases g2 : s.tm = t.tm
      · have G1 := Lib.hid g1
        have G2 := Lib.hid g2
        have k1 : (s.rl == t.rl) = true := by simp [g1]
        have k2 : (s.tm == t.tm) = true := by simp [g2]
        clear g1 g2
        go_enter Try.func23, Try.ntmps23
        go_wp2_with fail
        refine (eqf_any ok N (ih (by omega)) A B n c m d s.kids t.kids _ H1.out H2.out (fun x hx => by have := Tr.size_kid hx; omega) (by omega)).mono ?_
        rintro e w2 ⟨b, rfl, hbb, hb3⟩
        have HB3 := Lib.hid (HB.out.via hb3)
        have HBB := Lib.hid hbb
        clear hb3 hbb
        go_wp2_with fail
        go_ret
        exact ⟨b, rfl, HBB.out.trans ⟨fun h => Tr.ext' G1.out G2.out h, fun h => by rw [h]⟩, HB3.out⟩
      · have G2 := Lib.hid g2
        have k1 : (s.rl == t.rl) = true := by simp [g1]
        have k2 : (s.tm == t.tm) = false := by simp [g2]
        clear g1 g2
        go_enter Try.func23, Try.ntmps23
        go_wp2_with fail
        go_ret
        exact TellP.no (fun h => G2.out (by rw [h])) HB.out
    · have G1 := Lib.hid g1
      have k1 : (s.rl == t.rl) = false := by simp [g1]
      clear g1
      go_enter Try.func23, Try.ntmps23
      go_wp2_with fail
      go_ret
      exact TellP.no (fun h => G1.out (by rw [h])) HB.out
end Go.Proofs.Ytdccgeiniockpaa
