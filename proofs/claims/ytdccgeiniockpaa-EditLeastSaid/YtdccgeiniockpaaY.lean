/- Put, same, two. -/
import Derived.Test.YtdccgeiniockpaaX
namespace Go.Proofs.Ytdccgeiniockpaa
open Go.RowKit

set_option maxRecDepth 100000 in
set_option maxHeartbeats 4000000 in
theorem putO_c (ok : Nat → Prop) (v sv : TrV) (t s : Tr) (w : World) (h : TreeR ok w v t) (hs : TreeR ok w sv s) (hM : t.size ≤ 1000000) (hS : s.size ≤ 1000000) (A : Option Addr) (n c : Nat) (q : List Nat) (hI : Ints w A n c (q.map fun i : Nat => (i : Int))) (z : Tr) (hz : t.at? q = some z) :
    Calls Try.prog 22 #[trVal v, .slice A n c, trVal sv] w (AtP w (Tr.put s q t)) := by
  obtain ⟨a, b, B, m, d⟩ := v
  obtain ⟨sa, sb, sB, sm, sd⟩ := sv
  have hB := (((Below.refl w.heap.size w).al (.cells #[.int .i64 a, .int .i64 b, .slice B m d] 36)).al (.cells #[.int .i64 sa, .int .i64 sb, .slice sB sm sd] 36)).al (.cells #[.int .i64 0, .int .i64 0, .slice none 0 0] 36)
  have B0 := ((Blk.new w 36 #[.int .i64 a, .int .i64 b, .slice B m d]).al (.cells #[.int .i64 sa, .int .i64 sb, .slice sB sm sd] 36)).al (.cells #[.int .i64 0, .int .i64 0, .slice none 0 0] 36)
  have B1 := (Blk.new (w.alloc (.cells #[.int .i64 a, .int .i64 b, .slice B m d] 36)) 36 #[.int .i64 sa, .int .i64 sb, .slice sB sm sd]).al (.cells #[.int .i64 0, .int .i64 0, .slice none 0 0] 36)
  have B2 := Blk.new ((w.alloc (.cells #[.int .i64 a, .int .i64 b, .slice B m d] 36)).alloc (.cells #[.int .i64 sa, .int .i64 sb, .slice sB sm sd] 36)) 36 #[.int .i64 0, .int .i64 0, .slice none 0 0]
  simp only [World.size_alloc] at B1 B2
  have hsz : (((w.alloc (.cells #[.int .i64 a, .int .i64 b, .slice B m d] 36)).alloc (.cells #[.int .i64 sa, .int .i64 sb, .slice sB sm sd] 36)).alloc (.cells #[.int .i64 0, .int .i64 0, .slice none 0 0] 36)).heap.size = w.heap.size + 3 := by simp
  have h1 := h.agr (Agr.below hB)
  have h2 := hs.agr (Agr.below hB)
  have h3 := hI.keep hB (Nat.le_refl _)
  have HZ := Lib.hid hz
  clear h hs hI hz
  simp only [trVal]
  go_enter Try.func22, Try.ntmps22
  go_wp2_with fail
  generalize (((w.alloc (.cells #[.int .i64 a, .int .i64 b, .slice B m d] 36)).alloc (.cells #[.int .i64 sa, .int .i64 sb, .slice sB sm sd] 36)).alloc (.cells #[.int .i64 0, .int .i64 0, .slice none 0 0] 36)) = W at *
  refine (at_c ok (a, b, B, m, d) t W h1 hM A n c q h3 z HZ.out).mono ?_
  rintro e w1 ⟨v1, rfl, hT1, hb1⟩
  obtain ⟨a1, b1, A1, n1, c1⟩ := v1
  dsimp only [trVal]
  clear hT1
  have hlt1 := hb1.size
  have hb2 : Below W.heap.size W (w1.alloc (.cells #[.int .i64 a1, .int .i64 b1, .slice A1 n1 c1] 36)) := hb1.alloc hlt1 _
  have C0 := B0.via hb2
  have C1 := B1.via hb2
  have C2 := B2.via hb2
  have k1 := h1.agr (Agr.below hb2)
  have k2 := h2.agr (Agr.below hb2)
  have k3 := h3.keep hb2 (Nat.le_refl _)
  have hB2 := hB.via hb2
  have B0' := B0.via hb1
  have B1' := B1.via hb1
  clear h1 h2 h3 hB B2 hb1 hb2 B0 B1
  have H1 := Lib.hid k1
  have H2 := Lib.hid k2
  have H3 := Lib.hid k3
  clear k1 k2 k3
  have B0 := B0'
  have B1 := B1'
  clear B0' B1'
  have cB0 := B0.cell
  have fB0 := B0.frozen
  have lB0 := B0.lt
  have cB1 := B1.cell
  have fB1 := B1.frozen
  have lB1 := B1.lt
  go_wp2_with fail
  clear cB0 fB0 lB0 cB1 fB1 lB1
  refine (put_n s hS q ok (a, b, B, m, d) (sa, sb, sB, sm, sd) t _ A n c H1.out H2.out hM H3.out).mono ?_
  rintro e w3 ⟨v3, rfl, hT3, hb3⟩
  have D2 := C2.via hb3
  have hB3 := hB2.via hb3
  have HT := Lib.hid hT3
  rw [World.size_alloc] at HT
  clear hT3 hb3 C0 C1 C2 B0 B1 hB2 H1 H2 H3
  obtain ⟨a3, b3, A3, n3, c3⟩ := v3
  dsimp only [trVal]
  have cD2 := D2.cell
  have fD2 := D2.frozen
  have lD2 := D2.lt
  go_wp2_with fail
  refine bodyPost_ret (v := .tuple #[trVal (a3, b3, A3, n3, c3), .int .i64 0]) (by simp [results, Try.results22, go_sem, trVal, cD2]) rfl ⟨_, rfl, ?_, below_set3 hB3 (by omega) _ _ _⟩
  exact (HT.out.set3 (fun b hb => by omega) _ _ _).mono fun b _ hb => by omega

/-! ### same, on equal trees -/
set_option maxRecDepth 100000 in
set_option maxHeartbeats 2000000 in
theorem eqf_yes (ok : Nat → Prop) (N : Nat)
    (ih : ∀ (ok : Nat → Prop) (v1 v2 : TrV) (t : Tr) (w : World), TreeR ok w v1 t → TreeR ok w v2 t → t.size ≤ N → Calls Try.prog 23 #[trVal v1, trVal v2] w (BoolB w true))
    (A B : Option Addr) (n c d : Nat) (l : List Tr) (w : World) (h1 : Sl TrE ok w A n c l) (h2 : Sl TrE ok w B n d l) (hl : ∀ x ∈ l, x.size ≤ N) (hn : n ≤ 1000000) :
    Calls Try.prog 51 #[.slice A n c, .slice B n d, .func (.func 23) #[] #[]] w (BoolB w true) := by
  have H1 := Lib.hid h1
  have H2 := Lib.hid h2
  have HL := Lib.hid hl
  clear h1 h2 hl
  have hne : ((n : Int) != (n : Int)) = false := by simp
  go_enter Try.func51, Try.ntmps51
  go_wp2_with fail
  go_loopw [17] (fun i wr => ∃ (k : Nat), i = .int .i64 k ∧ k ≤ n ∧ Below w.heap.size w wr) (fun i _ => n - (intOf i).toNat)
  case atStart => exact ⟨0, rfl, Nat.zero_le _, Below.refl _ _⟩
  case round =>
    obtain ⟨k, rfl, hk, hr⟩ := hrel
    by_cases hlt : k < n
    · obtain ⟨b1, o1, x1, y1, rfl, hob1, hb1, hy1, hx1, hc1⟩ := H1.out.at_ hlt
      obtain ⟨b2, o2, x2, y2, rfl, hob2, hb2, hy2, hx2, hc2⟩ := H2.out.at_ hlt
      rw [hy1] at hy2
      obtain rfl : y1 = y2 := Option.some.inj hy2
      have hx1' : TreeR ok w x1 y1 := hx1
      have hx2' : TreeR ok w x2 y1 := hx2
      obtain ⟨xa, xb, xA, xn, xc⟩ := x1
      obtain ⟨ya, yb, yA, yn, yc⟩ := x2
      have c0 := (hr.cell (p := ⟨b1, o1 + k * 3, none⟩) hb1).trans (hc1 0 _ rfl)
      have c1 := (hr.cell (p := ⟨b1, o1 + k * 3 + 1, none⟩) hb1).trans (hc1 1 _ rfl)
      have c2 := (hr.cell (p := ⟨b1, o1 + k * 3 + 2, none⟩) hb1).trans (hc1 2 _ rfl)
      have d0 := (hr.cell (p := ⟨b2, o2 + k * 3, none⟩) hb2).trans (hc2 0 _ rfl)
      have d1 := (hr.cell (p := ⟨b2, o2 + k * 3 + 1, none⟩) hb2).trans (hc2 1 _ rfl)
      have d2 := (hr.cell (p := ⟨b2, o2 + k * 3 + 2, none⟩) hb2).trans (hc2 2 _ rfl)
      simp only at c0 c1 c2 d0 d1 d2
      have i0 : (0 : Int) ≤ (k : Int) := by omega
      have i1 : (k : Int) < (n : Int) := by omega
      have hbr : b2 < wr.heap.size := Nat.lt_of_lt_of_le hb2 hr.size
      have hbr1 : b1 < wr.heap.size := Nat.lt_of_lt_of_le hb1 hr.size
      have hsz := HL.out _ (List.mem_of_getElem? hy1)
      have hbe := ((Below.refl wr.heap.size wr).al (.cells #[.int .i64 xa, .int .i64 xb, .slice xA xn xc] 36)).al (.cells #[.int .i64 ya, .int .i64 yb, .slice yA yn yc] 36)
      have HX1 := Lib.hid ((hx1'.agr (Agr.below hr)).agr (Agr.below hbe))
      have HX2 := Lib.hid ((hx2'.agr (Agr.below hr)).agr (Agr.below hbe))
      have HB := Lib.hid (hr.via hbe)
      clear hc1 hc2 hy1 hy2 hx1 hx2 hx1' hx2' hr hbe hb1 hb2
      go_wp2_with fail
      refine (ih ok (xa, xb, xA, xn, xc) (ya, yb, yA, yn, yc) y1 _ HX1.out HX2.out hsz).mono ?_
      rintro e w2 ⟨rfl, hb3⟩
      have HB3 := Lib.hid (HB.out.via hb3)
      clear hb3 c0 c1 c2 d0 d1 d2 HB
      go_wp2_with fail
      exact ⟨⟨k + 1, by go_num, by omega, HB3.out⟩, by simp [intOf]; omega⟩
    · have HR := Lib.hid hr
      clear hr
      go_wp2_with fail
      go_ret
      exact ⟨rfl, HR.out⟩

set_option maxRecDepth 100000 in
set_option maxHeartbeats 2000000 in
theorem same_n (N : Nat) (hN : N ≤ 1000000) : ∀ (ok : Nat → Prop) (v1 v2 : TrV) (t : Tr) (w : World), TreeR ok w v1 t → TreeR ok w v2 t → t.size ≤ N → Calls Try.prog 23 #[trVal v1, trVal v2] w (BoolB w true) := by
  induction N with
  | zero => intro ok v1 v2 t w _ _ h; have := t.size_pos; omega
  | succ N ih =>
    intro ok v1 v2 t w h1 h2 ht
    obtain ⟨a, b, A, n, c⟩ := v1
    obtain ⟨a2, b2, B, m, d⟩ := v2
    obtain ⟨e1, e2, e3⟩ := h1.parts
    obtain ⟨f1, f2, f3⟩ := h2.parts
    simp only at e1 e2 e3 f1 f2 f3
    subst e1 e2 f1 f2
    obtain rfl : n = m := by rw [← e3.len, f3.len]
    have hlen := t.kids_len
    rw [e3.len] at hlen
    have hbe := ((Below.refl w.heap.size w).al (.cells #[.int .i64 t.rl, .int .i64 t.tm, .slice A n c] 36)).al (.cells #[.int .i64 t.rl, .int .i64 t.tm, .slice B n d] 36)
    have H1 := Lib.hid (e3.agr (Agr.below hbe))
    have H2 := Lib.hid (f3.agr (Agr.below hbe))
    have HB := Lib.hid hbe
    have k1 : (t.rl == t.rl) = true := by simp
    have k2 : (t.tm == t.tm) = true := by simp
    clear h1 h2 e3 f3 hbe
    simp only [trVal]
    go_enter Try.func23, Try.ntmps23
    go_wp2_with fail
    refine (eqf_yes ok N (ih (by omega)) A B n c d t.kids _ H1.out H2.out (fun x hx => by have := Tr.size_kid hx; omega) (by omega)).mono ?_
    rintro e w2 ⟨rfl, hb3⟩
    have HB3 := Lib.hid (HB.out.via hb3)
    clear hb3
    go_wp2_with fail
    go_ret
    exact ⟨rfl, HB3.out⟩
end Go.Proofs.Ytdccgeiniockpaa
