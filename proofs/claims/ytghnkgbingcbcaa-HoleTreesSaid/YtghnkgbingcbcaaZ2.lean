/- Texts ZJ, laid together. -/
import Derived.Test.YtghnkgbingcbcaaZ1


namespace Go.Proofs.Ytghnkgbingcbcaa
open Go.RowKit

theorem hopeless_b (ok ok' ok2 : Nat → Prop) (ac as_ : Int) (A : Option Addr) (n c : Nat) (ao : Bool) (bc bs : Int) (B : Option Addr) (m d : Nat) (bo : Bool) (tc ts : Int) (T : Option Addr) (tm td : Nat) (tk : Bool) (x y z : Way) (r : Bool) (w : World)
    (h1 : WayR ok w (ac, as_, (A, n, c), ao) x) (h2 : WayR ok' w (bc, bs, (B, m, d), bo) y) (h3 : WayR ok2 w (tc, ts, (T, tm, td), tk) z) (hx : Bnd 10000000000 x) (hy : Bnd 10000000000 y) (hr : hopeW x y z = r) :
    Calls Try.prog 57 #[.agg #[.int .i64 ac, .int .i64 as_, .slice A n c, .bool ao], .agg #[.int .i64 bc, .int .i64 bs, .slice B m d, .bool bo], .agg #[.int .i64 tc, .int .i64 ts, .slice T tm td, .bool tk]] w (TellB w r) := by
  rw [← hr]; exact hopeless_c ok ok' ok2 ac as_ A n c ao bc bs B m d bo tc ts T tm td tk x y z w h1 h2 h3 hx hy
theorem less_b (ok ok' : Nat → Prop) (ac as_ : Int) (A : Option Addr) (n c : Nat) (ao : Bool) (bc bs : Int) (B : Option Addr) (m d : Nat) (bo : Bool) (x y : Way) (r : Bool) (w : World)
    (h1 : WayR ok w (ac, as_, (A, n, c), ao) x) (h2 : WayR ok' w (bc, bs, (B, m, d), bo) y) (hx : x.w.length ≤ 2000) (hr : lessW x y = r) :
    Calls Try.prog 29 #[.agg #[.int .i64 ac, .int .i64 as_, .slice A n c, .bool ao], .agg #[.int .i64 bc, .int .i64 bs, .slice B m d, .bool bo]] w (TellB w r) := by
  rw [← hr]; exact less_c ok ok' ac as_ A n c ao bc bs B m d bo x y w h1 h2 hx

/-- the words of two rows that lie in b and bn -/
def Z2 (ok : Nat → Prop) (lo b bn : Nat) : Nat → Prop := fun x => (ok x ∨ lo ≤ x) ∧ x ≠ b ∧ x ≠ bn
structure NRel (ok : Nat → Prop) (w : World) (n b bn bs : Nat) (rc : Array Value) (sy : Sy) (fat fnx : Nat → Way) (wr : World) : Prop where
  hat : WRow (Z2 ok w.heap.size b bn) wr b n fat
  hnx : WRow (Z2 ok w.heap.size b bn) wr bn n fnx
  blk : Blk wr w.heap.size 75 rc
  hsb : Blk wr bs 48 #[.bool sy.1, .int .i64 (sy.2 : Int)]
  bel : Below w.heap.size w wr
  l1 : w.heap.size < b
  l2 : w.heap.size < bn
  l3 : w.heap.size < bs
  n1 : b ≠ bn
  n2 : bs ≠ b
  n3 : bs ≠ bn
section
variable {ok : Nat → Prop} {w wr wa : World} {n b bn bs j : Nat} {rc : Array Value} {sy : Sy} {fat fnx : Nat → Way}
theorem NRel.via (h : NRel ok w n b bn bs rc sy fat fnx wr) (k : Below wr.heap.size wr wa) : NRel ok w n b bn bs rc sy fat fnx wa :=
  ⟨h.hat.via k, h.hnx.via k, h.blk.via k, h.hsb.via k, h.bel.via k, h.l1, h.l2, h.l3, h.n1, h.n2, h.n3⟩
theorem NRel.put (h : NRel ok w n b bn bs rc sy fat fnx wr) (hj : j ≤ n) {v : WyV} {y : Way} (hv : WayR (Z2 ok w.heap.size b bn) wr v y) : NRel ok w n b bn bs rc sy fat (upd fnx j y) (World.put4 wr bn (j * 4) v) :=
  ⟨h.hat.agr (heap_put4 h.n1) (agr_put4 fun x hx => hx.2.2), h.hnx.put hj hv fun x hx => hx.2.2, (heap_put4 (by have := h.l2; omega)).trans h.blk, (heap_put4 h.n3).trans h.hsb, below_put4 h.bel (by have := h.l2; omega), h.l1, h.l2, h.l3, h.n1, h.n2, h.n3⟩
end
structure RRel (ok : Nat → Prop) (w : World) (n b : Nat) (rc : Array Value) (f : Nat → Way) (wr : World) : Prop where
  row : WRow (Zb ok w.heap.size b) wr b n f
  blk : Blk wr w.heap.size 75 rc
  bel : Below w.heap.size w wr
  l1 : w.heap.size < b
theorem RRel.via {ok : Nat → Prop} {w wr wa : World} {n b : Nat} {rc : Array Value} {f : Nat → Way} (h : RRel ok w n b rc f wr) (k : Below wr.heap.size wr wa) : RRel ok w n b rc f wa := ⟨h.row.via k, h.blk.via k, h.bel.via k, h.l1⟩
/-- a new symbol and a new row -/
theorem RRel.next {ok : Nat → Prop} {w wr : World} {n b : Nat} {rc : Array Value} {f : Nat → Way} (sy : Sy) (h : RRel ok w n b rc f wr) :
    NRel ok w n b (wr.heap.size + 1) wr.heap.size rc sy f (fun _ => Way.no) ((wr.alloc (.cells #[.bool sy.1, .int .i64 (sy.2 : Int)] 48)).alloc (.cells (wayCells n) 78)) := by
  have hlt := h.row.lt
  have hw := h.bel.size
  have hm := WRow.made (Z2 ok w.heap.size b (wr.heap.size + 1)) (wr.alloc (.cells #[.bool sy.1, .int .i64 (sy.2 : Int)] 48)) n
  rw [World.size_alloc] at hm
  have hb := ((Below.refl wr.heap.size wr).al (.cells #[.bool sy.1, .int .i64 (sy.2 : Int)] 48)).al (.cells (wayCells n) 78)
  refine ⟨?_, hm, h.blk.via hb, (Blk.new wr _ _).al _, h.bel.via hb, h.l1, by omega, ?_, by omega, by omega, by omega⟩
  · exact (h.row.mono (ok' := Z2 ok w.heap.size b (wr.heap.size + 1)) fun _ hx hz => ⟨hz.1, hz.2, by omega⟩).via hb
  · have := h.blk.lt; omega
theorem NRel.back {ok : Nat → Prop} {w wr : World} {n b bn bs : Nat} {rc : Array Value} {sy : Sy} {fat fnx : Nat → Way} (h : NRel ok w n b bn bs rc sy fat fnx wr) : RRel ok w n bn rc fnx wr :=
  ⟨h.hnx.mono fun _ _ hz => ⟨hz.1, hz.2.2⟩, h.blk, h.bel, h.l2⟩

structure YCut (ok : Nat → Prop) (w : World) (n b bn bs : Nat) (rc : Array Value) (sy : Sy) (fat fnx : Nat → Way) (y : Way) (yv : WyV) (bY : Nat) (wx : World) : Prop where
  rel : NRel ok w n b bn bs rc sy fat fnx wx
  blk : Blk wx bY 78 #[.int .i64 yv.1, .int .i64 yv.2.1, .slice yv.2.2.1.1 yv.2.2.1.2.1 yv.2.2.1.2.2, .bool yv.2.2.2]
  way : WayR (Z2 ok w.heap.size b bn) wx yv y
section
variable {ok : Nat → Prop} {w wn wm : World} {n b bn bs : Nat} {rc : Array Value} {sy : Sy} {fat fnx : Nat → Way} {y : Way} {yv : WyV}
theorem YCut.way1 (h : NRel ok w n b bn bs rc sy fat fnx wn) (hb : Below wn.heap.size wn wm) (hy : WayR (fun x => wn.heap.size ≤ x) wm yv y) :
    YCut ok w n b bn bs rc sy fat fnx y yv wm.heap.size (wm.alloc (.cells #[.int .i64 yv.1, .int .i64 yv.2.1, .slice yv.2.2.1.1 yv.2.2.1.2.1 yv.2.2.1.2.2, .bool yv.2.2.2] 78)) := by
  have h1 := h.hat.lt; have h2 := h.hnx.lt; have h3 := h.bel.size
  exact ⟨(h.via hb).via ((Below.refl _ _).al _), Blk.new wm _ _, (hy.al _).mono fun x _ hx => ⟨Or.inr (by omega), by omega, by omega⟩⟩
theorem YCut.way2 (h : NRel ok w n b bn bs rc sy fat fnx wn) (hb : Below (wn.heap.size + 1) (wn.alloc (.cells #[.int .i64 0, .int .i64 0, .slice none 0 0, .bool false] 78)) wm) (hy : WayR (fun x => wn.heap.size + 1 ≤ x) wm yv y) :
    YCut ok w n b bn bs rc sy fat fnx y yv wn.heap.size (World.set4 wm wn.heap.size yv) := by
  have h1 := h.hat.lt; have h2 := h.hnx.lt; have h3 := h.bel.size; have h4 := h.blk.lt; have h5 := h.hsb.lt
  have e : Below wn.heap.size wn wm := ((Below.refl wn.heap.size wn).al _).trans (hb.mono (by omega))
  have hB : Blk wm wn.heap.size 78 #[.int .i64 0, .int .i64 0, .slice none 0 0, .bool false] := (Blk.new wn _ _).below hb (by omega)
  have B1 := (((hB.set_ 0 (.int .i64 yv.1)).set_ 1 (.int .i64 yv.2.1)).set_ 2 (.slice yv.2.2.1.1 yv.2.2.1.2.1 yv.2.2.1.2.2)).set_ 3 (.bool yv.2.2.2)
  have e2 : Below wn.heap.size wn (World.set4 wm wn.heap.size yv) := below_set4 e (Nat.le_refl _)
  refine ⟨h.via e2, by simpa [World.set4] using B1, (hy.agr (agr_set4 fun x hx => by omega)).mono fun x _ hx => ⟨Or.inr (by omega), by omega, by omega⟩⟩
end

set_option maxRecDepth 100000 in
set_option maxHeartbeats 16000000 in
theorem rule_more (ok : Nat → Prop) (bc : Nat) (v : CorV) (xs : List Int) (left rn rcc i oo ob : Nat) (rA : Option Addr) (l : List Sy) (rb : Nat → Nat) (cb : Nat → Nat → Nat) (st : WSt) (w : World) (hb : Blk w bc 71 v.cells) (hx : Ints w v.A v.n v.c xs)
    (h0 : 1 ≤ v.c0 ∧ v.c0 ≤ 100) (h1 : 1 ≤ v.c1 ∧ v.c1 ≤ 100) (h2 : 1 ≤ v.c2 ∧ v.c2 ≤ 100) (hn : v.n ≤ 12) (hi : i ≤ v.n) (hA : v.bA = some ⟨ob, oo, none⟩) (hT : BestR ok w ob oo v.bn v.n rb cb st) (okr : Nat → Prop) (hr : Sl SyE okr w rA rn rcc l) (hs : ∀ s ∈ l, s.1 = false → s.2 < v.bn)
    (hl : 0 < rn) (hl4 : rn ≤ 4) (hst : ∀ N i j, Bnd 2000000000 (st N i j)) :
    Calls Try.prog 28 #[.pointer (some ⟨bc, 0, none⟩), .agg #[.int .i64 (left : Int), .slice rA rn rcc], .int .i64 (i : Int)] w (RuleP ok w v.n (ruleW v.c0 v.c1 v.c2 xs st v.n i l)) := by
  have hmk := mk_ways v.n (by omega)
  have hlen := hr.len
  have lb := hb.lt
  have cb4 : w.cell? ⟨bc, 4, none⟩ = some (.slice v.A v.n v.c) := (hb.cell 4).trans rfl
  have hR := WRow.made (Zb ok w.heap.size (w.heap.size + 1)) (w.alloc (.cells #[.int .i64 (left : Int), .slice rA rn rcc] 75)) v.n
  rw [World.size_alloc] at hR
  have hW := (((Below.refl w.heap.size w).al (.cells #[.int .i64 (left : Int), .slice rA rn rcc] 75)).al (.cells (wayCells v.n) 78))
  have hbk := (Blk.new w 75 #[.int .i64 (left : Int), .slice rA rn rcc]).al (.cells (wayCells v.n) 78)
  have hr' := hr.via (((Below.refl w.heap.size w).al (.cells #[.int .i64 (left : Int), .slice rA rn rcc] 75)).al (.cells (wayCells v.n) 78))
  have HR := Lib.hid hR
  have HW := Lib.hid hW
  have HBK := Lib.hid hbk
  have HB := Lib.hid hb
  have HX := Lib.hid hx
  have HT := Lib.hid hT
  have HS := Lib.hid hr
  have HSY := Lib.hid hs
  have HST := Lib.hid hst
  have HA := Lib.hid hA
  have HL := Lib.hid hlen
  have g0 : ((rn : Int) == 0) = false := by simp; omega
  have i0 : (0 : Int) ≤ (i : Int) := by omega
  have i1 : (i : Int) < (v.n : Int) + 1 := by omega
  clear hb hx hT hr hs hst hA hR hW hbk hlen hr'
  go_enter Try.func28, Try.ntmps28
  go_upto_region 9 with fail
  generalize (w.alloc (.cells #[.int .i64 (left : Int), .slice rA rn rcc] 75)).alloc (.cells (wayCells v.n) 78) = W at *
  obtain ⟨vv, -, d0, d1, d2, d3⟩ := HR.out.at_ hi
  have fr := HR.out.frozen
  have Bk := HBK.out
  have HRR := Lib.hid (show RRel ok w v.n (w.heap.size + 1) #[.int .i64 (left : Int), .slice rA rn rcc] _ _ from ⟨HR.out.put hi (v := (0, 0, (none, 0, 0), true)) (y := ⟨0, 0, [], true⟩) ⟨rfl, rfl, rfl, Sl.nil 0⟩ fun _ h => h.2, (heap_put4 (by omega)).trans HBK.out, below_put4 HW.out (by omega), by omega⟩)
  have ck : W.cell? ⟨w.heap.size, 1, none⟩ = some (.slice rA rn rcc) := (Bk.cell 1).trans rfl
  clear HR HW HBK Bk
  go_wp2_with fail
  clear d0 d1 d2 d3 fr ck cb4 hmk
  clear g0
  have HR0 := Lib.hid (show RRel ok w v.n (w.heap.size + 1) #[.int .i64 (left : Int), .slice rA rn rcc] (ruleAt v.c0 v.c1 v.c2 xs st v.n i (l.take 0)) (World.put4 W (w.heap.size + 1) (i * 4) (0, 0, (none, 0, 0), true)) from HRR.out)
  clear HRR
  go_loopw [8, 56] (fun a q wr => ∃ m b : Nat, q = .int .i64 m ∧ m ≤ rn ∧ a = .slice (some ⟨b, 0, none⟩) (v.n + 1) (v.n + 1) ∧ RRel ok w v.n b #[.int .i64 (left : Int), .slice rA rn rcc] (ruleAt v.c0 v.c1 v.c2 xs st v.n i (l.take m)) wr) (fun _ q _ => rn - (intOf q).toNat)
  case atStart => exact ⟨0, _, rfl, Nat.zero_le _, rfl, HR0.out⟩
  case round =>
    obtain ⟨m, b, rfl, hm, rfl, hrr⟩ := hrel
    clear HR0
    by_cases hlt : m < rn
    · obtain ⟨b1, o1, sx, sy, rfl, -, hbb, hy, hxy, hc⟩ := (HS.out.via hrr.bel).at_ hlt
      obtain rfl : sx = sy := hxy
      have c0 := hc 0 _ rfl
      have c1 := hc 1 _ rfl
      simp only [SyE, Nat.add_zero] at c0 c1
      have m0 : (0 : Int) ≤ (m : Int) := by omega
      have m1 : (m : Int) < (rn : Int) := by omega
      have HN := Lib.hid (hrr.next sx)
      have HTK := Lib.hid (show ruleAt v.c0 v.c1 v.c2 xs st v.n i (l.take (m + 1)) = rowK (ruleAt v.c0 v.c1 v.c2 xs st v.n i (l.take m)) (symW v.c0 v.c1 v.c2 xs st sx) v.n i (v.n + 1 - i) by rw [take_at hy, ruleAt_snoc])
      have HSX := Lib.hid (show sx.1 = false → sx.2 < v.bn from HSY.out sx (List.mem_of_getElem? hy))
      have hfb := Lib.hid (show ∀ k, Bnd 10000000000 (ruleAt v.c0 v.c1 v.c2 xs st v.n i (l.take m) k) from fun k => by
        have h := Bnd.ruleAt (c0 := v.c0) (c1 := v.c1) (c2 := v.c2) (w := xs) (st := st) (n := v.n) (i := i) (M := 2000000000) (by omega) (fun s k j _ _ _ => Bnd.sym h0 h1 h2 (by rw [HX.out.len]; exact hn) (by omega) HST.out s k j) (l.take m) k
        refine h.mono ?_
        have hle : (l.take m).length ≤ 4 := by rw [List.length_take, HL.out]; omega
        omega)
      have hms := mk_ways v.n (by omega)
      clear hc hy hrr hbb
      go_upto_region 14 with fail
      clear c0 c1 hms
      generalize hbs : wr.heap.size = bs at *
      clear hbs
      generalize (wr.alloc (.cells #[.bool sx.1, .int .i64 (sx.2 : Int)] 48)).alloc (.cells (wayCells v.n) 78) = W2 at *
      obtain ⟨bn, hbn⟩ : ∃ bn, bn = bs + 1 := ⟨_, rfl⟩
      rw [← hbn] at HN ⊢
      clear hbn
      generalize ruleAt v.c0 v.c1 v.c2 xs st v.n i (l.take m) = fat at *
      obtain ⟨wo, rfl⟩ : ∃ wo : World, wo = wr := ⟨_, rfl⟩
      go_wp2_with fail
      go_loopw [13] (fun q wk => ∃ k : Nat, q = .int .i64 k ∧ i ≤ k ∧ k ≤ v.n + 1 ∧ NRel ok w v.n b bn bs #[.int .i64 (left : Int), .slice (some ⟨b1, o1, none⟩) rn rcc] sx fat (rowK fat (symW v.c0 v.c1 v.c2 xs st sx) v.n i (k - i)) wk) (fun q _ => v.n + 1 - (intOf q).toNat)
      case atStart => exact ⟨i, rfl, Nat.le_refl _, by omega, by rw [Nat.sub_self]; exact HN.out⟩
      case round =>
        obtain ⟨k, rfl, hik, hkn, hnr⟩ := hrel
        clear HN
        by_cases hk : k ≤ v.n
        · obtain ⟨⟨ac, as_, ⟨aA, an, acc⟩, ao⟩, ha, a0, a1, a2, a3⟩ := hnr.hat.at_ hk
          have k0 : (0 : Int) ≤ (k : Int) := by omega
          have k1 : (k : Int) < (v.n : Int) + 1 := by omega
          obtain rfl : ao = (fat k).ok := ha.2.2.1
          have HNR := Lib.hid hnr
          have HKK := Lib.hid (show k + 1 - i = (k - i) + 1 by omega)
          have HIK := Lib.hid (show i + (k - i) = k by omega)
          cases hok : (fat k).ok with
          | false =>
            rw [hok] at a3
            have HROW := Lib.hid (show rowK fat (symW v.c0 v.c1 v.c2 xs st sx) v.n i (k + 1 - i) = rowK fat (symW v.c0 v.c1 v.c2 xs st sx) v.n i (k - i) by rw [HKK.out, rowK, HIK.out, if_neg (by simp [hok])])
            clear hnr ha a0 a1 a2 hok
            go_wp2_with fail
            exact ⟨⟨k + 1, by go_num, by omega, by omega, by rw [HROW.out]; exact HNR.out⟩, by simp [intOf]; omega⟩
          | true =>
            rw [hok] at a3
            have HROW := Lib.hid (show rowK fat (symW v.c0 v.c1 v.c2 xs st sx) v.n i (k + 1 - i) = rowJ (fat k) (symW v.c0 v.c1 v.c2 xs st sx k) k (rowK fat (symW v.c0 v.c1 v.c2 xs st sx) v.n i (k - i)) (v.n + 1 - k) by rw [HKK.out, rowK, HIK.out, if_pos hok])
            have HOK := Lib.hid hok
            generalize rowK fat (symW v.c0 v.c1 v.c2 xs st sx) v.n i (k - i) = fnx at *
            clear hnr ha a0 a1 a2 hok HKK HIK
            obtain ⟨wp, rfl⟩ : ∃ wp : World, wp = wr := ⟨_, rfl⟩
            go_wp2_with fail
            clear a3
            go_loopw [14] (fun q wj => ∃ j : Nat, q = .int .i64 j ∧ k ≤ j ∧ j ≤ v.n + 1 ∧ NRel ok w v.n b bn bs #[.int .i64 (left : Int), .slice (some ⟨b1, o1, none⟩) rn rcc] sx fat (rowJ (fat k) (symW v.c0 v.c1 v.c2 xs st sx k) k fnx (j - k)) wj) (fun q _ => v.n + 1 - (intOf q).toNat)
            case atStart => exact ⟨k, rfl, Nat.le_refl _, by omega, by rw [Nat.sub_self]; exact HNR.out⟩
            case round =>
              obtain ⟨j, rfl, hkj, hjn, hnj⟩ := hrel
              clear HNR
              by_cases hj : j ≤ v.n
              · have j0 : (0 : Int) ≤ (j : Int) := by omega
                have j1 : (j : Int) < (v.n : Int) + 1 := by omega
                have HNJ := Lib.hid hnj
                have Bsb := hnj.hsb
                have HJJ := Lib.hid (show rowJ (fat k) (symW v.c0 v.c1 v.c2 xs st sx k) k fnx (j + 1 - k) = goJ (fat k) (symW v.c0 v.c1 v.c2 xs st sx k j) (rowJ (fat k) (symW v.c0 v.c1 v.c2 xs st sx k) k fnx (j - k)) j by
                  rw [show j + 1 - k = (j - k) + 1 by omega, rowJ, show k + (j - k) = j by omega])
                generalize rowJ (fat k) (symW v.c0 v.c1 v.c2 xs st sx k) k fnx (j - k) = fj at *
                clear hnj
                have cBsb := Bsb.cell
                have fBsb := Bsb.frozen
                have lBsb := Bsb.lt
                go_wp2_with fail
                clear cBsb fBsb lBsb
                refine (symbol_c ok bc v xs sx k j oo ob rb cb st wr (HB.out.via HNJ.out.bel) (HX.out.keep HNJ.out.bel (Nat.le_refl _)) h0 h1 h2 hn hkj hj HA.out (HT.out.via HNJ.out.bel) HSX.out).mono ?_
                rintro e w3 ⟨⟨xc, xs_, ⟨xA, xn, xcc⟩, xo⟩, rfl, hxr, hb3⟩
                dsimp only [wyVal]
                have hXB : Bnd 10000000000 (symW v.c0 v.c1 v.c2 xs st sx k j) := (Bnd.sym h0 h1 h2 (by rw [HX.out.len]; exact hn) (by omega) HST.out sx k j).mono (by omega)
                have HXB := Lib.hid hXB
                generalize symW v.c0 v.c1 v.c2 xs st sx k j = X at *
                have N3 := (HNJ.out.via hb3).via ((Below.refl w3.heap.size w3).al (.cells #[.int .i64 xc, .int .i64 xs_, .slice xA xn xcc, .bool xo] 78))
                have Bx := Blk.new w3 78 #[.int .i64 xc, .int .i64 xs_, .slice xA xn xcc, .bool xo]
                have HXR := Lib.hid (hxr.al (.cells #[.int .i64 xc, .int .i64 xs_, .slice xA xn xcc, .bool xo] 78))
                have HLO := Lib.hid (show w.heap.size ≤ wr.heap.size from HNJ.out.bel.size)
                have HLB := Lib.hid (show b < wr.heap.size ∧ bn < wr.heap.size from ⟨HNJ.out.hat.lt, HNJ.out.hnx.lt⟩)
                clear hxr hb3 hXB HNJ
                go_upto_region 22 with fail
                generalize w3.alloc (.cells #[.int .i64 xc, .int .i64 xs_, .slice xA xn xcc, .bool xo] 78) = W3 at *
                generalize w3.heap.size = bx at *
                obtain ⟨⟨ac, as_, ⟨aA, an, acc⟩, ao⟩, ha, a0, a1, a2, a3⟩ := N3.hat.at_ hk
                obtain ⟨⟨tc, ts, ⟨tA, tn, tcc⟩, tk⟩, ht, t0, t1, t2, t3⟩ := N3.hnx.at_ hj
                simp only at a0 a1 a2 a3 t0 t1 t2 t3
                have lA := N3.hat.lt
                have lN := N3.hnx.lt
                have SOF := Lib.hid (show ∀ w', Below W3.heap.size W3 w' → (w'.cell? ⟨b, k * 4, none⟩ = some (.int .i64 ac) ∧ w'.cell? ⟨b, k * 4 + 1, none⟩ = some (.int .i64 as_) ∧ w'.cell? ⟨b, k * 4 + 2, none⟩ = some (.slice aA an acc) ∧ w'.cell? ⟨b, k * 4 + 3, none⟩ = some (.bool ao) ∧ w'.cell? ⟨bn, j * 4, none⟩ = some (.int .i64 tc) ∧ w'.cell? ⟨bn, j * 4 + 1, none⟩ = some (.int .i64 ts) ∧ w'.cell? ⟨bn, j * 4 + 2, none⟩ = some (.slice tA tn tcc) ∧ w'.cell? ⟨bn, j * 4 + 3, none⟩ = some (.bool tk) ∧ (∀ i, w'.cell? ⟨bx, i, none⟩ = #[.int .i64 xc, .int .i64 xs_, .slice xA xn xcc, .bool xo][i]?) ∧ Below W3.heap.size W3 w') from fun w' hb =>
                  ⟨(hb.cell (p := ⟨b, k * 4, none⟩) lA).trans a0, (hb.cell (p := ⟨b, k * 4 + 1, none⟩) lA).trans a1, (hb.cell (p := ⟨b, k * 4 + 2, none⟩) lA).trans a2, (hb.cell (p := ⟨b, k * 4 + 3, none⟩) lA).trans a3, (hb.cell (p := ⟨bn, j * 4, none⟩) lN).trans t0, (hb.cell (p := ⟨bn, j * 4 + 1, none⟩) lN).trans t1, (hb.cell (p := ⟨bn, j * 4 + 2, none⟩) lN).trans t2, (hb.cell (p := ⟨bn, j * 4 + 3, none⟩) lN).trans t3, (Bx.via hb).cell, hb⟩)
                have FA := Lib.hid (show ∀ w', Below W3.heap.size W3 w' → WayR _ w' (ac, as_, (aA, an, acc), ao) (fat k) from fun w' hb => ha.via hb)
                have FT := Lib.hid (show ∀ w', Below W3.heap.size W3 w' → WayR _ w' (tc, ts, (tA, tn, tcc), tk) (fj j) from fun w' hb => ht.via hb)
                have FX := Lib.hid (show ∀ w', Below W3.heap.size W3 w' → WayR _ w' (xc, xs_, (xA, xn, xcc), xo) X from fun w' hb => HXR.out.via hb)
                have N3H := Lib.hid N3
                have hb0 := (Below.refl W3.heap.size W3).drew
                cases hh : hopeW (fat k) X (fj j) with
                | true =>
                  have HH := Lib.hid hh
                  clear a0 a1 a2 a3 t0 t1 t2 t3 ha ht N3 Bx hh
                  go_region_held3 (fun w' => w'.cell? ⟨b, k * 4, none⟩ = some (.int .i64 ac) ∧ w'.cell? ⟨b, k * 4 + 1, none⟩ = some (.int .i64 as_) ∧ w'.cell? ⟨b, k * 4 + 2, none⟩ = some (.slice aA an acc) ∧ w'.cell? ⟨b, k * 4 + 3, none⟩ = some (.bool ao) ∧ w'.cell? ⟨bn, j * 4, none⟩ = some (.int .i64 tc) ∧ w'.cell? ⟨bn, j * 4 + 1, none⟩ = some (.int .i64 ts) ∧ w'.cell? ⟨bn, j * 4 + 2, none⟩ = some (.slice tA tn tcc) ∧ w'.cell? ⟨bn, j * 4 + 3, none⟩ = some (.bool tk) ∧ (∀ i, w'.cell? ⟨bx, i, none⟩ = #[.int .i64 xc, .int .i64 xs_, .slice xA xn xcc, .bool xo][i]?) ∧ Below W3.heap.size W3 w') (exact SOF.out _ (by assumption)) (first
                    | (go_at_call 57; (with_reducible refine (hopeless_b _ _ _ ac as_ aA an acc ao xc xs_ xA xn xcc xo tc ts tA tn tcc tk (fat k) X (fj j) true _ (FA.out _ (by assumption)) (FX.out _ (by assumption)) (FT.out _ (by assumption)) (hfb.out k) HXB.out HH.out).mono ?_); rintro ee wn ⟨rfl, hbn⟩; have hbm : Below W3.heap.size W3 wn := Below.via (by assumption) hbn))
                  have HF := Lib.hid (N3H.out.via hbm)
                  have HJ2 := Lib.hid (show rowJ (fat k) (symW v.c0 v.c1 v.c2 xs st sx k) k fnx (j + 1 - k) = fj by rw [HJJ.out, goJ, if_pos HH.out])
                  clear hb0 hbm hbn
                  go_wp2_with fail
                  exact ⟨⟨j + 1, by go_num, by omega, by omega, by rw [HJ2.out]; exact HF.out⟩, by simp [intOf]; omega⟩
                | false =>
                  have HH := Lib.hid hh
                  clear a0 a1 a2 a3 t0 t1 t2 t3 ha ht N3 Bx hh
                  go_region_held3 (fun w' => w'.cell? ⟨b, k * 4, none⟩ = some (.int .i64 ac) ∧ w'.cell? ⟨b, k * 4 + 1, none⟩ = some (.int .i64 as_) ∧ w'.cell? ⟨b, k * 4 + 2, none⟩ = some (.slice aA an acc) ∧ w'.cell? ⟨b, k * 4 + 3, none⟩ = some (.bool ao) ∧ w'.cell? ⟨bn, j * 4, none⟩ = some (.int .i64 tc) ∧ w'.cell? ⟨bn, j * 4 + 1, none⟩ = some (.int .i64 ts) ∧ w'.cell? ⟨bn, j * 4 + 2, none⟩ = some (.slice tA tn tcc) ∧ w'.cell? ⟨bn, j * 4 + 3, none⟩ = some (.bool tk) ∧ (∀ i, w'.cell? ⟨bx, i, none⟩ = #[.int .i64 xc, .int .i64 xs_, .slice xA xn xcc, .bool xo][i]?) ∧ Below W3.heap.size W3 w') (exact SOF.out _ (by assumption)) (first
                    | (go_at_call 57; (with_reducible refine (hopeless_b _ _ _ ac as_ aA an acc ao xc xs_ xA xn xcc xo tc ts tA tn tcc tk (fat k) X (fj j) false _ (FA.out _ (by assumption)) (FX.out _ (by assumption)) (FT.out _ (by assumption)) (hfb.out k) HXB.out HH.out).mono ?_); rintro ee wn ⟨rfl, hbn⟩; have hbm : Below W3.heap.size W3 wn := Below.via (by assumption) hbn))
                  have HBM := Lib.hid hbm
                  clear hb0 hbn
                  have hb1 : Below W3.heap.size W3 wn.drew := hbm.drew
                  have hsz : W3.heap.size ≤ wn.heap.size := hbm.size
                  have SO2 := Lib.hid (show ∀ w', Below W3.heap.size W3 w' → (w'.cell? ⟨b, k * 4, none⟩ = some (.int .i64 ac) ∧ w'.cell? ⟨b, k * 4 + 1, none⟩ = some (.int .i64 as_) ∧ w'.cell? ⟨b, k * 4 + 2, none⟩ = some (.slice aA an acc) ∧ w'.cell? ⟨b, k * 4 + 3, none⟩ = some (.bool ao) ∧ (∀ i, w'.cell? ⟨bx, i, none⟩ = #[.int .i64 xc, .int .i64 xs_, .slice xA xn xcc, .bool xo][i]?) ∧ Below W3.heap.size W3 w') from fun w' hb => by
                    obtain ⟨s1, s2, s3, s4, _, _, _, _, s5, s6⟩ := SOF.out w' hb
                    exact ⟨s1, s2, s3, s4, s5, s6⟩)
                  go_upto_region 23 with fail
                  go_region_held3 (fun w' => w'.cell? ⟨b, k * 4, none⟩ = some (.int .i64 ac) ∧ w'.cell? ⟨b, k * 4 + 1, none⟩ = some (.int .i64 as_) ∧ w'.cell? ⟨b, k * 4 + 2, none⟩ = some (.slice aA an acc) ∧ w'.cell? ⟨b, k * 4 + 3, none⟩ = some (.bool ao) ∧ (∀ i, w'.cell? ⟨bx, i, none⟩ = #[.int .i64 xc, .int .i64 xs_, .slice xA xn xcc, .bool xo][i]?) ∧ Below W3.heap.size W3 w') (exact SO2.out _ (by first | assumption | exact (hbm.al _).drew | exact Below.al (by assumption) _ | exact (((Below.setCell (by assumption) hsz _).setCell hsz _).setCell hsz _).setCell hsz _)) (first
                    | (go_at_call 58; (with_reducible refine (then_c _ _ ac as_ aA an acc ao xc xs_ xA xn xcc xo (fat k) X wn.drew (FA.out _ hb1) (FX.out _ hb1) (hfb.out k) HXB.out).mono ?_); rintro ee wm ⟨⟨yc, ys, ⟨yA, yn, ycc⟩, yo⟩, rfl, hyr, hbk⟩; have hbz : Below W3.heap.size W3 wm := Below.via hb1 hbk; dsimp only [wyVal])
                    | (go_at_call 58; (with_reducible refine (then_c _ _ ac as_ aA an acc ao xc xs_ xA xn xcc xo (fat k) X (wn.alloc (.cells #[.int .i64 0, .int .i64 0, .slice none 0 0, .bool false] 78)).drew (FA.out _ (hbm.al _).drew) (FX.out _ (hbm.al _).drew) (hfb.out k) HXB.out).mono ?_); rintro ee wm ⟨⟨yc, ys, ⟨yA, yn, ycc⟩, yo⟩, rfl, hyr, hbk⟩; have hbz : Below W3.heap.size W3 wm := Below.via (hbm.al _).drew hbk; have cN := ((Blk.new wn 78 #[.int .i64 0, .int .i64 0, .slice none 0 0, .bool false]).dr.via hbk).cell; have fN := ((Blk.new wn 78 #[.int .i64 0, .int .i64 0, .slice none 0 0, .bool false]).dr.via hbk).frozen; have lN2 := ((Blk.new wn 78 #[.int .i64 0, .int .i64 0, .slice none 0 0, .bool false]).dr.via hbk).lt; dsimp only [wyVal]))
                  · have YC := Lib.hid (YCut.way1 (yv := (yc, ys, (yA, yn, ycc), yo)) (N3H.out.via HBM.out) (((Below.refl wn.heap.size wn).drew).via hbk) hyr)
                    clear hbk hyr hbz hb1
                    generalize wm.alloc (.cells #[.int .i64 yc, .int .i64 ys, .slice yA yn ycc, .bool yo] 78) = WY at *
                    generalize wm.heap.size = bY at *
                    clear SOF SO2 FA FT FX N3H HBM hbm hsz HXR HLO HLB
                    have hyl : (thenW (fat k) X).w.length ≤ 2000 := ((hfb.out k).then_ HXB.out).short
                    have HYL := Lib.hid hyl
                    obtain ⟨⟨tc2, ts2, ⟨tA2, tn2, tcc2⟩, tk2⟩, ht2, t0, t1, t2, t3⟩ := YC.out.rel.hnx.at_ hj
                    simp only at t0 t1 t2 t3
                    have lN := YC.out.rel.hnx.lt
                    have SO3 := Lib.hid (show ∀ w', Below WY.heap.size WY w' → ((∀ i, w'.cell? ⟨bY, i, none⟩ = #[.int .i64 yc, .int .i64 ys, .slice yA yn ycc, .bool yo][i]?) ∧ w'.cell? ⟨bn, j * 4, none⟩ = some (.int .i64 tc2) ∧ w'.cell? ⟨bn, j * 4 + 1, none⟩ = some (.int .i64 ts2) ∧ w'.cell? ⟨bn, j * 4 + 2, none⟩ = some (.slice tA2 tn2 tcc2) ∧ w'.cell? ⟨bn, j * 4 + 3, none⟩ = some (.bool tk2) ∧ Below WY.heap.size WY w') from fun w' hb => ⟨(YC.out.blk.via hb).cell, (hb.cell (p := ⟨bn, j * 4, none⟩) lN).trans t0, (hb.cell (p := ⟨bn, j * 4 + 1, none⟩) lN).trans t1, (hb.cell (p := ⟨bn, j * 4 + 2, none⟩) lN).trans t2, (hb.cell (p := ⟨bn, j * 4 + 3, none⟩) lN).trans t3, hb⟩)
                    have FY := Lib.hid (show ∀ w', Below WY.heap.size WY w' → WayR (Z2 ok w.heap.size b bn) w' (yc, ys, (yA, yn, ycc), yo) (thenW (fat k) X) from fun w' hb => YC.out.way.via hb)
                    have FT := Lib.hid (show ∀ w', Below WY.heap.size WY w' → WayR _ w' (tc2, ts2, (tA2, tn2, tcc2), tk2) (fj j) from fun w' hb => ht2.via hb)
                    clear t0 t1 t2 t3 ht2 hyl
                    go_upto_region 24 with fail
                    have hb0 := (Below.refl WY.heap.size WY).drew
                    cases hl2 : lessW (thenW (fat k) X) (fj j) with
                    | true =>
                      have HL2 := Lib.hid hl2
                      clear hl2
                      go_region_held3 (fun w' => (∀ i, w'.cell? ⟨bY, i, none⟩ = #[.int .i64 yc, .int .i64 ys, .slice yA yn ycc, .bool yo][i]?) ∧ w'.cell? ⟨bn, j * 4, none⟩ = some (.int .i64 tc2) ∧ w'.cell? ⟨bn, j * 4 + 1, none⟩ = some (.int .i64 ts2) ∧ w'.cell? ⟨bn, j * 4 + 2, none⟩ = some (.slice tA2 tn2 tcc2) ∧ w'.cell? ⟨bn, j * 4 + 3, none⟩ = some (.bool tk2) ∧ Below WY.heap.size WY w') (exact SO3.out _ (by assumption)) (first
                        | (go_at_call 29; (with_reducible refine (less_b _ _ yc ys yA yn ycc yo tc2 ts2 tA2 tn2 tcc2 tk2 (thenW (fat k) X) (fj j) true _ (FY.out _ (by assumption)) (FT.out _ (by assumption)) HYL.out HL2.out).mono ?_); rintro ee wl ⟨rfl, hbl⟩; have hbz : Below WY.heap.size WY wl := Below.via (by assumption) hbl))
                      obtain ⟨s1, t0, t1, t2, t3, -⟩ := SO3.out wl hbz
                      have NF := Lib.hid (YC.out.rel.via hbz)
                      have fr := NF.out.hnx.frozen
                      have HF := Lib.hid (NF.out.put hj (FY.out wl hbz))
                      have HJ2 := Lib.hid (show rowJ (fat k) (symW v.c0 v.c1 v.c2 xs st sx k) k fnx (j + 1 - k) = upd fj j (thenW (fat k) X) by rw [HJJ.out, goJ, if_neg (by rw [HH.out]; simp), if_pos HL2.out])
                      clear hb0 hbl hbz
                      go_wp2_with fail
                      exact ⟨⟨j + 1, by go_num, by omega, by omega, by rw [HJ2.out]; exact HF.out⟩, by simp [intOf]; omega⟩
                    | false =>
                      have HL2 := Lib.hid hl2
                      clear hl2
                      go_region_held3 (fun w' => (∀ i, w'.cell? ⟨bY, i, none⟩ = #[.int .i64 yc, .int .i64 ys, .slice yA yn ycc, .bool yo][i]?) ∧ w'.cell? ⟨bn, j * 4, none⟩ = some (.int .i64 tc2) ∧ w'.cell? ⟨bn, j * 4 + 1, none⟩ = some (.int .i64 ts2) ∧ w'.cell? ⟨bn, j * 4 + 2, none⟩ = some (.slice tA2 tn2 tcc2) ∧ w'.cell? ⟨bn, j * 4 + 3, none⟩ = some (.bool tk2) ∧ Below WY.heap.size WY w') (exact SO3.out _ (by assumption)) (first
                        | (go_at_call 29; (with_reducible refine (less_b _ _ yc ys yA yn ycc yo tc2 ts2 tA2 tn2 tcc2 tk2 (thenW (fat k) X) (fj j) false _ (FY.out _ (by assumption)) (FT.out _ (by assumption)) HYL.out HL2.out).mono ?_); rintro ee wl ⟨rfl, hbl⟩; have hbz : Below WY.heap.size WY wl := Below.via (by assumption) hbl))
                      have HF := Lib.hid (YC.out.rel.via hbz)
                      have HJ2 := Lib.hid (show rowJ (fat k) (symW v.c0 v.c1 v.c2 xs st sx k) k fnx (j + 1 - k) = fj by rw [HJJ.out, goJ, if_neg (by rw [HH.out]; simp), if_neg (by rw [HL2.out]; simp)])
                      clear hb0 hbl hbz
                      go_wp2_with fail
                      exact ⟨⟨j + 1, by go_num, by omega, by omega, by rw [HJ2.out]; exact HF.out⟩, by simp [intOf]; omega⟩
                  · have YC := Lib.hid (YCut.way2 (yv := (yc, ys, (yA, yn, ycc), yo)) (N3H.out.via HBM.out) (by have := hbk; rw [show (wn.alloc (.cells #[.int .i64 0, .int .i64 0, .slice none 0 0, .bool false] 78)).drew.heap.size = wn.heap.size + 1 from World.size_alloc _ _] at this; exact ((Below.refl (wn.heap.size + 1) _).drew).trans this) (by have := hyr; rw [show (wn.alloc (.cells #[.int .i64 0, .int .i64 0, .slice none 0 0, .bool false] 78)).drew.heap.size = wn.heap.size + 1 from World.size_alloc _ _] at this; exact this))
                    clear hbk hyr hbz hb1 cN fN lN2
                    simp only [World.set4] at YC
                    generalize (((wm.setCell ⟨wn.heap.size, 0, none⟩ (.int .i64 yc)).setCell ⟨wn.heap.size, 1, none⟩ (.int .i64 ys)).setCell ⟨wn.heap.size, 2, none⟩ (.slice yA yn ycc)).setCell ⟨wn.heap.size, 3, none⟩ (.bool yo) = WY at *
                    generalize wn.heap.size = bY at *
                    clear SOF SO2 FA FT FX N3H HBM hbm hsz HXR HLO HLB
                    have hyl : (thenW (fat k) X).w.length ≤ 2000 := ((hfb.out k).then_ HXB.out).short
                    have HYL := Lib.hid hyl
                    obtain ⟨⟨tc2, ts2, ⟨tA2, tn2, tcc2⟩, tk2⟩, ht2, t0, t1, t2, t3⟩ := YC.out.rel.hnx.at_ hj
                    simp only at t0 t1 t2 t3
                    have lN := YC.out.rel.hnx.lt
                    have SO3 := Lib.hid (show ∀ w', Below WY.heap.size WY w' → ((∀ i, w'.cell? ⟨bY, i, none⟩ = #[.int .i64 yc, .int .i64 ys, .slice yA yn ycc, .bool yo][i]?) ∧ w'.cell? ⟨bn, j * 4, none⟩ = some (.int .i64 tc2) ∧ w'.cell? ⟨bn, j * 4 + 1, none⟩ = some (.int .i64 ts2) ∧ w'.cell? ⟨bn, j * 4 + 2, none⟩ = some (.slice tA2 tn2 tcc2) ∧ w'.cell? ⟨bn, j * 4 + 3, none⟩ = some (.bool tk2) ∧ Below WY.heap.size WY w') from fun w' hb => ⟨(YC.out.blk.via hb).cell, (hb.cell (p := ⟨bn, j * 4, none⟩) lN).trans t0, (hb.cell (p := ⟨bn, j * 4 + 1, none⟩) lN).trans t1, (hb.cell (p := ⟨bn, j * 4 + 2, none⟩) lN).trans t2, (hb.cell (p := ⟨bn, j * 4 + 3, none⟩) lN).trans t3, hb⟩)
                    have FY := Lib.hid (show ∀ w', Below WY.heap.size WY w' → WayR (Z2 ok w.heap.size b bn) w' (yc, ys, (yA, yn, ycc), yo) (thenW (fat k) X) from fun w' hb => YC.out.way.via hb)
                    have FT := Lib.hid (show ∀ w', Below WY.heap.size WY w' → WayR _ w' (tc2, ts2, (tA2, tn2, tcc2), tk2) (fj j) from fun w' hb => ht2.via hb)
                    clear t0 t1 t2 t3 ht2 hyl
                    go_upto_region 24 with fail
                    have hb0 := (Below.refl WY.heap.size WY).drew
                    cases hl2 : lessW (thenW (fat k) X) (fj j) with
                    | true =>
                      have HL2 := Lib.hid hl2
                      clear hl2
                      go_region_held3 (fun w' => (∀ i, w'.cell? ⟨bY, i, none⟩ = #[.int .i64 yc, .int .i64 ys, .slice yA yn ycc, .bool yo][i]?) ∧ w'.cell? ⟨bn, j * 4, none⟩ = some (.int .i64 tc2) ∧ w'.cell? ⟨bn, j * 4 + 1, none⟩ = some (.int .i64 ts2) ∧ w'.cell? ⟨bn, j * 4 + 2, none⟩ = some (.slice tA2 tn2 tcc2) ∧ w'.cell? ⟨bn, j * 4 + 3, none⟩ = some (.bool tk2) ∧ Below WY.heap.size WY w') (exact SO3.out _ (by assumption)) (first
                        | (go_at_call 29; (with_reducible refine (less_b _ _ yc ys yA yn ycc yo tc2 ts2 tA2 tn2 tcc2 tk2 (thenW (fat k) X) (fj j) true _ (FY.out _ (by assumption)) (FT.out _ (by assumption)) HYL.out HL2.out).mono ?_); rintro ee wl ⟨rfl, hbl⟩; have hbz : Below WY.heap.size WY wl := Below.via (by assumption) hbl))
                      obtain ⟨s1, t0, t1, t2, t3, -⟩ := SO3.out wl hbz
                      have NF := Lib.hid (YC.out.rel.via hbz)
                      have fr := NF.out.hnx.frozen
                      have HF := Lib.hid (NF.out.put hj (FY.out wl hbz))
                      have HJ2 := Lib.hid (show rowJ (fat k) (symW v.c0 v.c1 v.c2 xs st sx k) k fnx (j + 1 - k) = upd fj j (thenW (fat k) X) by rw [HJJ.out, goJ, if_neg (by rw [HH.out]; simp), if_pos HL2.out])
                      clear hb0 hbl hbz
                      go_wp2_with fail
                      exact ⟨⟨j + 1, by go_num, by omega, by omega, by rw [HJ2.out]; exact HF.out⟩, by simp [intOf]; omega⟩
                    | false =>
                      have HL2 := Lib.hid hl2
                      clear hl2
                      go_region_held3 (fun w' => (∀ i, w'.cell? ⟨bY, i, none⟩ = #[.int .i64 yc, .int .i64 ys, .slice yA yn ycc, .bool yo][i]?) ∧ w'.cell? ⟨bn, j * 4, none⟩ = some (.int .i64 tc2) ∧ w'.cell? ⟨bn, j * 4 + 1, none⟩ = some (.int .i64 ts2) ∧ w'.cell? ⟨bn, j * 4 + 2, none⟩ = some (.slice tA2 tn2 tcc2) ∧ w'.cell? ⟨bn, j * 4 + 3, none⟩ = some (.bool tk2) ∧ Below WY.heap.size WY w') (exact SO3.out _ (by assumption)) (first
                        | (go_at_call 29; (with_reducible refine (less_b _ _ yc ys yA yn ycc yo tc2 ts2 tA2 tn2 tcc2 tk2 (thenW (fat k) X) (fj j) false _ (FY.out _ (by assumption)) (FT.out _ (by assumption)) HYL.out HL2.out).mono ?_); rintro ee wl ⟨rfl, hbl⟩; have hbz : Below WY.heap.size WY wl := Below.via (by assumption) hbl))
                      have HF := Lib.hid (YC.out.rel.via hbz)
                      have HJ2 := Lib.hid (show rowJ (fat k) (symW v.c0 v.c1 v.c2 xs st sx k) k fnx (j + 1 - k) = fj by rw [HJJ.out, goJ, if_neg (by rw [HH.out]; simp), if_neg (by rw [HL2.out]; simp)])
                      clear hb0 hbl hbz
                      go_wp2_with fail
                      exact ⟨⟨j + 1, by go_num, by omega, by omega, by rw [HJ2.out]; exact HF.out⟩, by simp [intOf]; omega⟩
              · have HF := Lib.hid hnj
                have HJN := Lib.hid (show j = v.n + 1 by omega)
                clear hnj
                go_wp2_with fail
                exact ⟨⟨k + 1, by go_num, by omega, by omega, by rw [HROW.out, ← HJN.out]; exact HF.out⟩, by simp [intOf]; omega⟩
        · have HF := Lib.hid hnr.back
          have HKN := Lib.hid (show k = v.n + 1 by omega)
          clear hnr
          go_wp2_with fail
          exact ⟨⟨m + 1, bn, by go_num, by omega, rfl, by rw [HTK.out, ← HKN.out]; exact HF.out⟩, by simp [intOf]; omega⟩
    · have HF := Lib.hid hrr
      have HMN := Lib.hid (show m = rn by omega)
      clear hrr
      go_wp2_with fail
      go_ret
      refine ⟨b, rfl, by have := HF.out.l1; omega, ?_, HF.out.bel⟩
      have hne : l ≠ [] := fun e => by have := HL.out; rw [e] at this; simp at this; omega
      have e := HF.out.row
      rw [HMN.out, List.take_of_length_le (by rw [HL.out]; exact Nat.le_refl _)] at e
      rw [ruleW, if_neg hne]; exact e
theorem rule_c (ok : Nat → Prop) (bc : Nat) (v : CorV) (xs : List Int) (left rn rcc i oo ob : Nat) (rA : Option Addr) (l : List Sy) (rb : Nat → Nat) (cb : Nat → Nat → Nat) (st : WSt) (w : World) (hb : Blk w bc 71 v.cells) (hx : Ints w v.A v.n v.c xs)
    (h0 : 1 ≤ v.c0 ∧ v.c0 ≤ 100) (h1 : 1 ≤ v.c1 ∧ v.c1 ≤ 100) (h2 : 1 ≤ v.c2 ∧ v.c2 ≤ 100) (hn : v.n ≤ 12) (hi : i ≤ v.n) (hA : v.bA = some ⟨ob, oo, none⟩) (hT : BestR ok w ob oo v.bn v.n rb cb st) (okr : Nat → Prop) (hr : Sl SyE okr w rA rn rcc l) (hs : ∀ s ∈ l, s.1 = false → s.2 < v.bn)
    (hl4 : l.length ≤ 4) (hst : ∀ N i j, Bnd 2000000000 (st N i j)) :
    Calls Try.prog 28 #[.pointer (some ⟨bc, 0, none⟩), .agg #[.int .i64 (left : Int), .slice rA rn rcc], .int .i64 (i : Int)] w (RuleP ok w v.n (ruleW v.c0 v.c1 v.c2 xs st v.n i l)) := by
  rcases Nat.eq_zero_or_pos rn with h | h
  · subst h
    obtain rfl : l = [] := List.length_eq_zero_iff.1 hr.len
    exact rule_empty ok bc v xs left rcc i rA st w hb hx h1 hn hi
  · exact rule_more ok bc v xs left rn rcc i oo ob rA l rb cb st w hb hx h0 h1 h2 hn hi hA hT okr hr hs h (by rw [← hr.len]; exact hl4) hst
end Go.Proofs.Ytghnkgbingcbcaa

