/- hole.filler.rule. -/
import Derived.Test.YtghnkgbingcbcaaHD
namespace Go.Proofs.Ytghnkgbingcbcaa
open Go.RowKit

theorem hope_zero {a x t : Way} (ha : a.ok = true) (h1 : a.cost = 0) (h2 : x.cost = 0) (h3 : t.cost = 0) : hopeW a x t = (!x.ok || (t.ok && decide (t.size < a.size + x.size))) := by
  unfold hopeW
  rw [ha, h1, h2, h3]
  cases x.ok <;> cases t.ok <;> simp [orL, cmpI] <;> (try split) <;> (try split) <;> (try simp) <;> omega
theorem hless_b (ok ok' : Nat → Prop) (as_ : Int) (A : Option Addr) (n c : Nat) (ao : Bool) (bs : Int) (B : Option Addr) (m d : Nat) (bo : Bool) (x y : Way) (r : Bool) (w : World)
    (h1 : HoR ok w (as_, (A, n, c), ao) x) (h2 : HoR ok' w (bs, (B, m, d), bo) y) (hx : x.w.length ≤ 2000) (hr : lessW x y = r) :
    Calls Try.prog 66 #[.agg #[.int .i64 as_, .slice A n c, .bool ao], .agg #[.int .i64 bs, .slice B m d, .bool bo]] w (TellB w r) := by
  rw [← hr]; exact hless_c ok ok' as_ A n c ao bs B m d bo x y w h1 h2 hx

/-- the words of a row that lies in b -/
def Yb (ok : Nat → Prop) (lo b : Nat) : Nat → Prop := fun x => (ok x ∨ lo ≤ x) ∧ x ≠ b
def HRuleP (ok : Nat → Prop) (w : World) (n : Nat) (f : Nat → Way) (e : Ending) (w' : World) : Prop :=
  ∃ b, e = .returned (.slice (some ⟨b, 0, none⟩) (n + 1) (n + 1)) ∧ w.heap.size ≤ b ∧ HRow (Yb ok w.heap.size b) w' b n f ∧ Below w.heap.size w w'
def Y2 (ok : Nat → Prop) (lo b bn : Nat) : Nat → Prop := fun x => (ok x ∨ lo ≤ x) ∧ x ≠ b ∧ x ≠ bn
structure HNRel (ok : Nat → Prop) (w : World) (n b bn bs : Nat) (rc : Array Value) (sy : Sy) (fat fnx : Nat → Way) (wr : World) : Prop where
  hat : HRow (Y2 ok w.heap.size b bn) wr b n fat
  hnx : HRow (Y2 ok w.heap.size b bn) wr bn n fnx
  blk : Blk wr w.heap.size 75 rc
  hsb : Blk wr bs 48 #[.bool sy.1, .int .i64 (sy.2 : Int)]
  bel : Below w.heap.size w wr
  l1 : w.heap.size < b
  l2 : w.heap.size < bn
  l3 : w.heap.size < bs
  n1 : b ≠ bn
  n2 : bs ≠ b
  n3 : bs ≠ bn
section
variable {ok : Nat → Prop} {w wr wa : World} {n b bn bs j : Nat} {rc : Array Value} {sy : Sy} {fat fnx : Nat → Way}
theorem HNRel.via (h : HNRel ok w n b bn bs rc sy fat fnx wr) (k : Below wr.heap.size wr wa) : HNRel ok w n b bn bs rc sy fat fnx wa :=
  ⟨h.hat.via k, h.hnx.via k, h.blk.via k, h.hsb.via k, h.bel.via k, h.l1, h.l2, h.l3, h.n1, h.n2, h.n3⟩
theorem HNRel.put (h : HNRel ok w n b bn bs rc sy fat fnx wr) (hj : j ≤ n) {v : HyV} {y : Way} (hv : HoR (Y2 ok w.heap.size b bn) wr v y) : HNRel ok w n b bn bs rc sy fat (upd fnx j y) (World.put3 wr bn (j * 3) v) :=
  ⟨h.hat.agr (heap_p3 h.n1) (agr_p3 fun x hx => hx.2.2), h.hnx.put hj hv fun x hx => hx.2.2, (heap_p3 (by have := h.l2; omega)).trans h.blk, (heap_p3 h.n3).trans h.hsb, below_p3 h.bel (by have := h.l2; omega), h.l1, h.l2, h.l3, h.n1, h.n2, h.n3⟩
end
structure HRRel (ok : Nat → Prop) (w : World) (n b : Nat) (rc : Array Value) (f : Nat → Way) (wr : World) : Prop where
  row : HRow (Yb ok w.heap.size b) wr b n f
  blk : Blk wr w.heap.size 75 rc
  bel : Below w.heap.size w wr
  l1 : w.heap.size < b
theorem HRRel.via {ok : Nat → Prop} {w wr wa : World} {n b : Nat} {rc : Array Value} {f : Nat → Way} (h : HRRel ok w n b rc f wr) (k : Below wr.heap.size wr wa) : HRRel ok w n b rc f wa := ⟨h.row.via k, h.blk.via k, h.bel.via k, h.l1⟩
/-- a new symbol and a new row -/
theorem HRRel.next {ok : Nat → Prop} {w wr : World} {n b : Nat} {rc : Array Value} {f : Nat → Way} (sy : Sy) (h : HRRel ok w n b rc f wr) :
    HNRel ok w n b (wr.heap.size + 1) wr.heap.size rc sy f (fun _ => Way.no) ((wr.alloc (.cells #[.bool sy.1, .int .i64 (sy.2 : Int)] 48)).alloc (.cells (hoCells n) 101)) := by
  have hlt := h.row.lt
  have hw := h.bel.size
  have hm := HRow.made (Y2 ok w.heap.size b (wr.heap.size + 1)) (wr.alloc (.cells #[.bool sy.1, .int .i64 (sy.2 : Int)] 48)) n
  rw [World.size_alloc] at hm
  have hb := ((Below.refl wr.heap.size wr).al (.cells #[.bool sy.1, .int .i64 (sy.2 : Int)] 48)).al (.cells (hoCells n) 101)
  refine ⟨?_, hm, h.blk.via hb, (Blk.new wr _ _).al _, h.bel.via hb, h.l1, by omega, ?_, by omega, by omega, by omega⟩
  · exact (h.row.mono (ok' := Y2 ok w.heap.size b (wr.heap.size + 1)) fun _ hx hz => ⟨hz.1, hz.2, by omega⟩).via hb
  · have := h.blk.lt; omega
theorem HNRel.back {ok : Nat → Prop} {w wr : World} {n b bn bs : Nat} {rc : Array Value} {sy : Sy} {fat fnx : Nat → Way} (h : HNRel ok w n b bn bs rc sy fat fnx wr) : HRRel ok w n bn rc fnx wr :=
  ⟨h.hnx.mono fun _ _ hz => ⟨hz.1, hz.2.2⟩, h.blk, h.bel, h.l2⟩

structure HYCut (ok : Nat → Prop) (w : World) (n b bn bs : Nat) (rc : Array Value) (sy : Sy) (fat fnx : Nat → Way) (y : Way) (yv : HyV) (bY : Nat) (wx : World) : Prop where
  rel : HNRel ok w n b bn bs rc sy fat fnx wx
  blk : Blk wx bY 101 #[.int .i64 yv.1, .slice yv.2.1.1 yv.2.1.2.1 yv.2.1.2.2, .bool yv.2.2]
  way : HoR (Y2 ok w.heap.size b bn) wx yv y
section
variable {ok : Nat → Prop} {w wn wm : World} {n b bn bs : Nat} {rc : Array Value} {sy : Sy} {fat fnx : Nat → Way} {y : Way} {yv : HyV}
theorem HYCut.way1 (h : HNRel ok w n b bn bs rc sy fat fnx wn) (hb : Below wn.heap.size wn wm) (hy : HoR (fun x => wn.heap.size ≤ x) wm yv y) :
    HYCut ok w n b bn bs rc sy fat fnx y yv wm.heap.size (wm.alloc (.cells #[.int .i64 yv.1, .slice yv.2.1.1 yv.2.1.2.1 yv.2.1.2.2, .bool yv.2.2] 101)) := by
  have h1 := h.hat.lt; have h2 := h.hnx.lt; have h3 := h.bel.size
  exact ⟨(h.via hb).via ((Below.refl _ _).al _), Blk.new wm _ _, (hy.al _).mono fun x _ hx => ⟨Or.inr (by omega), by omega, by omega⟩⟩
theorem HYCut.way2 (h : HNRel ok w n b bn bs rc sy fat fnx wn) (hb : Below (wn.heap.size + 1) (wn.alloc (.cells #[.int .i64 0, .slice none 0 0, .bool false] 101)) wm) (hy : HoR (fun x => wn.heap.size + 1 ≤ x) wm yv y) :
    HYCut ok w n b bn bs rc sy fat fnx y yv wn.heap.size (World.set3 wm wn.heap.size yv) := by
  have h1 := h.hat.lt; have h2 := h.hnx.lt; have h3 := h.bel.size; have h4 := h.blk.lt; have h5 := h.hsb.lt
  have e : Below wn.heap.size wn wm := ((Below.refl wn.heap.size wn).al _).trans (hb.mono (by omega))
  have hB : Blk wm wn.heap.size 101 #[.int .i64 0, .slice none 0 0, .bool false] := (Blk.new wn _ _).below hb (by omega)
  have B1 := ((hB.set_ 0 (.int .i64 yv.1)).set_ 1 (.slice yv.2.1.1 yv.2.1.2.1 yv.2.1.2.2)).set_ 2 (.bool yv.2.2)
  have e2 : Below wn.heap.size wn (World.set3 wm wn.heap.size yv) := below_s3 e (Nat.le_refl _)
  refine ⟨h.via e2, by simpa [World.set3] using B1, (hy.agr (agr_s3 fun x hx => by omega)).mono fun x _ hx => ⟨Or.inr (by omega), by omega, by omega⟩⟩
end
set_option maxRecDepth 100000 in
set_option maxHeartbeats 16000000 in
theorem hrule_c (ok okc : Nat → Prop) (bf : Nat) (v : FiV) (cs : List Ce) (left rn rcc i oo ob : Nat) (rA : Option Addr) (l : List Sy) (rb : Nat → Nat) (cb : Nat → Nat → Nat) (st : WSt) (w : World) (hb : Blk w bf 123 v.cells) (hx : Sl CeE okc w v.A v.n v.c cs)
    (hn : v.n ≤ 12) (hi : i ≤ v.n) (hA : v.bA = some ⟨ob, oo, none⟩) (hT : HTab ok w ob oo v.bn v.n rb cb st) (okr : Nat → Prop) (hr : Sl SyE okr w rA rn rcc l) (hs : ∀ s ∈ l, s.1 = false → s.2 < v.bn)
    (hl4 : rn ≤ 4) (hst : ∀ N i j, Bnd 2000000000 (st N i j)) :
    Calls Try.prog 65 #[.pointer (some ⟨bf, 0, none⟩), .agg #[.int .i64 (left : Int), .slice rA rn rcc], .int .i64 (i : Int)] w (HRuleP ok w v.n (foldRow (symH cs st) v.n i l)) := by
  have hmk := mk_hos v.n (by omega)
  have hlen := hr.len
  have lb := hb.lt
  have cb4 : w.cell? ⟨bf, 4, none⟩ = some (.slice v.A v.n v.c) := (hb.cell 4).trans rfl
  have hR := HRow.made (Yb ok w.heap.size (w.heap.size + 1)) (w.alloc (.cells #[.int .i64 (left : Int), .slice rA rn rcc] 75)) v.n
  rw [World.size_alloc] at hR
  have hW := (((Below.refl w.heap.size w).al (.cells #[.int .i64 (left : Int), .slice rA rn rcc] 75)).al (.cells (hoCells v.n) 101))
  have hbk := (Blk.new w 75 #[.int .i64 (left : Int), .slice rA rn rcc]).al (.cells (hoCells v.n) 101)
  have HR := Lib.hid hR
  have HW := Lib.hid hW
  have HBK := Lib.hid hbk
  have HB := Lib.hid hb
  have HX := Lib.hid hx
  have HT := Lib.hid hT
  have HS := Lib.hid hr
  have HSY := Lib.hid hs
  have HST := Lib.hid hst
  have HA := Lib.hid hA
  have HL := Lib.hid hlen
  have i0 : (0 : Int) ≤ (i : Int) := by omega
  have i1 : (i : Int) < (v.n : Int) + 1 := by omega
  clear hb hx hT hr hs hst hA hR hW hbk hlen
  go_enter Try.func65, Try.ntmps65
  go_upto_region 3 with fail
  generalize (w.alloc (.cells #[.int .i64 (left : Int), .slice rA rn rcc] 75)).alloc (.cells (hoCells v.n) 101) = W at *
  obtain ⟨vv, -, d0, d1, d2⟩ := HR.out.at_ hi
  have fr := HR.out.frozen
  have Bk := HBK.out
  have HRR := Lib.hid (show HRRel ok w v.n (w.heap.size + 1) #[.int .i64 (left : Int), .slice rA rn rcc] _ _ from ⟨HR.out.put hi (v := (0, (none, 0, 0), true)) (y := ⟨0, 0, [], true⟩) ⟨rfl, rfl, rfl, Sl.nil 0⟩ fun _ h => h.2, (heap_p3 (by omega)).trans HBK.out, below_p3 HW.out (by omega), by omega⟩)
  have ck : W.cell? ⟨w.heap.size, 1, none⟩ = some (.slice rA rn rcc) := (Bk.cell 1).trans rfl
  clear HR HW HBK Bk
  go_wp2_with fail
  clear d0 d1 d2 fr ck cb4 hmk
  have HR0 := Lib.hid (show HRRel ok w v.n (w.heap.size + 1) #[.int .i64 (left : Int), .slice rA rn rcc] (foldRow (symH cs st) v.n i (l.take 0)) (World.put3 W (w.heap.size + 1) (i * 3) (0, (none, 0, 0), true)) from HRR.out)
  clear HRR
  go_loopw [8, 31] (fun a q wr => ∃ m b : Nat, q = .int .i64 m ∧ m ≤ rn ∧ a = .slice (some ⟨b, 0, none⟩) (v.n + 1) (v.n + 1) ∧ HRRel ok w v.n b #[.int .i64 (left : Int), .slice rA rn rcc] (foldRow (symH cs st) v.n i (l.take m)) wr) (fun _ q _ => rn - (intOf q).toNat)
  case atStart => exact ⟨0, _, rfl, Nat.zero_le _, rfl, HR0.out⟩
  case round =>
    obtain ⟨m, b, rfl, hm, rfl, hrr⟩ := hrel
    clear HR0
    by_cases hlt : m < rn
    · obtain ⟨b1, o1, sx, sy, rfl, -, hbb, hy, hxy, hc⟩ := (HS.out.via hrr.bel).at_ hlt
      obtain rfl : sx = sy := hxy
      have c0 := hc 0 _ rfl
      have c1 := hc 1 _ rfl
      simp only [SyE, Nat.add_zero] at c0 c1
      have m0 : (0 : Int) ≤ (m : Int) := by omega
      have m1 : (m : Int) < (rn : Int) := by omega
      have HN := Lib.hid (hrr.next sx)
      have HTK := Lib.hid (show foldRow (symH cs st) v.n i (l.take (m + 1)) = rowK (foldRow (symH cs st) v.n i (l.take m)) (symH cs st sx) v.n i (v.n + 1 - i) by rw [take_at hy, foldRow_snoc])
      have HSX := Lib.hid (show sx.1 = false → sx.2 < v.bn from HSY.out sx (List.mem_of_getElem? hy))
      have hfb := Lib.hid (show ∀ k, Bnd 10000000000 (foldRow (symH cs st) v.n i (l.take m) k) from fun k => by
        have h := Bnd.foldRow (sym := symH cs st) (n := v.n) (i := i) (M := 2000000000) (by omega) (fun s k j => Bnd.symH (by omega) HST.out s k j) (l.take m) k
        refine h.mono ?_
        have hle : (l.take m).length ≤ 4 := by rw [List.length_take, HL.out]; omega
        omega)
      have hms := mk_hos v.n (by omega)
      clear hc hy hrr hbb
      go_upto_region 8 with fail
      clear c0 c1 hms
      generalize hbs : wr.heap.size = bs at *
      clear hbs
      generalize (wr.alloc (.cells #[.bool sx.1, .int .i64 (sx.2 : Int)] 48)).alloc (.cells (hoCells v.n) 101) = W2 at *
      obtain ⟨bn, hbn⟩ : ∃ bn, bn = bs + 1 := ⟨_, rfl⟩
      rw [← hbn] at HN ⊢
      clear hbn
      generalize foldRow (symH cs st) v.n i (l.take m) = fat at *
      obtain ⟨wo, rfl⟩ : ∃ wo : World, wo = wr := ⟨_, rfl⟩
      go_wp2_with fail
      go_loopw [12] (fun q wk => ∃ k : Nat, q = .int .i64 k ∧ i ≤ k ∧ k ≤ v.n + 1 ∧ HNRel ok w v.n b bn bs #[.int .i64 (left : Int), .slice (some ⟨b1, o1, none⟩) rn rcc] sx fat (rowK fat (symH cs st sx) v.n i (k - i)) wk) (fun q _ => v.n + 1 - (intOf q).toNat)
      case atStart => exact ⟨i, rfl, Nat.le_refl _, by omega, by rw [Nat.sub_self]; exact HN.out⟩
      case round =>
        obtain ⟨k, rfl, hik, hkn, hnr⟩ := hrel
        clear HN
        by_cases hk : k ≤ v.n
        · have k0 : (0 : Int) ≤ (k : Int) := by omega
          have k1 : (k : Int) < (v.n : Int) + 1 := by omega
          have HNR := Lib.hid hnr
          have HKK := Lib.hid (show k + 1 - i = (k - i) + 1 by omega)
          have HIK := Lib.hid (show i + (k - i) = k by omega)
          cases hok : (fat k).ok with
          | false =>
            have HROW := Lib.hid (show rowK fat (symH cs st sx) v.n i (k + 1 - i) = rowK fat (symH cs st sx) v.n i (k - i) by rw [HKK.out, rowK, HIK.out, if_neg (by simp [hok])])
            clear hnr
            have HOK := Lib.hid hok
            generalize rowK fat (symH cs st sx) v.n i (k - i) = fnx at *
            clear hok HKK HIK
            obtain ⟨wp, rfl⟩ : ∃ wp : World, wp = wr := ⟨_, rfl⟩
            go_wp2_with fail
            go_loopw [13] (fun q wj => q = .int .i64 (k : Int) ∧ HNRel ok w v.n b bn bs #[.int .i64 (left : Int), .slice (some ⟨b1, o1, none⟩) rn rcc] sx fat fnx wj) (fun q _ => 0)
            case atStart => exact ⟨rfl, HNR.out⟩
            case round =>
              obtain ⟨rfl, hnj⟩ := hrel
              clear HNR
              obtain ⟨⟨as_, ⟨aA, an, acc⟩, ao⟩, ha, a0, a1, a2⟩ := hnj.hat.at_ hk
              obtain rfl : ao = false := ha.2.1.trans HOK.out
              simp only at a0 a1 a2
              have HF := Lib.hid hnj
              clear hnj ha a0 a1
              go_wp2_with fail
              exact ⟨⟨k + 1, by go_num, by omega, by omega, by rw [HROW.out]; exact HF.out⟩, by simp [intOf]; omega⟩
          | true =>
            have HROW := Lib.hid (show rowK fat (symH cs st sx) v.n i (k + 1 - i) = rowJ (fat k) (symH cs st sx k) k (rowK fat (symH cs st sx) v.n i (k - i)) (v.n + 1 - k) by rw [HKK.out, rowK, HIK.out, if_pos hok])
            have HOK := Lib.hid hok
            generalize rowK fat (symH cs st sx) v.n i (k - i) = fnx at *
            clear hnr hok HKK HIK
            obtain ⟨wp, rfl⟩ : ∃ wp : World, wp = wr := ⟨_, rfl⟩
            go_wp2_with fail
            go_loopw [13] (fun q wj => ∃ j : Nat, q = .int .i64 j ∧ k ≤ j ∧ j ≤ v.n + 1 ∧ HNRel ok w v.n b bn bs #[.int .i64 (left : Int), .slice (some ⟨b1, o1, none⟩) rn rcc] sx fat (rowJ (fat k) (symH cs st sx k) k fnx (j - k)) wj) (fun q _ => v.n + 1 - (intOf q).toNat)
            case atStart => exact ⟨k, rfl, Nat.le_refl _, by omega, by rw [Nat.sub_self]; exact HNR.out⟩
            case round =>
              obtain ⟨j, rfl, hkj, hjn, hnj⟩ := hrel
              clear HNR
              by_cases hj : j ≤ v.n
              · have j0 : (0 : Int) ≤ (j : Int) := by omega
                have j1 : (j : Int) < (v.n : Int) + 1 := by omega
                have HJJ := Lib.hid (show rowJ (fat k) (symH cs st sx k) k fnx (j + 1 - k) = goJ (fat k) (symH cs st sx k j) (rowJ (fat k) (symH cs st sx k) k fnx (j - k)) j by
                  rw [show j + 1 - k = (j - k) + 1 by omega, rowJ, show k + (j - k) = j by omega])
                generalize rowJ (fat k) (symH cs st sx k) k fnx (j - k) = fj at *
                obtain ⟨⟨as_, ⟨aA, an, acc⟩, ao⟩, ha, a0, a1, a2⟩ := hnj.hat.at_ hk
                obtain rfl : ao = true := ha.2.1.trans HOK.out
                simp only at a0 a1 a2
                have HNJ := Lib.hid hnj
                clear hnj ha a0 a1
                obtain ⟨wq, rfl⟩ : ∃ wq : World, wq = wr := ⟨_, rfl⟩
                have Bsb := HNJ.out.hsb
                have cBsb := Bsb.cell
                have fBsb := Bsb.frozen
                have lBsb := Bsb.lt
                go_wp2_with fail
                clear cBsb fBsb lBsb
                clear a2
                refine (hsymbol_c ok okc bf v cs sx k j oo ob rb cb st wq (HB.out.via HNJ.out.bel) (HX.out.via HNJ.out.bel) hn hkj hj HA.out (HT.out.via HNJ.out.bel) HSX.out).mono ?_
                rintro e w3 ⟨⟨xs_, ⟨xA, xn, xcc⟩, xo⟩, rfl, hxr, hb3⟩
                dsimp only [hoVal]
                have HXB := Lib.hid (show Bnd 10000000000 (symH cs st sx k j) from (Bnd.symH (by omega) HST.out sx k j).mono (by omega))
                generalize symH cs st sx k j = X at *
                have N3 := (HNJ.out.via hb3).via ((Below.refl w3.heap.size w3).al (.cells #[.int .i64 xs_, .slice xA xn xcc, .bool xo] 101))
                have Bx := Blk.new w3 101 #[.int .i64 xs_, .slice xA xn xcc, .bool xo]
                have hxr := hxr.al (.cells #[.int .i64 xs_, .slice xA xn xcc, .bool xo] 101)
                have HLO := Lib.hid (show w.heap.size ≤ wq.heap.size from HNJ.out.bel.size)
                have HLB := Lib.hid (show b < wq.heap.size ∧ bn < wq.heap.size from ⟨HNJ.out.hat.lt, HNJ.out.hnx.lt⟩)
                clear hb3 HNJ
                go_upto_region 15 with fail
                generalize w3.alloc (.cells #[.int .i64 xs_, .slice xA xn xcc, .bool xo] 101) = W3 at *
                generalize w3.heap.size = bx at *
                obtain ⟨⟨as_, ⟨aA, an, acc⟩, ao⟩, ha, a0, a1, a2⟩ := N3.hat.at_ hk
                obtain rfl : ao = true := ha.2.1.trans HOK.out
                obtain ⟨⟨ts, ⟨tA, tn, tcc⟩, tk⟩, ht, t0, t1, t2⟩ := N3.hnx.at_ hj
                simp only at a0 a1 a2 t0 t1 t2
                have lA := N3.hat.lt
                have lN := N3.hnx.lt
                have HHP := Lib.hid (show hopeW (fat k) X (fj j) = (!xo || (tk && decide (ts < as_ + xs_))) by rw [hope_zero HOK.out ha.2.2.1 hxr.2.2.1 ht.2.2.1, show xo = X.ok from hxr.2.1, show tk = (fj j).ok from ht.2.1, show ts = (fj j).size from ht.1, show as_ = (fat k).size from ha.1, show xs_ = X.size from hxr.1])
                have kS : IntKind.i64.wrap (as_ + xs_) = as_ + xs_ := IntWalk.i64_in _ (by
                  have q1 := (hfb.out k).s0; have q2 := (hfb.out k).s1; have q3 := HXB.out.s0; have q4 := HXB.out.s1
                  have q5 : as_ = (fat k).size := ha.1
                  have q6 : xs_ = X.size := hxr.1
                  omega)
                have FA := Lib.hid (show ∀ w', Below W3.heap.size W3 w' → HoR _ w' (as_, (aA, an, acc), true) (fat k) from fun w' hb => ha.via hb)
                have FT := Lib.hid (show ∀ w', Below W3.heap.size W3 w' → HoR _ w' (ts, (tA, tn, tcc), tk) (fj j) from fun w' hb => ht.via hb)
                have FX := Lib.hid (show ∀ w', Below W3.heap.size W3 w' → HoR _ w' (xs_, (xA, xn, xcc), xo) X from fun w' hb => hxr.via hb)
                have N3H := Lib.hid N3
                have HXR := Lib.hid hxr
                have cX := Bx.cell
                clear N3 ha ht hxr
                cases xo with
                | false =>
                  have HH := Lib.hid (show hopeW (fat k) X (fj j) = true by rw [HHP.out]; rfl)
                  clear a0 a1 a2 t0 t1 t2 HHP Bx
                  go_quiet (fail)
                  have HF := Lib.hid (N3H.out.via (below_drewN (Below.refl W3.heap.size W3) nq))
                  have HJ2 := Lib.hid (show rowJ (fat k) (symH cs st sx k) k fnx (j + 1 - k) = fj by rw [HJJ.out, goJ, if_pos HH.out])
                  clear cX kS
                  generalize W3.drewN nq = wn at *
                  go_wp2_with fail
                  exact ⟨⟨j + 1, by go_num, by omega, by omega, by rw [HJ2.out]; exact HF.out⟩, by simp [intOf]; omega⟩
                | true =>
                  have SO2 := Lib.hid (show ∀ w', Below W3.heap.size W3 w' → (w'.cell? ⟨b, k * 3, none⟩ = some (.int .i64 as_) ∧ w'.cell? ⟨b, k * 3 + 1, none⟩ = some (.slice aA an acc) ∧ w'.cell? ⟨b, k * 3 + 2, none⟩ = some (.bool true) ∧ (∀ i, w'.cell? ⟨bx, i, none⟩ = #[.int .i64 xs_, .slice xA xn xcc, .bool true][i]?) ∧ Below W3.heap.size W3 w') from fun w' hb =>
                    ⟨(hb.cell (p := ⟨b, k * 3, none⟩) lA).trans a0, (hb.cell (p := ⟨b, k * 3 + 1, none⟩) lA).trans a1, (hb.cell (p := ⟨b, k * 3 + 2, none⟩) lA).trans a2, (Bx.via hb).cell, hb⟩)
                  have SOF := Lib.hid True.intro
                  cases tk with
                  | false =>
                    have HH := Lib.hid (show hopeW (fat k) X (fj j) = false by rw [HHP.out]; rfl)
                    clear a0 a1 a2 t0 t1 HHP Bx
                    go_quiet (fail)
                    have hbm : Below W3.heap.size W3 (W3.drewN nq) := below_drewN (Below.refl W3.heap.size W3) nq
                    clear cX kS t2
                    generalize W3.drewN nq = wn at *
                    have HBM := Lib.hid hbm
                    have hb1 : Below W3.heap.size W3 wn.drew := hbm.drew
                    have hsz : W3.heap.size ≤ wn.heap.size := hbm.size
                    go_upto_region 16 with fail
                    go_region_held3 (fun w' => w'.cell? ⟨b, k * 3, none⟩ = some (.int .i64 as_) ∧ w'.cell? ⟨b, k * 3 + 1, none⟩ = some (.slice aA an acc) ∧ w'.cell? ⟨b, k * 3 + 2, none⟩ = some (.bool true) ∧ (∀ i, w'.cell? ⟨bx, i, none⟩ = #[.int .i64 xs_, .slice xA xn xcc, .bool true][i]?) ∧ Below W3.heap.size W3 w') (exact SO2.out _ (by first | assumption | exact (hbm.al _).drew | exact Below.al (by assumption) _ | exact ((Below.setCell (by assumption) hsz _).setCell hsz _).setCell hsz _)) (first
                      | (go_at_call 80; (with_reducible refine (hthen_c _ _ as_ aA an acc true xs_ xA xn xcc true (fat k) X wn.drew (FA.out _ hb1) (FX.out _ hb1) (hfb.out k) HXB.out).mono ?_); rintro ee wm ⟨⟨ys, ⟨yA, yn, ycc⟩, yo⟩, rfl, hyr, hbk⟩; have hbz : Below W3.heap.size W3 wm := Below.via hb1 hbk; dsimp only [hoVal])
                      | (go_at_call 80; (with_reducible refine (hthen_c _ _ as_ aA an acc true xs_ xA xn xcc true (fat k) X (wn.alloc (.cells #[.int .i64 0, .slice none 0 0, .bool false] 101)).drew (FA.out _ (hbm.al _).drew) (FX.out _ (hbm.al _).drew) (hfb.out k) HXB.out).mono ?_); rintro ee wm ⟨⟨ys, ⟨yA, yn, ycc⟩, yo⟩, rfl, hyr, hbk⟩; have hbz : Below W3.heap.size W3 wm := Below.via (hbm.al _).drew hbk; have cN := ((Blk.new wn 101 #[.int .i64 0, .slice none 0 0, .bool false]).dr.via hbk).cell; have fN := ((Blk.new wn 101 #[.int .i64 0, .slice none 0 0, .bool false]).dr.via hbk).frozen; have lN2 := ((Blk.new wn 101 #[.int .i64 0, .slice none 0 0, .bool false]).dr.via hbk).lt; dsimp only [hoVal]))
                    · have YC := Lib.hid (HYCut.way1 (yv := (ys, (yA, yn, ycc), yo)) (N3H.out.via HBM.out) (((Below.refl wn.heap.size wn).drew).via hbk) hyr)
                      clear hbk hyr hbz hb1
                      generalize wm.alloc (.cells #[.int .i64 ys, .slice yA yn ycc, .bool yo] 101) = WY at *
                      generalize wm.heap.size = bY at *
                      clear SOF SO2 FA FT FX N3H HBM hbm hsz HXR HLO HLB
                      have hyl : (thenW (fat k) X).w.length ≤ 2000 := ((hfb.out k).then_ HXB.out).short
                      have HYL := Lib.hid hyl
                      obtain ⟨⟨ts2, ⟨tA2, tn2, tcc2⟩, tk2⟩, ht2, t0, t1, t2⟩ := YC.out.rel.hnx.at_ hj
                      simp only at t0 t1 t2
                      have lN := YC.out.rel.hnx.lt
                      have SO3 := Lib.hid (show ∀ w', Below WY.heap.size WY w' → ((∀ i, w'.cell? ⟨bY, i, none⟩ = #[.int .i64 ys, .slice yA yn ycc, .bool yo][i]?) ∧ w'.cell? ⟨bn, j * 3, none⟩ = some (.int .i64 ts2) ∧ w'.cell? ⟨bn, j * 3 + 1, none⟩ = some (.slice tA2 tn2 tcc2) ∧ w'.cell? ⟨bn, j * 3 + 2, none⟩ = some (.bool tk2) ∧ Below WY.heap.size WY w') from fun w' hb => ⟨(YC.out.blk.via hb).cell, (hb.cell (p := ⟨bn, j * 3, none⟩) lN).trans t0, (hb.cell (p := ⟨bn, j * 3 + 1, none⟩) lN).trans t1, (hb.cell (p := ⟨bn, j * 3 + 2, none⟩) lN).trans t2, hb⟩)
                      have FY := Lib.hid (show ∀ w', Below WY.heap.size WY w' → HoR (Y2 ok w.heap.size b bn) w' (ys, (yA, yn, ycc), yo) (thenW (fat k) X) from fun w' hb => YC.out.way.via hb)
                      have FT := Lib.hid (show ∀ w', Below WY.heap.size WY w' → HoR _ w' (ts2, (tA2, tn2, tcc2), tk2) (fj j) from fun w' hb => ht2.via hb)
                      clear t0 t1 t2 ht2 hyl
                      go_upto_region 17 with fail
                      have hb0 := (Below.refl WY.heap.size WY).drew
                      cases hl2 : lessW (thenW (fat k) X) (fj j) with
                      | true =>
                        have HL2 := Lib.hid hl2
                        clear hl2
                        go_region_held3 (fun w' => (∀ i, w'.cell? ⟨bY, i, none⟩ = #[.int .i64 ys, .slice yA yn ycc, .bool yo][i]?) ∧ w'.cell? ⟨bn, j * 3, none⟩ = some (.int .i64 ts2) ∧ w'.cell? ⟨bn, j * 3 + 1, none⟩ = some (.slice tA2 tn2 tcc2) ∧ w'.cell? ⟨bn, j * 3 + 2, none⟩ = some (.bool tk2) ∧ Below WY.heap.size WY w') (exact SO3.out _ (by assumption)) (first
                          | (go_at_call 66; (with_reducible refine (hless_b _ _ ys yA yn ycc yo ts2 tA2 tn2 tcc2 tk2 (thenW (fat k) X) (fj j) true _ (FY.out _ (by assumption)) (FT.out _ (by assumption)) HYL.out HL2.out).mono ?_); rintro ee wl ⟨rfl, hbl⟩; have hbz : Below WY.heap.size WY wl := Below.via (by assumption) hbl))
                        obtain ⟨s1, t0, t1, t2, -⟩ := SO3.out wl hbz
                        have NF := Lib.hid (YC.out.rel.via hbz)
                        have fr := NF.out.hnx.frozen
                        have HF := Lib.hid (NF.out.put hj (FY.out wl hbz))
                        have HJ2 := Lib.hid (show rowJ (fat k) (symH cs st sx k) k fnx (j + 1 - k) = upd fj j (thenW (fat k) X) by rw [HJJ.out, goJ, if_neg (by rw [HH.out]; simp), if_pos HL2.out])
                        clear hb0 hbl hbz
                        go_wp2_with fail
                        exact ⟨⟨j + 1, by go_num, by omega, by omega, by rw [HJ2.out]; exact HF.out⟩, by simp [intOf]; omega⟩
                      | false =>
                        have HL2 := Lib.hid hl2
                        clear hl2
                        go_region_held3 (fun w' => (∀ i, w'.cell? ⟨bY, i, none⟩ = #[.int .i64 ys, .slice yA yn ycc, .bool yo][i]?) ∧ w'.cell? ⟨bn, j * 3, none⟩ = some (.int .i64 ts2) ∧ w'.cell? ⟨bn, j * 3 + 1, none⟩ = some (.slice tA2 tn2 tcc2) ∧ w'.cell? ⟨bn, j * 3 + 2, none⟩ = some (.bool tk2) ∧ Below WY.heap.size WY w') (exact SO3.out _ (by assumption)) (first
                          | (go_at_call 66; (with_reducible refine (hless_b _ _ ys yA yn ycc yo ts2 tA2 tn2 tcc2 tk2 (thenW (fat k) X) (fj j) false _ (FY.out _ (by assumption)) (FT.out _ (by assumption)) HYL.out HL2.out).mono ?_); rintro ee wl ⟨rfl, hbl⟩; have hbz : Below WY.heap.size WY wl := Below.via (by assumption) hbl))
                        have HF := Lib.hid (YC.out.rel.via hbz)
                        have HJ2 := Lib.hid (show rowJ (fat k) (symH cs st sx k) k fnx (j + 1 - k) = fj by rw [HJJ.out, goJ, if_neg (by rw [HH.out]; simp), if_neg (by rw [HL2.out]; simp)])
                        clear hb0 hbl hbz
                        go_wp2_with fail
                        exact ⟨⟨j + 1, by go_num, by omega, by omega, by rw [HJ2.out]; exact HF.out⟩, by simp [intOf]; omega⟩
                    · have YC := Lib.hid (HYCut.way2 (yv := (ys, (yA, yn, ycc), yo)) (N3H.out.via HBM.out) (by have := hbk; rw [show (wn.alloc (.cells #[.int .i64 0, .slice none 0 0, .bool false] 101)).drew.heap.size = wn.heap.size + 1 from World.size_alloc _ _] at this; exact ((Below.refl (wn.heap.size + 1) _).drew).trans this) (by have := hyr; rw [show (wn.alloc (.cells #[.int .i64 0, .slice none 0 0, .bool false] 101)).drew.heap.size = wn.heap.size + 1 from World.size_alloc _ _] at this; exact this))
                      clear hbk hyr hbz hb1 cN fN lN2
                      simp only [World.set3] at YC
                      generalize ((wm.setCell ⟨wn.heap.size, 0, none⟩ (.int .i64 ys)).setCell ⟨wn.heap.size, 1, none⟩ (.slice yA yn ycc)).setCell ⟨wn.heap.size, 2, none⟩ (.bool yo) = WY at *
                      generalize wn.heap.size = bY at *
                      clear SOF SO2 FA FT FX N3H HBM hbm hsz HXR HLO HLB
                      have hyl : (thenW (fat k) X).w.length ≤ 2000 := ((hfb.out k).then_ HXB.out).short
                      have HYL := Lib.hid hyl
                      obtain ⟨⟨ts2, ⟨tA2, tn2, tcc2⟩, tk2⟩, ht2, t0, t1, t2⟩ := YC.out.rel.hnx.at_ hj
                      simp only at t0 t1 t2
                      have lN := YC.out.rel.hnx.lt
                      have SO3 := Lib.hid (show ∀ w', Below WY.heap.size WY w' → ((∀ i, w'.cell? ⟨bY, i, none⟩ = #[.int .i64 ys, .slice yA yn ycc, .bool yo][i]?) ∧ w'.cell? ⟨bn, j * 3, none⟩ = some (.int .i64 ts2) ∧ w'.cell? ⟨bn, j * 3 + 1, none⟩ = some (.slice tA2 tn2 tcc2) ∧ w'.cell? ⟨bn, j * 3 + 2, none⟩ = some (.bool tk2) ∧ Below WY.heap.size WY w') from fun w' hb => ⟨(YC.out.blk.via hb).cell, (hb.cell (p := ⟨bn, j * 3, none⟩) lN).trans t0, (hb.cell (p := ⟨bn, j * 3 + 1, none⟩) lN).trans t1, (hb.cell (p := ⟨bn, j * 3 + 2, none⟩) lN).trans t2, hb⟩)
                      have FY := Lib.hid (show ∀ w', Below WY.heap.size WY w' → HoR (Y2 ok w.heap.size b bn) w' (ys, (yA, yn, ycc), yo) (thenW (fat k) X) from fun w' hb => YC.out.way.via hb)
                      have FT := Lib.hid (show ∀ w', Below WY.heap.size WY w' → HoR _ w' (ts2, (tA2, tn2, tcc2), tk2) (fj j) from fun w' hb => ht2.via hb)
                      clear t0 t1 t2 ht2 hyl
                      go_upto_region 17 with fail
                      have hb0 := (Below.refl WY.heap.size WY).drew
                      cases hl2 : lessW (thenW (fat k) X) (fj j) with
                      | true =>
                        have HL2 := Lib.hid hl2
                        clear hl2
                        go_region_held3 (fun w' => (∀ i, w'.cell? ⟨bY, i, none⟩ = #[.int .i64 ys, .slice yA yn ycc, .bool yo][i]?) ∧ w'.cell? ⟨bn, j * 3, none⟩ = some (.int .i64 ts2) ∧ w'.cell? ⟨bn, j * 3 + 1, none⟩ = some (.slice tA2 tn2 tcc2) ∧ w'.cell? ⟨bn, j * 3 + 2, none⟩ = some (.bool tk2) ∧ Below WY.heap.size WY w') (exact SO3.out _ (by assumption)) (first
                          | (go_at_call 66; (with_reducible refine (hless_b _ _ ys yA yn ycc yo ts2 tA2 tn2 tcc2 tk2 (thenW (fat k) X) (fj j) true _ (FY.out _ (by assumption)) (FT.out _ (by assumption)) HYL.out HL2.out).mono ?_); rintro ee wl ⟨rfl, hbl⟩; have hbz : Below WY.heap.size WY wl := Below.via (by assumption) hbl))
                        obtain ⟨s1, t0, t1, t2, -⟩ := SO3.out wl hbz
                        have NF := Lib.hid (YC.out.rel.via hbz)
                        have fr := NF.out.hnx.frozen
                        have HF := Lib.hid (NF.out.put hj (FY.out wl hbz))
                        have HJ2 := Lib.hid (show rowJ (fat k) (symH cs st sx k) k fnx (j + 1 - k) = upd fj j (thenW (fat k) X) by rw [HJJ.out, goJ, if_neg (by rw [HH.out]; simp), if_pos HL2.out])
                        clear hb0 hbl hbz
                        go_wp2_with fail
                        exact ⟨⟨j + 1, by go_num, by omega, by omega, by rw [HJ2.out]; exact HF.out⟩, by simp [intOf]; omega⟩
                      | false =>
                        have HL2 := Lib.hid hl2
                        clear hl2
                        go_region_held3 (fun w' => (∀ i, w'.cell? ⟨bY, i, none⟩ = #[.int .i64 ys, .slice yA yn ycc, .bool yo][i]?) ∧ w'.cell? ⟨bn, j * 3, none⟩ = some (.int .i64 ts2) ∧ w'.cell? ⟨bn, j * 3 + 1, none⟩ = some (.slice tA2 tn2 tcc2) ∧ w'.cell? ⟨bn, j * 3 + 2, none⟩ = some (.bool tk2) ∧ Below WY.heap.size WY w') (exact SO3.out _ (by assumption)) (first
                          | (go_at_call 66; (with_reducible refine (hless_b _ _ ys yA yn ycc yo ts2 tA2 tn2 tcc2 tk2 (thenW (fat k) X) (fj j) false _ (FY.out _ (by assumption)) (FT.out _ (by assumption)) HYL.out HL2.out).mono ?_); rintro ee wl ⟨rfl, hbl⟩; have hbz : Below WY.heap.size WY wl := Below.via (by assumption) hbl))
                        have HF := Lib.hid (YC.out.rel.via hbz)
                        have HJ2 := Lib.hid (show rowJ (fat k) (symH cs st sx k) k fnx (j + 1 - k) = fj by rw [HJJ.out, goJ, if_neg (by rw [HH.out]; simp), if_neg (by rw [HL2.out]; simp)])
                        clear hb0 hbl hbz
                        go_wp2_with fail
                        exact ⟨⟨j + 1, by go_num, by omega, by omega, by rw [HJ2.out]; exact HF.out⟩, by simp [intOf]; omega⟩
                  | true =>
                    by_cases hle : as_ + xs_ ≤ ts
                    · have HH := Lib.hid (show hopeW (fat k) X (fj j) = false by rw [HHP.out]; simp; exact hle)
                      have e2 : decide (as_ + xs_ ≤ ts) = true := by simpa using hle
                      clear a1 a2 t1 HHP Bx hle
                      go_quiet (fail)
                      have hbm : Below W3.heap.size W3 (W3.drewN nq) := below_drewN (Below.refl W3.heap.size W3) nq
                      clear cX kS t2 e2 a0 t0
                      generalize W3.drewN nq = wn at *
                      have HBM := Lib.hid hbm
                      have hb1 : Below W3.heap.size W3 wn.drew := hbm.drew
                      have hsz : W3.heap.size ≤ wn.heap.size := hbm.size
                      go_upto_region 16 with fail
                      go_region_held3 (fun w' => w'.cell? ⟨b, k * 3, none⟩ = some (.int .i64 as_) ∧ w'.cell? ⟨b, k * 3 + 1, none⟩ = some (.slice aA an acc) ∧ w'.cell? ⟨b, k * 3 + 2, none⟩ = some (.bool true) ∧ (∀ i, w'.cell? ⟨bx, i, none⟩ = #[.int .i64 xs_, .slice xA xn xcc, .bool true][i]?) ∧ Below W3.heap.size W3 w') (exact SO2.out _ (by first | assumption | exact (hbm.al _).drew | exact Below.al (by assumption) _ | exact ((Below.setCell (by assumption) hsz _).setCell hsz _).setCell hsz _)) (first
                        | (go_at_call 80; (with_reducible refine (hthen_c _ _ as_ aA an acc true xs_ xA xn xcc true (fat k) X wn.drew (FA.out _ hb1) (FX.out _ hb1) (hfb.out k) HXB.out).mono ?_); rintro ee wm ⟨⟨ys, ⟨yA, yn, ycc⟩, yo⟩, rfl, hyr, hbk⟩; have hbz : Below W3.heap.size W3 wm := Below.via hb1 hbk; dsimp only [hoVal])
                        | (go_at_call 80; (with_reducible refine (hthen_c _ _ as_ aA an acc true xs_ xA xn xcc true (fat k) X (wn.alloc (.cells #[.int .i64 0, .slice none 0 0, .bool false] 101)).drew (FA.out _ (hbm.al _).drew) (FX.out _ (hbm.al _).drew) (hfb.out k) HXB.out).mono ?_); rintro ee wm ⟨⟨ys, ⟨yA, yn, ycc⟩, yo⟩, rfl, hyr, hbk⟩; have hbz : Below W3.heap.size W3 wm := Below.via (hbm.al _).drew hbk; have cN := ((Blk.new wn 101 #[.int .i64 0, .slice none 0 0, .bool false]).dr.via hbk).cell; have fN := ((Blk.new wn 101 #[.int .i64 0, .slice none 0 0, .bool false]).dr.via hbk).frozen; have lN2 := ((Blk.new wn 101 #[.int .i64 0, .slice none 0 0, .bool false]).dr.via hbk).lt; dsimp only [hoVal]))
                      · have YC := Lib.hid (HYCut.way1 (yv := (ys, (yA, yn, ycc), yo)) (N3H.out.via HBM.out) (((Below.refl wn.heap.size wn).drew).via hbk) hyr)
                        clear hbk hyr hbz hb1
                        generalize wm.alloc (.cells #[.int .i64 ys, .slice yA yn ycc, .bool yo] 101) = WY at *
                        generalize wm.heap.size = bY at *
                        clear SOF SO2 FA FT FX N3H HBM hbm hsz HXR HLO HLB
                        have hyl : (thenW (fat k) X).w.length ≤ 2000 := ((hfb.out k).then_ HXB.out).short
                        have HYL := Lib.hid hyl
                        obtain ⟨⟨ts2, ⟨tA2, tn2, tcc2⟩, tk2⟩, ht2, t0, t1, t2⟩ := YC.out.rel.hnx.at_ hj
                        simp only at t0 t1 t2
                        have lN := YC.out.rel.hnx.lt
                        have SO3 := Lib.hid (show ∀ w', Below WY.heap.size WY w' → ((∀ i, w'.cell? ⟨bY, i, none⟩ = #[.int .i64 ys, .slice yA yn ycc, .bool yo][i]?) ∧ w'.cell? ⟨bn, j * 3, none⟩ = some (.int .i64 ts2) ∧ w'.cell? ⟨bn, j * 3 + 1, none⟩ = some (.slice tA2 tn2 tcc2) ∧ w'.cell? ⟨bn, j * 3 + 2, none⟩ = some (.bool tk2) ∧ Below WY.heap.size WY w') from fun w' hb => ⟨(YC.out.blk.via hb).cell, (hb.cell (p := ⟨bn, j * 3, none⟩) lN).trans t0, (hb.cell (p := ⟨bn, j * 3 + 1, none⟩) lN).trans t1, (hb.cell (p := ⟨bn, j * 3 + 2, none⟩) lN).trans t2, hb⟩)
                        have FY := Lib.hid (show ∀ w', Below WY.heap.size WY w' → HoR (Y2 ok w.heap.size b bn) w' (ys, (yA, yn, ycc), yo) (thenW (fat k) X) from fun w' hb => YC.out.way.via hb)
                        have FT := Lib.hid (show ∀ w', Below WY.heap.size WY w' → HoR _ w' (ts2, (tA2, tn2, tcc2), tk2) (fj j) from fun w' hb => ht2.via hb)
                        clear t0 t1 t2 ht2 hyl
                        go_upto_region 17 with fail
                        have hb0 := (Below.refl WY.heap.size WY).drew
                        cases hl2 : lessW (thenW (fat k) X) (fj j) with
                        | true =>
                          have HL2 := Lib.hid hl2
                          clear hl2
                          go_region_held3 (fun w' => (∀ i, w'.cell? ⟨bY, i, none⟩ = #[.int .i64 ys, .slice yA yn ycc, .bool yo][i]?) ∧ w'.cell? ⟨bn, j * 3, none⟩ = some (.int .i64 ts2) ∧ w'.cell? ⟨bn, j * 3 + 1, none⟩ = some (.slice tA2 tn2 tcc2) ∧ w'.cell? ⟨bn, j * 3 + 2, none⟩ = some (.bool tk2) ∧ Below WY.heap.size WY w') (exact SO3.out _ (by assumption)) (first
                            | (go_at_call 66; (with_reducible refine (hless_b _ _ ys yA yn ycc yo ts2 tA2 tn2 tcc2 tk2 (thenW (fat k) X) (fj j) true _ (FY.out _ (by assumption)) (FT.out _ (by assumption)) HYL.out HL2.out).mono ?_); rintro ee wl ⟨rfl, hbl⟩; have hbz : Below WY.heap.size WY wl := Below.via (by assumption) hbl))
                          obtain ⟨s1, t0, t1, t2, -⟩ := SO3.out wl hbz
                          have NF := Lib.hid (YC.out.rel.via hbz)
                          have fr := NF.out.hnx.frozen
                          have HF := Lib.hid (NF.out.put hj (FY.out wl hbz))
                          have HJ2 := Lib.hid (show rowJ (fat k) (symH cs st sx k) k fnx (j + 1 - k) = upd fj j (thenW (fat k) X) by rw [HJJ.out, goJ, if_neg (by rw [HH.out]; simp), if_pos HL2.out])
                          clear hb0 hbl hbz
                          go_wp2_with fail
                          exact ⟨⟨j + 1, by go_num, by omega, by omega, by rw [HJ2.out]; exact HF.out⟩, by simp [intOf]; omega⟩
                        | false =>
                          have HL2 := Lib.hid hl2
                          clear hl2
                          go_region_held3 (fun w' => (∀ i, w'.cell? ⟨bY, i, none⟩ = #[.int .i64 ys, .slice yA yn ycc, .bool yo][i]?) ∧ w'.cell? ⟨bn, j * 3, none⟩ = some (.int .i64 ts2) ∧ w'.cell? ⟨bn, j * 3 + 1, none⟩ = some (.slice tA2 tn2 tcc2) ∧ w'.cell? ⟨bn, j * 3 + 2, none⟩ = some (.bool tk2) ∧ Below WY.heap.size WY w') (exact SO3.out _ (by assumption)) (first
                            | (go_at_call 66; (with_reducible refine (hless_b _ _ ys yA yn ycc yo ts2 tA2 tn2 tcc2 tk2 (thenW (fat k) X) (fj j) false _ (FY.out _ (by assumption)) (FT.out _ (by assumption)) HYL.out HL2.out).mono ?_); rintro ee wl ⟨rfl, hbl⟩; have hbz : Below WY.heap.size WY wl := Below.via (by assumption) hbl))
                          have HF := Lib.hid (YC.out.rel.via hbz)
                          have HJ2 := Lib.hid (show rowJ (fat k) (symH cs st sx k) k fnx (j + 1 - k) = fj by rw [HJJ.out, goJ, if_neg (by rw [HH.out]; simp), if_neg (by rw [HL2.out]; simp)])
                          clear hb0 hbl hbz
                          go_wp2_with fail
                          exact ⟨⟨j + 1, by go_num, by omega, by omega, by rw [HJ2.out]; exact HF.out⟩, by simp [intOf]; omega⟩
                      · have YC := Lib.hid (HYCut.way2 (yv := (ys, (yA, yn, ycc), yo)) (N3H.out.via HBM.out) (by have := hbk; rw [show (wn.alloc (.cells #[.int .i64 0, .slice none 0 0, .bool false] 101)).drew.heap.size = wn.heap.size + 1 from World.size_alloc _ _] at this; exact ((Below.refl (wn.heap.size + 1) _).drew).trans this) (by have := hyr; rw [show (wn.alloc (.cells #[.int .i64 0, .slice none 0 0, .bool false] 101)).drew.heap.size = wn.heap.size + 1 from World.size_alloc _ _] at this; exact this))
                        clear hbk hyr hbz hb1 cN fN lN2
                        simp only [World.set3] at YC
                        generalize ((wm.setCell ⟨wn.heap.size, 0, none⟩ (.int .i64 ys)).setCell ⟨wn.heap.size, 1, none⟩ (.slice yA yn ycc)).setCell ⟨wn.heap.size, 2, none⟩ (.bool yo) = WY at *
                        generalize wn.heap.size = bY at *
                        clear SOF SO2 FA FT FX N3H HBM hbm hsz HXR HLO HLB
                        have hyl : (thenW (fat k) X).w.length ≤ 2000 := ((hfb.out k).then_ HXB.out).short
                        have HYL := Lib.hid hyl
                        obtain ⟨⟨ts2, ⟨tA2, tn2, tcc2⟩, tk2⟩, ht2, t0, t1, t2⟩ := YC.out.rel.hnx.at_ hj
                        simp only at t0 t1 t2
                        have lN := YC.out.rel.hnx.lt
                        have SO3 := Lib.hid (show ∀ w', Below WY.heap.size WY w' → ((∀ i, w'.cell? ⟨bY, i, none⟩ = #[.int .i64 ys, .slice yA yn ycc, .bool yo][i]?) ∧ w'.cell? ⟨bn, j * 3, none⟩ = some (.int .i64 ts2) ∧ w'.cell? ⟨bn, j * 3 + 1, none⟩ = some (.slice tA2 tn2 tcc2) ∧ w'.cell? ⟨bn, j * 3 + 2, none⟩ = some (.bool tk2) ∧ Below WY.heap.size WY w') from fun w' hb => ⟨(YC.out.blk.via hb).cell, (hb.cell (p := ⟨bn, j * 3, none⟩) lN).trans t0, (hb.cell (p := ⟨bn, j * 3 + 1, none⟩) lN).trans t1, (hb.cell (p := ⟨bn, j * 3 + 2, none⟩) lN).trans t2, hb⟩)
                        have FY := Lib.hid (show ∀ w', Below WY.heap.size WY w' → HoR (Y2 ok w.heap.size b bn) w' (ys, (yA, yn, ycc), yo) (thenW (fat k) X) from fun w' hb => YC.out.way.via hb)
                        have FT := Lib.hid (show ∀ w', Below WY.heap.size WY w' → HoR _ w' (ts2, (tA2, tn2, tcc2), tk2) (fj j) from fun w' hb => ht2.via hb)
                        clear t0 t1 t2 ht2 hyl
                        go_upto_region 17 with fail
                        have hb0 := (Below.refl WY.heap.size WY).drew
                        cases hl2 : lessW (thenW (fat k) X) (fj j) with
                        | true =>
                          have HL2 := Lib.hid hl2
                          clear hl2
                          go_region_held3 (fun w' => (∀ i, w'.cell? ⟨bY, i, none⟩ = #[.int .i64 ys, .slice yA yn ycc, .bool yo][i]?) ∧ w'.cell? ⟨bn, j * 3, none⟩ = some (.int .i64 ts2) ∧ w'.cell? ⟨bn, j * 3 + 1, none⟩ = some (.slice tA2 tn2 tcc2) ∧ w'.cell? ⟨bn, j * 3 + 2, none⟩ = some (.bool tk2) ∧ Below WY.heap.size WY w') (exact SO3.out _ (by assumption)) (first
                            | (go_at_call 66; (with_reducible refine (hless_b _ _ ys yA yn ycc yo ts2 tA2 tn2 tcc2 tk2 (thenW (fat k) X) (fj j) true _ (FY.out _ (by assumption)) (FT.out _ (by assumption)) HYL.out HL2.out).mono ?_); rintro ee wl ⟨rfl, hbl⟩; have hbz : Below WY.heap.size WY wl := Below.via (by assumption) hbl))
                          obtain ⟨s1, t0, t1, t2, -⟩ := SO3.out wl hbz
                          have NF := Lib.hid (YC.out.rel.via hbz)
                          have fr := NF.out.hnx.frozen
                          have HF := Lib.hid (NF.out.put hj (FY.out wl hbz))
                          have HJ2 := Lib.hid (show rowJ (fat k) (symH cs st sx k) k fnx (j + 1 - k) = upd fj j (thenW (fat k) X) by rw [HJJ.out, goJ, if_neg (by rw [HH.out]; simp), if_pos HL2.out])
                          clear hb0 hbl hbz
                          go_wp2_with fail
                          exact ⟨⟨j + 1, by go_num, by omega, by omega, by rw [HJ2.out]; exact HF.out⟩, by simp [intOf]; omega⟩
                        | false =>
                          have HL2 := Lib.hid hl2
                          clear hl2
                          go_region_held3 (fun w' => (∀ i, w'.cell? ⟨bY, i, none⟩ = #[.int .i64 ys, .slice yA yn ycc, .bool yo][i]?) ∧ w'.cell? ⟨bn, j * 3, none⟩ = some (.int .i64 ts2) ∧ w'.cell? ⟨bn, j * 3 + 1, none⟩ = some (.slice tA2 tn2 tcc2) ∧ w'.cell? ⟨bn, j * 3 + 2, none⟩ = some (.bool tk2) ∧ Below WY.heap.size WY w') (exact SO3.out _ (by assumption)) (first
                            | (go_at_call 66; (with_reducible refine (hless_b _ _ ys yA yn ycc yo ts2 tA2 tn2 tcc2 tk2 (thenW (fat k) X) (fj j) false _ (FY.out _ (by assumption)) (FT.out _ (by assumption)) HYL.out HL2.out).mono ?_); rintro ee wl ⟨rfl, hbl⟩; have hbz : Below WY.heap.size WY wl := Below.via (by assumption) hbl))
                          have HF := Lib.hid (YC.out.rel.via hbz)
                          have HJ2 := Lib.hid (show rowJ (fat k) (symH cs st sx k) k fnx (j + 1 - k) = fj by rw [HJJ.out, goJ, if_neg (by rw [HH.out]; simp), if_neg (by rw [HL2.out]; simp)])
                          clear hb0 hbl hbz
                          go_wp2_with fail
                          exact ⟨⟨j + 1, by go_num, by omega, by omega, by rw [HJ2.out]; exact HF.out⟩, by simp [intOf]; omega⟩
                    · have HH := Lib.hid (show hopeW (fat k) X (fj j) = true by rw [HHP.out]; simp; omega)
                      have e2 : decide (as_ + xs_ ≤ ts) = false := by simpa using hle
                      clear a1 a2 t1 HHP Bx hle
                      go_quiet (fail)
                      have HF := Lib.hid (N3H.out.via (below_drewN (Below.refl W3.heap.size W3) nq))
                      have HJ2 := Lib.hid (show rowJ (fat k) (symH cs st sx k) k fnx (j + 1 - k) = fj by rw [HJJ.out, goJ, if_pos HH.out])
                      clear cX kS t2 e2 a0 t0
                      generalize W3.drewN nq = wn at *
                      go_wp2_with fail
                      exact ⟨⟨j + 1, by go_num, by omega, by omega, by rw [HJ2.out]; exact HF.out⟩, by simp [intOf]; omega⟩
              · have HNJ0 := Lib.hid hnj
                have HJN := Lib.hid (show j = v.n + 1 by omega)
                clear hnj
                go_wp2_with fail
                exact ⟨⟨k + 1, by go_num, by omega, by omega, by rw [HROW.out, ← HJN.out]; exact HNJ0.out⟩, by simp [intOf]; omega⟩
        · have HF := Lib.hid hnr.back
          have HKN := Lib.hid (show k = v.n + 1 by omega)
          clear hnr
          go_wp2_with fail
          exact ⟨⟨m + 1, bn, by go_num, by omega, rfl, by rw [HTK.out, ← HKN.out]; exact HF.out⟩, by simp [intOf]; omega⟩
    · have HF := Lib.hid hrr
      have HMN := Lib.hid (show m = rn by omega)
      clear hrr
      go_wp2_with fail
      go_ret
      refine ⟨b, rfl, by have := HF.out.l1; omega, ?_, HF.out.bel⟩
      have e := HF.out.row
      rw [HMN.out, List.take_of_length_le (by rw [HL.out]; exact Nat.le_refl _)] at e
      exact e
end Go.Proofs.Ytghnkgbingcbcaa
