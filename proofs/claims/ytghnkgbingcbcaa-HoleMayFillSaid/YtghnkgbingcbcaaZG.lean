/- slices.Contains at []int; repair.corrector.one. -/
import Derived.Test.YtghnkgbingcbcaaZF
namespace Go.Proofs.Ytghnkgbingcbcaa
open Go.RowKit

def IdxP (w : World) (xs : List Int) (v : Int) (e : Ending) (w' : World) : Prop := ∃ r : Int, e = .returned (.int .i64 r) ∧ (0 ≤ r ↔ v ∈ xs) ∧ w' = w
set_option maxRecDepth 100000 in
set_option maxHeartbeats 1000000 in
theorem index_c (A : Option Addr) (n c : Nat) (xs : List Int) (v : Int) (w : World) (h : Ints w A n c xs) (hn : n ≤ 1000000) :
    Calls Try.prog 89 #[.slice A n c, .int .i64 v] w (IdxP w xs v) := by
  have H := Lib.hid h
  clear h
  go_enter Try.func89, Try.ntmps89
  go_wp2_with fail
  go_loopw [8] (fun i wr => ∃ k : Nat, i = .int .i64 k ∧ k ≤ n ∧ Hid (∀ j, j < k → xs.getD j 0 ≠ v) ∧ wr = w) (fun i _ => n - (intOf i).toNat)
  case atStart => exact ⟨0, rfl, Nat.zero_le _, Lib.hid (fun j h => by omega), rfl⟩
  case round =>
    obtain ⟨k, rfl, hk, HN, rfl⟩ := hrel
    by_cases hkn : k < n
    · obtain ⟨b1, o1, rfl, hb1, hx⟩ := H.out.at_ hkn
      have i0 : (0 : Int) ≤ (k : Int) := by omega
      have i1 : (k : Int) < (n : Int) := by omega
      obtain ⟨x, hxx⟩ : ∃ x, x = xs.getD k 0 := ⟨_, rfl⟩
      rw [← hxx] at hx
      have HX := Lib.hid hxx
      clear hxx
      by_cases e : v = x
      · have he : (v == x) = true := by simpa using e
        have HE := Lib.hid e
        clear e
        go_wp2_with fail
        go_ret
        refine ⟨k, rfl, ⟨fun _ => ?_, fun _ => by omega⟩, rfl⟩
        have hl := H.out.len
        rw [HE.out, HX.out, List.getD_eq_getElem?_getD, List.getElem?_eq_getElem (by omega)]
        exact List.getElem_mem _
      · have he : (v == x) = false := by simpa using e
        have HE := Lib.hid e
        clear e
        go_wp2_with fail
        refine ⟨⟨k + 1, by go_num, by omega, Lib.hid fun j hj => ?_, by trivial⟩, by simp [intOf]; omega⟩
        by_cases e2 : j = k
        · rw [e2, ← HX.out]; exact fun h => HE.out h.symm
        · exact HN.out j (by omega)
    · go_wp2_with fail
      go_ret
      refine ⟨-1, rfl, ⟨fun h => by omega, fun h => ?_⟩, rfl⟩
      exfalso
      obtain ⟨j, hj, e⟩ := List.getElem_of_mem h
      have hl := H.out.len
      refine HN.out j (by omega) ?_
      rw [List.getD_eq_getElem?_getD, List.getElem?_eq_getElem hj, e]; rfl
set_option maxRecDepth 100000 in
set_option maxHeartbeats 1000000 in
theorem contains_i (A : Option Addr) (n c : Nat) (xs : List Int) (v : Int) (w : World) (h : Ints w A n c xs) (hn : n ≤ 1000000) :
    Calls Try.prog 85 #[.slice A n c, .int .i64 v] w fun e w' => e = .returned (.bool (decide (v ∈ xs))) ∧ w' = w := by
  have H := Lib.hid h
  clear h
  go_enter Try.func85, Try.ntmps85
  go_wp2_with fail
  refine (index_c A n c xs v w H.out hn).mono ?_
  rintro e w' ⟨r, rfl, hr, rfl⟩
  have HR := Lib.hid hr
  clear hr
  go_wp2_with fail
  go_ret
  refine ⟨?_, rfl⟩
  rw [show decide (v ∈ xs) = decide (0 ≤ r) from decide_eq_decide.2 HR.out.symm]
  rfl

/-- the struct corrector -/
structure CorV where
  gt : Nat
  gn : Nat
  gs : Nat
  gA : Option Addr
  gl : Nat
  gc : Nat
  A : Option Addr
  n : Nat
  c : Nat
  c0 : Int
  c1 : Int
  c2 : Int
  bA : Option Addr
  bn : Nat
  bc : Nat
def CorV.cells (v : CorV) : Array Value := #[.int .i64 (v.gt : Int), .int .i64 (v.gn : Int), .int .i64 (v.gs : Int), .slice v.gA v.gl v.gc, .slice v.A v.n v.c, .int .i64 v.c0, .int .i64 v.c1, .int .i64 v.c2, .slice v.bA v.bn v.bc]
structure OneCut (W : World) (bc br : Nat) (cs : Array Value) (t x : Int) (b : Nat) (bt : Nat) (wx : World) : Prop where
  hbb : Blk wx b 78 #[.int .i64 x, .int .i64 1, .slice (some ⟨bt, 0, none⟩) 1 1, .bool true]
  hbt : Blk wx bt 3 #[.int .i64 t]
  hbc : Blk wx bc 71 cs
  hbr : Blk wx br 78 #[.int .i64 0, .int .i64 0, .slice none 0 0, .bool false]
  ne : b ≠ bt
  hlb : W.heap.size ≤ b
  hlt : W.heap.size ≤ bt
  bel : Below W.heap.size W wx
theorem OneCut.way1 {W : World} {bc br : Nat} {cs : Array Value} {t x : Int} (h1 : Blk W bc 71 cs) (h2 : Blk W br 78 #[.int .i64 0, .int .i64 0, .slice none 0 0, .bool false]) :
    OneCut W bc br cs t x (W.heap.size + 1) W.heap.size ((W.alloc (.cells #[.int .i64 t] 3)).alloc (.cells #[.int .i64 x, .int .i64 1, .slice (some ⟨W.heap.size, 0, none⟩) 1 1, .bool true] 78)).drew := by
  have e := Blk.new (W.alloc (.cells #[.int .i64 t] 3)) 78 #[.int .i64 x, .int .i64 1, .slice (some ⟨W.heap.size, 0, none⟩) 1 1, .bool true]
  rw [World.size_alloc] at e
  exact ⟨e.dr, ((Blk.new W _ _).al _).dr, ((h1.al _).al _).dr, ((h2.al _).al _).dr, by omega, by omega, by omega, (((Below.refl _ _).al _).al _).drew⟩
theorem OneCut.way2 {W : World} {bc br : Nat} {cs : Array Value} {t x : Int} (h1 : Blk W bc 71 cs) (h2 : Blk W br 78 #[.int .i64 0, .int .i64 0, .slice none 0 0, .bool false]) :
    OneCut W bc br cs t x W.heap.size (W.heap.size + 1) ((W.alloc (.cells #[.int .i64 x, .int .i64 1, .slice (some ⟨W.heap.size + 1, 0, none⟩) 1 1, .bool true] 78)).alloc (.cells #[.int .i64 t] 3)).drew := by
  have e := Blk.new (W.alloc (.cells #[.int .i64 x, .int .i64 1, .slice (some ⟨W.heap.size + 1, 0, none⟩) 1 1, .bool true] 78)) 3 #[.int .i64 t]
  rw [World.size_alloc] at e
  exact ⟨((Blk.new W _ _).al _).dr, e.dr, ((h1.al _).al _).dr, ((h2.al _).al _).dr, by omega, by omega, by omega, (((Below.refl _ _).al _).al _).drew⟩
theorem OneCut.put {W : World} {bc br : Nat} {cs : Array Value} {t x : Int} {b bt : Nat} {wx : World} (h : OneCut W bc br cs t x b bt wx) (h1 : bc < W.heap.size) (h2 : br < W.heap.size) (y : Int) : OneCut W bc br cs t y b bt (wx.setCell ⟨b, 0, none⟩ (.int .i64 y)).drew := by
  have := h.hlb; have := h.hlt
  have e := h.hbb.set_ 0 (.int .i64 y)
  exact ⟨by simpa using e.dr, (h.hbt.far (Ne.symm h.ne) _).dr, (h.hbc.far (by show bc ≠ b; omega) _).dr, (h.hbr.far (by show br ≠ b; omega) _).dr, h.ne, h.hlb, h.hlt, (h.bel.setCell h.hlb _).drew⟩
theorem OneCut.fin {w0 W : World} {bc : Nat} {cs : Array Value} {t : Nat} {x : Int} {b bt : Nat} {wx : World} (h : OneCut W bc w0.heap.size cs t x b bt wx) (hW : w0.heap.size + 1 ≤ W.heap.size) (hb : Below w0.heap.size w0 W) :
    WayP w0 ⟨x, 1, [(t : Int)], true⟩ (.returned (wyVal (x, 1, (some ⟨bt, 0, none⟩, 1, 1), true))) (World.set4 wx w0.heap.size (x, 1, (some ⟨bt, 0, none⟩, 1, 1), true)) := by
  have hlt := h.hlt
  refine ⟨_, rfl, ⟨rfl, rfl, rfl, ?_⟩, below_set4 (hb.trans (h.bel.mono (by omega))) (Nat.le_refl _)⟩
  have hI : Ints wx (some ⟨bt, 0, none⟩) 1 1 [(t : Int)] := ⟨rfl, Nat.le_refl _, fun _ => ⟨bt, 0, rfl, fun i hi => by
    match i, hi with
    | 0, _ => exact (h.hbt.cell 0).trans rfl⟩⟩
  exact ((hI.sl (ok := fun b => W.heap.size ≤ b) fun b off e _ => by cases e; exact hlt).agr (agr_set4 fun b hb => by omega)).mono fun b _ hb => by omega

set_option maxRecDepth 100000 in
set_option maxHeartbeats 4000000 in
theorem one_c (bc : Nat) (v : CorV) (xs : List Int) (t i j : Nat) (w : World) (hb : Blk w bc 71 v.cells) (hx : Ints w v.A v.n v.c xs) (h0 : 1 ≤ v.c0 ∧ v.c0 ≤ 100) (h1 : 1 ≤ v.c1 ∧ v.c1 ≤ 100) (h2 : 1 ≤ v.c2 ∧ v.c2 ≤ 100)
    (hn : v.n ≤ 12) (hi : i ≤ j) (hj : j ≤ v.n) :
    Calls Try.prog 74 #[.pointer (some ⟨bc, 0, none⟩), .int .i64 (t : Int), .int .i64 (i : Int), .int .i64 (j : Int)] w (WayP w ⟨oneC v.c0 v.c1 v.c2 (t : Int) (part xs i j), 1, [(t : Int)], true⟩) := by
  obtain ⟨gt, gn, gs, gA, gl, gc, A, n, c, c0, c1, c2, bA, bn, bcc⟩ := v
  simp only [CorV.cells] at hb hx h0 h1 h2 hn hj ⊢
  have hlt := hb.lt
  obtain ⟨o, rfl⟩ : ∃ o, j = i + o := ⟨j - i, by omega⟩
  rw [Int.natCast_add]
  have B0 := hb.al (.cells #[.int .i64 0, .int .i64 0, .slice none 0 0, .bool false] 78)
  have q2 : (o : Int) * c1 ≤ 12 * 100 := Int.mul_le_mul (by omega) h1.2 (by omega) (by omega)
  have q3 : 0 ≤ (o : Int) * c1 := Int.mul_nonneg (by omega) (by omega)
  obtain ⟨z, hz⟩ : ∃ z : Int, z = (o : Int) * c1 := ⟨_, rfl⟩
  rw [← hz] at q2 q3
  have k0 : (i : Int) + (o : Int) - (i : Int) = (o : Int) := by omega
  have k1 : IntKind.i64.wrap ((i : Int) + (o : Int) - (i : Int)) = (o : Int) := by rw [k0]; exact IntWalk.i64_in _ (by omega)
  have k2 : IntKind.i64.wrap ((o : Int) * c1) = z := by rw [← hz]; exact IntWalk.i64_in _ (by omega)
  have k3 : IntKind.i64.wrap (c0 + z) = c0 + z := IntWalk.i64_in _ (by omega)
  have HX := Lib.hid hx
  have HZ := Lib.hid hz
  have HB := Lib.hid hb
  have HB0 := Lib.hid B0
  clear hx hz hb B0
  go_enter Try.func74, Try.ntmps74
  go_upto_region 2 with fail
  have HBR := Lib.hid (Blk.new w 78 #[.int .i64 0, .int .i64 0, .slice none 0 0, .bool false])
  have HBW := Lib.hid ((Below.refl w.heap.size w).al (.cells #[.int .i64 0, .int .i64 0, .slice none 0 0, .bool false] 78))
  have HXW := Lib.hid (HX.out.alloc (.cells #[.int .i64 0, .int .i64 0, .slice none 0 0, .bool false] 78))
  have hWs : w.heap.size + 1 ≤ (w.alloc (.cells #[.int .i64 0, .int .i64 0, .slice none 0 0, .bool false] 78)).heap.size := by simp
  generalize w.alloc (.cells #[.int .i64 0, .int .i64 0, .slice none 0 0, .bool false] 78) = W at *
  have SOF := Lib.hid (show ∀ w', Below W.heap.size W w' → ((∀ i, w'.cell? ⟨bc, i, none⟩ = #[.int .i64 (gt : Int), .int .i64 (gn : Int), .int .i64 (gs : Int), .slice gA gl gc, .slice A n c, .int .i64 c0, .int .i64 c1, .int .i64 c2, .slice bA bn bcc][i]?) ∧ Below W.heap.size W w') from fun w' hb => ⟨(HB0.out.via hb).cell, hb⟩)
  go_cut [10] (fun s10 wx => ∃ b bt, s10 = .pointer (some ⟨b, 0, none⟩) ∧ OneCut W bc w.heap.size #[.int .i64 (gt : Int), .int .i64 (gn : Int), .int .i64 (gs : Int), .slice gA gl gc, .slice A n c, .int .i64 c0, .int .i64 c1, .int .i64 c2, .slice bA bn bcc] t (c0 + z) b bt wx)
  case first =>
    have hb0 := (Below.refl W.heap.size W).drew
    go_region_held3 (fun w' => (∀ i, w'.cell? ⟨bc, i, none⟩ = #[.int .i64 (gt : Int), .int .i64 (gn : Int), .int .i64 (gs : Int), .slice gA gl gc, .slice A n c, .int .i64 c0, .int .i64 c1, .int .i64 c2, .slice bA bn bcc][i]?) ∧ Below W.heap.size W w') (exact SOF.out _ (by first | assumption | exact ((Below.refl W.heap.size W).al _).drew | exact (((Below.refl W.heap.size W).al _).al _).drew)) (fail)
    · go_wp2_with fail
      go_meet
      exact ⟨_, _, rfl, OneCut.way1 HB0.out HBR.out⟩
    · go_wp2_with fail
      go_meet
      exact ⟨_, _, rfl, OneCut.way2 HB0.out HBR.out⟩
  case rest =>
    obtain ⟨b, bt, rfl, hcut⟩ := hcut
    clear k2 k3 SOF HB HB0 HBR
    have i0 : (0 : Int) ≤ (i : Int) := by omega
    have i1 : (i : Int) ≤ (i : Int) + (o : Int) := by omega
    have i2 : (i : Int) + (o : Int) ≤ (c : Int) := by have := HXW.out.le; omega
    have key : ∀ (x y : Int) (b bt : Nat) (wx : World), OneCut W bc w.heap.size #[.int .i64 (gt : Int), .int .i64 (gn : Int), .int .i64 (gs : Int), .slice gA gl gc, .slice A n c, .int .i64 c0, .int .i64 c1, .int .i64 c2, .slice bA bn bcc] t x b bt wx → x = y → WayP w ⟨y, 1, [(t : Int)], true⟩ (.returned (wyVal (x, 1, (some ⟨bt, 0, none⟩, 1, 1), true))) (World.set4 wx w.heap.size (x, 1, (some ⟨bt, 0, none⟩, 1, 1), true)) := fun x y b bt wx h e => by subst e; exact h.fin hWs HBW.out
    have KEY := Lib.hid key
    have hlW : bc < W.heap.size := by omega
    have hbW : w.heap.size < W.heap.size := by omega
    clear key
    rcases Nat.lt_or_ge 0 o with hij | hij
    · have g1 : decide ((0 : Int) < (o : Int)) = true := by simp; omega
      have k4 : IntKind.i64.wrap ((o : Int) - 1) = (o : Int) - 1 := IntWalk.i64_in _ (by omega)
      have e5 : ((o : Int) - 1) * c1 = z - c1 := by rw [HZ.out, Int.sub_mul]; omega
      have k5 : IntKind.i64.wrap (((o : Int) - 1) * c1) = z - c1 := by rw [e5]; exact IntWalk.i64_in _ (by omega)
      have k6 : IntKind.i64.wrap (c2 + (z - c1)) = c2 + (z - c1) := IntWalk.i64_in _ (by omega)
      have E5 := Lib.hid e5
      clear e5
      have HCUT := Lib.hid hcut
      have Bc := hcut.hbc
      have Bb := hcut.hbb
      clear hcut
      have cBc := Bc.cell
      have fBc := Bc.frozen
      have lBc := Bc.lt
      have cBb := Bb.cell
      have fBb := Bb.frozen
      have lBb := Bb.lt
      go_upto_region 4 with fail
      go_region
      have hcut := HCUT.out.put hlW hbW (mn (c0 + z) (c2 + (z - c1)))
      unfold mn at hcut
      obtain ⟨y, hy⟩ : ∃ y, y = if c2 + (z - c1) < c0 + z then c2 + (z - c1) else c0 + z := ⟨_, rfl⟩
      rw [← hy] at hcut ⊢
      have HY := Lib.hid (show mn (c0 + z) (c2 + (z - c1)) = y from hy.symm)
      generalize (wc.setCell ⟨b, 0, none⟩ (.int .i64 y)).drew = W2 at *
      clear cBc fBc lBc cBb fBb lBb
      have HCUT := Lib.hid hcut
      have Bc := hcut.hbc
      have Bb := hcut.hbb
      obtain ⟨A', hA', hI'⟩ := (HXW.out.keep hcut.bel (Nat.le_refl _)).mid (l := i) (m := i + o) (by omega) (by omega)
      rw [Nat.add_sub_cancel_left] at hI'
      rw [if_neg (show ¬ c = i by omega)] at hA'
      subst hA'
      have HI' := Lib.hid (show Ints W2 _ o (c - i) (part xs i (i + o)) from hI')
      clear hcut hy hI' k6
      have cBc := Bc.cell
      have fBc := Bc.frozen
      have lBc := Bc.lt
      have cBb := Bb.cell
      have fBb := Bb.frozen
      have lBb := Bb.lt
      go_wp2_with fail
      have hne : part xs i (i + o) ≠ [] := fun e => by have := HI'.out.len; rw [e] at this; simp at this; omega
      have hlen : ((part xs i (i + o)).length : Int) = (o : Int) := by rw [HI'.out.len]
      have HNE := Lib.hid hne
      have HLEN := Lib.hid hlen
      clear hne hlen
      by_cases hm : (t : Int) ∈ part xs i (i + o)
      · refine (contains_i _ o (c - i) (part xs i (i + o)) t W2 HI'.out (by omega)).mono ?_
        rintro e w' ⟨rfl, rfl⟩
        rw [show decide ((t : Int) ∈ part xs i (i + o)) = true by simpa using hm]
        have HM := Lib.hid hm
        clear hm
        go_upto_region 6 with fail
        go_region
        have hcut := HCUT.out.put hlW hbW (mn y (z - c1))
        unfold mn at hcut
        obtain ⟨y2, hy2⟩ : ∃ y2, y2 = if z - c1 < y then z - c1 else y := ⟨_, rfl⟩
        rw [← hy2] at hcut ⊢
        have HY2 := Lib.hid (show mn y (z - c1) = y2 from hy2.symm)
        generalize (w'.setCell ⟨b, 0, none⟩ (.int .i64 y2)).drew = W3 at *
        clear cBc fBc lBc cBb fBb lBb
        have HCUT := Lib.hid hcut
        have Br := hcut.hbr
        have Bb := hcut.hbb
        clear hcut hy2 k4 k5
        have cBr := Br.cell
        have fBr := Br.frozen
        have lBr := Br.lt
        have cBb := Bb.cell
        have fBb := Bb.frozen
        have lBb := Bb.lt
        go_wp2_with fail
        refine bodyPost_ret (v := .agg #[.int .i64 y2, .int .i64 1, .slice (some ⟨bt, 0, none⟩) 1 1, .bool true]) (by simp [results, Try.results74, go_sem, cBr]) rfl (KEY.out y2 _ b bt W3 HCUT.out ?_)
        rw [← HY2.out, ← HY.out, oneC, if_pos HM.out, HLEN.out, E5.out, HZ.out]
      · refine (contains_i _ o (c - i) (part xs i (i + o)) t W2 HI'.out (by omega)).mono ?_
        rintro e w' ⟨rfl, rfl⟩
        rw [show decide ((t : Int) ∈ part xs i (i + o)) = false by simpa using hm]
        have HM := Lib.hid hm
        clear hm
        have Br := HCUT.out.hbr
        clear k4 k5
        have cBr := Br.cell
        have fBr := Br.frozen
        have lBr := Br.lt
        go_wp2_with fail
        refine bodyPost_ret (v := .agg #[.int .i64 y, .int .i64 1, .slice (some ⟨bt, 0, none⟩) 1 1, .bool true]) (by simp [results, Try.results74, go_sem, cBr]) rfl (KEY.out y _ b bt w' HCUT.out ?_)
        rw [← HY.out, oneC, if_neg HM.out, if_neg HNE.out, HLEN.out, E5.out, HZ.out]
    · obtain rfl : o = 0 := by omega
      have HCUT := Lib.hid hcut
      have Bc := hcut.hbc
      have Bb := hcut.hbb
      have Br := hcut.hbr
      obtain ⟨A', hA', hI'⟩ := (HXW.out.keep hcut.bel (Nat.le_refl _)).mid (l := i) (m := i + 0) (by omega) (by omega)
      rw [Nat.add_sub_cancel_left] at hI'
      have HI' := Lib.hid (show Ints wc A' 0 (c - i) (part xs i (i + 0)) from hI')
      clear hcut hI'
      have cBc := Bc.cell
      have fBc := Bc.frozen
      have lBc := Bc.lt
      have cBb := Bb.cell
      have fBb := Bb.frozen
      have lBb := Bb.lt
      have cBr := Br.cell
      have fBr := Br.frozen
      have lBr := Br.lt
      go_wp2_with fail
      refine (contains_i _ 0 (c - i) (part xs i (i + 0)) t wc HI'.out (by omega)).mono ?_
      rintro e w' ⟨rfl, rfl⟩
      have hnil : part xs i (i + 0) = [] := part_same xs i
      have HNIL := Lib.hid hnil
      rw [show decide ((t : Int) ∈ part xs i (i + 0)) = false by rw [hnil]; simp]
      clear hnil hA'
      go_wp2_with fail
      refine bodyPost_ret (v := .agg #[.int .i64 (c0 + z), .int .i64 1, .slice (some ⟨bt, 0, none⟩) 1 1, .bool true]) (by simp [results, Try.results74, go_sem, cBr]) rfl (KEY.out (c0 + z) _ b bt w' HCUT.out ?_)
      rw [HNIL.out, HZ.out]
      simp [oneC]
end Go.Proofs.Ytghnkgbingcbcaa
