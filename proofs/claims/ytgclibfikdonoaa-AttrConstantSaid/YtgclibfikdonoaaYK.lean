/- attr.Refs of an expression without occurrences: it finds none. -/
import Derived.Test.YtgclibfikdonoaaYJ
import Derived.Laws.EntriesVeiled
namespace Go.Proofs.Ytgclibfikdonoaa
open Go.RowKit

/-! ### Refs -/
def RefI (fid bo bw : Nat) (w : World) : Prop := Blk w bo 43 #[.slice none 0 0] ∧ Blk w bw 58 #[.func (.func fid) #[] #[.pointer (some ⟨bo, 0, none⟩), .pointer (some ⟨bw, 0, none⟩)]]
theorem RefI.via {fid bo bw : Nat} {w w' : World} (h : RefI fid bo bw w) (hb : Below w.heap.size w w') : RefI fid bo bw w' := ⟨h.1.via hb, h.2.via hb⟩
theorem enters_refs : ∀ (args : Array Value) (w : World), (callFunc 16 args).run Try.prog w = .ok (.enter 16 args) w :=
  enters_k (c := _) (fn := Try.f16) rfl (by kernel_rfl) rfl
set_option maxRecDepth 100000 in
set_option maxHeartbeats 200000 in
theorem refs1_n (fid : Nat) (hfid : Hid (fid = 16)) (he : ∀ (args : Array Value) (w : World), (callFunc fid args).run Try.prog w = .ok (.enter fid args) w) (bo bw : Nat) (N : Nat) : ∀ (ok : Nat → Prop) (v : ExV) (t : Ex) (w : World), ExR ok w v t → Ex.NoV t → t.size ≤ N → RefI fid bo bw w →
    Calls Try.prog fid #[exVal v, .pointer (some ⟨bo, 0, none⟩), .pointer (some ⟨bw, 0, none⟩)] w fun e w' => (∃ v, e = .returned v) ∧ Below w.heap.size w w' := by
  induction N with
  | zero => intro ok v t w _ _ h; have := t.size_pos; omega
  | succ N ih =>
    intro ok v t w hT hV hN hi
    replace ih := Lib.hid ih
    obtain ⟨K, m0, X, Y, A, n, cc⟩ := v
    cases hV with
    | mk K' m' X' Y' args hK hl3 hk =>
    obtain ⟨h1, h2, h3, h4, h5⟩ := hT.parts
    simp only [Ex.kind, Ex.n, Ex.at_, Ex.attr, Ex.args] at h1 h2 h3 h4 h5
    subst h1 h2 h3 h4
    have hlen := h5.len
    have HS := Lib.hid h5
    have HI := Lib.hid hi
    have HK := Lib.hid hk
    have hK1 : ((K : Int) == 1) = false := by simp; omega
    simp only [exVal]
    have hn3 : n ≤ 3 := by omega
    clear hT h5 hi hk
    rw [hfid.out]
    go_enter Try.func16, Try.ntmps16
    go_wp2_with fail
    clear hK1
    go_loopw [17] (fun i wr => ∃ kk : Nat, i = .int .i64 kk ∧ kk ≤ n ∧ Below w.heap.size w wr) (fun i _ => n - (intOf i).toNat)
    case atStart => exact ⟨0, rfl, Nat.zero_le _, (Below.refl _ _).al _⟩
    case round =>
      obtain ⟨kk, rfl, hkk, hb⟩ := hrel
      by_cases hlt : kk < n
      · obtain ⟨b, off, x, y, rfl, -, hbb, hy, hxy, hc⟩ := (HS.out.via hb).at_ hlt
        have hxy' : ExR ok wr x y := hxy
        have c0 := hc 0 _ rfl
        have c1 := hc 1 _ rfl
        have c2 := hc 2 _ rfl
        have c3 := hc 3 _ rfl
        have c4 := hc 4 _ rfl
        obtain ⟨xa, xb, xc, xd, xA, xn, xcc⟩ := x
        simp only [ExE, Nat.add_zero] at c0 c1 c2 c3 c4
        have i0 : (0 : Int) ≤ (kk : Int) := by omega
        have i1 : (kk : Int) < (n : Int) := by omega
        have hym := List.mem_of_getElem? hy
        have hsy : y.size ≤ N := by have := Ex.size_mem hym; simp only [Ex.size] at hN; omega
        have hvy := HK.out y hym
        have HX := Lib.hid (hxy'.al (.cells #[.int .i64 (xa : Int), .int .i64 (xb : Int), .int .i64 (xc : Int), .int .i64 (xd : Int), .slice xA xn xcc] 28))
        have HI2 := Lib.hid ((HI.out.via hb).via ((Below.refl wr.heap.size wr).alloc (Nat.le_refl _) (.cells #[.int .i64 (xa : Int), .int .i64 (xb : Int), .int .i64 (xc : Int), .int .i64 (xd : Int), .slice xA xn xcc] 28)))
        have HB := Lib.hid (hb.al (.cells #[.int .i64 (xa : Int), .int .i64 (xb : Int), .int .i64 (xc : Int), .int .i64 (xd : Int), .slice xA xn xcc] 28))
        have Bk := Blk.new wr 28 #[.int .i64 (xa : Int), .int .i64 (xb : Int), .int .i64 (xc : Int), .int .i64 (xd : Int), .slice xA xn xcc]
        have Bw := HI2.out.2
        clear hc hy hxy hxy' hb
        go_upto_region 6 with fail
        clear c0 c1 c2 c3 c4
        generalize wr.alloc (.cells #[.int .i64 (xa : Int), .int .i64 (xb : Int), .int .i64 (xc : Int), .int .i64 (xd : Int), .slice xA xn xcc] 28) = W at *
        generalize wr.heap.size = bk at *
        have cBw := Bw.cell
        have fBw := Bw.frozen
        have lBw := Bw.lt
        have cBk := Bk.cell
        have fBk := Bk.frozen
        have lBk := Bk.lt
        iterate 9 go_step
        have h16 := ih.out ok (xa, xb, xc, xd, xA, xn, xcc) y _ HX.out hvy hsy HI2.out
        refine h16.mono ?_
        rintro e w' ⟨⟨u, rfl⟩, hb2⟩
        have hb3 := HB.out.trans (hb2.mono HB.out.size)
        have HB3 := Lib.hid hb3
        clear hb2 h16 hb3 cBw cBk fBw fBk HI HI2 HX HB HK Bk Bw hym
        go_wp2_with fail
        exact ⟨⟨kk + 1, by go_num, by omega, HB3.out⟩, by simp [intOf]; omega⟩
      · have HB := Lib.hid hb
        clear hb
        go_wp2_with fail
        exact bodyPost_end (v := .tuple #[]) (by simp [results, Try.results16]) rfl ⟨⟨_, rfl⟩, HB.out⟩

set_option maxRecDepth 100000 in
set_option maxHeartbeats 400000 in
theorem refs_c (ok : Nat → Prop) (v : ExV) (t : Ex) (w : World) (hT : ExR ok w v t) (hV : Ex.NoV t) :
    Calls Try.prog 11 #[exVal v] w fun e w' => e = .returned (.slice none 0 0) ∧ Below w.heap.size w w' := by
  obtain ⟨K, m0, X, Y, A, n, cc⟩ := v
  have B1 := (Blk.new (w.alloc (.cells #[.int .i64 (K : Int), .int .i64 (m0 : Int), .int .i64 (X : Int), .int .i64 (Y : Int), .slice A n cc] 28)) 43 #[.slice none 0 0]).al (.cells #[.func (.func 16) #[] #[.pointer (some ⟨w.heap.size + 1, 0, none⟩), .pointer (some ⟨w.heap.size + 1 + 1, 0, none⟩)]] 58)
  have B2 := Blk.new ((w.alloc (.cells #[.int .i64 (K : Int), .int .i64 (m0 : Int), .int .i64 (X : Int), .int .i64 (Y : Int), .slice A n cc] 28)).alloc (.cells #[.slice none 0 0] 43)) 58 #[.func (.func 16) #[] #[.pointer (some ⟨w.heap.size + 1, 0, none⟩), .pointer (some ⟨w.heap.size + 1 + 1, 0, none⟩)]]
  rw [World.size_alloc] at B1
  rw [World.size_alloc, World.size_alloc] at B2
  have hb := (((Below.refl w.heap.size w).al (.cells #[.int .i64 (K : Int), .int .i64 (m0 : Int), .int .i64 (X : Int), .int .i64 (Y : Int), .slice A n cc] 28)).al (.cells #[.slice none 0 0] 43)).al (.cells #[.func (.func 16) #[] #[.pointer (some ⟨w.heap.size + 1, 0, none⟩), .pointer (some ⟨w.heap.size + 1 + 1, 0, none⟩)]] 58)
  have hT3 := ((hT.al (.cells #[.int .i64 (K : Int), .int .i64 (m0 : Int), .int .i64 (X : Int), .int .i64 (Y : Int), .slice A n cc] 28)).al (.cells #[.slice none 0 0] 43)).al (.cells #[.func (.func 16) #[] #[.pointer (some ⟨w.heap.size + 1, 0, none⟩), .pointer (some ⟨w.heap.size + 1 + 1, 0, none⟩)]] 58)
  have HT := Lib.hid hT3
  have HB := Lib.hid hb
  have HB1 := Lib.hid B1
  have HI : Hid (RefI 16 (w.heap.size + 1) (w.heap.size + 1 + 1) _) := Lib.hid ⟨B1, B2⟩
  clear hT hT3 hb B1 B2
  simp only [exVal]
  go_enter Try.func11, Try.ntmps11
  repeat (first | go_skip | go_guarded | go_step | go_upon)
  generalize ((w.alloc (.cells #[.int .i64 (K : Int), .int .i64 (m0 : Int), .int .i64 (X : Int), .int .i64 (Y : Int), .slice A n cc] 28)).alloc (.cells #[.slice none 0 0] 43)).alloc (.cells #[.func (.func 16) #[] #[.pointer (some ⟨w.heap.size + 1, 0, none⟩), .pointer (some ⟨w.heap.size + 1 + 1, 0, none⟩)]] 58) = W at *
  refine (refs1_n 16 (Lib.hid rfl) enters_refs (w.heap.size + 1) (w.heap.size + 1 + 1) t.size ok (K, m0, X, Y, A, n, cc) t W HT.out hV (Nat.le_refl _) HI.out).mono ?_
  rintro e w' ⟨⟨u, rfl⟩, hb2⟩
  have hB := HB.out.trans (hb2.mono HB.out.size)
  have B1 := HB1.out.via hb2
  have H2 := Lib.hid hB
  clear hb2 hB HT HB HB1 HI
  have cB1 := B1.cell
  have fB1 := B1.frozen
  have lB1 := B1.lt
  go_wp2_with fail
  refine (sort_0 _ _ _).mono ?_
  rintro e w3 ⟨⟨x, rfl⟩, rfl⟩
  go_wp2_with fail
  refine (compact_0 _ _).mono ?_
  rintro e w3 ⟨rfl, rfl⟩
  go_wp2_with fail
  go_ret
  exact ⟨rfl, H2.out⟩
end Go.Proofs.Ytgclibfikdonoaa
