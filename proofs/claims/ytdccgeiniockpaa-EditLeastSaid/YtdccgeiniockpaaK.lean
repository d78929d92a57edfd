/- parlkeep4.EditComposed: the walk. -/
import Derived.Test.YtdccgeiniockpaaJ
namespace Go.Proofs.Ytdccgeiniockpaa
open Go.RowKit

theorem max9 (ty : TypeId) (w : World) : (Builtin.max_ #[25, 25, 25, 25, 25, 25, 25, 25, 25] ty #[.int .i64 0, .int .i64 0, .int .i64 0, .int .i64 0, .int .i64 0, .int .i64 0, .int .i64 0, .int .i64 0, .int .i64 0]).run Try.prog w = .ok (.int .i64 0) w := by kernel_rfl

set_option maxRecDepth 100000 in
set_option maxHeartbeats 8000000 in
theorem composed_walk (A A1 A2 A3 : Option Addr) (n0 c m1 d1 m2 d2 m3 d3 : Nat) (ws la lb lc : List Int) (w : World) (Iw : Ints w A n0 c ws) (La : Ints w A1 m1 d1 la) (Lb : Ints w A2 m2 d2 lb) (Lc : Ints w A3 m3 d3 lc) :
    Calls Try.prog 5 #[.slice A n0 c, .slice A1 m1 d1, .slice A2 m2 d2, .slice A3 m3 d3] w fun e w' => e = .returned (.bool true) ∧ Below w.heap.size w w' := by
  have hB := Below.refl w.heap.size w
  go_enter Try.func5, Try.ntmps5
  go_wp2_with fail
  refine (compose_c _ _ _ 1 1 0 0 1 1 2 2 1 1 [1] [5] [6] _ (((Ints.one w 1 3).al (.cells #[.int .i64 5] 3)).al (.cells #[.int .i64 6] 3)) (by simpa using ((Ints.one (w.alloc (.cells #[.int .i64 1] 3)) 5 3).al (.cells #[.int .i64 6] 3))) (by simpa using (Ints.one ((w.alloc (.cells #[.int .i64 1] 3)).alloc (.cells #[.int .i64 5] 3)) 6 3)) (by omega) (by omega) (by omega) (by omega) (by omega) 0 1 3 (by decide) (by decide) (by decide)).mono ?_
  rintro e w1 ⟨B1, e1, rfl, -, hb⟩
  replace hB := ((((hB.al _).al _).al _).via hb).al (.cells #[.int .i64 0, .int .i64 1, .slice B1 (3 - 0) e1] 24)
  clear hb
  go_wp2_with fail
  refine (word_c 3 40 A n0 c ws _ (Iw.keep hB (Nat.le_refl _)) (by omega) (by omega) (by omega)).mono ?_
  rintro e w2 ⟨v, n, rfl, ho, hb⟩
  obtain ⟨A0, c0, rfl, I0⟩ := ho.form
  have hn : n ≤ 40 := by have := wordI_len 3 40 ws; rw [I0.len] at this; exact this
  replace hB := hB.via hb
  clear ho hb Iw
  generalize wordI 3 40 ws = xs at *
  go_wp2_with fail
  refine (edit_c _ 3 A1 m1 d1 la _ (La.keep hB (Nat.le_refl _)) (by omega) (by omega) (by omega) (by omega)).mono ?_
  rintro e w3 ⟨fa, ga, Aa, p, ca, az, rfl, ha1, ha2, ha3, hp, Ja, hb⟩
  replace hB := hB.via hb
  replace I0 := I0.via hb
  clear hb La
  have Ba := Blk.new w3 24 #[.int .i64 (fa : Int), .int .i64 (ga : Int), .slice Aa p ca]
  replace hB := hB.al (.cells #[.int .i64 (fa : Int), .int .i64 (ga : Int), .slice Aa p ca] 24)
  replace I0 := I0.al (.cells #[.int .i64 (fa : Int), .int .i64 (ga : Int), .slice Aa p ca] 24)
  replace Ja := Ja.al (.cells #[.int .i64 (fa : Int), .int .i64 (ga : Int), .slice Aa p ca] 24)
  go_wp2_with fail
  generalize hW : w3.alloc (.cells #[.int .i64 (fa : Int), .int .i64 (ga : Int), .slice Aa p ca] 24) = W3 at *
  clear hW
  generalize w3.heap.size = ba at *
  refine (apply_c A0 Aa n c0 p ca fa ga xs az _ I0 Ja ha1 (by omega) (by omega) (by omega)).mono ?_
  rintro e w4 ⟨A4, c4, rfl, I1, hb⟩
  replace hB := hB.via hb
  replace I0 := I0.via hb
  replace Ja := Ja.via hb
  replace Ba := Ba.via hb
  clear hb
  generalize n1e : fa + p + (n - ga) = n1 at *
  have n1e0 : n1 ≤ 43 := by omega
  have Hn1e := Lib.hid n1e
  clear n1e
  go_wp2_with fail
  refine (edit_c _ 3 A2 m2 d2 lb _ (Lb.keep hB (Nat.le_refl _)) (by omega) (by omega) (by omega) (by omega)).mono ?_
  rintro e w5 ⟨fb, gb, Ab, q, cb, bz, rfl, hb1, hb2, hb3, hq, Jb, hb⟩
  replace hb2 : gb ≤ n1 := by omega
  replace hB := hB.via hb
  replace I0 := I0.via hb
  replace Ja := Ja.via hb
  replace Ba := Ba.via hb
  replace I1 := I1.via hb
  clear hb Lb
  have Bb := Blk.new w5 24 #[.int .i64 (fb : Int), .int .i64 (gb : Int), .slice Ab q cb]
  replace hB := hB.al (.cells #[.int .i64 (fb : Int), .int .i64 (gb : Int), .slice Ab q cb] 24)
  replace I0 := I0.al (.cells #[.int .i64 (fb : Int), .int .i64 (gb : Int), .slice Ab q cb] 24)
  replace Ja := Ja.al (.cells #[.int .i64 (fb : Int), .int .i64 (gb : Int), .slice Ab q cb] 24)
  replace Ba := Ba.al (.cells #[.int .i64 (fb : Int), .int .i64 (gb : Int), .slice Ab q cb] 24)
  replace I1 := I1.al (.cells #[.int .i64 (fb : Int), .int .i64 (gb : Int), .slice Ab q cb] 24)
  replace Jb := Jb.al (.cells #[.int .i64 (fb : Int), .int .i64 (gb : Int), .slice Ab q cb] 24)
  go_wp2_with fail
  generalize hW : w5.alloc (.cells #[.int .i64 (fb : Int), .int .i64 (gb : Int), .slice Ab q cb] 24) = W5 at *
  clear hW
  generalize w5.heap.size = bb at *
  refine (apply_c A4 Ab n1 c4 q cb fb gb _ bz _ I1 Jb hb1 (by omega) (by omega) (by omega)).mono ?_
  rintro e w6 ⟨A6, c6, rfl, I2, hb⟩
  replace hB := hB.via hb
  replace I0 := I0.via hb
  replace Ja := Ja.via hb
  replace Ba := Ba.via hb
  replace I1 := I1.via hb
  replace Bb := Bb.via hb
  replace Jb := Jb.via hb
  clear hb
  generalize n2e : fb + q + (n1 - gb) = n2 at *
  have n2e0 : n2 ≤ 46 := by omega
  have Hn2e := Lib.hid n2e
  clear n2e
  go_wp2_with fail
  refine (edit_c _ 3 A3 m3 d3 lc _ (Lc.keep hB (Nat.le_refl _)) (by omega) (by omega) (by omega) (by omega)).mono ?_
  rintro e w7 ⟨fc, gc, Ac, r, cc, cz, rfl, hc1, hc2, hc3, hr, Jc, hb⟩
  replace hc2 : gc ≤ n2 := by omega
  replace hB := hB.via hb
  replace I0 := I0.via hb
  replace Ja := Ja.via hb
  replace Ba := Ba.via hb
  replace I1 := I1.via hb
  replace Bb := Bb.via hb
  replace Jb := Jb.via hb
  replace I2 := I2.via hb
  clear hb Lc
  have Bc := Blk.new w7 24 #[.int .i64 (fc : Int), .int .i64 (gc : Int), .slice Ac r cc]
  replace hB := hB.al (.cells #[.int .i64 (fc : Int), .int .i64 (gc : Int), .slice Ac r cc] 24)
  replace I0 := I0.al (.cells #[.int .i64 (fc : Int), .int .i64 (gc : Int), .slice Ac r cc] 24)
  replace Ja := Ja.al (.cells #[.int .i64 (fc : Int), .int .i64 (gc : Int), .slice Ac r cc] 24)
  replace Ba := Ba.al (.cells #[.int .i64 (fc : Int), .int .i64 (gc : Int), .slice Ac r cc] 24)
  replace I1 := I1.al (.cells #[.int .i64 (fc : Int), .int .i64 (gc : Int), .slice Ac r cc] 24)
  replace Bb := Bb.al (.cells #[.int .i64 (fc : Int), .int .i64 (gc : Int), .slice Ac r cc] 24)
  replace Jb := Jb.al (.cells #[.int .i64 (fc : Int), .int .i64 (gc : Int), .slice Ac r cc] 24)
  replace I2 := I2.al (.cells #[.int .i64 (fc : Int), .int .i64 (gc : Int), .slice Ac r cc] 24)
  replace Jc := Jc.al (.cells #[.int .i64 (fc : Int), .int .i64 (gc : Int), .slice Ac r cc] 24)
  go_wp2_with fail
  generalize hW : w7.alloc (.cells #[.int .i64 (fc : Int), .int .i64 (gc : Int), .slice Ac r cc] 24) = W7 at *
  clear hW
  generalize w7.heap.size = bc at *
  refine (apply_c A6 Ac n2 c6 r cc fc gc _ cz _ I2 Jc hc1 (by omega) (by omega) (by omega)).mono ?_
  rintro e w8 ⟨A8, c8, rfl, I3, hb⟩
  replace hB := hB.via hb
  replace I0 := I0.via hb
  replace Ja := Ja.via hb
  replace Ba := Ba.via hb
  replace I1 := I1.via hb
  replace Bb := Bb.via hb
  replace Jb := Jb.via hb
  replace I2 := I2.via hb
  replace Bc := Bc.via hb
  replace Jc := Jc.via hb
  clear hb
  generalize n3e : fc + r + (n2 - gc) = n3 at *
  have n3e0 : n3 ≤ 49 := by omega
  have Hn3e := Lib.hid n3e
  clear n3e
  have cBa := Ba.cell
  have fBa := Ba.frozen
  have lBa := Ba.lt
  have cBb := Bb.cell
  have fBb := Bb.frozen
  have lBb := Bb.lt
  go_wp2_with fail
  clear cBa fBa lBa cBb fBb lBb
  refine (compose_ok A0 Aa Ab n c0 fa ga p ca fb gb q cb n1 n2 xs az bz _ w8 I0 Ja Jb ha1 (by omega) hb1 Hn1e.out.symm hb2 Hn2e.out.symm (by omega) rfl).mono ?_
  rintro e w9 ⟨f1, t1, k1, A9, c9, z1, rfl, x11, x12, x13, hz1, J1, hb⟩
  replace hB := hB.via hb
  replace I0 := I0.via hb
  replace Ja := Ja.via hb
  replace Ba := Ba.via hb
  replace I1 := I1.via hb
  replace Bb := Bb.via hb
  replace Jb := Jb.via hb
  replace I2 := I2.via hb
  replace Bc := Bc.via hb
  replace Jc := Jc.via hb
  replace I3 := I3.via hb
  clear hb
  have B1 := Blk.new w9 24 #[.int .i64 (f1 : Int), .int .i64 (t1 : Int), .slice A9 k1 c9]
  replace hB := hB.al (.cells #[.int .i64 (f1 : Int), .int .i64 (t1 : Int), .slice A9 k1 c9] 24)
  replace I0 := I0.al (.cells #[.int .i64 (f1 : Int), .int .i64 (t1 : Int), .slice A9 k1 c9] 24)
  replace Ja := Ja.al (.cells #[.int .i64 (f1 : Int), .int .i64 (t1 : Int), .slice A9 k1 c9] 24)
  replace Ba := Ba.al (.cells #[.int .i64 (f1 : Int), .int .i64 (t1 : Int), .slice A9 k1 c9] 24)
  replace I1 := I1.al (.cells #[.int .i64 (f1 : Int), .int .i64 (t1 : Int), .slice A9 k1 c9] 24)
  replace Bb := Bb.al (.cells #[.int .i64 (f1 : Int), .int .i64 (t1 : Int), .slice A9 k1 c9] 24)
  replace Jb := Jb.al (.cells #[.int .i64 (f1 : Int), .int .i64 (t1 : Int), .slice A9 k1 c9] 24)
  replace I2 := I2.al (.cells #[.int .i64 (f1 : Int), .int .i64 (t1 : Int), .slice A9 k1 c9] 24)
  replace Bc := Bc.al (.cells #[.int .i64 (f1 : Int), .int .i64 (t1 : Int), .slice A9 k1 c9] 24)
  replace Jc := Jc.al (.cells #[.int .i64 (f1 : Int), .int .i64 (t1 : Int), .slice A9 k1 c9] 24)
  replace I3 := I3.al (.cells #[.int .i64 (f1 : Int), .int .i64 (t1 : Int), .slice A9 k1 c9] 24)
  replace J1 := J1.al (.cells #[.int .i64 (f1 : Int), .int .i64 (t1 : Int), .slice A9 k1 c9] 24)
  have cBb := Bb.cell
  have fBb := Bb.frozen
  have lBb := Bb.lt
  have cBc := Bc.cell
  have fBc := Bc.frozen
  have lBc := Bc.lt
  go_wp2_with fail
  clear cBb fBb lBb
  clear cBc fBc lBc
  generalize hW : w9.alloc (.cells #[.int .i64 (f1 : Int), .int .i64 (t1 : Int), .slice A9 k1 c9] 24) = W9 at *
  clear hW
  generalize w9.heap.size = b1 at *
  refine (compose_ok A4 Ab Ac n1 c4 fb gb q cb fc gc r cc n2 n3 _ bz cz _ W9 I1 Jb Jc hb1 hb2 hc1 Hn2e.out.symm hc2 Hn3e.out.symm (by omega) rfl).mono ?_
  rintro e w10 ⟨f2, t2, k2, A10, c10, z2, rfl, x21, x22, x23, hz2, J2, hb⟩
  replace hB := hB.via hb
  replace I0 := I0.via hb
  replace Ja := Ja.via hb
  replace Ba := Ba.via hb
  replace I1 := I1.via hb
  replace Bb := Bb.via hb
  replace Jb := Jb.via hb
  replace I2 := I2.via hb
  replace Bc := Bc.via hb
  replace Jc := Jc.via hb
  replace I3 := I3.via hb
  replace J1 := J1.via hb
  replace B1 := B1.via hb
  clear hb
  have B2 := Blk.new w10 24 #[.int .i64 (f2 : Int), .int .i64 (t2 : Int), .slice A10 k2 c10]
  replace hB := hB.al (.cells #[.int .i64 (f2 : Int), .int .i64 (t2 : Int), .slice A10 k2 c10] 24)
  replace I0 := I0.al (.cells #[.int .i64 (f2 : Int), .int .i64 (t2 : Int), .slice A10 k2 c10] 24)
  replace Ja := Ja.al (.cells #[.int .i64 (f2 : Int), .int .i64 (t2 : Int), .slice A10 k2 c10] 24)
  replace Ba := Ba.al (.cells #[.int .i64 (f2 : Int), .int .i64 (t2 : Int), .slice A10 k2 c10] 24)
  replace Bc := Bc.al (.cells #[.int .i64 (f2 : Int), .int .i64 (t2 : Int), .slice A10 k2 c10] 24)
  replace Jc := Jc.al (.cells #[.int .i64 (f2 : Int), .int .i64 (t2 : Int), .slice A10 k2 c10] 24)
  replace I3 := I3.al (.cells #[.int .i64 (f2 : Int), .int .i64 (t2 : Int), .slice A10 k2 c10] 24)
  replace J1 := J1.al (.cells #[.int .i64 (f2 : Int), .int .i64 (t2 : Int), .slice A10 k2 c10] 24)
  replace B1 := B1.al (.cells #[.int .i64 (f2 : Int), .int .i64 (t2 : Int), .slice A10 k2 c10] 24)
  replace J2 := J2.al (.cells #[.int .i64 (f2 : Int), .int .i64 (t2 : Int), .slice A10 k2 c10] 24)
  have cB1 := B1.cell
  have fB1 := B1.frozen
  have lB1 := B1.lt
  have cBc := Bc.cell
  have fBc := Bc.frozen
  have lBc := Bc.lt
  go_wp2_with fail
  clear cB1 fB1 lB1
  clear cBc fBc lBc
  generalize hW : w10.alloc (.cells #[.int .i64 (f2 : Int), .int .i64 (t2 : Int), .slice A10 k2 c10] 24) = W10 at *
  clear hW
  generalize w10.heap.size = b2 at *
  refine (compose_ok A0 A9 Ac n c0 f1 t1 k1 c9 fc gc r cc n2 n3 xs z1 cz _ W10 I0 J1 Jc x11 x12 hc1 x13.symm hc2 Hn3e.out.symm (by omega) rfl).mono ?_
  rintro e w11 ⟨f3, t3, k3, A11, c11, z3, rfl, x31, x32, x33, hz3, J3, hb⟩
  replace hB := hB.via hb
  replace I0 := I0.via hb
  replace Ja := Ja.via hb
  replace Ba := Ba.via hb
  replace I3 := I3.via hb
  replace J2 := J2.via hb
  replace B2 := B2.via hb
  clear hb I1 I2 Jb Bb J1 B1 Bc Jc
  have B3 := Blk.new w11 24 #[.int .i64 (f3 : Int), .int .i64 (t3 : Int), .slice A11 k3 c11]
  replace hB := hB.al (.cells #[.int .i64 (f3 : Int), .int .i64 (t3 : Int), .slice A11 k3 c11] 24)
  replace I0 := I0.al (.cells #[.int .i64 (f3 : Int), .int .i64 (t3 : Int), .slice A11 k3 c11] 24)
  replace Ja := Ja.al (.cells #[.int .i64 (f3 : Int), .int .i64 (t3 : Int), .slice A11 k3 c11] 24)
  replace Ba := Ba.al (.cells #[.int .i64 (f3 : Int), .int .i64 (t3 : Int), .slice A11 k3 c11] 24)
  replace I3 := I3.al (.cells #[.int .i64 (f3 : Int), .int .i64 (t3 : Int), .slice A11 k3 c11] 24)
  replace J2 := J2.al (.cells #[.int .i64 (f3 : Int), .int .i64 (t3 : Int), .slice A11 k3 c11] 24)
  replace B2 := B2.al (.cells #[.int .i64 (f3 : Int), .int .i64 (t3 : Int), .slice A11 k3 c11] 24)
  replace J3 := J3.al (.cells #[.int .i64 (f3 : Int), .int .i64 (t3 : Int), .slice A11 k3 c11] 24)
  have cBa := Ba.cell
  have fBa := Ba.frozen
  have lBa := Ba.lt
  have cB2 := B2.cell
  have fB2 := B2.frozen
  have lB2 := B2.lt
  go_wp2_with fail
  clear cBa fBa lBa
  clear cB2 fB2 lB2
  generalize hW : w11.alloc (.cells #[.int .i64 (f3 : Int), .int .i64 (t3 : Int), .slice A11 k3 c11] 24) = W11 at *
  clear hW
  generalize w11.heap.size = b3 at *
  refine (compose_ok A0 Aa A10 n c0 fa ga p ca f2 t2 k2 c10 n1 n3 xs az z2 _ W11 I0 Ja J2 ha1 (by omega) x21 Hn1e.out.symm x22 x23.symm (by omega) rfl).mono ?_
  rintro e w12 ⟨f4, t4, k4, A12, c12, z4, rfl, x41, x42, x43, hz4, J4, hb⟩
  replace hB := hB.via hb
  replace I0 := I0.via hb
  replace I3 := I3.via hb
  replace J3 := J3.via hb
  replace B3 := B3.via hb
  clear hb Ja Ba J2 B2
  have B4 := Blk.new w12 24 #[.int .i64 (f4 : Int), .int .i64 (t4 : Int), .slice A12 k4 c12]
  replace hB := hB.al (.cells #[.int .i64 (f4 : Int), .int .i64 (t4 : Int), .slice A12 k4 c12] 24)
  replace I0 := I0.al (.cells #[.int .i64 (f4 : Int), .int .i64 (t4 : Int), .slice A12 k4 c12] 24)
  replace I3 := I3.al (.cells #[.int .i64 (f4 : Int), .int .i64 (t4 : Int), .slice A12 k4 c12] 24)
  replace J3 := J3.al (.cells #[.int .i64 (f4 : Int), .int .i64 (t4 : Int), .slice A12 k4 c12] 24)
  replace B3 := B3.al (.cells #[.int .i64 (f4 : Int), .int .i64 (t4 : Int), .slice A12 k4 c12] 24)
  replace J4 := J4.al (.cells #[.int .i64 (f4 : Int), .int .i64 (t4 : Int), .slice A12 k4 c12] 24)
  have cB3 := B3.cell
  have fB3 := B3.frozen
  have lB3 := B3.lt
  go_wp2_with fail
  clear cB3 fB3 lB3
  generalize hW : w12.alloc (.cells #[.int .i64 (f4 : Int), .int .i64 (t4 : Int), .slice A12 k4 c12] 24) = W12 at *
  clear hW
  generalize w12.heap.size = b4 at *
  refine (apply_c A0 A11 n c0 k3 c11 f3 t3 xs z3 _ I0 J3 x31 x32 (by omega) (by omega)).mono ?_
  rintro e w13 ⟨A13, c13, rfl, U, hb⟩
  rw [hz3, hz1, x33] at U
  replace hB := hB.via hb
  replace I0 := I0.via hb
  replace I3 := I3.via hb
  replace J4 := J4.via hb
  replace B4 := B4.via hb
  clear hb B3 J3
  have cB4 := B4.cell
  have fB4 := B4.frozen
  have lB4 := B4.lt
  go_wp2_with fail
  clear cB4 fB4 lB4
  refine (apply_c A0 A12 n c0 k4 c12 f4 t4 xs z4 _ I0 J4 x41 x42 (by omega) (by omega)).mono ?_
  rintro e w14 ⟨A14, c14, rfl, V, hb⟩
  rw [hz4, hz2, x43] at V
  replace hB := hB.via hb
  replace I3 := I3.via hb
  replace U := U.via hb
  clear hb B4 J4 I0
  have hmax := fun ty wx => max9 ty wx
  go_wp2_with fail
  refine (equal_yes A13 A8 n3 c13 n3 c8 _ _ _ U I3 (by omega) rfl).mono ?_
  rintro e w15 ⟨rfl, hb⟩
  replace hB := hB.via hb
  replace V := V.via hb
  replace I3 := I3.via hb
  clear hb U
  go_wp2_with fail
  refine (equal_yes A14 A8 n3 c14 n3 c8 _ _ _ V I3 (by omega) rfl).mono ?_
  rintro e w16 ⟨rfl, hb⟩
  replace hB := hB.via hb
  clear hb V I3
  go_wp2_with fail
  go_ret
  exact ⟨rfl, hB⟩
end Go.Proofs.Ytdccgeiniockpaa
