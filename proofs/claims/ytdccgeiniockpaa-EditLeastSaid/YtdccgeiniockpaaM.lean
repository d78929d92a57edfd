/- parlkeep4.EditDiamond: the walk. -/
import Derived.Test.YtdccgeiniockpaaL
namespace Go.Proofs.Ytdccgeiniockpaa
open Go.RowKit

theorem diamond_word (xs az bz : List Int) (n fa ga p fb gb : Nat) (hx : xs.length = n) (ha : az.length = p) (h1 : fa ≤ ga) (h2 : ga ≤ fb) (h3 : fb ≤ gb) (h4 : gb ≤ n) :
    applyI (applyI xs fa ga az) (fb - (ga - fa) + p) (gb - (ga - fa) + p) bz = applyI (applyI xs fb gb bz) fa ga az := by
  have e1 : (applyI xs fa ga az).drop (gb - (ga - fa) + p) = xs.drop gb := by
    have := applyI_drop xs az n fa ga p (gb - ga) hx ha h1 (by omega)
    rw [show fa + p + (gb - ga) = gb - (ga - fa) + p from by omega, show ga + (gb - ga) = gb from by omega] at this
    exact this
  have e2 : (applyI xs fa ga az).take (fb - (ga - fa) + p) = xs.take fa ++ az ++ (xs.take fb).drop ga := by
    unfold applyI
    rw [List.take_append, List.take_of_length_le (by simp [hx, ha]; omega)]
    congr 1
    rw [List.length_append, List.length_take, hx, ha, Nat.min_eq_left (by omega), List.drop_take]
    congr 1
    omega
  have e3 : (applyI xs fb gb bz).take fa = xs.take fa := by
    unfold applyI
    rw [List.append_assoc, List.take_append_of_le_length (by simp [hx]; omega), List.take_take, Nat.min_eq_left (by omega)]
  have e4 : (applyI xs fb gb bz).drop ga = (xs.take fb).drop ga ++ bz ++ xs.drop gb := by
    unfold applyI
    rw [List.append_assoc, List.drop_append_of_le_length (by simp [hx]; omega), List.append_assoc]
  conv => lhs; unfold applyI
  conv => rhs; unfold applyI
  have u : ∀ f g ns, (applyI xs f g ns) = xs.take f ++ ns ++ xs.drop g := fun _ _ _ => rfl
  rw [← u, ← u, e1, e2, e3, e4]
  simp only [List.append_assoc]

theorem before_excl (fa ga fb gb : Nat) (h1 : fa ≤ ga) (h3 : fb ≤ gb) (h : beforeB fa ga fb gb = true) : beforeB fb gb fa ga = false ∧ ga ≤ fb := by
  unfold beforeB at *
  simp at h ⊢
  omega

/-- what Over(n, a, b) gives -/
def OverC (fa ga p fb gb q : Nat) (bz : List Int) (F T k : Nat) (ns : List Int) (err : Int) : Prop :=
  (beforeB fa ga fb gb = true ∧ F = fb - (ga - fa) + p ∧ T = gb - (ga - fa) + p ∧ k = q ∧ ns = bz ∧ err = 0 ∧ ga ≤ fb) ∨
  (beforeB fa ga fb gb = false ∧ beforeB fb gb fa ga = true ∧ F = fb ∧ T = gb ∧ k = q ∧ ns = bz ∧ err = 0) ∨
  (beforeB fa ga fb gb = false ∧ beforeB fb gb fa ga = false ∧ F = 0 ∧ T = 0 ∧ k = 0 ∧ ns = [] ∧ err = 8)

theorem over_cases (n fa ga p fb gb q : Nat) (xs az bz : List Int) (hx : xs.length = n) (ha : az.length = p) (hb : bz.length = q) (h1 : fa ≤ ga) (h2 : ga ≤ n) (h3 : fb ≤ gb) (h4 : gb ≤ n) (hp : p ≤ 3) (hq : q ≤ 3) :
    ∃ f1 t1 k1 z1 f2 t2 k2 z2 err, OverC fa ga p fb gb q bz f1 t1 k1 z1 err ∧ OverC fb gb q fa ga p az f2 t2 k2 z2 err ∧
      ((err = 0 ∧ f1 ≤ t1 ∧ t1 ≤ fa + p + (n - ga) ∧ k1 ≤ 3 ∧ f2 ≤ t2 ∧ t2 ≤ fb + q + (n - gb) ∧ k2 ≤ 3 ∧ applyI (applyI xs fa ga az) f1 t1 z1 = applyI (applyI xs fb gb bz) f2 t2 z2 ∧ f1 + k1 + (fa + p + (n - ga) - t1) = f2 + k2 + (fb + q + (n - gb) - t2)) ∨ err = 8) := by
  rcases hc : beforeB fa ga fb gb with _ | _
  · rcases hd : beforeB fb gb fa ga with _ | _
    · exact ⟨0, 0, 0, [], 0, 0, 0, [], 8, Or.inr (Or.inr ⟨hc, hd, rfl, rfl, rfl, rfl, rfl⟩), Or.inr (Or.inr ⟨hd, hc, rfl, rfl, rfl, rfl, rfl⟩), Or.inr rfl⟩
    · obtain ⟨-, hle⟩ := before_excl fb gb fa ga h3 h1 hd
      exact ⟨fb, gb, q, bz, fa - (gb - fb) + q, ga - (gb - fb) + q, p, az, 0, Or.inr (Or.inl ⟨hc, hd, rfl, rfl, rfl, rfl, rfl⟩), Or.inl ⟨hd, rfl, rfl, rfl, rfl, rfl, hle⟩,
        Or.inl ⟨rfl, h3, by omega, hq, by omega, by omega, hp, (diamond_word xs bz az n fb gb q fa ga hx hb h3 hle h1 h2).symm, by omega⟩⟩
  · obtain ⟨hd, hle⟩ := before_excl fa ga fb gb h1 h3 hc
    exact ⟨fb - (ga - fa) + p, gb - (ga - fa) + p, q, bz, fa, ga, p, az, 0, Or.inl ⟨hc, rfl, rfl, rfl, rfl, rfl, hle⟩, Or.inr (Or.inl ⟨hd, hc, rfl, rfl, rfl, rfl, rfl⟩),
      Or.inl ⟨rfl, by omega, by omega, hq, h1, by omega, hp, diamond_word xs az bz n fa ga p fb gb hx ha h1 hle h3 h4, by omega⟩⟩

theorem max4 (ty : TypeId) (w : World) : (Builtin.max_ #[25, 25, 25, 25] ty #[.int .i64 0, .int .i64 0, .int .i64 0, .int .i64 0]).run Try.prog w = .ok (.int .i64 0) w := by kernel_rfl

set_option maxRecDepth 100000 in
set_option maxHeartbeats 8000000 in
theorem diamond_walk (A A1 A2 : Option Addr) (n0 c m1 d1 m2 d2 : Nat) (ws la lb : List Int) (w : World) (Iw : Ints w A n0 c ws) (La : Ints w A1 m1 d1 la) (Lb : Ints w A2 m2 d2 lb) :
    Calls Try.prog 6 #[.slice A n0 c, .slice A1 m1 d1, .slice A2 m2 d2] w fun e w' => e = .returned (.bool true) ∧ Below w.heap.size w w' := by
  have hB := Below.refl w.heap.size w
  go_enter Try.func6, Try.ntmps6
  go_wp2_with fail
  refine (over_c _ none 3 0 0 1 1 2 3 0 0 [5] [] _ (Ints.one w 5 3) (Ints.nil _) (by omega) (by omega) (by omega) (by omega) (by omega) 3 4 0 [] 0 (Or.inl ⟨by decide, rfl, rfl, rfl, rfl, rfl, by omega⟩)).mono ?_
  rintro e w1 ⟨B1, e1, rfl, -, hb⟩
  replace hB := ((hB.al _).via hb).al (.cells #[.int .i64 3, .int .i64 4, .slice B1 0 e1] 24)
  clear hb
  go_wp2_with fail
  refine (word_c 3 40 A n0 c ws _ (Iw.keep hB (Nat.le_refl _)) (by omega) (by omega) (by omega)).mono ?_
  rintro e w2 ⟨v, n, rfl, ho, hb⟩
  obtain ⟨A0, c0, rfl, I0⟩ := ho.form
  have hn : n ≤ 40 := by have := wordI_len 3 40 ws; rw [I0.len] at this; exact this
  replace hB := hB.via hb
  clear ho hb Iw
  generalize wordI 3 40 ws = xs at *
  go_wp2_with fail
  refine (edit_c _ 3 A1 m1 d1 la _ (La.keep hB (Nat.le_refl _)) (by omega) (by omega) (by omega) (by omega)).mono ?_
  rintro e w3 ⟨fa, ga, Aa, p, ca, az, rfl, ha1, ha2, ha3, hp, Ja, hb⟩
  replace ha2 : ga ≤ n := by omega
  replace hB := hB.via hb
  replace I0 := I0.via hb
  clear hb La
  go_wp2_with fail
  refine (edit_c _ 3 A2 m2 d2 lb _ (Lb.keep hB (Nat.le_refl _)) (by omega) (by omega) (by omega) (by omega)).mono ?_
  rintro e w4 ⟨fb, gb, Ab, q, cb, bz, rfl, hb1, hb2, hb3, hq, Jb, hb⟩
  replace hb2 : gb ≤ n := by omega
  replace hB := hB.via hb
  replace I0 := I0.via hb
  replace Ja := Ja.via hb
  clear hb Lb
  go_wp2_with fail
  have Ba := (Blk.new w4 24 #[.int .i64 (fa : Int), .int .i64 (ga : Int), .slice Aa p ca]).al (.cells #[.int .i64 (fb : Int), .int .i64 (gb : Int), .slice Ab q cb] 24)
  have Bb := Blk.new (w4.alloc (.cells #[.int .i64 (fa : Int), .int .i64 (ga : Int), .slice Aa p ca] 24)) 24 #[.int .i64 (fb : Int), .int .i64 (gb : Int), .slice Ab q cb]
  simp only [World.size_alloc] at Bb
  replace hB := (hB.al (.cells #[.int .i64 (fa : Int), .int .i64 (ga : Int), .slice Aa p ca] 24)).al (.cells #[.int .i64 (fb : Int), .int .i64 (gb : Int), .slice Ab q cb] 24)
  replace I0 := (I0.al (.cells #[.int .i64 (fa : Int), .int .i64 (ga : Int), .slice Aa p ca] 24)).al (.cells #[.int .i64 (fb : Int), .int .i64 (gb : Int), .slice Ab q cb] 24)
  replace Ja := (Ja.al (.cells #[.int .i64 (fa : Int), .int .i64 (ga : Int), .slice Aa p ca] 24)).al (.cells #[.int .i64 (fb : Int), .int .i64 (gb : Int), .slice Ab q cb] 24)
  replace Jb := (Jb.al (.cells #[.int .i64 (fa : Int), .int .i64 (ga : Int), .slice Aa p ca] 24)).al (.cells #[.int .i64 (fb : Int), .int .i64 (gb : Int), .slice Ab q cb] 24)
  generalize hW : (w4.alloc (.cells #[.int .i64 (fa : Int), .int .i64 (ga : Int), .slice Aa p ca] 24)).alloc (.cells #[.int .i64 (fb : Int), .int .i64 (gb : Int), .slice Ab q cb] 24) = W at *
  clear hW
  generalize w4.heap.size = ba at *
  obtain ⟨f1, t1, k1, z1, f2, t2, k2, z2, err, hX, hY, hcase⟩ := over_cases n fa ga p fb gb q xs az bz I0.len Ja.len Jb.len ha1 ha2 hb1 hb2 hp hq
  have HC := Lib.hid hcase
  have HY := Lib.hid hY
  clear hcase hY
  refine (over_c Aa Ab n fa ga p ca fb gb q cb az bz W Ja Jb ha1 ha2 hb1 hb2 (by omega) f1 t1 k1 z1 err hX).mono ?_
  rintro e w5 ⟨A5, c5, rfl, Jx, hb⟩
  replace hB := hB.via hb
  replace I0 := I0.via hb
  replace Ja := Ja.via hb
  replace Jb := Jb.via hb
  replace Ba := Ba.via hb
  replace Bb := Bb.via hb
  clear hb hX
  have Bx := Blk.new w5 24 #[.int .i64 (f1 : Int), .int .i64 (t1 : Int), .slice A5 k1 c5]
  replace hB := hB.al (.cells #[.int .i64 (f1 : Int), .int .i64 (t1 : Int), .slice A5 k1 c5] 24)
  replace I0 := I0.al (.cells #[.int .i64 (f1 : Int), .int .i64 (t1 : Int), .slice A5 k1 c5] 24)
  replace Ja := Ja.al (.cells #[.int .i64 (f1 : Int), .int .i64 (t1 : Int), .slice A5 k1 c5] 24)
  replace Jb := Jb.al (.cells #[.int .i64 (f1 : Int), .int .i64 (t1 : Int), .slice A5 k1 c5] 24)
  replace Jx := Jx.al (.cells #[.int .i64 (f1 : Int), .int .i64 (t1 : Int), .slice A5 k1 c5] 24)
  replace Ba := Ba.al (.cells #[.int .i64 (f1 : Int), .int .i64 (t1 : Int), .slice A5 k1 c5] 24)
  replace Bb := Bb.al (.cells #[.int .i64 (f1 : Int), .int .i64 (t1 : Int), .slice A5 k1 c5] 24)
  have cBa := Ba.cell
  have fBa := Ba.frozen
  have lBa := Ba.lt
  have cBb := Bb.cell
  have fBb := Bb.frozen
  have lBb := Bb.lt
  go_wp2_with fail
  clear cBa fBa lBa
  clear cBb fBb lBb
  generalize hW : w5.alloc (.cells #[.int .i64 (f1 : Int), .int .i64 (t1 : Int), .slice A5 k1 c5] 24) = W5 at *
  clear hW
  generalize w5.heap.size = bx at *
  refine (over_c Ab Aa n fb gb q cb fa ga p ca bz az W5 Jb Ja hb1 hb2 ha1 ha2 (by omega) f2 t2 k2 z2 err HY.out).mono ?_
  rintro e w6 ⟨A6, c6, rfl, Jy, hb⟩
  replace hB := hB.via hb
  replace I0 := I0.via hb
  replace Ja := Ja.via hb
  replace Jb := Jb.via hb
  replace Ba := Ba.via hb
  replace Bb := Bb.via hb
  replace Jx := Jx.via hb
  replace Bx := Bx.via hb
  clear hb HY
  rcases HC.out with ⟨rfl, y1, y2, y3, y4, y5, y6, y7, y8⟩ | rfl
  · have H7 := Lib.hid y7
    have H8 := Lib.hid y8
    clear y7 y8 HC
    have By := Blk.new w6 24 #[.int .i64 (f2 : Int), .int .i64 (t2 : Int), .slice A6 k2 c6]
    replace hB := hB.al (.cells #[.int .i64 (f2 : Int), .int .i64 (t2 : Int), .slice A6 k2 c6] 24)
    replace I0 := I0.al (.cells #[.int .i64 (f2 : Int), .int .i64 (t2 : Int), .slice A6 k2 c6] 24)
    replace Ja := Ja.al (.cells #[.int .i64 (f2 : Int), .int .i64 (t2 : Int), .slice A6 k2 c6] 24)
    replace Jb := Jb.al (.cells #[.int .i64 (f2 : Int), .int .i64 (t2 : Int), .slice A6 k2 c6] 24)
    replace Jx := Jx.al (.cells #[.int .i64 (f2 : Int), .int .i64 (t2 : Int), .slice A6 k2 c6] 24)
    replace Ba := Ba.al (.cells #[.int .i64 (f2 : Int), .int .i64 (t2 : Int), .slice A6 k2 c6] 24)
    replace Bb := Bb.al (.cells #[.int .i64 (f2 : Int), .int .i64 (t2 : Int), .slice A6 k2 c6] 24)
    replace Bx := Bx.al (.cells #[.int .i64 (f2 : Int), .int .i64 (t2 : Int), .slice A6 k2 c6] 24)
    replace Jy := Jy.al (.cells #[.int .i64 (f2 : Int), .int .i64 (t2 : Int), .slice A6 k2 c6] 24)
    have cBa := Ba.cell
    have fBa := Ba.frozen
    have lBa := Ba.lt
    have cBb := Bb.cell
    have fBb := Bb.frozen
    have lBb := Bb.lt
    go_wp2_with fail
    clear cBa fBa lBa
    clear cBb fBb lBb
    generalize hW : w6.alloc (.cells #[.int .i64 (f2 : Int), .int .i64 (t2 : Int), .slice A6 k2 c6] 24) = W6 at *
    clear hW
    generalize w6.heap.size = by_ at *
    refine (apply_c A0 Aa n c0 p ca fa ga xs az _ I0 Ja ha1 ha2 (by omega) (by omega)).mono ?_
    rintro e w7 ⟨A7, c7, rfl, U1, hb⟩
    replace hB := hB.via hb
    replace I0 := I0.via hb
    replace Jb := Jb.via hb
    replace Bb := Bb.via hb
    replace Jx := Jx.via hb
    replace Bx := Bx.via hb
    replace Jy := Jy.via hb
    replace By := By.via hb
    clear hb Ja Ba
    have cBx := Bx.cell
    have fBx := Bx.frozen
    have lBx := Bx.lt
    go_wp2_with fail
    clear cBx fBx lBx
    refine (apply_c A7 A5 (fa + p + (n - ga)) c7 k1 c5 f1 t1 _ z1 _ U1 Jx y1 y2 (by omega) (by omega)).mono ?_
    rintro e w8 ⟨A8, c8, rfl, U2, hb⟩
    replace hB := hB.via hb
    replace I0 := I0.via hb
    replace Jb := Jb.via hb
    replace Bb := Bb.via hb
    replace Jy := Jy.via hb
    replace By := By.via hb
    clear hb Jx Bx U1
    have cBb := Bb.cell
    have fBb := Bb.frozen
    have lBb := Bb.lt
    go_wp2_with fail
    clear cBb fBb lBb
    refine (apply_c A0 Ab n c0 q cb fb gb xs bz _ I0 Jb hb1 hb2 (by omega) (by omega)).mono ?_
    rintro e w9 ⟨A9, c9, rfl, V1, hb⟩
    replace hB := hB.via hb
    replace U2 := U2.via hb
    replace Jy := Jy.via hb
    replace By := By.via hb
    clear hb Jb Bb I0
    have cBy := By.cell
    have fBy := By.frozen
    have lBy := By.lt
    go_wp2_with fail
    clear cBy fBy lBy
    refine (apply_c A9 A6 (fb + q + (n - gb)) c9 k2 c6 f2 t2 _ z2 _ V1 Jy y4 y5 (by omega) (by omega)).mono ?_
    rintro e w10 ⟨A10, c10, rfl, V2, hb⟩
    replace hB := hB.via hb
    replace U2 := U2.via hb
    clear hb Jy By V1
    have hmax := fun ty wx => max4 ty wx
    go_wp2_with fail
    refine (equal_yes A8 A10 _ c8 _ c10 _ _ _ U2 V2 (by omega) H7.out).mono ?_
    rintro e w11 ⟨rfl, hb⟩
    replace hB := hB.via hb
    clear hb U2 V2
    go_wp2_with fail
    go_ret
    exact ⟨rfl, hB⟩
  · clear HC
    replace hB := hB.al (.cells #[.int .i64 (f2 : Int), .int .i64 (t2 : Int), .slice A6 k2 c6] 24)
    clear I0 Ja Jb Jx Ba Bb Bx Jy
    go_wp2_with fail
    go_ret
    exact ⟨rfl, hB⟩
end Go.Proofs.Ytdccgeiniockpaa
