/- Texts IN, laid together. -/
import Derived.Test.YthkldiehokblcaaIM
import Derived.Test.YthkldiehokblcaaJQ



namespace Go.Proofs.Ythkldiehokblcaa
open Go.RowKit

noncomputable def folF (g : Gr) : FoS := folK (nulK g.rules g.nons) (fstK (nulK g.rules g.nons) g.rules g.nons) g.rules g.start g.terms (g.nons * 3)
def SetsP (w : World) (g : Gr) (e : Ending) (w' : World) : Prop :=
  ∃ (A1 A2 : Option Addr) (c1 c2 : Nat) (b1 b2 : Nat → Nat), e = .returned (.tuple #[.slice A1 g.nons c1, .slice A2 g.nons c2]) ∧ MpR w' A1 g.nons b1 (fstK (nulK g.rules g.nons) g.rules g.nons) ∧ MpR w' A2 g.nons b2 (folF g).2 ∧ Below w.heap.size w w'
set_option maxRecDepth 100000 in
set_option maxHeartbeats 8000000 in
theorem rsets_c (ok : Nat → Prop) (g : Gr) (Ag : Option Addr) (ng cg : Nat) (w : World) (hg : GrOk g) (hl : Sl RuE ok w Ag ng cg g.rules) :
    Calls Try.prog 27 #[grVal g Ag ng cg] w (SetsP w g) := by
  have hn1 := hg.ok.nons.1
  have hn10 := hg.ok.nons.2
  have ht8 := hg.ok.terms.2
  have hst := hg.ok.start
  have hlen := hl.len
  have hng32 : ng ≤ 32 := by have := hg.ok.count; omega
  have B0 := Blk.new w 24 (gCells g Ag ng cg)
  have hB0 := (Below.refl w.heap.size w).al (.cells (gCells g Ag ng cg) 24)
  have HGO := Lib.hid hg
  have HL := Lib.hid hl
  have hmm := @run_makeMap Try.prog
  simp only [grVal]
  clear hg hl
  go_enter Try.func27, Try.ntmps27
  have e0 : (Obj.cells #[.int .i64 (g.terms : Int), .int .i64 (g.nons : Int), .int .i64 (g.start : Int), .slice Ag ng cg] 24) = .cells (gCells g Ag ng cg) 24 := rfl
  go_upto_region 1 with fail
  have hW0 : (w.alloc (.cells (gCells g Ag ng cg) 24)).heap.size = w.heap.size + 1 := by simp
  clear e0
  generalize w.alloc (.cells (gCells g Ag ng cg) 24) = W0 at *
  have cB := B0.cell
  simp only [gCells] at cB
  have fB := B0.frozen
  go_wp2_with fail
  clear cB fB
  have hnull := rnull_c ok g Ag ng cg W0 HGO.out (HL.out.via hB0)
  simp only [grVal] at hnull
  refine hnull.mono ?_
  clear hnull
  rintro e w1 ⟨bn, rfl, hrow, hbn, hb1⟩
  have HBU := Lib.hid (show BuR w w1.heap.size g Ag ng cg bn 0 0 (.slice none 0 0) (.slice none 0 0) [] [] w1 from
    ⟨B0.via hb1, hrow, Own.nil _ _, Own.nil _ _, fun x hx => (by cases hx), List.nodup_nil, fun b hb => (by cases hb), hB0.trans (hb1.mono (by omega)), hrow.lt, by have := hb1.size; omega⟩)
  have hbn1 : bn < w1.heap.size := hrow.lt
  clear B0 hB0 hrow hb1 hbn hW0
  have BG := HBU.out.hg
  simp only [gCells] at BG
  have cBG := BG.cell
  have fBG := BG.frozen
  have lBG := BG.lt
  go_wp2_with fail
  clear cBG fBG lBG
  clear BG
  go_loopw [2, 3, 23] (fun v1 v2 a wr => ∃ (k : Nat) (l1 l2 : List Nat), a = .int .i64 k ∧ k ≤ g.nons ∧ Hid (BuR w w1.heap.size g Ag ng cg bn k k v1 v2 l1 l2 wr ∧ w1.heap.size ≤ wr.heap.size)) (fun _ _ a _ => g.nons - (intOf a).toNat)
  case atStart => exact ⟨0, [], [], rfl, Nat.zero_le _, Lib.hid ⟨HBU.out, Nat.le_refl _⟩⟩
  case round =>
    obtain ⟨k, l1, l2, rfl, hk, HB0⟩ := hrel
    have hwr1 := HB0.out.2
    have HB := Lib.hid HB0.out.1
    clear HBU HB0
    obtain ⟨A1, c1, rfl, -⟩ := HB.out.o1.form
    obtain ⟨A2, c2, rfl, -⟩ := HB.out.o2.form
    by_cases hkn : k < g.nons
    · have q0 : (0 : Int) ≤ (k : Int) := by omega
      have q1 : (k : Int) < (g.nons : Int) := by omega
      have hal := ((Below.refl wr.heap.size wr).al (.map #[] 0)).al (.cells #[.map (some wr.heap.size)] 79)
      have HB4 := Lib.hid (HB.out.via hal)
      have HC4 := Lib.hid (show ((wr.alloc (.map #[] 0)).alloc (.cells #[.map (some wr.heap.size)] 79)).cell? ⟨wr.heap.size + 1, 0, none⟩ = some (.map (some wr.heap.size)) from (Blk.newAt (wr.alloc (.map #[] 0)) 79 #[.map (some wr.heap.size)] (wr.heap.size + 1) (by simp)).cell 0)
      have HS4 := Lib.hid (show SetM ((wr.alloc (.map #[] 0)).alloc (.cells #[.map (some wr.heap.size)] 79)) wr.heap.size (fun _ => false) from (SetM.made wr).via ((Below.refl _ _).al _))
      have HZ4 := Lib.hid (show w1.heap.size ≤ ((wr.alloc (.map #[] 0)).alloc (.cells #[.map (some wr.heap.size)] 79)).heap.size by simp; omega)
      have HX4 := Lib.hid (show wr.heap.size ∉ l1 ++ l2 from fun hx => absurd (HB.out.s _ hx).1.lt (Nat.lt_irrefl _))
      have HW4 := Lib.hid (show w.heap.size < wr.heap.size from HB.out.hg.lt)
      clear hal HB
      go_wp2_with (at_builtin; refine wpList_append_mp _ rfl (.tmp 25) (.tmp 27) rfl w1.heap.size (.slice A1 k c1) k l1 rfl HB4.out.o1 (wr.heap.size + 1) wr.heap.size rfl HC4.out (by omega) HZ4.out ?_)
      intro A5 c5 w5 ho5 hg5 hat5
      have HB5 := Lib.hid (HB4.out.push1 ho5 hg5 (by simpa using hat5) HS4.out HW4.out HX4.out)
      have hz5 : wr.heap.size + 2 ≤ w5.heap.size := by have := hg5.size; simpa using this
      clear ho5 hg5 hat5 HB4 HC4 HS4 HZ4
      have hal := ((Below.refl w5.heap.size w5).al (.map #[] 0)).al (.cells #[.map (some w5.heap.size)] 79)
      have HB6 := Lib.hid (HB5.out.via hal)
      have HC6 := Lib.hid (show ((w5.alloc (.map #[] 0)).alloc (.cells #[.map (some w5.heap.size)] 79)).cell? ⟨w5.heap.size + 1, 0, none⟩ = some (.map (some w5.heap.size)) from (Blk.newAt (w5.alloc (.map #[] 0)) 79 #[.map (some w5.heap.size)] (w5.heap.size + 1) (by simp)).cell 0)
      have HS6 := Lib.hid (show SetM ((w5.alloc (.map #[] 0)).alloc (.cells #[.map (some w5.heap.size)] 79)) w5.heap.size (fun _ => false) from (SetM.made w5).via ((Below.refl _ _).al _))
      have HZ6 := Lib.hid (show w1.heap.size ≤ ((w5.alloc (.map #[] 0)).alloc (.cells #[.map (some w5.heap.size)] 79)).heap.size by simp; omega)
      have HX6 := Lib.hid (show w5.heap.size ∉ (l1 ++ [wr.heap.size]) ++ l2 from fun hx => absurd (HB5.out.s _ hx).1.lt (Nat.lt_irrefl _))
      have HW6 := Lib.hid (show w.heap.size < w5.heap.size from HB5.out.hg.lt)
      clear hal HB5
      go_wp2_with (at_builtin; refine wpList_append_mp _ rfl (.tmp 29) (.tmp 31) rfl w1.heap.size (.slice A2 k c2) k l2 rfl HB6.out.o2 (w5.heap.size + 1) w5.heap.size rfl HC6.out (by omega) HZ6.out ?_)
      intro A7 c7 w7 ho7 hg7 hat7
      have HB7 := Lib.hid (HB6.out.push2 ho7 hg7 (by simpa using hat7) HS6.out HW6.out HX6.out)
      have hz7 : w5.heap.size + 2 ≤ w7.heap.size := by have := hg7.size; simpa using this
      clear ho7 hg7 hat7 HB6 HC6 HS6 HZ6
      go_wp2_with fail
      exact ⟨⟨k + 1, _, _, by go_num, by omega, Lib.hid ⟨HB7.out, by omega⟩⟩, by simp [intOf]; omega⟩
    · obtain rfl : k = g.nons := by omega
      have HS := Lib.hid (HB.out.toSe (by omega))
      obtain ⟨b1, hb1⟩ : ∃ b1 : Nat → Nat, b1 = fun i => l1.getD i 0 := ⟨_, rfl⟩
      obtain ⟨b2, hb2⟩ : ∃ b2 : Nat → Nat, b2 = fun i => l2.getD i 0 := ⟨_, rfl⟩
      rw [← hb1, ← hb2] at HS
      clear hb1 hb2 HB
      have BG := HS.out.hg
      simp only [gCells] at BG
      have cBG := BG.cell
      have fBG := BG.frozen
      have lBG := BG.lt
      go_upto_region 6 with fail
      go_wp2_with fail
      clear cBG fBG lBG
      clear BG hmm hwr1
      go_loopw [36] (fun a wr => ∃ r : Nat, a = .int .i64 r ∧ r ≤ g.nons ∧ Hid (SeR w g Ag ng cg bn A1 A2 b1 b2 (fstK (nulK g.rules g.nons) g.rules r) (fun _ _ => false) wr)) (fun a _ => g.nons - (intOf a).toNat)
      case atStart => exact ⟨0, rfl, Nat.zero_le _, HS⟩
      case round =>
        obtain ⟨r, rfl, hr, HR⟩ := hrel
        clear HS
        by_cases hrn : r < g.nons
        · have q0 : (0 : Int) ≤ (r : Int) := by omega
          have q1 : (r : Int) < (g.nons : Int) := by omega
          have BG := HR.out.hg
          simp only [gCells] at BG
          have cBG := BG.cell
          have fBG := BG.frozen
          have lBG := BG.lt
          go_wp2_with fail
          clear cBG fBG lBG
          clear BG
          go_loopw [41] (fun a wr => ∃ i : Nat, a = .int .i64 i ∧ i ≤ ng ∧ Hid (SeR w g Ag ng cg bn A1 A2 b1 b2 (fstRound (nulK g.rules g.nons) (g.rules.take i) (fstK (nulK g.rules g.nons) g.rules r)) (fun _ _ => false) wr)) (fun a _ => ng - (intOf a).toNat)
          case atStart => exact ⟨0, rfl, Nat.zero_le _, HR⟩
          case round =>
            obtain ⟨i, rfl, hi, HQ⟩ := hrel
            clear HR
            by_cases hin : i < ng
            · obtain ⟨bb1, o1, ⟨sl, sA, sn, sc⟩, ⟨sl', rhs⟩, rfl, -, hbb, hy, ⟨hx1, hx2⟩, hcc⟩ := (HL.out.via HQ.out.bel).at_ hin
              simp only at hx1 hx2
              obtain rfl : sl = sl' := hx1
              have d0 := hcc 0 _ rfl
              have d1 := hcc 1 _ rfl
              simp only [RuE, Nat.add_zero] at d0 d1
              have p0 : (0 : Int) ≤ (i : Int) := by omega
              have p1 : (i : Int) < (ng : Int) := by omega
              have hsl : sl < g.nons := HGO.out.ok.left _ (List.mem_of_getElem? hy)
              have HRT := Lib.hid (HGO.out.ok.right _ (List.mem_of_getElem? hy))
              have HY := Lib.hid hy
              have hal := (Below.refl wr.heap.size wr).al (.cells #[.int .i64 (sl : Int), .slice sA sn sc] 58)
              have BX := Blk.new wr 58 #[.int .i64 (sl : Int), .slice sA sn sc]
              have HX2 := Lib.hid (hx2.via hal)
              have HQ4 := Lib.hid (HQ.out.via hal)
              have hwr : w.heap.size < wr.heap.size := HQ.out.hg.lt
              clear hcc hy hx2 hbb hal HQ
              go_upto_region 11 with fail
              clear d0 d1
              have hw4 : wr.heap.size < (wr.alloc (.cells #[.int .i64 (sl : Int), .slice sA sn sc] 58)).heap.size := by simp
              generalize wr.alloc (.cells #[.int .i64 (sl : Int), .slice sA sn sc] 58) = W4 at *
              generalize wr.heap.size = bR at *
              obtain ⟨fsi, hfsi⟩ : ∃ fsi, fsi = fstRound (nulK g.rules g.nons) (g.rules.take i) (fstK (nulK g.rules g.nons) g.rules r) := ⟨_, rfl⟩
              rw [← hfsi] at HQ4
              have HFS := Lib.hid hfsi
              clear hfsi
              have cBX := BX.cell
              have fBX := BX.frozen
              have lBX := BX.lt
              go_wp2_with fail
              clear cBX fBX lBX
              have hsr : sn ≤ 4 := by have := HX2.out.len; have := HRT.out.1; omega
              refine (begins_c ok sA sn sc rhs bn g.nons g.nons (nulK g.rules g.nons) A1 c1 b1 fsi W4 HX2.out (by omega) (fun y hy => by have := HRT.out.2 y hy; unfold Gr.okSy at this; split at this <;> simp_all <;> omega) HQ4.out.nul HQ4.out.one).mono ?_
              rintro e w5 ⟨bm, rfl, hbm, hlo5, hb5⟩
              have HM5 := Lib.hid hbm
              have HQ5 := Lib.hid (HQ4.out.via hb5)
              have BX5 := BX.via hb5
              have HOL := Lib.hid HQ4.out.olds
              have h45 : W4.heap.size ≤ w5.heap.size := hb5.size
              have hbm5 : bm < w5.heap.size := hbm.lt
              clear BX hbm hb5 HQ4 HX2
              go_wp2_with (at_range; refine wpList_range_S rfl _ rfl bm _ rfl HM5.out ?_)
              intro w6 cnt0 hrg0 hb6 hz6
              go_wp2_with fail
              have HRG := Lib.hid hrg0
              have HQ6 := Lib.hid (HQ5.out.via hb6)
              have HX6 := Lib.hid (BX5.via hb6)
              clear hrg0 hb6 HQ5 HM5 BX5
              go_loopw [9] (fun _ wr => ∃ (left : Nat → Bool) (cnt : Nat), Hid (RngS wr w5.heap.size bm left cnt ∧ (∀ t, left t = true → ofB (nulK g.rules g.nons) fsi rhs t = true) ∧ SeR w g (some ⟨bb1, o1, none⟩) ng cg bn A1 A2 b1 b2 (fun N t => if N = sl then fsi sl t || (ofB (nulK g.rules g.nons) fsi rhs t && !left t) else fsi N t) (fun _ _ => false) wr ∧ Blk wr bR 58 #[.int .i64 (sl : Int), .slice sA sn sc])) (fun _ wr => World.rngLeft wr w5.heap.size)
              case atStart => exact ⟨_, _, Lib.hid ⟨HRG.out, fun _ h => h, HQ6.out.ext (fun N _ t => by by_cases e : N = sl; subst e; simp; simp [e]) (fun _ _ _ => rfl), HX6.out⟩⟩
              case round =>
                obtain ⟨left, cnt, HV⟩ := hrel
                clear HRG HQ6 HX6
                have hold := HOL.out
                go_wp2_with (at_next; refine wpList_next_S rfl _ rfl w5.heap.size bm left cnt rfl HV.out.1 (by omega) ?_ ?_)
                · intro hd
                  have HE := Lib.hid (HV.out.2.2.1.ext (fs' := fstStep (nulK g.rules g.nons) fsi (sl, rhs)) (fo' := fun _ _ => false) (fun N _ t => by unfold fstStep; by_cases e : N = sl; subst e; simp [hd t]; simp [e]) (fun _ _ _ => rfl))
                  clear HV hd hold
                  go_wp2_with fail
                  refine ⟨⟨i + 1, by go_num, by omega, ?_⟩, by simp [intOf]; omega⟩
                  rw [fstRound_take HY.out, ← HFS.out]
                  exact HE
                · intro t w7 cnt1 hlt1 ht1 hrg1 hlt2 hg1 hz1 hen
                  obtain ⟨g1, g2, g3, g4, g5, g6⟩ := hold
                  have hQ7 := HV.out.2.2.1.iter (r := w5.heap.size) (Nat.le_refl _) (fun _ => ⟨by omega, by omega, fun ad e => by have := g3 ad e; omega, fun ad e => by have := g4 ad e; omega, fun j hj => by have := g5 j hj; omega, fun j hj => by have := g6 j hj; omega⟩) hg1
                  have BX7 := HV.out.2.2.2.grown hg1 (fun e => by have := Option.some.inj e; omega)
                  have hset := hQ7.one.set sl hsl
                  simp only [if_true] at hset
                  obtain ⟨mb, mo, hmA, hmb, hmc⟩ := hQ7.one.row
                  subst hmA
                  have cm := hmc sl hsl
                  have s0 : (0 : Int) ≤ (sl : Int) := by omega
                  have s1 : (sl : Int) < (g.nons : Int) := by omega
                  have HQ7 := Lib.hid hQ7
                  have HSE := Lib.hid hset
                  clear hQ7 hset hmc hmb g3 g4
                  have cBX7 := BX7.cell
                  have fBX7 := BX7.frozen
                  have lBX7 := BX7.lt
                  go_wp2_with (at_mapUpdate; refine wpList_put_S rfl _ _ _ rfl (b1 sl) _ t rfl rfl rfl HSE.out ht1 ?_)
                  intro w8 hs8 hg8 hz8
                  have hb1s := g5 sl hsl
                  have hrg8 := hrg1.grown hg8 (by intro e; have := Option.some.inj e; omega) (by intro e; have := Option.some.inj e; omega)
                  have e0 := HV.out.1.left_eq
                  have e1 := hrg8.left_eq
                  have HV8 := Lib.hid (show RngS w8 w5.heap.size bm (fun k => left k && k != t) cnt1 ∧ (∀ z, (left z && z != t) = true → ofB (nulK g.rules g.nons) fsi rhs z = true) ∧ SeR w g (some ⟨bb1, o1, none⟩) ng cg bn (some ⟨mb, mo, none⟩) A2 b1 b2 (fun N z => if N = sl then fsi sl z || (ofB (nulK g.rules g.nons) fsi rhs z && !(left z && z != t)) else fsi N z) (fun _ _ => false) w8 ∧ Blk w8 bR 58 #[.int .i64 (sl : Int), .slice sA sn sc] from by
                    refine ⟨hrg8, fun z hz => HV.out.2.1 z (by simp only [Bool.and_eq_true] at hz; exact hz.1), (HQ7.out.putF hsl hs8 hg8).ext (fun N _ z => ?_) (fun _ _ _ => rfl), BX7.grown hg8 (fun e => HSE.out.ne_blk BX7 (Option.some.inj e))⟩
                    by_cases e : N = sl
                    · subst e
                      simp only [if_true]
                      by_cases e2 : z = t
                      · subst e2
                        have := HV.out.2.1 z hlt1
                        simp [this]
                      · have e3 : (z == t) = false := by simpa using e2
                        have e4 : (z != t) = true := by simpa using e2
                        simp [e3, e4]
                    · simp [e])
                  clear hs8 hg8 hrg8 hrg1 hg1 BX7 g1 g2 g5 g6
                  go_wp2_with fail
                  exact ⟨⟨_, _, HV8⟩, by rw [e0, e1]; exact hlt2⟩
            · obtain rfl : i = ng := by omega
              go_wp2_with fail
              refine ⟨⟨r + 1, by go_num, by omega, ?_⟩, by simp [intOf]; omega⟩
              have := HQ.out
              rw [List.take_of_length_le (by omega)] at this
              exact Lib.hid this
        · obtain rfl : r = g.nons := by omega
          obtain ⟨fs, hfs⟩ : ∃ fs, fs = fstK (nulK g.rules g.nons) g.rules g.nons := ⟨_, rfl⟩
          rw [← hfs] at HR
          have HFS := Lib.hid hfs
          clear hfs
          have BG := HR.out.hg
          simp only [gCells] at BG
          obtain ⟨mb, mo, rfl, hmb, hmc⟩ := HR.out.fol.row
          have cm := hmc g.start hst
          have HSE := Lib.hid (HR.out.fol.set g.start hst)
          have s0 : (0 : Int) ≤ (g.start : Int) := by omega
          have s1 : (g.start : Int) < (g.nons : Int) := by omega
          clear hmc hmb
          have cBG := BG.cell
          have fBG := BG.frozen
          have lBG := BG.lt
          go_upto_region 18 with fail
          go_still_tail 7, (by kernel_rfl)
          clear cBG fBG lBG
          clear BG cm
          have HDW := Lib.hid (Below.refl wr.heap.size wr).drew
          change wpList _ _ _ _ _ wr.drew
          generalize wr.drew = w3 at *
          have HR3 := Lib.hid (HR.out.via HDW.out)
          have HSE3 := Lib.hid (HSE.out.via HDW.out)
          go_wp2_with (at_mapUpdate; refine wpList_put_S rfl _ _ _ rfl (b2 g.start) _ g.terms rfl rfl rfl HSE3.out (by omega) ?_)
          intro w4 hs4 hg4 hz4
          have HM4 := Lib.hid ((HR3.out.putO hst hs4 hg4).ext (fs' := fs) (fo' := (folK (nulK g.rules g.nons) fs g.rules g.start g.terms 0).2) (fun _ _ _ => rfl) (fun N _ t => by
            simp only [folK]
            by_cases e : N = g.start
            · subst e; simp
            · have e2 : (N == g.start) = false := by simpa using e
              simp [e, e2]))
          clear hs4 hg4 HR HR3 HSE HSE3 HDW hz4
          have hmm := @run_makeMap Try.prog
          obtain ⟨w5, hput, hs5, hg5, hz5⟩ := (SetM.made w4).put g.start (by omega)
          have hal := (Below.refl w4.heap.size w4).al (.map #[] 0)
          have HOL4 := Lib.hid HM4.out.olds
          have HM5 := Lib.hid ((HM4.out.via hal).other (SetM.made w4) (fun j hj => by have := HOL4.out.2.2.2.2.1 j hj; omega) (fun j hj => by have := HOL4.out.2.2.2.2.2 j hj; omega) (by have := HOL4.out.2.1; omega) hg5)
          have HRC5 := Lib.hid (hs5.ext (g := (folK (nulK g.rules g.nons) fs g.rules g.start g.terms 0).1) fun N => by simp [folK])
          obtain ⟨br, hbr⟩ : ∃ br, br = w4.heap.size := ⟨_, rfl⟩
          have HB1 := Lib.hid (show ∀ j, j < g.nons → b1 j ≠ br from fun j hj => by have := HOL4.out.2.2.2.2.1 j hj; omega)
          have HB2 := Lib.hid (show ∀ j, j < g.nons → b2 j ≠ br from fun j hj => by have := HOL4.out.2.2.2.2.2 j hj; omega)
          have hbrw : w.heap.size < br := by have := HOL4.out.2.1; omega
          rw [← hbr] at HRC5
          have HBR := Lib.hid hbr
          have BG := HM4.out.hg
          clear hbr hz5 hal hs5 hg5
          simp only [gCells] at BG
          have cBG := BG.cell
          have fBG := BG.frozen
          have lBG := BG.lt
          go_upto_region 20 with fail
          clear cBG fBG lBG
          clear BG hmm hput HM4 HOL4
          rw [← HBR.out]
          clear HBR
          have BG := HM5.out.hg
          simp only [gCells] at BG
          have hm3 : IntKind.i64.wrap ((g.nons : Int) * 3) = (g.nons : Int) * 3 := IntWalk.i64_in _ (by omega)
          have cBG := BG.cell
          have fBG := BG.frozen
          have lBG := BG.lt
          go_wp2_with fail
          clear cBG fBG lBG
          clear BG hm3
          go_loopw [81] (fun a wr => ∃ r : Nat, a = .int .i64 r ∧ r ≤ g.nons * 3 ∧ Hid (SeR w g Ag ng cg bn A1 (some ⟨mb, mo, none⟩) b1 b2 fs (folK (nulK g.rules g.nons) fs g.rules g.start g.terms r).2 wr ∧ SetM wr br (folK (nulK g.rules g.nons) fs g.rules g.start g.terms r).1)) (fun a _ => g.nons * 3 - (intOf a).toNat)
          case atStart => exact ⟨0, rfl, Nat.zero_le _, Lib.hid ⟨HM5.out, HRC5.out⟩⟩
          case round =>
            obtain ⟨r, rfl, hr, HR⟩ := hrel
            clear HM5 HRC5
            by_cases hrn : r < g.nons * 3
            · have q0 : (0 : Int) ≤ (r : Int) := by omega
              have q1 : (r : Int) < (g.nons : Int) * 3 := by omega
              have BG := HR.out.1.hg
              simp only [gCells] at BG
              have cBG := BG.cell
              have fBG := BG.frozen
              have lBG := BG.lt
              go_wp2_with fail
              clear cBG fBG lBG
              clear BG
              go_loopw [86] (fun a wr => ∃ i : Nat, a = .int .i64 i ∧ i ≤ ng ∧ Hid (SeR w g Ag ng cg bn A1 (some ⟨mb, mo, none⟩) b1 b2 fs (folRound (nulK g.rules g.nons) fs (g.rules.take i) (folK (nulK g.rules g.nons) fs g.rules g.start g.terms r)).2 wr ∧ SetM wr br (folRound (nulK g.rules g.nons) fs (g.rules.take i) (folK (nulK g.rules g.nons) fs g.rules g.start g.terms r)).1)) (fun a _ => ng - (intOf a).toNat)
              case atStart => exact ⟨0, rfl, Nat.zero_le _, HR⟩
              case round =>
                obtain ⟨i, rfl, hi, HQ⟩ := hrel
                clear HR
                by_cases hin : i < ng
                · obtain ⟨bb1, o1, ⟨sl, sA, sn, sc⟩, ⟨sl', rhs⟩, hAg, -, hbb, hy, ⟨hx1, hx2⟩, hcc⟩ := HL.out.at_ hin
                  simp only at hx1 hx2
                  obtain rfl : sl = sl' := hx1
                  have d0 := (HQ.out.1.bel.cell (p := ⟨bb1, o1 + i * RuE.k + 0, none⟩) hbb).trans (hcc 0 _ rfl)
                  have d1 := (HQ.out.1.bel.cell (p := ⟨bb1, o1 + i * RuE.k + 1, none⟩) hbb).trans (hcc 1 _ rfl)
                  simp only [RuE, Nat.add_zero] at d0 d1
                  have p0 : (0 : Int) ≤ (i : Int) := by omega
                  have p1 : (i : Int) < (ng : Int) := by omega
                  have hsl : sl < g.nons := HGO.out.ok.left _ (List.mem_of_getElem? hy)
                  have HRT := Lib.hid (HGO.out.ok.right _ (List.mem_of_getElem? hy))
                  have HY := Lib.hid hy
                  have hr4 : rhs.length ≤ 4 := HRT.out.1
                  have hal := (Below.refl wr.heap.size wr).al (.cells #[.int .i64 (sl : Int), .slice sA sn sc] 58)
                  have BX := Blk.new wr 58 #[.int .i64 (sl : Int), .slice sA sn sc]
                  have HQ4 := Lib.hid (HQ.out.1.via hal)
                  have HC4 := Lib.hid (HQ.out.2.via hal)
                  have hwr : w.heap.size < wr.heap.size := HQ.out.1.hg.lt
                  have hbrr : br < wr.heap.size := HQ.out.2.lt
                  have HX2 := Lib.hid hx2
                  subst hAg
                  clear hcc hy hx2 hbb hal HQ
                  go_upto_region 25 with fail
                  clear d0 d1
                  have hw4 : wr.heap.size < (wr.alloc (.cells #[.int .i64 (sl : Int), .slice sA sn sc] 58)).heap.size := by simp
                  generalize wr.alloc (.cells #[.int .i64 (sl : Int), .slice sA sn sc] 58) = W4 at *
                  generalize wr.heap.size = bR at *
                  obtain ⟨st0, hst0⟩ : ∃ st0, st0 = folRound (nulK g.rules g.nons) fs (g.rules.take i) (folK (nulK g.rules g.nons) fs g.rules g.start g.terms r) := ⟨_, rfl⟩
                  rw [← hst0] at HQ4 HC4
                  have HST := Lib.hid hst0
                  clear hst0
                  have hsn : sn = rhs.length := HX2.out.len.symm
                  subst hsn
                  have HX4 := Lib.hid BX
                  have cBX := BX.cell
                  have fBX := BX.frozen
                  have lBX := BX.lt
                  go_wp2_with fail
                  clear cBX fBX lBX
                  clear BX
                  go_loopw [93] (fun a wr => ∃ j : Nat, a = .int .i64 j ∧ j ≤ rhs.length ∧ Hid (SeR w g (some ⟨bb1, o1, none⟩) ng cg bn A1 (some ⟨mb, mo, none⟩) b1 b2 fs (folPos (nulK g.rules g.nons) fs (sl, rhs) st0 j).2 wr ∧ SetM wr br (folPos (nulK g.rules g.nons) fs (sl, rhs) st0 j).1 ∧ Blk wr bR 58 #[.int .i64 (sl : Int), .slice sA rhs.length sc])) (fun a _ => rhs.length - (intOf a).toNat)
                  case atStart => exact ⟨0, rfl, Nat.zero_le _, Lib.hid ⟨HQ4.out, HC4.out, HX4.out⟩⟩
                  case round =>
                    obtain ⟨j, rfl, hj, HP⟩ := hrel
                    clear HQ4 HC4 HX4
                    by_cases hjn : j < rhs.length
                    · obtain ⟨b3, o3, ⟨tb, tn⟩, x', hA3, -, hb3, hx, hxr, hcc⟩ := HX2.out.at_ hjn
                      obtain rfl : (tb, tn) = x' := hxr
                      have x0 := (HP.out.1.bel.cell (p := ⟨b3, o3 + j * SyE.k + 0, none⟩) hb3).trans (hcc 0 _ rfl)
                      have x1 := (HP.out.1.bel.cell (p := ⟨b3, o3 + j * SyE.k + 1, none⟩) hb3).trans (hcc 1 _ rfl)
                      simp only [SyE, Nat.add_zero] at x0 x1
                      have j0 : (0 : Int) ≤ (j : Int) := by omega
                      have j1 : (j : Int) < (rhs.length : Int) := by omega
                      have hsc : rhs.length ≤ sc := HX2.out.le
                      have HTL := Lib.hid (HX2.out.tailE (l := j + 1) (by omega))
                      have HJ := Lib.hid hx
                      have hoks := HRT.out.2 _ (List.mem_of_getElem? hx)
                      have HDL := Lib.hid (show ∀ y ∈ rhs.drop (j + 1), if y.1 then y.2 < 100 else y.2 < g.nons from fun y hy => by have := HRT.out.2 y (List.mem_of_mem_drop hy); unfold Gr.okSy at this; split at this <;> simp_all <;> omega)
                      have hal := (Below.refl wr.heap.size wr).al (.cells #[.bool tb, .int .i64 (tn : Int)] 68)
                      have BY := Blk.new wr 68 #[.bool tb, .int .i64 (tn : Int)]
                      obtain ⟨st, hst1⟩ : ∃ st, st = folPos (nulK g.rules g.nons) fs (sl, rhs) st0 j := ⟨_, rfl⟩
                      rw [← hst1] at HP
                      have HSJ := Lib.hid hst1
                      have HM7 := Lib.hid (HP.out.1.via hal)
                      have HRC7 := Lib.hid (HP.out.2.1.via hal)
                      have HX7 := Lib.hid (HP.out.2.2.via hal)
                      have hbrr2 : br < wr.heap.size := HP.out.2.1.lt
                      have hbR : bR < wr.heap.size := HP.out.2.2.lt
                      clear hcc hx hb3 hal hst1 HP
                      subst hA3
                      go_upto_region 28 with fail
                      clear x0 x1
                      have hw7 : wr.heap.size < (wr.alloc (.cells #[.bool tb, .int .i64 (tn : Int)] 68)).heap.size := by simp
                      generalize wr.alloc (.cells #[.bool tb, .int .i64 (tn : Int)] 68) = W7 at *
                      generalize wr.heap.size = by8 at *
                      cases tb with
                      | true =>
                        have cBY := BY.cell
                        have fBY := BY.frozen
                        have lBY := BY.lt
                        go_wp2_with fail
                        refine ⟨⟨j + 1, by go_num, by omega, ?_⟩, by simp [intOf]; omega⟩
                        have e1 : folPos (nulK g.rules g.nons) fs (sl, rhs) st0 (j + 1) = st := by rw [folPos_next, ← HSJ.out]; unfold folSym; simp [HJ.out]
                        rw [e1]
                        exact Lib.hid ⟨HM7.out, HRC7.out, HX7.out⟩
                      | false =>
                        have htn : tn < g.nons := by simpa [Gr.okSy] using hoks
                        have t0 : (0 : Int) ≤ (tn : Int) := by omega
                        have t1 : (tn : Int) < (g.nons : Int) := by omega
                        have hlk := HRC7.out.look sl (by omega)
                        have BX := HX7.out
                        cases hrc : st.1 sl with
                        | false =>
                          rw [hrc] at hlk
                          have cBY := BY.cell
                          have fBY := BY.frozen
                          have lBY := BY.lt
                          have cBX := BX.cell
                          have fBX := BX.frozen
                          have lBX := BX.lt
                          go_wp2_with fail
                          refine ⟨⟨j + 1, by go_num, by omega, ?_⟩, by simp [intOf]; omega⟩
                          have e1 : folPos (nulK g.rules g.nons) fs (sl, rhs) st0 (j + 1) = st := by rw [folPos_next, ← HSJ.out]; unfold folSym; simp [HJ.out, hrc]
                          rw [e1]
                          exact Lib.hid ⟨HM7.out, HRC7.out, HX7.out⟩
                        | true =>
                          rw [hrc] at hlk
                          have cBY := BY.cell
                          have fBY := BY.frozen
                          have lBY := BY.lt
                          have cBX := BX.cell
                          have fBX := BX.frozen
                          have lBX := BX.lt
                          go_wp2_with (at_mapUpdate; refine wpList_put_S rfl _ _ _ rfl br _ tn rfl rfl rfl HRC7.out (by omega) ?_)
                          intro W8 hs8 hg8 hz8
                          have HM8 := Lib.hid (HM7.out.other HRC7.out HB1.out HB2.out (by omega) hg8)
                          have HRC8 := Lib.hid hs8
                          have h78 : W7.heap.size ≤ W8.heap.size := hg8.size
                          have HFIN := Lib.hid (show folPos (nulK g.rules g.nons) fs (sl, rhs) st0 (j + 1) = (fun N => st.1 N || N == tn, fun N t => if N = tn then (st.2 tn t || ofB (nulK g.rules g.nons) fs (rhs.drop (j + 1)) t) || (ofE (nulK g.rules g.nons) (rhs.drop (j + 1)) && st.2 sl t) else st.2 N t) by
                            rw [folPos_next, ← HSJ.out]; unfold folSym; simp [HJ.out, hrc])
                          have h78 : W7.heap.size ≤ W8.heap.size := hg8.size
                          have HFIN := Lib.hid (show folPos (nulK g.rules g.nons) fs (sl, rhs) st0 (j + 1) = (fun N => st.1 N || N == tn, fun N t => if N = tn then (st.2 tn t || ofB (nulK g.rules g.nons) fs (rhs.drop (j + 1)) t) || (ofE (nulK g.rules g.nons) (rhs.drop (j + 1)) && st.2 sl t) else st.2 N t) by
                            rw [folPos_next, ← HSJ.out]; unfold folSym; simp [HJ.out, hrc])
                          have h78 : W7.heap.size ≤ W8.heap.size := hg8.size
                          have HFIN := Lib.hid (show folPos (nulK g.rules g.nons) fs (sl, rhs) st0 (j + 1) = (fun N => st.1 N || N == tn, fun N t => if N = tn then (st.2 tn t || ofB (nulK g.rules g.nons) fs (rhs.drop (j + 1)) t) || (ofE (nulK g.rules g.nons) (rhs.drop (j + 1)) && st.2 sl t) else st.2 N t) by
                            rw [folPos_next, ← HSJ.out]; unfold folSym; simp [HJ.out, hrc])
                          have HX8 := Lib.hid (HX7.out.grown hg8 (fun e => by have := Option.some.inj e; omega))
                          have BY7 := Lib.hid (BY.grown hg8 (fun e => by have := Option.some.inj e; omega))
                          clear cBY fBY lBY cBX fBX lBX
                          clear hs8 hg8 hz8 hlk BX BY HM7 HRC7 HX7
                          by_cases hcap : sc = j + 1
                          · have HTL2 := HTL.out
                            rw [if_pos hcap, show sc - (j + 1) = 0 by omega, show rhs.length - (j + 1) = 0 by omega] at HTL2
                            have HTM := Lib.hid HTL2
                            clear HTL HTL2
                            subst hcap
                            have BX := HX8.out
                            have BY := BY7.out
                            have cBX := BX.cell
                            have fBX := BX.frozen
                            have lBX := BX.lt
                            have cBY := BY.cell
                            have fBY := BY.frozen
                            have lBY := BY.lt
                            go_wp2_with fail
                            clear cBX fBX lBX cBY fBY lBY
                            clear BX BY
                            refine (begins_c ok (some ⟨b3, o3, none⟩) 0 0 (rhs.drop (j + 1)) bn g.nons g.nons (nulK g.rules g.nons) A1 c1 b1 fs W8 (HTM.out.via HM8.out.bel) (by omega) HDL.out HM8.out.nul HM8.out.one).mono ?_
                            rintro e w9 ⟨bm, rfl, hbm, hlo9, hb9⟩
                            have HBM := Lib.hid hbm
                            have HM9 := Lib.hid (HM8.out.via hb9)
                            have HR9 := Lib.hid (HRC8.out.via hb9)
                            have HX9 := Lib.hid (HX8.out.via hb9)
                            have HY9 := Lib.hid (BY7.out.via hb9)
                            have HOL := Lib.hid HM8.out.olds
                            have h89 : W8.heap.size ≤ w9.heap.size := hb9.size
                            have hbm9 : bm < w9.heap.size := hbm.lt
                            clear hbm hb9 HM8 HRC8 HX8 BY7
                            obtain ⟨B, hB⟩ : ∃ B, B = ofB (nulK g.rules g.nons) fs (rhs.drop (j + 1)) := ⟨_, rfl⟩
                            rw [← hB] at HBM HFIN
                            clear hB
                            go_wp2_with (at_range; refine wpList_range_S rfl _ rfl bm _ rfl HBM.out ?_)
                            intro w10 cnt0 hrg0 hb10 hz10
                            go_wp2_with fail
                            have HRG := Lib.hid hrg0
                            have HM10 := Lib.hid (HM9.out.via hb10)
                            have HR10 := Lib.hid (HR9.out.via hb10)
                            have HX10 := Lib.hid (HX9.out.via hb10)
                            have HY10 := Lib.hid (HY9.out.via hb10)
                            clear hrg0 hb10 HM9 HR9 HX9 HY9 HBM hz10
                            go_loopw [17] (fun _ wr => ∃ (left : Nat → Bool) (cnt : Nat), Hid (RngS wr w9.heap.size bm left cnt ∧ (∀ t, left t = true → B t = true) ∧ SeR w g (some ⟨bb1, o1, none⟩) ng cg bn A1 (some ⟨mb, mo, none⟩) b1 b2 fs (fun N t => if N = tn then st.2 tn t || (B t && !left t) else st.2 N t) wr ∧ SetM wr br (fun N => st.1 N || N == tn) ∧ Blk wr bR 58 #[.int .i64 (sl : Int), .slice (some ⟨b3, o3, none⟩) rhs.length (j + 1)] ∧ Blk wr by8 68 #[.bool false, .int .i64 (tn : Int)])) (fun _ wr => World.rngLeft wr w9.heap.size)
                            case atStart => exact ⟨_, _, Lib.hid ⟨HRG.out, fun _ h => h, HM10.out.ext (fun _ _ _ => rfl) (fun N _ t => by by_cases e : N = tn <;> simp [e]), HR10.out, HX10.out, HY10.out⟩⟩
                            case round =>
                              obtain ⟨left, cnt, HV⟩ := hrel
                              clear HRG HM10 HR10 HX10 HY10
                              have hold := HOL.out
                              go_wp2_with (at_next; refine wpList_next_S rfl _ rfl w9.heap.size bm left cnt rfl HV.out.1 (by omega) ?_ ?_)
                              · intro hd
                                have HE := Lib.hid (HV.out.2.2.1.ext (fs' := fs) (fo' := fun N t => if N = tn then st.2 tn t || B t else st.2 N t) (fun _ _ _ => rfl) (fun N _ t => by by_cases e : N = tn <;> simp [e, hd t]))
                                have HRE := Lib.hid HV.out.2.2.2.1
                                have HXE := Lib.hid HV.out.2.2.2.2.1
                                have HYE := Lib.hid HV.out.2.2.2.2.2
                                clear HV hd hold
                                cases hall : ofE (nulK g.rules g.nons) (rhs.drop (j + 1)) with
                                | false =>
                                  rw [hall] at HFIN
                                  go_wp2_with fail
                                  refine ⟨⟨j + 1, by go_num, by omega, ?_⟩, by simp [intOf]; omega⟩
                                  rw [HFIN.out]
                                  exact Lib.hid ⟨HE.out.ext (fun _ _ _ => rfl) (fun N _ t => by by_cases e : N = tn <;> simp [e]), HRE.out, HXE.out⟩
                                | true =>
                                  rw [hall] at HFIN
                                  have hol2 := HE.out.olds
                                  have HOL2 := Lib.hid hol2
                                  have hR2 := HRE.out.lt
                                  have hX2 := HXE.out.lt
                                  have hY2 := HYE.out.lt
                                  have hb2s := hol2.2.2.2.2.2 sl hsl
                                  have hb2t := hol2.2.2.2.2.2 tn htn
                                  have s0 : (0 : Int) ≤ (sl : Int) := by omega
                                  have s1 : (sl : Int) < (g.nons : Int) := by omega
                                  obtain ⟨mb', mo', hmA, hmb, hmc⟩ := HE.out.fol.row
                                  cases hmA
                                  have cm := hmc sl hsl
                                  clear hol2 hmb hmc
                                  by_cases hts : tn = sl
                                  · subst hts
                                    have HSE := Lib.hid ((HE.out.fol.set tn htn).ext (g := fun t => st.2 tn t || B t) fun t => by simp)
                                    have BX := HXE.out
                                    have cBX := BX.cell
                                    have fBX := BX.frozen
                                    have lBX := BX.lt
                                    go_wp2_with (at_range; refine wpList_range_S rfl _ rfl (b2 tn) _ rfl HSE.out ?_)
                                    intro w13 cnt2 hrg2 hb13 hz13
                                    clear cBX fBX lBX
                                    clear BX cm
                                    go_wp2_with fail
                                    have HRG := Lib.hid hrg2
                                    have HM13 := Lib.hid (HE.out.via hb13)
                                    have HR13 := Lib.hid (HRE.out.via hb13)
                                    have HX13 := Lib.hid (HXE.out.via hb13)
                                    have HY13 := Lib.hid (HYE.out.via hb13)
                                    clear hrg2 hb13 hz13 HE HRE HXE HYE HSE
                                    generalize wr.heap.size = ir at *
                                    go_loopw [18] (fun _ wy => ∃ (left : Nat → Bool) (cnt : Nat), Hid (RngS wy ir (b2 tn) left cnt ∧ (∀ t, left t = true → (st.2 tn t || B t) = true) ∧ SeR w g (some ⟨bb1, o1, none⟩) ng cg bn A1 (some ⟨mb, mo, none⟩) b1 b2 fs (fun N t => if N = tn then st.2 tn t || B t else st.2 N t) wy ∧ SetM wy br (fun N => st.1 N || N == tn) ∧ Blk wy bR 58 #[.int .i64 (tn : Int), .slice (some ⟨b3, o3, none⟩) rhs.length (j + 1)] ∧ Blk wy by8 68 #[.bool false, .int .i64 (tn : Int)])) (fun _ wy => World.rngLeft wy ir)
                                    case atStart => exact ⟨_, _, Lib.hid ⟨HRG.out, fun _ h => h, HM13.out, HR13.out, HX13.out, HY13.out⟩⟩
                                    case round =>
                                      obtain ⟨left, cnt, HV⟩ := hrel
                                      clear HRG HM13 HR13 HX13 HY13
                                      have hold := HOL2.out
                                      go_wp2_with (at_next; refine wpList_next_S rfl _ rfl ir (b2 tn) left cnt rfl HV.out.1 (by omega) ?_ ?_)
                                      · intro hd
                                        have HVE := Lib.hid HV.out.2.2
                                        clear HV hd hold
                                        go_wp2_with fail
                                        refine ⟨⟨j + 1, by go_num, by omega, ?_⟩, by simp [intOf]; omega⟩
                                        rw [HFIN.out]
                                        exact Lib.hid ⟨HVE.out.1.ext (fun _ _ _ => rfl) (fun N _ t => by
                                          by_cases e : N = tn
                                          · simp only [if_pos e]; cases st.2 tn t <;> cases B t <;> rfl
                                          · simp only [if_neg e]), HVE.out.2.1, HVE.out.2.2.1⟩
                                      · intro t w11 cnt1 hlt1 ht1 hrg1 hlt2 hg1 hz1 hen
                                        obtain ⟨g1, g2, g3, g4, g5, g6⟩ := hold
                                        have hQ7 := HV.out.2.2.1.iter (r := ir) (Nat.le_refl _) (fun _ => ⟨g1, g2, g3, g4, g5, g6⟩) hg1
                                        have hRE := HV.out.2.2.2.1.grown hg1 (fun e => by have := Option.some.inj e; omega)
                                        have BX7 := HV.out.2.2.2.2.1.grown hg1 (fun e => by have := Option.some.inj e; omega)
                                        have BY7 := HV.out.2.2.2.2.2.grown hg1 (fun e => by have := Option.some.inj e; omega)
                                        have hset := (hQ7.fol.set tn htn).ext (g := fun t => st.2 tn t || B t) fun t => by simp
                                        obtain ⟨mb', mo', hmA, hmb, hmc⟩ := hQ7.fol.row
                                        cases hmA
                                        have cm := hmc tn htn
                                        have hag := hset.again t (HV.out.2.1 t hlt1)
                                        have e0 := HV.out.1.left_eq
                                        have e1 := hrg1.left_eq
                                        have HV8 := Lib.hid (show RngS w11 ir (b2 tn) (fun k => left k && k != t) cnt1 ∧ (∀ z, (left z && z != t) = true → (st.2 tn z || B z) = true) ∧ SeR w g (some ⟨bb1, o1, none⟩) ng cg bn A1 (some ⟨mb, mo, none⟩) b1 b2 fs (fun N t => if N = tn then st.2 tn t || B t else st.2 N t) w11 ∧ SetM w11 br (fun N => st.1 N || N == tn) ∧ Blk w11 bR 58 #[.int .i64 (tn : Int), .slice (some ⟨b3, o3, none⟩) rhs.length (j + 1)] ∧ Blk w11 by8 68 #[.bool false, .int .i64 (tn : Int)] from
                                          ⟨hrg1, fun z hz => HV.out.2.1 z (by simp only [Bool.and_eq_true] at hz; exact hz.1), hQ7, hRE, BX7, BY7⟩)
                                        clear hQ7 hset hmc hmb g3 g4 hRE BX7 hrg1 hg1 g1 g2 g5 g6
                                        have cBY7 := BY7.cell
                                        have fBY7 := BY7.frozen
                                        have lBY7 := BY7.lt
                                        go_wp2_with fail
                                        exact ⟨⟨_, _, HV8⟩, by rw [e0, e1]; exact hlt2⟩
                                  · have HSE := Lib.hid ((HE.out.fol.set sl hsl).ext (g := fun t => st.2 sl t) fun t => by have : ¬ sl = tn := fun e => hts e.symm; simp [this])
                                    have hne2 : b2 sl ≠ b2 tn := fun e => hts (HE.out.i2 sl tn hsl htn e).symm
                                    have BX := HXE.out
                                    have cBX := BX.cell
                                    have fBX := BX.frozen
                                    have lBX := BX.lt
                                    go_wp2_with (at_range; refine wpList_range_S rfl _ rfl (b2 sl) _ rfl HSE.out ?_)
                                    intro w13 cnt2 hrg2 hb13 hz13
                                    clear cBX fBX lBX
                                    clear BX cm
                                    go_wp2_with fail
                                    have HRG := Lib.hid hrg2
                                    have HM13 := Lib.hid (HE.out.via hb13)
                                    have HR13 := Lib.hid (HRE.out.via hb13)
                                    have HX13 := Lib.hid (HXE.out.via hb13)
                                    have HY13 := Lib.hid (HYE.out.via hb13)
                                    clear hrg2 hb13 hz13 HE HRE HXE HYE HSE
                                    generalize wr.heap.size = ir at *
                                    go_loopw [18] (fun _ wy => ∃ (left : Nat → Bool) (cnt : Nat), Hid (RngS wy ir (b2 sl) left cnt ∧ (∀ t, left t = true → st.2 sl t = true) ∧ SeR w g (some ⟨bb1, o1, none⟩) ng cg bn A1 (some ⟨mb, mo, none⟩) b1 b2 fs (fun N t => if N = tn then (st.2 tn t || B t) || (st.2 sl t && !left t) else st.2 N t) wy ∧ SetM wy br (fun N => st.1 N || N == tn) ∧ Blk wy bR 58 #[.int .i64 (sl : Int), .slice (some ⟨b3, o3, none⟩) rhs.length (j + 1)] ∧ Blk wy by8 68 #[.bool false, .int .i64 (tn : Int)])) (fun _ wy => World.rngLeft wy ir)
                                    case atStart => exact ⟨_, _, Lib.hid ⟨HRG.out, fun _ h => h, HM13.out.ext (fun _ _ _ => rfl) (fun N _ t => by by_cases e : N = tn <;> simp [e]), HR13.out, HX13.out, HY13.out⟩⟩
                                    case round =>
                                      obtain ⟨left, cnt, HV⟩ := hrel
                                      clear HRG HM13 HR13 HX13 HY13
                                      have hold := HOL2.out
                                      go_wp2_with (at_next; refine wpList_next_S rfl _ rfl ir (b2 sl) left cnt rfl HV.out.1 (by omega) ?_ ?_)
                                      · intro hd
                                        have HVE := Lib.hid (And.intro (HV.out.2.2.1.ext (fs' := fs) (fo' := fun N t => if N = tn then (st.2 tn t || B t) || (true && st.2 sl t) else st.2 N t) (fun _ _ _ => rfl) (fun N _ t => by by_cases e : N = tn <;> simp [e, hd t])) HV.out.2.2.2)
                                        clear HV hd hold
                                        go_wp2_with fail
                                        refine ⟨⟨j + 1, by go_num, by omega, ?_⟩, by simp [intOf]; omega⟩
                                        rw [HFIN.out]
                                        exact Lib.hid ⟨HVE.out.1, HVE.out.2.1, HVE.out.2.2.1⟩
                                      · intro t w11 cnt1 hlt1 ht1 hrg1 hlt2 hg1 hz1 hen
                                        obtain ⟨g1, g2, g3, g4, g5, g6⟩ := hold
                                        have hQ7 := HV.out.2.2.1.iter (r := ir) (Nat.le_refl _) (fun _ => ⟨g1, g2, g3, g4, g5, g6⟩) hg1
                                        have hRE := HV.out.2.2.2.1.grown hg1 (fun e => by have := Option.some.inj e; omega)
                                        have BX7 := HV.out.2.2.2.2.1.grown hg1 (fun e => by have := Option.some.inj e; omega)
                                        have BY7 := HV.out.2.2.2.2.2.grown hg1 (fun e => by have := Option.some.inj e; omega)
                                        have hset := (hQ7.fol.set tn htn).ext (g := fun t => (st.2 tn t || B t) || (st.2 sl t && !left t)) fun t => by simp
                                        obtain ⟨mb', mo', hmA, hmb, hmc⟩ := hQ7.fol.row
                                        cases hmA
                                        have cm := hmc tn htn
                                        have HQ7 := Lib.hid hQ7
                                        have HSE := Lib.hid hset
                                        have HRR := Lib.hid hRE
                                        have HBX := Lib.hid BX7
                                        clear hQ7 hset hmc hmb g3 g4 hRE BX7
                                        have cBY7 := BY7.cell
                                        have fBY7 := BY7.frozen
                                        have lBY7 := BY7.lt
                                        go_wp2_with (at_mapUpdate; refine wpList_put_S rfl _ _ _ rfl (b2 tn) _ t rfl rfl rfl HSE.out ht1 ?_)
                                        intro w12 hs8 hg8 hz8
                                        have hrg8 := hrg1.grown hg8 (by intro e; have := Option.some.inj e; omega) (by intro e; exact hne2 (Option.some.inj e))
                                        have e0 := HV.out.1.left_eq
                                        have e1 := hrg8.left_eq
                                        have HV8 := Lib.hid (show RngS w12 ir (b2 sl) (fun k => left k && k != t) cnt1 ∧ (∀ z, (left z && z != t) = true → st.2 sl z = true) ∧ SeR w g (some ⟨bb1, o1, none⟩) ng cg bn A1 (some ⟨mb, mo, none⟩) b1 b2 fs (fun N z => if N = tn then (st.2 tn z || B z) || (st.2 sl z && !(left z && z != t)) else st.2 N z) w12 ∧ SetM w12 br (fun N => st.1 N || N == tn) ∧ Blk w12 bR 58 #[.int .i64 (sl : Int), .slice (some ⟨b3, o3, none⟩) rhs.length (j + 1)] ∧ Blk w12 by8 68 #[.bool false, .int .i64 (tn : Int)] from by
                                          refine ⟨hrg8, fun z hz => HV.out.2.1 z (by simp only [Bool.and_eq_true] at hz; exact hz.1), (HQ7.out.putO htn hs8 hg8).ext (fun _ _ _ => rfl) (fun N _ z => ?_), HRR.out.grown hg8 (fun e => HB2.out tn htn (Option.some.inj e).symm), HBX.out.grown hg8 (fun e => HSE.out.ne_blk HBX.out (Option.some.inj e)), BY7.grown hg8 (fun e => HSE.out.ne_blk BY7 (Option.some.inj e))⟩
                                          by_cases e : N = tn
                                          · subst e
                                            simp only [if_true]
                                            by_cases e2 : z = t
                                            · subst e2
                                              have := HV.out.2.1 z hlt1
                                              simp [this]
                                            · have e3 : (z == t) = false := by simpa using e2
                                              have e4 : (z != t) = true := by simpa using e2
                                              simp [e3, e4]
                                          · simp [e])
                                        clear hs8 hg8 hrg8 hrg1 hg1 BY7 g1 g2 g5 g6
                                        go_wp2_with fail
                                        exact ⟨⟨_, _, HV8⟩, by rw [e0, e1]; exact hlt2⟩
                              · intro t w11 cnt1 hlt1 ht1 hrg1 hlt2 hg1 hz1 hen
                                obtain ⟨g1, g2, g3, g4, g5, g6⟩ := hold
                                have hQ7 := HV.out.2.2.1.iter (r := w9.heap.size) (Nat.le_refl _) (fun _ => ⟨by omega, by omega, fun ad e => by have := g3 ad e; omega, fun ad e => by have := g4 ad e; omega, fun j hj => by have := g5 j hj; omega, fun j hj => by have := g6 j hj; omega⟩) hg1
                                have hRE := HV.out.2.2.2.1.grown hg1 (fun e => by have := Option.some.inj e; omega)
                                have BX7 := HV.out.2.2.2.2.1.grown hg1 (fun e => by have := Option.some.inj e; omega)
                                have BY7 := HV.out.2.2.2.2.2.grown hg1 (fun e => by have := Option.some.inj e; omega)
                                have hset := hQ7.fol.set tn htn
                                simp only [if_true] at hset
                                obtain ⟨mb', mo', hmA, hmb, hmc⟩ := hQ7.fol.row
                                cases hmA
                                have cm := hmc tn htn
                                have HQ7 := Lib.hid hQ7
                                have HSE := Lib.hid hset
                                have HRR := Lib.hid hRE
                                have HBX := Lib.hid BX7
                                clear hQ7 hset hmc hmb g3 g4 hRE BX7
                                have cBY7 := BY7.cell
                                have fBY7 := BY7.frozen
                                have lBY7 := BY7.lt
                                go_wp2_with (at_mapUpdate; refine wpList_put_S rfl _ _ _ rfl (b2 tn) _ t rfl rfl rfl HSE.out ht1 ?_)
                                intro w12 hs8 hg8 hz8
                                have hb1s := g6 tn htn
                                have hrg8 := hrg1.grown hg8 (by intro e; have := Option.some.inj e; omega) (by intro e; have := Option.some.inj e; omega)
                                have e0 := HV.out.1.left_eq
                                have e1 := hrg8.left_eq
                                have HV8 := Lib.hid (show RngS w12 w9.heap.size bm (fun k => left k && k != t) cnt1 ∧ (∀ z, (left z && z != t) = true → B z = true) ∧ SeR w g (some ⟨bb1, o1, none⟩) ng cg bn A1 (some ⟨mb, mo, none⟩) b1 b2 fs (fun N z => if N = tn then st.2 tn z || (B z && !(left z && z != t)) else st.2 N z) w12 ∧ SetM w12 br (fun N => st.1 N || N == tn) ∧ Blk w12 bR 58 #[.int .i64 (sl : Int), .slice (some ⟨b3, o3, none⟩) rhs.length (j + 1)] ∧ Blk w12 by8 68 #[.bool false, .int .i64 (tn : Int)] from by
                                  refine ⟨hrg8, fun z hz => HV.out.2.1 z (by simp only [Bool.and_eq_true] at hz; exact hz.1), (HQ7.out.putO htn hs8 hg8).ext (fun _ _ _ => rfl) (fun N _ z => ?_), HRR.out.grown hg8 (fun e => HB2.out tn htn (Option.some.inj e).symm), HBX.out.grown hg8 (fun e => HSE.out.ne_blk HBX.out (Option.some.inj e)), BY7.grown hg8 (fun e => HSE.out.ne_blk BY7 (Option.some.inj e))⟩
                                  by_cases e : N = tn
                                  · subst e
                                    simp only [if_true]
                                    by_cases e2 : z = t
                                    · subst e2
                                      have := HV.out.2.1 z hlt1
                                      simp [this]
                                    · have e3 : (z == t) = false := by simpa using e2
                                      have e4 : (z != t) = true := by simpa using e2
                                      simp [e3, e4]
                                  · simp [e])
                                clear hs8 hg8 hrg8 hrg1 hg1 BY7 g1 g2 g5 g6
                                go_wp2_with fail
                                exact ⟨⟨_, _, HV8⟩, by rw [e0, e1]; exact hlt2⟩
                          · have HTL2 := HTL.out
                            rw [if_neg hcap] at HTL2
                            simp only [Option.map_some, Addr.add_lit, SyE] at HTL2
                            have HTM := Lib.hid HTL2
                            clear HTL HTL2
                            have BX := HX8.out
                            have BY := BY7.out
                            have cBX := BX.cell
                            have fBX := BX.frozen
                            have lBX := BX.lt
                            have cBY := BY.cell
                            have fBY := BY.frozen
                            have lBY := BY.lt
                            go_wp2_with fail
                            clear cBX fBX lBX cBY fBY lBY
                            clear BX BY
                            refine (begins_c ok (some ⟨b3, o3 + (j + 1) * 2, none⟩) (rhs.length - (j + 1)) (sc - (j + 1)) (rhs.drop (j + 1)) bn g.nons g.nons (nulK g.rules g.nons) A1 c1 b1 fs W8 (HTM.out.via HM8.out.bel) (by omega) HDL.out HM8.out.nul HM8.out.one).mono ?_
                            rintro e w9 ⟨bm, rfl, hbm, hlo9, hb9⟩
                            have HBM := Lib.hid hbm
                            have HM9 := Lib.hid (HM8.out.via hb9)
                            have HR9 := Lib.hid (HRC8.out.via hb9)
                            have HX9 := Lib.hid (HX8.out.via hb9)
                            have HY9 := Lib.hid (BY7.out.via hb9)
                            have HOL := Lib.hid HM8.out.olds
                            have h89 : W8.heap.size ≤ w9.heap.size := hb9.size
                            have hbm9 : bm < w9.heap.size := hbm.lt
                            clear hbm hb9 HM8 HRC8 HX8 BY7
                            obtain ⟨B, hB⟩ : ∃ B, B = ofB (nulK g.rules g.nons) fs (rhs.drop (j + 1)) := ⟨_, rfl⟩
                            rw [← hB] at HBM HFIN
                            clear hB
                            go_wp2_with (at_range; refine wpList_range_S rfl _ rfl bm _ rfl HBM.out ?_)
                            intro w10 cnt0 hrg0 hb10 hz10
                            go_wp2_with fail
                            have HRG := Lib.hid hrg0
                            have HM10 := Lib.hid (HM9.out.via hb10)
                            have HR10 := Lib.hid (HR9.out.via hb10)
                            have HX10 := Lib.hid (HX9.out.via hb10)
                            have HY10 := Lib.hid (HY9.out.via hb10)
                            clear hrg0 hb10 HM9 HR9 HX9 HY9 HBM hz10
                            go_loopw [17] (fun _ wr => ∃ (left : Nat → Bool) (cnt : Nat), Hid (RngS wr w9.heap.size bm left cnt ∧ (∀ t, left t = true → B t = true) ∧ SeR w g (some ⟨bb1, o1, none⟩) ng cg bn A1 (some ⟨mb, mo, none⟩) b1 b2 fs (fun N t => if N = tn then st.2 tn t || (B t && !left t) else st.2 N t) wr ∧ SetM wr br (fun N => st.1 N || N == tn) ∧ Blk wr bR 58 #[.int .i64 (sl : Int), .slice (some ⟨b3, o3, none⟩) rhs.length sc] ∧ Blk wr by8 68 #[.bool false, .int .i64 (tn : Int)])) (fun _ wr => World.rngLeft wr w9.heap.size)
                            case atStart => exact ⟨_, _, Lib.hid ⟨HRG.out, fun _ h => h, HM10.out.ext (fun _ _ _ => rfl) (fun N _ t => by by_cases e : N = tn <;> simp [e]), HR10.out, HX10.out, HY10.out⟩⟩
                            case round =>
                              obtain ⟨left, cnt, HV⟩ := hrel
                              clear HRG HM10 HR10 HX10 HY10
                              have hold := HOL.out
                              go_wp2_with (at_next; refine wpList_next_S rfl _ rfl w9.heap.size bm left cnt rfl HV.out.1 (by omega) ?_ ?_)
                              · intro hd
                                have HE := Lib.hid (HV.out.2.2.1.ext (fs' := fs) (fo' := fun N t => if N = tn then st.2 tn t || B t else st.2 N t) (fun _ _ _ => rfl) (fun N _ t => by by_cases e : N = tn <;> simp [e, hd t]))
                                have HRE := Lib.hid HV.out.2.2.2.1
                                have HXE := Lib.hid HV.out.2.2.2.2.1
                                have HYE := Lib.hid HV.out.2.2.2.2.2
                                clear HV hd hold
                                cases hall : ofE (nulK g.rules g.nons) (rhs.drop (j + 1)) with
                                | false =>
                                  rw [hall] at HFIN
                                  go_wp2_with fail
                                  refine ⟨⟨j + 1, by go_num, by omega, ?_⟩, by simp [intOf]; omega⟩
                                  rw [HFIN.out]
                                  exact Lib.hid ⟨HE.out.ext (fun _ _ _ => rfl) (fun N _ t => by by_cases e : N = tn <;> simp [e]), HRE.out, HXE.out⟩
                                | true =>
                                  rw [hall] at HFIN
                                  have hol2 := HE.out.olds
                                  have HOL2 := Lib.hid hol2
                                  have hR2 := HRE.out.lt
                                  have hX2 := HXE.out.lt
                                  have hY2 := HYE.out.lt
                                  have hb2s := hol2.2.2.2.2.2 sl hsl
                                  have hb2t := hol2.2.2.2.2.2 tn htn
                                  have s0 : (0 : Int) ≤ (sl : Int) := by omega
                                  have s1 : (sl : Int) < (g.nons : Int) := by omega
                                  obtain ⟨mb', mo', hmA, hmb, hmc⟩ := HE.out.fol.row
                                  cases hmA
                                  have cm := hmc sl hsl
                                  clear hol2 hmb hmc
                                  by_cases hts : tn = sl
                                  · subst hts
                                    have HSE := Lib.hid ((HE.out.fol.set tn htn).ext (g := fun t => st.2 tn t || B t) fun t => by simp)
                                    have BX := HXE.out
                                    have cBX := BX.cell
                                    have fBX := BX.frozen
                                    have lBX := BX.lt
                                    go_wp2_with (at_range; refine wpList_range_S rfl _ rfl (b2 tn) _ rfl HSE.out ?_)
                                    intro w13 cnt2 hrg2 hb13 hz13
                                    clear cBX fBX lBX
                                    clear BX cm
                                    go_wp2_with fail
                                    have HRG := Lib.hid hrg2
                                    have HM13 := Lib.hid (HE.out.via hb13)
                                    have HR13 := Lib.hid (HRE.out.via hb13)
                                    have HX13 := Lib.hid (HXE.out.via hb13)
                                    have HY13 := Lib.hid (HYE.out.via hb13)
                                    clear hrg2 hb13 hz13 HE HRE HXE HYE HSE
                                    generalize wr.heap.size = ir at *
                                    go_loopw [18] (fun _ wy => ∃ (left : Nat → Bool) (cnt : Nat), Hid (RngS wy ir (b2 tn) left cnt ∧ (∀ t, left t = true → (st.2 tn t || B t) = true) ∧ SeR w g (some ⟨bb1, o1, none⟩) ng cg bn A1 (some ⟨mb, mo, none⟩) b1 b2 fs (fun N t => if N = tn then st.2 tn t || B t else st.2 N t) wy ∧ SetM wy br (fun N => st.1 N || N == tn) ∧ Blk wy bR 58 #[.int .i64 (tn : Int), .slice (some ⟨b3, o3, none⟩) rhs.length sc] ∧ Blk wy by8 68 #[.bool false, .int .i64 (tn : Int)])) (fun _ wy => World.rngLeft wy ir)
                                    case atStart => exact ⟨_, _, Lib.hid ⟨HRG.out, fun _ h => h, HM13.out, HR13.out, HX13.out, HY13.out⟩⟩
                                    case round =>
                                      obtain ⟨left, cnt, HV⟩ := hrel
                                      clear HRG HM13 HR13 HX13 HY13
                                      have hold := HOL2.out
                                      go_wp2_with (at_next; refine wpList_next_S rfl _ rfl ir (b2 tn) left cnt rfl HV.out.1 (by omega) ?_ ?_)
                                      · intro hd
                                        have HVE := Lib.hid HV.out.2.2
                                        clear HV hd hold
                                        go_wp2_with fail
                                        refine ⟨⟨j + 1, by go_num, by omega, ?_⟩, by simp [intOf]; omega⟩
                                        rw [HFIN.out]
                                        exact Lib.hid ⟨HVE.out.1.ext (fun _ _ _ => rfl) (fun N _ t => by
                                          by_cases e : N = tn
                                          · simp only [if_pos e]; cases st.2 tn t <;> cases B t <;> rfl
                                          · simp only [if_neg e]), HVE.out.2.1, HVE.out.2.2.1⟩
                                      · intro t w11 cnt1 hlt1 ht1 hrg1 hlt2 hg1 hz1 hen
                                        obtain ⟨g1, g2, g3, g4, g5, g6⟩ := hold
                                        have hQ7 := HV.out.2.2.1.iter (r := ir) (Nat.le_refl _) (fun _ => ⟨g1, g2, g3, g4, g5, g6⟩) hg1
                                        have hRE := HV.out.2.2.2.1.grown hg1 (fun e => by have := Option.some.inj e; omega)
                                        have BX7 := HV.out.2.2.2.2.1.grown hg1 (fun e => by have := Option.some.inj e; omega)
                                        have BY7 := HV.out.2.2.2.2.2.grown hg1 (fun e => by have := Option.some.inj e; omega)
                                        have hset := (hQ7.fol.set tn htn).ext (g := fun t => st.2 tn t || B t) fun t => by simp
                                        obtain ⟨mb', mo', hmA, hmb, hmc⟩ := hQ7.fol.row
                                        cases hmA
                                        have cm := hmc tn htn
                                        have hag := hset.again t (HV.out.2.1 t hlt1)
                                        have e0 := HV.out.1.left_eq
                                        have e1 := hrg1.left_eq
                                        have HV8 := Lib.hid (show RngS w11 ir (b2 tn) (fun k => left k && k != t) cnt1 ∧ (∀ z, (left z && z != t) = true → (st.2 tn z || B z) = true) ∧ SeR w g (some ⟨bb1, o1, none⟩) ng cg bn A1 (some ⟨mb, mo, none⟩) b1 b2 fs (fun N t => if N = tn then st.2 tn t || B t else st.2 N t) w11 ∧ SetM w11 br (fun N => st.1 N || N == tn) ∧ Blk w11 bR 58 #[.int .i64 (tn : Int), .slice (some ⟨b3, o3, none⟩) rhs.length sc] ∧ Blk w11 by8 68 #[.bool false, .int .i64 (tn : Int)] from
                                          ⟨hrg1, fun z hz => HV.out.2.1 z (by simp only [Bool.and_eq_true] at hz; exact hz.1), hQ7, hRE, BX7, BY7⟩)
                                        clear hQ7 hset hmc hmb g3 g4 hRE BX7 hrg1 hg1 g1 g2 g5 g6
                                        have cBY7 := BY7.cell
                                        have fBY7 := BY7.frozen
                                        have lBY7 := BY7.lt
                                        go_wp2_with fail
                                        exact ⟨⟨_, _, HV8⟩, by rw [e0, e1]; exact hlt2⟩
                                  · have HSE := Lib.hid ((HE.out.fol.set sl hsl).ext (g := fun t => st.2 sl t) fun t => by have : ¬ sl = tn := fun e => hts e.symm; simp [this])
                                    have hne2 : b2 sl ≠ b2 tn := fun e => hts (HE.out.i2 sl tn hsl htn e).symm
                                    have BX := HXE.out
                                    have cBX := BX.cell
                                    have fBX := BX.frozen
                                    have lBX := BX.lt
                                    go_wp2_with (at_range; refine wpList_range_S rfl _ rfl (b2 sl) _ rfl HSE.out ?_)
                                    intro w13 cnt2 hrg2 hb13 hz13
                                    clear cBX fBX lBX
                                    clear BX cm
                                    go_wp2_with fail
                                    have HRG := Lib.hid hrg2
                                    have HM13 := Lib.hid (HE.out.via hb13)
                                    have HR13 := Lib.hid (HRE.out.via hb13)
                                    have HX13 := Lib.hid (HXE.out.via hb13)
                                    have HY13 := Lib.hid (HYE.out.via hb13)
                                    clear hrg2 hb13 hz13 HE HRE HXE HYE HSE
                                    generalize wr.heap.size = ir at *
                                    go_loopw [18] (fun _ wy => ∃ (left : Nat → Bool) (cnt : Nat), Hid (RngS wy ir (b2 sl) left cnt ∧ (∀ t, left t = true → st.2 sl t = true) ∧ SeR w g (some ⟨bb1, o1, none⟩) ng cg bn A1 (some ⟨mb, mo, none⟩) b1 b2 fs (fun N t => if N = tn then (st.2 tn t || B t) || (st.2 sl t && !left t) else st.2 N t) wy ∧ SetM wy br (fun N => st.1 N || N == tn) ∧ Blk wy bR 58 #[.int .i64 (sl : Int), .slice (some ⟨b3, o3, none⟩) rhs.length sc] ∧ Blk wy by8 68 #[.bool false, .int .i64 (tn : Int)])) (fun _ wy => World.rngLeft wy ir)
                                    case atStart => exact ⟨_, _, Lib.hid ⟨HRG.out, fun _ h => h, HM13.out.ext (fun _ _ _ => rfl) (fun N _ t => by by_cases e : N = tn <;> simp [e]), HR13.out, HX13.out, HY13.out⟩⟩
                                    case round =>
                                      obtain ⟨left, cnt, HV⟩ := hrel
                                      clear HRG HM13 HR13 HX13 HY13
                                      have hold := HOL2.out
                                      go_wp2_with (at_next; refine wpList_next_S rfl _ rfl ir (b2 sl) left cnt rfl HV.out.1 (by omega) ?_ ?_)
                                      · intro hd
                                        have HVE := Lib.hid (And.intro (HV.out.2.2.1.ext (fs' := fs) (fo' := fun N t => if N = tn then (st.2 tn t || B t) || (true && st.2 sl t) else st.2 N t) (fun _ _ _ => rfl) (fun N _ t => by by_cases e : N = tn <;> simp [e, hd t])) HV.out.2.2.2)
                                        clear HV hd hold
                                        go_wp2_with fail
                                        refine ⟨⟨j + 1, by go_num, by omega, ?_⟩, by simp [intOf]; omega⟩
                                        rw [HFIN.out]
                                        exact Lib.hid ⟨HVE.out.1, HVE.out.2.1, HVE.out.2.2.1⟩
                                      · intro t w11 cnt1 hlt1 ht1 hrg1 hlt2 hg1 hz1 hen
                                        obtain ⟨g1, g2, g3, g4, g5, g6⟩ := hold
                                        have hQ7 := HV.out.2.2.1.iter (r := ir) (Nat.le_refl _) (fun _ => ⟨g1, g2, g3, g4, g5, g6⟩) hg1
                                        have hRE := HV.out.2.2.2.1.grown hg1 (fun e => by have := Option.some.inj e; omega)
                                        have BX7 := HV.out.2.2.2.2.1.grown hg1 (fun e => by have := Option.some.inj e; omega)
                                        have BY7 := HV.out.2.2.2.2.2.grown hg1 (fun e => by have := Option.some.inj e; omega)
                                        have hset := (hQ7.fol.set tn htn).ext (g := fun t => (st.2 tn t || B t) || (st.2 sl t && !left t)) fun t => by simp
                                        obtain ⟨mb', mo', hmA, hmb, hmc⟩ := hQ7.fol.row
                                        cases hmA
                                        have cm := hmc tn htn
                                        have HQ7 := Lib.hid hQ7
                                        have HSE := Lib.hid hset
                                        have HRR := Lib.hid hRE
                                        have HBX := Lib.hid BX7
                                        clear hQ7 hset hmc hmb g3 g4 hRE BX7
                                        have cBY7 := BY7.cell
                                        have fBY7 := BY7.frozen
                                        have lBY7 := BY7.lt
                                        go_wp2_with (at_mapUpdate; refine wpList_put_S rfl _ _ _ rfl (b2 tn) _ t rfl rfl rfl HSE.out ht1 ?_)
                                        intro w12 hs8 hg8 hz8
                                        have hrg8 := hrg1.grown hg8 (by intro e; have := Option.some.inj e; omega) (by intro e; exact hne2 (Option.some.inj e))
                                        have e0 := HV.out.1.left_eq
                                        have e1 := hrg8.left_eq
                                        have HV8 := Lib.hid (show RngS w12 ir (b2 sl) (fun k => left k && k != t) cnt1 ∧ (∀ z, (left z && z != t) = true → st.2 sl z = true) ∧ SeR w g (some ⟨bb1, o1, none⟩) ng cg bn A1 (some ⟨mb, mo, none⟩) b1 b2 fs (fun N z => if N = tn then (st.2 tn z || B z) || (st.2 sl z && !(left z && z != t)) else st.2 N z) w12 ∧ SetM w12 br (fun N => st.1 N || N == tn) ∧ Blk w12 bR 58 #[.int .i64 (sl : Int), .slice (some ⟨b3, o3, none⟩) rhs.length sc] ∧ Blk w12 by8 68 #[.bool false, .int .i64 (tn : Int)] from by
                                          refine ⟨hrg8, fun z hz => HV.out.2.1 z (by simp only [Bool.and_eq_true] at hz; exact hz.1), (HQ7.out.putO htn hs8 hg8).ext (fun _ _ _ => rfl) (fun N _ z => ?_), HRR.out.grown hg8 (fun e => HB2.out tn htn (Option.some.inj e).symm), HBX.out.grown hg8 (fun e => HSE.out.ne_blk HBX.out (Option.some.inj e)), BY7.grown hg8 (fun e => HSE.out.ne_blk BY7 (Option.some.inj e))⟩
                                          by_cases e : N = tn
                                          · subst e
                                            simp only [if_true]
                                            by_cases e2 : z = t
                                            · subst e2
                                              have := HV.out.2.1 z hlt1
                                              simp [this]
                                            · have e3 : (z == t) = false := by simpa using e2
                                              have e4 : (z != t) = true := by simpa using e2
                                              simp [e3, e4]
                                          · simp [e])
                                        clear hs8 hg8 hrg8 hrg1 hg1 BY7 g1 g2 g5 g6
                                        go_wp2_with fail
                                        exact ⟨⟨_, _, HV8⟩, by rw [e0, e1]; exact hlt2⟩
                              · intro t w11 cnt1 hlt1 ht1 hrg1 hlt2 hg1 hz1 hen
                                obtain ⟨g1, g2, g3, g4, g5, g6⟩ := hold
                                have hQ7 := HV.out.2.2.1.iter (r := w9.heap.size) (Nat.le_refl _) (fun _ => ⟨by omega, by omega, fun ad e => by have := g3 ad e; omega, fun ad e => by have := g4 ad e; omega, fun j hj => by have := g5 j hj; omega, fun j hj => by have := g6 j hj; omega⟩) hg1
                                have hRE := HV.out.2.2.2.1.grown hg1 (fun e => by have := Option.some.inj e; omega)
                                have BX7 := HV.out.2.2.2.2.1.grown hg1 (fun e => by have := Option.some.inj e; omega)
                                have BY7 := HV.out.2.2.2.2.2.grown hg1 (fun e => by have := Option.some.inj e; omega)
                                have hset := hQ7.fol.set tn htn
                                simp only [if_true] at hset
                                obtain ⟨mb', mo', hmA, hmb, hmc⟩ := hQ7.fol.row
                                cases hmA
                                have cm := hmc tn htn
                                have HQ7 := Lib.hid hQ7
                                have HSE := Lib.hid hset
                                have HRR := Lib.hid hRE
                                have HBX := Lib.hid BX7
                                clear hQ7 hset hmc hmb g3 g4 hRE BX7
                                have cBY7 := BY7.cell
                                have fBY7 := BY7.frozen
                                have lBY7 := BY7.lt
                                go_wp2_with (at_mapUpdate; refine wpList_put_S rfl _ _ _ rfl (b2 tn) _ t rfl rfl rfl HSE.out ht1 ?_)
                                intro w12 hs8 hg8 hz8
                                have hb1s := g6 tn htn
                                have hrg8 := hrg1.grown hg8 (by intro e; have := Option.some.inj e; omega) (by intro e; have := Option.some.inj e; omega)
                                have e0 := HV.out.1.left_eq
                                have e1 := hrg8.left_eq
                                have HV8 := Lib.hid (show RngS w12 w9.heap.size bm (fun k => left k && k != t) cnt1 ∧ (∀ z, (left z && z != t) = true → B z = true) ∧ SeR w g (some ⟨bb1, o1, none⟩) ng cg bn A1 (some ⟨mb, mo, none⟩) b1 b2 fs (fun N z => if N = tn then st.2 tn z || (B z && !(left z && z != t)) else st.2 N z) w12 ∧ SetM w12 br (fun N => st.1 N || N == tn) ∧ Blk w12 bR 58 #[.int .i64 (sl : Int), .slice (some ⟨b3, o3, none⟩) rhs.length sc] ∧ Blk w12 by8 68 #[.bool false, .int .i64 (tn : Int)] from by
                                  refine ⟨hrg8, fun z hz => HV.out.2.1 z (by simp only [Bool.and_eq_true] at hz; exact hz.1), (HQ7.out.putO htn hs8 hg8).ext (fun _ _ _ => rfl) (fun N _ z => ?_), HRR.out.grown hg8 (fun e => HB2.out tn htn (Option.some.inj e).symm), HBX.out.grown hg8 (fun e => HSE.out.ne_blk HBX.out (Option.some.inj e)), BY7.grown hg8 (fun e => HSE.out.ne_blk BY7 (Option.some.inj e))⟩
                                  by_cases e : N = tn
                                  · subst e
                                    simp only [if_true]
                                    by_cases e2 : z = t
                                    · subst e2
                                      have := HV.out.2.1 z hlt1
                                      simp [this]
                                    · have e3 : (z == t) = false := by simpa using e2
                                      have e4 : (z != t) = true := by simpa using e2
                                      simp [e3, e4]
                                  · simp [e])
                                clear hs8 hg8 hrg8 hrg1 hg1 BY7 g1 g2 g5 g6
                                go_wp2_with fail
                                exact ⟨⟨_, _, HV8⟩, by rw [e0, e1]; exact hlt2⟩
                    · obtain rfl : j = rhs.length := by omega
                      go_wp2_with fail
                      refine ⟨⟨i + 1, by go_num, by omega, ?_⟩, by simp [intOf]; omega⟩
                      rw [folRound_take HY.out, ← HST.out]
                      exact Lib.hid ⟨HP.out.1, HP.out.2.1⟩
                · obtain rfl : i = ng := by omega
                  go_wp2_with fail
                  refine ⟨⟨r + 1, by go_num, by omega, ?_⟩, by simp [intOf]; omega⟩
                  have := HQ.out
                  rw [List.take_of_length_le (by omega)] at this
                  exact Lib.hid this
            · obtain rfl : r = g.nons * 3 := by omega
              go_wp2_with fail
              go_ret2
              have h1 := HR.out.1
              rw [HFS.out] at h1
              exact ⟨A1, some ⟨mb, mo, none⟩, c1, c2, b1, b2, rfl, h1.one, h1.fol, h1.bel⟩
end Go.Proofs.Ythkldiehokblcaa

