/- Texts TI, laid together. -/
import Derived.Test.YtbfcnfgkccgbiaaGreatDoorTE
import Derived.Test.YtbfcnfgkccgbiaaGreatDoorSY
import Derived.Test.YtbfcnfgkccgbiaaGreatDoorRG





namespace Go.Proofs.YtbfcnfgkccgbiaaGreatDoor
open Go.RowKit

def u32V (l : List Nat) : Array Value := (l.map fun b : Nat => Value.int .u32 (b : Int)).toArray
theorem u32V_set (l : List Nat) (i b : Nat) : (u32V l).setIfInBounds i (.int .u32 (b : Int)) = u32V (l.set i b) := by
  simp [u32V, List.map_set]
theorem mkCells_u (n : Nat) : mkCells (.int .u32 0) n = u32V (List.replicate n 0) := by
  unfold mkCells; rw [made_one]; simp [u32V]
theorem u32V_get {l : List Nat} {i b : Nat} (h : l[i]? = some b) : (u32V l)[i]? = some (.int .u32 (b : Int)) := by
  simp [u32V, h]
theorem flat_u3 : ∀ bs : List Nat, flat U3E bs = bs.map fun b : Nat => Value.int .u32 (b : Int)
  | [] => rfl
  | a :: l => by
    have ih := flat_u3 l
    unfold flat at ih ⊢
    rw [List.flatMap_cons, ih]; rfl
theorem Blk.slU {ok : Nat → Prop} {w : World} {b : Nat} {t : TypeId} {n : Nat} {bs : List Nat} (h : Blk w b t (u32V bs)) (hn : bs.length = n) (hb : ok b) (h32 : ∀ x ∈ bs, x < 4294967296) : Sl U3E ok w (some ⟨b, 0, none⟩) n n bs := by
  refine ⟨hn, Nat.le_refl _, bs, hn, fun _ => ⟨b, 0, rfl, hb, fun j u hu => ?_⟩, fun i r x hr hx => ⟨Option.some.inj (hr.symm.trans hx), h32 r (List.mem_of_getElem? hr)⟩⟩
  rw [Nat.zero_add, h.cell j]
  rw [flat_u3] at hu
  simpa [u32V] using hu
theorem wpList_append_ur {ops : Array Oper} {rest : List Oper} {o : Oper} {a : Act} {Q : Exit → Act → World → Prop} (w : World) (hgd : o.guard = none) (s y : Operand)
    (ho : o.op = .call { callee := .builtin .append, args := #[s, y], argTypes := #[56, 56] })
    (ok : Nat → Prop) (base : Nat) (v : Value) (n : Nat) (l : List (List Nat)) (hv : a.eval s = v) (hown : Own UrE 57 ok w base v n l)
    (b : Nat) (x : SlV) (xs : List Nat) (hy : a.eval y = .slice (some ⟨b, 0, none⟩) 1 1) (hcell : w.cell? ⟨b, 0, none⟩ = some (.slice x.1 x.2.1 x.2.2)) (hrel : Sl U3E (fun b => ok b ∧ some b ≠ v.ownBlock) w x.1 x.2.1 x.2.2 xs)
    (h63 : n + 1 ≤ 1000000) (hbase : base ≤ w.heap.size)
    (h : ∀ A' c' w', Own UrE 57 ok w' base (.slice A' (n + 1) c') (n + 1) (l ++ [xs]) → w.grownBy w' v.ownBlock → ((Value.slice A' (n + 1) c').ownBlock = v.ownBlock ∨ (Value.slice A' (n + 1) c').ownBlock = some w.heap.size) → wpList Tryz.prog ops Q rest (a.put o.dst (.slice A' (n + 1) c')) w') : wpList Tryz.prog ops Q (o :: rest) a w := by
  obtain ⟨i, hi, hz⟩ := Option.map_eq_some_iff.1 u32s_info
  simp only [Prod.mk.injEq] at hz
  refine wpList_append_E (E := UrE) w hgd s y 56 57 ho i (.slice none 0 0) 24 (by kernel_rfl) hi hz.1 hz.2.1 hz.2.2 rfl ok base v n l hv hown b x xs hy (fun j u hu => ?_) hrel (by simp [maxLen]; omega) (by omega) hbase h
  cases j with
  | zero => simp [UrE] at hu; subst hu; exact hcell
  | succ j => simp [UrE] at hu
theorem end_arith (x : Int) (wn m : Nat) (hw : wn ≤ 12) : ∃ P y z v : Nat, (1 : Int) ≤ (P : Int) ∧ (P : Int) ≤ 1000000000000 ∧ wrap64 ((2 : Int) ^ (wn + 1)) = (P : Int) ∧ IntKind.i64.wrap ((2 : Int) ^ (wn + 1)) = (P : Int) ∧ belowI x (P : Int) = (y : Int) ∧ (y : Int) % 4294967296 = (y : Int) ∧ (y : Int) / 2 ^ m = (z : Int) ∧ ((z : Int) * 2 ^ m) % 4294967296 = (v : Int) ∧ v < 4294967296 := by
  have hP1 : 1 ≤ 2 ^ (wn + 1) := Nat.one_le_two_pow
  have hP2 : 2 ^ (wn + 1) ≤ 8192 := Nat.pow_le_pow_right (n := 2) (by omega) (by omega : wn + 1 ≤ 13)
  have h2 : ((2 ^ (wn + 1) : Nat) : Int) = (2 : Int) ^ (wn + 1) := by simp
  rw [← h2]
  generalize 2 ^ (wn + 1) = P at *
  have b1 := belowI_lo x (P : Int) (by omega)
  have b2 := belowI_hi x (P : Int) (by omega)
  obtain ⟨y, hy⟩ : ∃ y : Nat, belowI x (P : Int) = (y : Int) := ⟨(belowI x (P : Int)).toNat, by omega⟩
  refine ⟨P, y, y / 2 ^ m, (y / 2 ^ m * 2 ^ m) % 4294967296, by omega, by omega, IntWalk.wrap64_in (P : Int) (by omega), IntWalk.i64_in (P : Int) (by omega), hy, by omega, by simp, by simp, Nat.mod_lt _ (by omega)⟩
set_option maxRecDepth 100000 in
set_option maxHeartbeats 8000000 in
theorem forestBuilds_walk (ok : Nat → Prop) (T0 N0 S0 : Int) (A0 : Option Addr) (n0 c0 : Nat) (rs0 : List Ri) (wA0 : Option Addr) (wn0 wc0 : Nat) (xs0 : List Int) (lA : Option Addr) (ln lc : Nat) (ls : List Int) (uA : Option Addr) (un uc : Nat) (ul : List (List Nat)) (bA : Option Addr) (bn bc : Nat) (bsl : List Int) (w : World) (hl : Sl RiE ok w A0 n0 c0 rs0) (hx : Ints w wA0 wn0 wc0 xs0) (hok : ∀ b, ok b → b < w.heap.size) (hls : Ints w lA ln lc ls) (hu : Sl UrE ok w uA un uc ul) (hbs : Ints w bA bn bc bsl) (hT : TabW w) :
    Calls Tryz.prog 4 #[.agg #[.int .i64 T0, .int .i64 N0, .int .i64 S0, .slice A0 n0 c0], .slice wA0 wn0 wc0, .slice lA ln lc, .slice uA un uc, .slice bA bn bc] w fun e w' => e = .returned (.bool true) ∧ Below w.heap.size w w' := by
  have hal := (Below.refl w.heap.size w).al (.cells #[.int .i64 T0, .int .i64 N0, .int .i64 S0, .slice A0 n0 c0] 24)
  have HPI := Lib.hid (pick2_c (fun b => b < w.heap.size) T0 N0 S0 A0 n0 c0 rs0 wA0 wn0 wc0 xs0 lA ln lc ls 5 (w.alloc (.cells #[.int .i64 T0, .int .i64 N0, .int .i64 S0, .slice A0 n0 c0] 24)) ((hl.mono fun b _ h => hok b h).via hal) (hx.slLt.via hal) (hls.via hal) (by omega))
  have BG := Blk.new w 24 #[.int .i64 T0, .int .i64 N0, .int .i64 S0, .slice A0 n0 c0]
  have HAL := Lib.hid hal
  have HT := Lib.hid hT
  have HU0 := Lib.hid ((hu.mono fun b _ h => hok b h).via hal)
  have HV0 := Lib.hid (hbs.slLt.via hal)
  have HU32 := Lib.hid hu.u32s
  have HSZ := Lib.hid (show (w.alloc (.cells #[.int .i64 T0, .int .i64 N0, .int .i64 S0, .slice A0 n0 c0] 24)).heap.size = w.heap.size + 1 by simp)
  have hbl := hbs.slLt.le
  clear hl hx hls hal hok hT hu hbs
  have cBG := BG.cell
  have fBG := BG.frozen
  have lBG := BG.lt
  go_enter Tryz.func4, Tryz.ntmps4
  go_wp2_with fail
  clear cBG fBG lBG
  generalize w.alloc (.cells #[.int .i64 T0, .int .i64 N0, .int .i64 S0, .slice A0 n0 c0] 24) = W0 at *
  refine HPI.out.mono ?_
  rintro e w1 ⟨T, N, S, A, n, c, rs, wA, wn, wcp, xs, rfl, hl1, hx1, hb1, hpk⟩
  have HPK := Lib.hid hpk
  have BG1 := BG.via hb1
  have hne : ∀ b, (b < w.heap.size ∨ W0.heap.size ≤ b) → b ≠ w.heap.size := fun b h => by have := HSZ.out; omega
  have HL1 := Lib.hid (hl1.mono (ok' := fun b => b ≠ w.heap.size) fun b _ h => hne b h)
  have HX1 := Lib.hid (hx1.mono (ok' := fun b => b ≠ w.heap.size) fun b _ h => hne b h)
  have HU1 := Lib.hid ((HU0.out.via hb1).mono (ok' := fun b => b ≠ w.heap.size) fun b _ h => by omega)
  have HV1 := Lib.hid ((HV0.out.via hb1).mono (ok' := fun b => b ≠ w.heap.size) fun b _ h => by omega)
  have HA1 := Lib.hid (HAL.out.trans (hb1.mono (by have := HSZ.out; omega)))
  clear HPI BG hl1 hx1 hb1 hne HAL HSZ hpk HU0 HV0
  have cBG1 := BG1.cell
  have fBG1 := BG1.frozen
  have lBG1 := BG1.lt
  go_upto_region 2 with fail
  clear cBG1 fBG1 lBG1
  have BG2 : Blk ((((w1.setCell ⟨w.heap.size, 0, none⟩ (.int .i64 T)).setCell ⟨w.heap.size, 1, none⟩ (.int .i64 N)).setCell ⟨w.heap.size, 2, none⟩ (.int .i64 S)).setCell ⟨w.heap.size, 3, none⟩ (.slice A n c)) w.heap.size 24 #[.int .i64 T, .int .i64 N, .int .i64 S, .slice A n c] := by
    have := (((BG1.set_ 0 (.int .i64 T)).set_ 1 (.int .i64 N)).set_ 2 (.int .i64 S)).set_ 3 (.slice A n c); simpa using this
  have hag : Agr (fun b => b ≠ w.heap.size) w1 ((((w1.setCell ⟨w.heap.size, 0, none⟩ (.int .i64 T)).setCell ⟨w.heap.size, 1, none⟩ (.int .i64 N)).setCell ⟨w.heap.size, 2, none⟩ (.int .i64 S)).setCell ⟨w.heap.size, 3, none⟩ (.slice A n c)) := ((((Agr.setCell (p := ⟨w.heap.size, 0, none⟩) _ fun b hb => hb).trans (Agr.setCell (p := ⟨w.heap.size, 1, none⟩) _ fun b hb => hb)).trans (Agr.setCell (p := ⟨w.heap.size, 2, none⟩) _ fun b hb => hb)).trans (Agr.setCell (p := ⟨w.heap.size, 3, none⟩) _ fun b hb => hb))
  have HA2 := Lib.hid ((((HA1.out.setCell (p := ⟨w.heap.size, 0, none⟩) (by simp) (.int .i64 T)).setCell (p := ⟨w.heap.size, 1, none⟩) (by simp) (.int .i64 N)).setCell (p := ⟨w.heap.size, 2, none⟩) (by simp) (.int .i64 S)).setCell (p := ⟨w.heap.size, 3, none⟩) (by simp) (.slice A n c))
  have HL2 := Lib.hid (HL1.out.agr hag)
  have HX2 := Lib.hid (HX1.out.agr hag)
  have HU2 := Lib.hid (HU1.out.agr hag)
  have HV2 := Lib.hid (HV1.out.agr hag)
  have HBG2 := Lib.hid BG2
  clear hag BG1 HA1 HL1 HX1 HU1 HV1
  generalize (((w1.setCell ⟨w.heap.size, 0, none⟩ (.int .i64 T)).setCell ⟨w.heap.size, 1, none⟩ (.int .i64 N)).setCell ⟨w.heap.size, 2, none⟩ (.int .i64 S)).setCell ⟨w.heap.size, 3, none⟩ (.slice A n c) = w2 at *
  obtain ⟨q, hq⟩ : ∃ q, chkB T N S rs xs = q := ⟨_, rfl⟩
  have HQ := Lib.hid hq
  have hcb := refboth_c (fun b => b ≠ w.heap.size) T N S A n c rs wA wn wcp xs w2 HL2.out HX2.out.intsIn
  rw [hq] at hcb
  clear hq
  have cBG2 := BG2.cell
  have fBG2 := BG2.frozen
  have lBG2 := BG2.lt
  go_wp2_with fail
  clear cBG2 fBG2 lBG2
  refine hcb.mono ?_
  clear hcb
  rintro e w3 ⟨rfl, hb3⟩
  have HB3 := Lib.hid hb3
  have HBG3 := Lib.hid (BG2.via hb3)
  have HU3 := Lib.hid (HU2.out.via hb3)
  have HV3 := Lib.hid (HV2.out.via hb3)
  clear hb3 BG2 HBG2 HU2 HV2
  dsimp only
  go_upto_region 4 with fail
  obtain ⟨bv, hbv⟩ : ∃ bv : Bool, bv = (decide (0 < bn) && decide (q = 0)) := ⟨_, rfl⟩
  have HBV := Lib.hid hbv
  clear hbv
  go_cut [44] (fun v wc => v = .bool bv ∧ w3 = wc)
  case first =>
    have hbv := HBV.out
    by_cases h0 : 0 < bn
    · by_cases hq0 : q = 0
      · subst hq0
        obtain rfl : bv = true := by rw [hbv]; simp [h0]
        clear hbv
        go_wp2_with fail
        go_meet
        exact ⟨rfl, rfl⟩
      · obtain rfl : bv = false := by rw [hbv]; simp [hq0]
        have hq1 : (q == 0) = false := by simpa using hq0
        clear hbv
        go_wp2_with fail
        go_meet
        exact ⟨rfl, rfl⟩
    · obtain rfl : bv = false := by rw [hbv]; simp [h0]
      have hb0 : bn = 0 := by omega
      subst hb0
      clear hbv
      go_wp2_with fail
      go_meet
      exact ⟨rfl, rfl⟩
  case rest =>
    obtain ⟨rfl, rfl⟩ := hcut
    go_upto_if 44 with fail
    go_cut [12] (fun v wc => ∃ (eA : Option Addr) (en ec : Nat) (rows : List (List Nat)), v = .slice eA en ec ∧ Hid (Sl UrE (fun b => b ≠ w.heap.size) wc eA en ec rows) ∧ Hid (∀ row ∈ rows, ∀ b ∈ row, b < 4294967296) ∧ Hid (Below w3.heap.size w3 wc))
    case first =>
      cases bv with
      | false =>
        go_wp2_with fail
        go_meet
        exact ⟨uA, un, uc, ul, rfl, HU3, HU32, Lib.hid (Below.refl _ _)⟩
      | true =>
        have hbv := HBV.out
        have hbn : 0 < bn := by
          by_cases h : 0 < bn
          · exact h
          · rw [decide_eq_false h] at hbv; simp at hbv
        have hq0 : q = 0 := by
          by_cases h : q = 0
          · exact h
          · rw [decide_eq_false h] at hbv; simp at hbv
        subst hq0
        obtain ⟨hG0, -, -⟩ := chkB_ok HQ.out
        obtain ⟨g, hg, rfl, rfl, rfl, rfl⟩ := chkG_ok hG0
        have hN2 := hg.ok.nons.2
        have hwn : wn ≤ 12 := by have := chkB_ok HQ.out; have := HX2.out.len; omega
        have BG3 := HBG3.out
        clear hG0 hg hbv
        have cBG3 := BG3.cell
        have fBG3 := BG3.frozen
        have lBG3 := BG3.lt
        go_wp2_with fail
        clear cBG3 fBG3 lBG3
        clear BG3
        go_loopw [12, 47] (fun v i wr => ∃ (j : Nat) (vA : Option Addr) (vc : Nat) (rows : List (List Nat)), i = .int .i64 (j : Int) ∧ v = .slice vA j vc ∧ j ≤ g.nons ∧ Hid (Own UrE 57 (fun b => w3.heap.size ≤ b) wr w3.heap.size (.slice vA j vc) j rows) ∧ Hid (∀ row ∈ rows, ∀ b ∈ row, b < 4294967296) ∧ Hid (Below w3.heap.size w3 wr)) (fun _ i _ => g.nons - (intOf i).toNat)
        case atStart => exact ⟨0, none, 0, [], rfl, rfl, Nat.zero_le _, Lib.hid (Own.nil _ _), Lib.hid (fun _ h => by cases h), Lib.hid (Below.refl _ _)⟩
        case round =>
          obtain ⟨j, vA, vc, rows, rfl, rfl, hj, HO, HR32, HB⟩ := hrel
          by_cases hjn : j < g.nons
          · have hmk := mk_u32 wn (by omega)
            have e1 : IntKind.i64.wrap ((wn : Int) + 1) = (wn : Int) + 1 := IntWalk.i64_in _ (by omega)
            have HOB := Lib.hid (show ∀ w', Below wr.heap.size (wr.alloc (.cells (mkCells (.int .u32 0) (wn + 1)) 58)) w' → Own UrE 57 (fun b => w3.heap.size ≤ b) w' w3.heap.size (.slice vA j vc) j rows from fun w' hb => HO.out.via (((Below.refl wr.heap.size wr).al _).trans hb))
            have HNB := Lib.hid (show some wr.heap.size ≠ (Value.slice vA j vc).ownBlock from fun e => by have := (HO.out.lt _ e.symm).2; omega)
            have HBA := Lib.hid (HB.out.al (.cells (mkCells (.int .u32 0) (wn + 1)) 58))
            have HRB := Lib.hid (Blk.new wr 58 (mkCells (.int .u32 0) (wn + 1)))
            have HLE := Lib.hid HB.out.size
            go_wp2_with fail
            generalize wr.alloc (.cells (mkCells (.int .u32 0) (wn + 1)) 58) = W1 at *
            generalize wr.heap.size = rb at *
            clear hmk HO HB
            go_loopw [56] (fun i wq => ∃ (m : Nat) (bs : List Nat), i = .int .i64 (m : Int) ∧ m ≤ wn + 1 ∧ bs.length = wn + 1 ∧ Hid (∀ b ∈ bs, b < 4294967296) ∧ Hid (Blk wq rb 58 (u32V bs)) ∧ Hid (Below rb W1 wq)) (fun i _ => wn + 1 - (intOf i).toNat)
            case atStart => exact ⟨0, List.replicate (wn + 1) 0, rfl, Nat.zero_le _, by simp, Lib.hid (fun b hb => by have := (List.mem_replicate.1 hb).2; omega), Lib.hid (by rw [← mkCells_u]; exact HRB.out), Lib.hid (Below.refl _ _)⟩
            case round =>
              obtain ⟨m, bs, rfl, hm, hbs, HB32, HRQ, HBQ⟩ := hrel
              by_cases hmn : m < wn + 1
              · as_aux_lemma =>
                have m0 : (0 : Int) ≤ (m : Int) := by omega
                have m1 : (m : Int) < (wn : Int) + 1 := by omega
                obtain ⟨t, ht⟩ : ∃ t, t = (j + m) % bn := ⟨_, rfl⟩
                have htb : t < bn := by rw [ht]; exact Nat.mod_lt _ hbn
                have e2 : Int.tmod ((j : Int) + (m : Int)) (bn : Int) = (t : Int) := by rw [ht, ← Int.natCast_add]; exact (Int.ofNat_tmod _ _).symm
                have e3 : IntKind.i64.wrap ((j : Int) + (m : Int)) = (j : Int) + (m : Int) := IntWalk.i64_in _ (by omega)
                have e4 : ¬ bn = 0 := by omega
                have t2 : t ≤ 22 := by rw [ht]; exact Nat.le_trans (Nat.mod_le _ _) (by omega)
                have e5 : IntKind.i64.wrap (t : Int) = (t : Int) := IntWalk.i64_in _ (by omega)
                have b1 : (1 : Int) ≤ (bn : Int) := by omega
                have t0 : (0 : Int) ≤ (t : Int) := by omega
                have t1 : (t : Int) < (bn : Int) := by omega
                have hbq : Below w3.heap.size w3 wr := HBA.out.trans (HBQ.out.mono HLE.out)
                obtain ⟨bb, bo, rfl, hbb1, hbc3⟩ := HV3.out.intsIn.at_ htb
                obtain ⟨bx, hbx⟩ : ∃ bx, bx = bsl.getD t 0 := ⟨_, rfl⟩
                rw [← hbx] at hbc3
                have hbc : wr.cell? ⟨bb, bo + t, none⟩ = some (.int .i64 bx) := (World.cell?_of_block (w := w3) (a := ⟨bb, bo + t, none⟩) (hbq.block bb hbb1)).trans hbc3
                have HBR := Lib.hid (show bb ≠ rb by have := HLE.out; omega)
                obtain ⟨P, y, z, v, hPa, hPb, e6, e6b, hy, e7, e8, e9, hv⟩ := end_arith bx wn m hwn
                have HV := Lib.hid hv
                clear hv
                have HBC := Lib.hid hbc
                clear ht hbq hbb1 hbc3 hbx
                go_upto_region 13 with fail
                refine wp_region_noPanic ?_
                refine wp_region_held_drew (S := fun w' => w'.cell? ⟨bb, bo + t, none⟩ = some (.int .i64 bx)) (by kernel_rfl) HBC.out (fun hHeld => ?_)
                refine wpAnyH_takeD (i := 0) (d := some 59) (v := ?_) rfl (by kernel_rfl) (by kernel_rfl) (by kernel_rfl) rfl (fun _ _ _ h => h) (Or.inl ⟨by rfl, ?_⟩) (by assumption) ?_
                rotate_left
                · intro w hSw; (try dsimp only at hSw); go_simp; try with_reducible rfl
                simp only [Act.put, List.setIfInBounds_toArray, List.set_cons_zero, List.set_cons_succ]
                refine wpAnyH_takeD (i := 1) (d := some 60) (v := ?_) rfl (by kernel_rfl) (by kernel_rfl) (by kernel_rfl) rfl (fun _ _ _ h => h) (Or.inl ⟨by rfl, ?_⟩) (by assumption) ?_
                rotate_left
                · intro w hSw; (try dsimp only at hSw); go_simp; try with_reducible rfl
                simp only [Act.put, List.setIfInBounds_toArray, List.set_cons_zero, List.set_cons_succ]
                refine wpAnyH_takeD (i := 2) (d := some 61) (v := ?_) rfl (by kernel_rfl) (by kernel_rfl) (by kernel_rfl) rfl (fun _ _ _ h => h) (Or.inl ⟨by rfl, ?_⟩) (by assumption) ?_
                rotate_left
                · intro w hSw; (try dsimp only at hSw); go_simp; try with_reducible rfl
                simp only [Act.put, List.setIfInBounds_toArray, List.set_cons_zero, List.set_cons_succ]
                refine wpAnyH_takeD (i := 3) (d := some 62) (v := ?_) rfl (by kernel_rfl) (by kernel_rfl) (by kernel_rfl) rfl (fun _ _ _ h => h) (Or.inl ⟨by rfl, ?_⟩) (by assumption) ?_
                rotate_left
                · intro w hSw; (try dsimp only at hSw); go_simp; try with_reducible rfl
                simp only [Act.put, List.setIfInBounds_toArray, List.set_cons_zero, List.set_cons_succ]
                refine wpAnyH_takeD (i := 4) (d := some 63) (v := ?_) rfl (by kernel_rfl) (by kernel_rfl) (by kernel_rfl) rfl (fun _ _ _ h => h) (Or.inl ⟨by rfl, ?_⟩) (by assumption) ?_
                rotate_left
                · intro w hSw; (try dsimp only at hSw); go_simp; try with_reducible rfl
                simp only [Act.put, List.setIfInBounds_toArray, List.set_cons_zero, List.set_cons_succ]
                refine wpAnyH_takeD (i := 5) (d := some 64) (v := ?_) rfl (by kernel_rfl) (by kernel_rfl) (by kernel_rfl) rfl (fun _ _ _ h => h) (Or.inl ⟨by rfl, ?_⟩) (by assumption) ?_
                rotate_left
                · intro w hSw; (try dsimp only at hSw); go_simp; try with_reducible rfl
                simp only [Act.put, List.setIfInBounds_toArray, List.set_cons_zero, List.set_cons_succ]
                refine wpAnyH_takeD (i := 6) (d := some 65) (v := ?_) rfl (by kernel_rfl) (by kernel_rfl) (by kernel_rfl) rfl (fun _ _ _ h => h) (Or.inl ⟨by rfl, ?_⟩) (by assumption) ?_
                rotate_left
                · intro w hSw; (try dsimp only at hSw); go_simp; try with_reducible rfl
                simp only [Act.put, List.setIfInBounds_toArray, List.set_cons_zero, List.set_cons_succ]
                refine wpAnyH_takeD (i := 7) (d := some 66) (v := ?_) rfl (by kernel_rfl) (by kernel_rfl) (by kernel_rfl) rfl (fun _ _ _ h => h) (Or.inl ⟨by rfl, ?_⟩) (by assumption) ?_
                rotate_left
                · intro w hSw; (try dsimp only at hSw); go_simp; try with_reducible rfl
                simp only [Act.put, List.setIfInBounds_toArray, List.set_cons_zero, List.set_cons_succ]
                refine wpAnyH_takeD (i := 8) (d := some 67) (v := ?_) rfl (by kernel_rfl) (by kernel_rfl) (by kernel_rfl) rfl (fun _ _ _ h => h) (Or.inl ⟨by rfl, ?_⟩) (by assumption) ?_
                rotate_left
                · intro w hSw; (try dsimp only at hSw); go_simp; try with_reducible rfl
                simp only [Act.put, List.setIfInBounds_toArray, List.set_cons_zero, List.set_cons_succ]
                refine wpAnyH_takeD (i := 9) (d := some 68) (v := ?_) rfl (by kernel_rfl) (by kernel_rfl) (by kernel_rfl) rfl (fun _ _ _ h => h) (Or.inl ⟨by rfl, ?_⟩) (by assumption) ?_
                rotate_left
                · intro w hSw; (try dsimp only at hSw); go_simp; try with_reducible rfl
                simp only [Act.put, List.setIfInBounds_toArray, List.set_cons_zero, List.set_cons_succ]
                refine wpAnyH_takeD (i := 10) (d := some 69) (v := ?_) rfl (by kernel_rfl) (by kernel_rfl) (by kernel_rfl) rfl (fun _ _ _ h => h) (Or.inl ⟨by rfl, ?_⟩) (by assumption) ?_
                rotate_left
                · intro w hSw; (try dsimp only at hSw); go_simp; try with_reducible rfl
                simp only [Act.put, List.setIfInBounds_toArray, List.set_cons_zero, List.set_cons_succ]
                refine wpAnyH_takeD (i := 11) (d := some 70) (v := ?_) rfl (by kernel_rfl) (by kernel_rfl) (by kernel_rfl) rfl (fun _ _ _ h => h) (Or.inl ⟨by rfl, ?_⟩) (by assumption) ?_
                rotate_left
                · intro w hSw; (try dsimp only at hSw); go_simp; try with_reducible rfl
                simp only [Act.put, List.setIfInBounds_toArray, List.set_cons_zero, List.set_cons_succ]
                refine wpAnyH_takeD (i := 12) (d := some 71) (v := ?_) rfl (by kernel_rfl) (by kernel_rfl) (by kernel_rfl) rfl (fun _ _ _ h => h) (Or.inl ⟨by rfl, ?_⟩) (by assumption) ?_
                rotate_left
                · intro w hSw; (try dsimp only at hSw); go_simp; try with_reducible rfl
                simp only [Act.put, List.setIfInBounds_toArray, List.set_cons_zero, List.set_cons_succ]
                refine wpAnyH_takeD (i := 13) (d := some 72) (v := ?_) rfl (by kernel_rfl) (by kernel_rfl) (by kernel_rfl) rfl (fun _ _ _ h => h) (Or.inl ⟨by rfl, ?_⟩) (by assumption) ?_
                rotate_left
                · intro w hSw; (try dsimp only at hSw); go_simp; try with_reducible rfl
                simp only [Act.put, List.setIfInBounds_toArray, List.set_cons_zero, List.set_cons_succ]
                refine wpAnyH_takeD (i := 14) (d := some 73) (v := ?_) rfl (by kernel_rfl) (by kernel_rfl) (by kernel_rfl) rfl (fun _ _ _ h => h) (Or.inl ⟨by rfl, ?_⟩) (by assumption) ?_
                rotate_left
                · intro w hSw; (try dsimp only at hSw); go_simp; try with_reducible rfl
                simp only [Act.put, List.setIfInBounds_toArray, List.set_cons_zero, List.set_cons_succ]
                refine wpAnyH_takeD (i := 17) (d := some 76) (v := ?_) rfl (by kernel_rfl) (by kernel_rfl) (by kernel_rfl) rfl (fun _ _ _ h => h) (Or.inl ⟨by rfl, ?_⟩) (by assumption) ?_
                rotate_left
                · intro w hSw; (try dsimp only at hSw); go_simp; try with_reducible rfl
                simp only [Act.put, List.setIfInBounds_toArray, List.set_cons_zero, List.set_cons_succ]
                refine wpAnyH_takeD (i := 19) (d := some 78) (v := ?_) rfl (by kernel_rfl) (by kernel_rfl) (by kernel_rfl) rfl (fun _ _ _ h => h) (Or.inl ⟨by rfl, ?_⟩) (by assumption) ?_
                rotate_left
                · intro w hSw; (try dsimp only at hSw); go_simp; try with_reducible rfl
                simp only [Act.put, List.setIfInBounds_toArray, List.set_cons_zero, List.set_cons_succ]
                refine wpAnyH_ready (rs := [15]) (by kernel_rfl) (by simp) ?_
                refine AllReadyH.cons rfl (fun K hK => ?_) AllReadyH.nil
                go_simp
                go_at_call 18
                with_reducible refine (below_c bx (P : Int) _ hPa hPb).mono ?_
                rintro ee wk ⟨rfl, rfl⟩
                rw [hy]
                go_wp2_with fail
                refine hK.out _ _ HBC.out (fun hHeld2 => ?_)
                clear hK K hHeld
                refine wpAnyH_takeD (i := 16) (d := some 75) (v := ?_) rfl (by kernel_rfl) (by kernel_rfl) (by kernel_rfl) rfl (fun _ _ _ h => h) (Or.inl ⟨by rfl, ?_⟩) (by assumption) ?_
                rotate_left
                · intro w hSw; (try dsimp only at hSw); go_simp; try with_reducible rfl
                simp only [Act.put, List.setIfInBounds_toArray, List.set_cons_zero, List.set_cons_succ]
                refine wpAnyH_takeD (i := 18) (d := some 77) (v := ?_) rfl (by kernel_rfl) (by kernel_rfl) (by kernel_rfl) rfl (fun _ _ _ h => h) (Or.inl ⟨by rfl, ?_⟩) (by assumption) ?_
                rotate_left
                · intro w hSw; (try dsimp only at hSw); go_simp; try with_reducible rfl
                simp only [Act.put, List.setIfInBounds_toArray, List.set_cons_zero, List.set_cons_succ]
                refine wpAnyH_takeD (i := 20) (d := some 79) (v := ?_) rfl (by kernel_rfl) (by kernel_rfl) (by kernel_rfl) rfl (fun _ _ _ h => h) (Or.inl ⟨by rfl, ?_⟩) (by assumption) ?_
                rotate_left
                · intro w hSw; (try dsimp only at hSw); go_simp; try with_reducible rfl
                simp only [Act.put, List.setIfInBounds_toArray, List.set_cons_zero, List.set_cons_succ]
                refine wpAnyH_takeD (i := 21) (d := some 80) (v := ?_) rfl (by kernel_rfl) (by kernel_rfl) (by kernel_rfl) rfl (fun _ _ _ h => h) (Or.inl ⟨by rfl, ?_⟩) (by assumption) ?_
                rotate_left
                · intro w hSw; (try dsimp only at hSw); go_simp; try with_reducible rfl
                simp only [Act.put, List.setIfInBounds_toArray, List.set_cons_zero, List.set_cons_succ]
                refine wpAnyH_ready (rs := [22]) (by kernel_rfl) (by simp) ?_
                refine AllReadyH.cons rfl (fun K hK => ?_) AllReadyH.nil
                obtain ⟨b0, hb0⟩ : ∃ b0, bs[m]? = some b0 := ⟨bs[m]'(by rw [hbs]; exact hmn), List.getElem?_eq_getElem _⟩
                have cR : wr.drew.cell? ⟨rb, m, none⟩ = some (.int .u32 (b0 : Int)) := by rw [HRQ.out.dr.cell, u32V_get hb0]
                have fR := HRQ.out.dr.frozen
                go_simp
                refine hK.out _ _ ((World.cell?_of_block (w := wr) (a := ⟨bb, bo + t, none⟩) (Below.heap_setCell wr ⟨rb, m, none⟩ _ bb HBR.out)).trans HBC.out) (fun hHeld3 => ?_)
                clear hK K
                refine wpAnyH_done (by kernel_rfl) ?_ _
                refine NoPanic.normal ?_
                have hval : (y : Int) % 4294967296 / 2 ^ m * 2 ^ m % 4294967296 = (v : Int) := by rw [e7, e8, e9]
                clear cR fR e1 e2 e3 e4 e5 e6 e6b hy e7 e8 e9 hb0
                go_wp2_with fail
                rw [hval]
                refine ⟨⟨m + 1, bs.set m v, by go_num, by omega, by rw [List.length_set]; exact hbs, Lib.hid (fun b hb => ?_), Lib.hid ?_, Lib.hid ?_⟩, by simp [intOf]; omega⟩
                · rcases List.mem_or_eq_of_mem_set hb with h | rfl
                  · exact HB32.out b h
                  · exact HV.out
                · have := (HRQ.out.set_ m (.int .u32 (v : Int))).dr
                  rw [u32V_set] at this
                  exact this
                · exact (HBQ.out.setCell (p := ⟨rb, m, none⟩) (Nat.le_refl _) _).drew
              · as_aux_lemma =>
                obtain rfl : m = wn + 1 := by omega
                have HOW := Lib.hid ((HOB.out wr HBQ.out).al (.cells #[.slice (some ⟨rb, 0, none⟩) (wn + 1) (wn + 1)] 57))
                have hal := (Below.refl wr.heap.size wr).al (.cells #[.slice (some ⟨rb, 0, none⟩) (wn + 1) (wn + 1)] 57)
                have HREL := Lib.hid (show Sl U3E (fun b => w3.heap.size ≤ b ∧ some b ≠ (Value.slice vA j vc).ownBlock) (wr.alloc (.cells #[.slice (some ⟨rb, 0, none⟩) (wn + 1) (wn + 1)] 57)) (some ⟨rb, 0, none⟩) (wn + 1) (wn + 1) bs from Blk.slU (HRQ.out.via hal) hbs ⟨HLE.out, HNB.out⟩ HB32.out)
                have HCE := Lib.hid (show (wr.alloc (.cells #[.slice (some ⟨rb, 0, none⟩) (wn + 1) (wn + 1)] 57)).cell? ⟨wr.heap.size, 0, none⟩ = some (.slice (some ⟨rb, 0, none⟩) (wn + 1) (wn + 1)) by rw [World.cell?_alloc_new]; rfl)
                have HBB := Lib.hid ((HBA.out.trans (HBQ.out.mono HLE.out)).al (.cells #[.slice (some ⟨rb, 0, none⟩) (wn + 1) (wn + 1)] 57))
                have HSZ := Lib.hid (show w3.heap.size ≤ (wr.alloc (.cells #[.slice (some ⟨rb, 0, none⟩) (wn + 1) (wn + 1)] 57)).heap.size from HBB.out.size)
                clear hal
                go_wp2_with (at_builtin; refine wpList_append_ur _ rfl (.tmp 82) (.tmp 84) rfl (fun b => w3.heap.size ≤ b) w3.heap.size (.slice vA j vc) j rows rfl HOW.out wr.heap.size (some ⟨rb, 0, none⟩, wn + 1, wn + 1) bs rfl HCE.out HREL.out (by omega) HSZ.out ?_)
                intro A6 c6 w6 ho6 hg6 hat6
                go_wp2_with fail
                refine ⟨⟨j + 1, A6, c6, rows ++ [bs], by go_num, rfl, by omega, Lib.hid ho6, Lib.hid (fun row hrow => ?_), Lib.hid (HBB.out.grown hg6 HSZ.out (fun b hb => (HOW.out.lt b hb).1))⟩, by simp [intOf]; omega⟩
                rcases List.mem_append.1 hrow with h | h
                · exact HR32.out row h
                · obtain rfl := List.mem_singleton.1 h
                  exact HB32.out
          · obtain rfl : j = g.nons := by omega
            go_wp2_with fail
            go_meet
            exact ⟨_, _, _, rows, rfl, Lib.hid (HO.out.toSl (fun b _ hb => by have := HBG3.out.lt; omega) (fun b hb => by have := HBG3.out.lt; omega)), HR32, HB⟩
    case rest =>
      obtain ⟨eA, en, ec, rows, rfl, HE, HR32, HB⟩ := hcut
      have HBc := Lib.hid (HB3.out.trans (HB.out.mono HB3.out.size))
      have HLc := Lib.hid (HL2.out.via HBc.out)
      have HXc := Lib.hid (HX2.out.via HBc.out)
      have HBGc := Lib.hid (HBG3.out.via HB.out)
      have HTc := Lib.hid (HT.out.via (HA2.out.via HBc.out))
      have HAc := Lib.hid (HA2.out.via HBc.out)
      have BGc := HBGc.out
      clear HL2 HX2 HBG3 HB HB3 HBc HA2 HT HU3 HV3 HU32 HBV HPK
      by_cases hq0 : q = 0
      · subst hq0
        obtain ⟨hG0, hxl, hxt⟩ := chkB_ok HQ.out
        obtain ⟨g, hg, rfl, rfl, rfl, rfl⟩ := chkG_ok hG0
        have HG := Lib.hid hg
        have HXT := Lib.hid hxt
        have hwn : wn ≤ 12 := by have := HXc.out.len; omega
        have HXL := Lib.hid (show xs.length = wn from HXc.out.len)
        clear hg hG0 hxl hxt
        have hcy := fbuild_c (fun b => b ≠ w.heap.size) (fun b => b ≠ w.heap.size) g A n c wA wn wcp xs eA en ec rows wc HG.out HLc.out.lowR HXc.out.intsIn hwn HXT.out HTc.out HE.out HR32.out
        simp only [grVal] at hcy
        have cBGc := BGc.cell
        have fBGc := BGc.frozen
        have lBGc := BGc.lt
        go_upto_region 17 with fail
        go_wp2_with fail
        clear cBGc fBGc lBGc
        refine hcy.mono ?_
        clear hcy
        rintro e w4 (⟨hEO, f, v, bb, rfl, hf, ⟨fA, fn, fc, rfl, hS⟩, hb4⟩ | ⟨hEO, rfl, hb4⟩)
        · as_aux_lemma =>
          obtain ⟨eq, heq⟩ : ∃ eq : Int, eq = if bb then 0 else 2 := ⟨_, rfl⟩
          rw [← heq]
          have HEQ := Lib.hid heq
          have HF := Lib.hid hf
          have HEO := Lib.hid hEO
          have hal4 := (Below.refl w4.heap.size w4).al (.cells #[.slice fA fn fc, .int .i64 f.1] 34)
          have HB4 := Lib.hid (hb4.via hal4)
          have HS4 := Lib.hid (hS.via hal4)
          have HBF := Lib.hid (Blk.new w4 34 #[.slice fA fn fc, .int .i64 f.1])
          have BG4 := (HBGc.out.via hb4).via hal4
          have HBFN := Lib.hid (show w.heap.size < w4.heap.size by have := HBGc.out.lt; have := hb4.size; omega)
          clear heq hf hEO hS hb4 hal4 BGc HBGc
          dsimp only
          go_upto_region 18 with fail
          generalize w4.alloc (.cells #[.slice fA fn fc, .int .i64 f.1] 34) = W4 at *
          generalize w4.heap.size = bf at *
          have her := endsRight_c (fun b => b ≠ w.heap.size) (g.terms : Int) g.nons (g.start : Int) A n c wA wn wcp eA en ec rows W4 (HE.out.via HB4.out) hwn (by have := HG.out.ok.nons.2; omega)
          have HBG4 := Lib.hid BG4
          have cBG4 := BG4.cell
          have fBG4 := BG4.frozen
          have lBG4 := BG4.lt
          go_wp2_with fail
          clear cBG4 fBG4 lBG4
          refine her.mono ?_
          clear her BG4
          rintro e w5 ⟨b5, rfl, hb5, hbe⟩
          obtain rfl : b5 = true := hb5.2 HEO.out
          have HB5 := Lib.hid (HB4.out.via hbe)
          have HBF5 := Lib.hid (HBF.out.via hbe)
          have HS5 := Lib.hid (HS4.out.via hbe)
          have HBG5 := Lib.hid (HBG4.out.via hbe)
          clear hb5 hbe HB4 HBF HS4 HBG4
          dsimp only
          go_wp2_with fail
          refine (woods_c w5 (HTc.out.via HB5.out)).mono ?_
          rintro e w6 ⟨rfl, hb6⟩
          have HB6 := Lib.hid (HB5.out.via hb6)
          have HBF6 := Lib.hid (HBF5.out.via hb6)
          have HS6 := Lib.hid (HS5.out.via hb6)
          have BG6 := HBG5.out.via hb6
          have has := allspans_c (fun b => b ≠ w.heap.size) g A n c wA wn wcp xs w6 HG.out (HLc.out.lowR.via HB6.out) (HXc.out.intsIn.via HB6.out) hwn HXT.out
          simp only [grVal] at has
          clear hb6 HB5 HBF5 HS5 HBG5
          dsimp only
          have cBG6 := BG6.cell
          have fBG6 := BG6.frozen
          have lBG6 := BG6.lt
          go_wp2_with fail
          clear cBG6 fBG6 lBG6
          refine has.mono ?_
          clear has BG6
          rintro e w7 ⟨bs, bm, rfl, hR, hbs, hbm, hb7⟩
          have HB67 := Lib.hid (HB6.out.via hb7)
          have HBF7 := Lib.hid (HBF6.out.via hb7)
          have HS7 := Lib.hid ((HS6.out.mono (ok' := fun b => b < w6.heap.size) fun b hb _ => hb).via hb7)
          have HL7 := Lib.hid (((HLc.out.lowR.via HB6.out).mono (ok' := fun b => b < w6.heap.size) fun b hb _ => hb).via hb7)
          have HE7 := Lib.hid (((HE.out.via HB6.out).mono (ok' := fun b => b < w6.heap.size) fun b hb _ => hb).via hb7)
          have HWL := Lib.hid (show w.heap.size ≤ w6.heap.size from (HAc.out.via HB6.out).size)
          have HA7 := Lib.hid (HAc.out.via HB67.out)
          have HSPB := Lib.hid hR.blk
          have hmk := hR.map.1
          have hbm7 := hR.map.1.lt
          have hbs7 := hR.blk.lt
          have BSP := hR.blk
          have HNE := Lib.hid (show bs ≠ bm from fun e => by
            obtain ⟨es, clock, he, -⟩ := hR.map.1
            have h2 : w7.heap[bs]? = _ := hR.blk
            rw [e, he] at h2
            cases h2)
          have HKY := Lib.hid hR.map.2
          have HBMG := Lib.hid hbm
          have HBFB := Lib.hid (show bf < w6.heap.size from HBF6.out.lt)
          clear HB6 HBF6 HS6 hR hbs hbm hb7
          dsimp only
          have cBSP := BSP.cell
          have fBSP := BSP.frozen
          have lBSP := BSP.lt
          go_wp2_with (at_range; refine wpList_range_K rfl 62 4 Tryz.underlying62 _ rfl bm rfl hmk ?_)
          intro w8 cnt0 hrg0 hb8 hz8
          clear cBSP fBSP lBSP
          go_wp2_with fail
          have HMK8 := Lib.hid (hmk.via hb8)
          have HRG8 := Lib.hid hrg0
          have HSP8 := Lib.hid (HSPB.out.via hb8)
          have HBF8 := Lib.hid (HBF7.out.via hb8)
          have HS8 := Lib.hid (HS7.out.via hb8)
          have HL8 := Lib.hid (HL7.out.via hb8)
          have HE8 := Lib.hid (HE7.out.via hb8)
          have HA8 := Lib.hid (HA7.out.via hb8)
          have HBRG := Lib.hid (show w6.heap.size ≤ w7.heap.size by have := HSPB.out.lt; have := HBMG.out; have := hmk.lt; omega)
          have hbr8 : w7.heap.size < w8.heap.size := by omega
          clear HSPB HBF7 HS7 HL7 HE7 HA7 hrg0 hmk BSP hb8 hz8
          generalize w7.heap.size = br at *
          have HEN := Lib.hid (show en = g.nons by rw [← HE8.out.len]; exact HEO.out.1)
          have HSUP := Lib.hid (HEO.out.sup HR32.out)
          go_loopw [19] (fun _ wr => ∃ (S' left : Ky → Bool) (cnt : Nat), Hid (MapK Tryz.prog 68 kyVal wr bm (fun k => if S' k then some (.bool true) else none) ∧ RngK kyVal (fun k => if S' k then some (.bool true) else none) wr br bm left cnt ∧ (∀ k, k.1.1 = true → S' k = dvD g.rules xs k) ∧ (∀ k, k.1.1 = false → S' k = true → left k = true) ∧ ∀ k, S' k = true → dvD g.rules xs k = true) ∧ Hid (Agr (fun b => b ≠ bm ∧ b ≠ br) w8 wr) ∧ Hid (Below w.heap.size w wr)) (fun _ wr => World.rngLeftK wr br)
          case atStart => exact ⟨_, _, _, Lib.hid ⟨HMK8.out, HRG8.out, fun k _ => rfl, fun k _ h => by rw [if_pos h]; rfl, fun k h => h⟩, Lib.hid Agr.refl, HA8⟩
          case round =>
            obtain ⟨S', left, cnt, HQ, HAG, HBW⟩ := hrel
            clear HMK8 HRG8 HA8
            go_wp2_with (at_next; refine wpList_next_A rfl _ rfl br bm left cnt rfl HQ.out.2.1 kyVal_inj (by omega) ?_ ?_)
            · intro hd
              have HMD := Lib.hid (show MapK Tryz.prog 68 kyVal wr bm (fun k => if fvB (dvD g.rules xs) (enOf rows) 0 0 0 k then some (.bool true) else none) from HQ.out.1.ext fun k => by
                have e : S' k = fvB (dvD g.rules xs) (enOf rows) 0 0 0 k := by
                  rw [fvB_start]
                  cases ht : k.1.1 with
                  | true => rw [Bool.true_and]; exact HQ.out.2.2.1 k ht
                  | false =>
                    rw [Bool.false_and]
                    cases hs : S' k with
                    | false => rfl
                    | true => have := HQ.out.2.2.2.1 k ht hs; rw [hd k] at this; cases this
                rw [e])
              clear HQ hd
              go_upto_region 28 with fail
              go_wp2_with fail
              have hen10 : en ≤ 10 := by rw [HEN.out]; exact HG.out.ok.nons.2
              go_loopw [143] (fun q wr => ∃ a : Nat, q = .int .i64 (a : Int) ∧ a ≤ en ∧ Hid (MapK Tryz.prog 68 kyVal wr bm (fun k => if fvB (dvD g.rules xs) (enOf rows) a 0 0 k then some (.bool true) else none)) ∧ Hid (Agr (fun b => b ≠ bm ∧ b ≠ br) w8 wr) ∧ Hid (Below w.heap.size w wr)) (fun q _ => en - (intOf q).toNat)
              case atStart => exact ⟨0, rfl, Nat.zero_le _, HMD, HAG, HBW⟩
              case round =>
                obtain ⟨a, rfl, ha, HMA, HAA, HBA⟩ := hrel
                clear HMD HAG HBW
                by_cases hae : a < en
                · as_aux_lemma =>
                  obtain ⟨b1, o1, ⟨RA, rn, rc⟩, row, rfl, -, hb1, hx, hx2, hcx⟩ := (HE8.out.agr (HAA.out.mono fun b hb => ⟨by have := HBMG.out; omega, by have := HBRG.out; omega⟩)).at_ hae
                  have HX := Lib.hid hx
                  have HX2 := Lib.hid (show Sl U3E (fun b => b < w6.heap.size) wr RA rn rc row from hx2)
                  have c0 := hcx 0 _ rfl
                  simp only [UrE, Nat.add_zero, Nat.mul_one] at c0
                  have i0 : (0 : Int) ≤ (a : Int) := by omega
                  have i1 : (a : Int) < (en : Int) := by omega
                  have hrl := (HEO.out.2 row (List.mem_of_getElem? hx)).1
                  obtain rfl : rn = wn + 1 := by rw [← HX2.out.len]; exact hrl
                  have HRA := Lib.hid HAA.out
                  clear hcx hx hx2 hrl
                  go_wp2_with fail
                  clear c0
                  generalize hW : wr = wra at *
                  clear hW
                  go_loopw [150] (fun q wr => ∃ i : Nat, q = .int .i64 (i : Int) ∧ i ≤ wn + 1 ∧ Hid (MapK Tryz.prog 68 kyVal wr bm (fun k => if fvB (dvD g.rules xs) (enOf rows) a i i k then some (.bool true) else none)) ∧ Hid (Agr (fun b => b ≠ bm ∧ b ≠ br) w8 wr) ∧ Hid (Below w.heap.size w wr) ∧ Hid (Agr (fun b => b ≠ bm ∧ b ≠ br) wra wr)) (fun q _ => wn + 1 - (intOf q).toNat)
                  case atStart => exact ⟨0, rfl, Nat.zero_le _, HMA, HAA, HBA, Lib.hid Agr.refl⟩
                  case round =>
                    obtain ⟨i, rfl, hi, HMI, HAI, HBI, HAW⟩ := hrel
                    by_cases hin : i < wn + 1
                    · obtain ⟨b2, o2, b, b', rfl, -, hb2, hbx, hbr2, hcx⟩ := (HX2.out.agr (HAW.out.mono fun b hb => ⟨by have := HBMG.out; omega, by have := HBRG.out; omega⟩)).at_ hin
                      obtain ⟨rfl, hb32⟩ := hbr2
                      have c0 := hcx 0 _ rfl
                      simp only [U3E, Nat.add_zero, Nat.mul_one] at c0
                      have j0 : (0 : Int) ≤ (i : Int) := by omega
                      have j1 : (i : Int) < (wn : Int) + 1 := by omega
                      have HEB := Lib.hid (enOf_at HX.out hbx)
                      have HB32 := Lib.hid hb32
                      clear hcx hbx hb32
                      go_wp2_with fail
                      clear c0
                      go_loopw [24] (fun q wr => ∃ j : Nat, q = .int .i64 (j : Int) ∧ i ≤ j ∧ j ≤ wn + 1 ∧ Hid (MapK Tryz.prog 68 kyVal wr bm (fun k => if fvB (dvD g.rules xs) (enOf rows) a i j k then some (.bool true) else none)) ∧ Hid (Agr (fun b => b ≠ bm ∧ b ≠ br) w8 wr) ∧ Hid (Below w.heap.size w wr) ∧ Hid (Agr (fun b => b ≠ bm ∧ b ≠ br) wra wr)) (fun q _ => wn + 1 - (intOf q).toNat)
                      case atStart => exact ⟨i, rfl, Nat.le_refl _, by omega, HMI, HAI, HBI, HAW⟩
                      case round =>
                        obtain ⟨j, rfl, hij, hj, HMJ, HAJ, HBJ, HWJ⟩ := hrel
                        clear HMI HAI HBI HAW
                        by_cases hjn : j ≤ wn
                        · obtain ⟨Q, R, e1, e2, e3⟩ := bit_of32 b j HB32.out
                          have k0 : (j : Int) ≤ (wn : Int) := by omega
                          cases htb : b.testBit j with
                          | true =>
                            rw [htb] at e3
                            have BSX : Blk wr bs 64 _ := (HAJ.out bs ⟨HNE.out, by omega⟩ HSP8.out.lt).trans HSP8.out
                            have HTB := Lib.hid htb
                            have HKF := Lib.hid (show ∀ k, fvB (dvD g.rules xs) (enOf rows) a i j k = true → KyOk g wn k from fun k hk => fvB_ky HEO.out HR32.out HXL.out HXT.out hk)
                            have HRM := Lib.hid (SpM.room (S := fvB (dvD g.rules xs) (enOf rows) a i j) ⟨HMJ.out, HKF.out⟩ HG.out.ok hwn)
                            obtain ⟨kl, hkl⟩ := span_k (false, a) i j (by have := HEN.out; have := HG.out.ok.nons.2; show a ≤ 1000; omega) (by omega) (by omega)
                            have HKL := Lib.hid hkl
                            clear htb hkl
                            have cBSX := BSX.cell
                            have fBSX := BSX.frozen
                            have lBSX := BSX.lt
                            go_wp2_with (at_mapUpdate; refine wpList_put_K rfl span_keyed 62 Tryz.underlying62 kyVal_inj _ _ _ rfl bm ((false, a), i, j) (.bool true) rfl rfl rfl HMJ.out HKL.out HRM.out ?_)
                            intro w9 hm9 hg9 hz9
                            clear cBSX fBSX lBSX
                            clear BSX e1 e2 e3
                            go_wp2_with fail
                            refine ⟨⟨j + 1, by go_num, by omega, by omega, Lib.hid (hm9.ext fun z => by rw [← HEB.out] at HTB; exact fvB_hit HTB.out z), Lib.hid (HAJ.out.trans (Agr.grown hg9 fun b hb e => hb.1 (Option.some.inj e))), Lib.hid (HBJ.out.grown hg9 HBJ.out.size (fun b hb => by have := Option.some.inj hb; have := HWL.out; have := HBMG.out; omega)), Lib.hid (HWJ.out.trans (Agr.grown hg9 fun b hb e => hb.1 (Option.some.inj e)))⟩, by simp [intOf]; omega⟩
                          | false =>
                            rw [htb] at e3
                            have HTB := Lib.hid htb
                            clear htb
                            go_wp2_with fail
                            clear e1 e2 e3
                            refine ⟨⟨j + 1, by go_num, by omega, by omega, Lib.hid (HMJ.out.ext fun z => by rw [← HEB.out] at HTB; rw [fvB_miss HTB.out]), HAJ, HBJ, HWJ⟩, by simp [intOf]; omega⟩
                        · obtain rfl : j = wn + 1 := by omega
                          have k0 : ¬ ((wn : Int) + 1 ≤ (wn : Int)) := by omega
                          go_wp2_with fail
                          refine ⟨⟨i + 1, by go_num, by omega, Lib.hid (HMJ.out.ext fun z => by rw [fvB_row HSUP.out]), HAJ, HBJ, HWJ⟩, by simp [intOf]; omega⟩
                    · obtain rfl : i = wn + 1 := by omega
                      go_wp2_with fail
                      refine ⟨⟨a + 1, by go_num, by omega, Lib.hid (HMI.out.ext fun z => by rw [fvB_all HSUP.out]), HAI, HBI⟩, by simp [intOf]; omega⟩
                · as_aux_lemma =>
                  obtain rfl : a = en := by omega
                  have HMF := Lib.hid (show MapK Tryz.prog 68 kyVal wr bm (fun k => if dOf xs (enOf rows) k then some (.bool true) else none) from HMA.out.ext fun z => by rw [← HE8.out.len, fvB_done])
                  have HKD := Lib.hid (show ∀ k, dOf xs (enOf rows) k = true → KyOk g wn k from fun k hk => endsOk_ky HEO.out HR32.out HXL.out HXT.out hk)
                  have HSPR := Lib.hid (show SpR wr g A n c wA wn wcp bs bm (dOf xs (enOf rows)) from ⟨(HAA.out bs ⟨HNE.out, by omega⟩ HSP8.out.lt).trans HSP8.out, HMF.out, HKD.out⟩)
                  have hHm : ∀ b, b < w6.heap.size → b ≠ bm ∧ b ≠ br := fun b hb => ⟨by have := HBMG.out; omega, by have := HBRG.out; omega⟩
                  have HLR := Lib.hid (HL8.out.agr (HAA.out.mono hHm))
                  have HSR := Lib.hid (HS8.out.agr (HAA.out.mono hHm))
                  have HBFR := Lib.hid (show Blk wr bf 34 #[.slice fA fn fc, .int .i64 f.1] from (HAA.out bf (hHm bf HBFB.out) HBF8.out.lt).trans HBF8.out)
                  have hsf := spforest_c (fun b => b < w6.heap.size) g A n c wA wn wcp bs bm (dOf xs (enOf rows)) wr HG.out.ok HLR.out HSPR.out hwn
                  have HD := Lib.hid (show ∀ k, dOf xs (enOf rows) k = true → k.2.1 ≤ k.2.2 ∧ k.2.2 ≤ wn from fun k hk => (HKD.out k hk).2)
                  clear HMA HAA HMF hHm
                  go_wp2_with fail
                  refine hsf.mono ?_
                  clear hsf
                  rintro e w10 ⟨f2, v2, b2, rfl, hf2, ⟨f2A, f2n, f2c, rfl, hS2⟩, hb10⟩
                  obtain ⟨rfl, rfl⟩ := HF.out.uniq hf2
                  have hal := (Below.refl w10.heap.size w10).al (.cells #[.slice f2A f2n f2c, .int .i64 f.1] 34)
                  have hb11 := hb10.via hal
                  have HB11 := Lib.hid (HBA.out.trans (hb11.mono HBA.out.size))
                  have BF1 := HBFR.out.via hb11
                  have HS1 := Lib.hid (HSR.out.via hb11)
                  have HS2 := Lib.hid (hS2.via hal)
                  have BF2 := Blk.new w10 34 #[.slice f2A f2n f2c, .int .i64 f.1]
                  clear hb10 hal hf2 hS2 hb11 HBFR HSR HSPR HLR
                  dsimp only
                  go_upto_region 42 with fail
                  generalize w10.alloc (.cells #[.slice f2A f2n f2c, .int .i64 f.1] 34) = W10 at *
                  generalize w10.heap.size = bf2 at *
                  have he := HEQ.out
                  cases bb with
                  | true =>
                    simp only [if_true] at he
                    subst he
                    have HSM := Lib.hid (same_c (fun b => b < w6.heap.size) (fun _ => True) fA f2A fn fc f2n f2c f.1 f.1 f.2 f.2 W10 HS1.out (HS2.out.mono fun _ _ _ => trivial) (fo_bound HG.out.ok hwn HD.out HF.out))
                    have cBF1 := BF1.cell
                    have fBF1 := BF1.frozen
                    have lBF1 := BF1.lt
                    have cBF2 := BF2.cell
                    have fBF2 := BF2.frozen
                    have lBF2 := BF2.lt
                    go_wp2_with fail
                    refine HSM.out.mono ?_
                    rintro e w12 ⟨b9, rfl, hb9, hbe⟩
                    obtain rfl : b9 = true := hb9.2 (by simp)
                    have HBE := Lib.hid (HB11.out.via hbe)
                    clear hb9 hbe HSM
                    go_wp2_with fail
                    go_ret
                    exact ⟨rfl, HBE.out⟩
                  | false =>
                    simp only [Bool.false_eq_true, if_false] at he
                    subst he
                    go_wp2_with fail
                    go_ret
                    exact ⟨rfl, HB11.out⟩
            · intro y v w9 cnt' hl hs hv hrg hlt hgr hsz hen
              obtain ⟨⟨yb, yN⟩, yi, yj⟩ := y
              have HSY := Lib.hid hs
              have hal := (Below.refl w9.heap.size w9).al (.cells #[.bool yb, .int .i64 (yN : Int), .int .i64 (yi : Int), .int .i64 (yj : Int)] 68)
              have hrlt := HQ.out.2.1.lt
              have HRN := Lib.hid (hrg.via hal)
              have HMN := Lib.hid ((HQ.out.1.grown hgr (fun e => by have := Option.some.inj e; omega)).via hal)
              have HAN := Lib.hid ((HAG.out.trans (Agr.grown hgr fun b hb e => hb.2 (Option.some.inj e))).trans (Agr.below hal))
              have hwbr : w.heap.size ≤ br := by have := HWL.out; have := HBRG.out; omega
              have HBN := Lib.hid (((HBW.out.grown hgr HBW.out.size (fun b hb => by have := Option.some.inj hb; omega))).trans (hal.mono (by have := HBW.out.size; omega)))
              have BY := Blk.new w9 68 #[.bool yb, .int .i64 (yN : Int), .int .i64 (yi : Int), .int .i64 (yj : Int)]
              have HLT := Lib.hid hlt
              have HSZ := Lib.hid hsz
              simp only [kyVal] at hen
              clear hal hgr hrg hl hs hv hlt hsz
              cases yb with
              | true =>
                have cBY := BY.cell
                have fBY := BY.frozen
                have lBY := BY.lt
                go_wp2_with fail
                refine ⟨⟨S', _, cnt', Lib.hid ⟨HMN.out, HRN.out, HQ.out.2.2.1, fun k hk hs => ?_, HQ.out.2.2.2.2⟩, HAN, HBN⟩, ?_⟩
                · rw [Bool.and_eq_true]
                  refine ⟨HQ.out.2.2.2.1 k hk hs, ?_⟩
                  have hne : ¬ k = ((true, yN), yi, yj) := fun e => by rw [e] at hk; cases hk
                  simp [hne]
                · rw [HRN.out.left_eq, HQ.out.2.1.left_eq]; exact HLT.out
              | false =>
                obtain ⟨kl, hkl⟩ := (HKY.out _ (HQ.out.2.2.2.2 _ HSY.out)).skey HG.out.ok hwn
                have HKL := Lib.hid hkl
                have BSX : Blk (w9.alloc (.cells #[.bool false, .int .i64 (yN : Int), .int .i64 (yi : Int), .int .i64 (yj : Int)] 68)) bs 64 _ := (HAN.out bs ⟨HNE.out, by omega⟩ HSP8.out.lt).trans HSP8.out
                clear hkl
                have cBY := BY.cell
                have fBY := BY.frozen
                have lBY := BY.lt
                go_upto_region 27 with fail
                clear cBY fBY lBY
                generalize w9.alloc (.cells #[.bool false, .int .i64 (yN : Int), .int .i64 (yi : Int), .int .i64 (yj : Int)] 68) = wx at *
                generalize w9.heap.size = bx at *
                have cBY := BY.cell
                have fBY := BY.frozen
                have lBY := BY.lt
                have cBSX := BSX.cell
                have fBSX := BSX.frozen
                have lBSX := BSX.lt
                go_still_tail 5, (by kernel_rfl)
                clear cBY fBY lBY cBSX fBSX lBSX
                have HMX := Lib.hid (HMN.out.dr)
                have HRX := Lib.hid (HRN.out.via (Below.refl wx.heap.size wx).drew)
                have HAX := Lib.hid (HAN.out.trans (Agr.below (Below.refl wx.heap.size wx).drew))
                have HBX := Lib.hid HBN.out.drew
                change wpList _ _ _ _ _ wx.drew
                generalize wx.drew = wy at *
                have hbrm : br ≠ bm := by omega
                go_wp2_with (at_delete; refine wpList_delete_K rfl _ _ 62 rfl span_keyed Tryz.underlying62 kyVal_inj br bm _ cnt' hbrm ((false, yN), yi, yj) HKL.out rfl rfl HMX.out HRX.out ?_)
                intro wz cntz hmz hrz hlz hgz hsz
                go_wp2_with fail
                have e : (fun k : Ky => if k = ((false, yN), yi, yj) then (none : Option Value) else if S' k = true then some (.bool true) else none) = fun k => if (S' k && decide (k ≠ ((false, yN), yi, yj))) = true then some (.bool true) else none := by
                  funext k
                  by_cases hk : k = ((false, yN), yi, yj)
                  · simp [hk]
                  · simp [hk]
                rw [e] at hmz hrz
                refine ⟨⟨_, _, cntz, Lib.hid ⟨hmz, hrz, fun k hk => ?_, fun k hk hs => ?_, fun k hs => ?_⟩, Lib.hid (HAX.out.trans (Agr.grown hgz fun b hb e => hb.1 (Option.some.inj e))), Lib.hid (HBX.out.grown hgz HBX.out.size (fun b hb => by have := Option.some.inj hb; have := HWL.out; have := HBMG.out; omega))⟩, ?_⟩
                · have hne : ¬ k = ((false, yN), yi, yj) := fun e => by rw [e] at hk; cases hk
                  simp only [ne_eq, hne, not_false_eq_true, decide_true, Bool.and_true]
                  exact HQ.out.2.2.1 k hk
                · rw [Bool.and_eq_true, decide_eq_true_eq] at hs
                  have := HQ.out.2.2.2.1 k hk hs.1
                  have hne : ¬ k = ((false, yN), yi, yj) := hs.2
                  simp [this, hne]
                · rw [Bool.and_eq_true] at hs
                  exact HQ.out.2.2.2.2 k hs.1
                · rw [hrz.left_eq, HQ.out.2.1.left_eq]; have := HLT.out; omega
        · as_aux_lemma =>
          have HEO := Lib.hid hEO
          have hal4 := (Below.refl w4.heap.size w4).al (.cells #[.slice none 0 0, .int .i64 0] 34)
          have HB4 := Lib.hid (hb4.via hal4)
          have HBF := Lib.hid (Blk.new w4 34 #[.slice none 0 0, .int .i64 0])
          have BG4 := (HBGc.out.via hb4).via hal4
          clear hEO hb4 hal4 BGc HBGc
          dsimp only
          go_upto_region 18 with fail
          generalize w4.alloc (.cells #[.slice none 0 0, .int .i64 0] 34) = W4 at *
          generalize w4.heap.size = bf at *
          have her := endsRight_c (fun b => b ≠ w.heap.size) (g.terms : Int) g.nons (g.start : Int) A n c wA wn wcp eA en ec rows W4 (HE.out.via HB4.out) hwn (by have := HG.out.ok.nons.2; omega)
          have cBG4 := BG4.cell
          have fBG4 := BG4.frozen
          have lBG4 := BG4.lt
          go_wp2_with fail
          clear cBG4 fBG4 lBG4
          refine her.mono ?_
          clear her BG4
          rintro e w5 ⟨b5, rfl, hb5, hbe⟩
          obtain rfl : b5 = false := by
            cases b5 with
            | false => rfl
            | true => exact absurd (hb5.1 rfl) HEO.out
          have HB5 := Lib.hid (HB4.out.via hbe)
          have HBF5 := Lib.hid (HBF.out.via hbe)
          clear hb5 hbe HB4 HBF
          dsimp only
          go_wp2_with fail
          refine (woods_c w5 (HTc.out.via HB5.out)).mono ?_
          rintro e w6 ⟨rfl, hb6⟩
          have HB6 := Lib.hid (HB5.out.via hb6)
          have BF6 := HBF5.out.via hb6
          clear hb6 HB5 HBF5
          dsimp only
          have cBF6 := BF6.cell
          have fBF6 := BF6.frozen
          have lBF6 := BF6.lt
          go_wp2_with fail
          clear cBF6 fBF6 lBF6
          refine (same_c (fun _ => True) (fun _ => True) none none 0 0 0 0 0 0 [] [] w6 (Sl.nil 0) (Sl.nil 0) ⟨by simp, by simp⟩).mono ?_
          rintro e w7 ⟨b7, rfl, hb7, hbe7⟩
          obtain rfl : b7 = true := hb7.2 (by simp)
          have HB7 := Lib.hid (HAc.out.via (HB6.out.via hbe7))
          clear hb7 hbe7 BF6
          go_wp2_with fail
          go_ret
          exact ⟨rfl, HB7.out⟩
      · as_aux_lemma =>
        have hq1 : (q != 0) = true := by simpa using hq0
        have hq2 : (q == q) = true := by simp
        have hq3 : (q == 0) = false := by simpa using hq0
        have hcy := fbuild_e (fun b => b ≠ w.heap.size) T N S A n c rs wA wn wcp xs eA en ec wc HLc.out HXc.out.intsIn q HQ.out hq0
        have cBGc := BGc.cell
        have fBGc := BGc.frozen
        have lBGc := BGc.lt
        go_wp2_with fail
        clear cBGc fBGc lBGc
        refine hcy.mono ?_
        clear hcy
        rintro e w4 ⟨rfl, hb4⟩
        have hal4 := (Below.refl w4.heap.size w4).al (.cells #[.slice none 0 0, .int .i64 0] 34)
        have HB4 := Lib.hid (hb4.via hal4)
        have HBF := Lib.hid (Blk.new w4 34 #[.slice none 0 0, .int .i64 0])
        clear hb4 hal4 BGc HBGc
        dsimp only
        go_upto_region 18 with fail
        generalize w4.alloc (.cells #[.slice none 0 0, .int .i64 0] 34) = W4 at *
        generalize w4.heap.size = bf at *
        go_wp2_with fail
        refine (woods_c W4 (HTc.out.via HB4.out)).mono ?_
        rintro e w6 ⟨rfl, hb6⟩
        have HB6 := Lib.hid (HB4.out.via hb6)
        have BF6 := HBF.out.via hb6
        clear hb6 HB4 HBF
        dsimp only
        have cBF6 := BF6.cell
        have fBF6 := BF6.frozen
        have lBF6 := BF6.lt
        go_wp2_with fail
        clear cBF6 fBF6 lBF6
        refine (same_c (fun _ => True) (fun _ => True) none none 0 0 0 0 0 0 [] [] w6 (Sl.nil 0) (Sl.nil 0) ⟨by simp, by simp⟩).mono ?_
        rintro e w7 ⟨b7, rfl, hb7, hbe7⟩
        obtain rfl : b7 = true := hb7.2 (by simp)
        have HB7 := Lib.hid (HAc.out.via (HB6.out.via hbe7))
        clear hb7 hbe7 BF6
        go_wp2_with fail
        go_ret
        exact ⟨rfl, HB7.out⟩
end Go.Proofs.YtbfcnfgkccgbiaaGreatDoor

