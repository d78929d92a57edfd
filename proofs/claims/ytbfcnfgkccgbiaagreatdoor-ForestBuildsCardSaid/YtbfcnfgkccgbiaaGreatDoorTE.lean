/- Texts TE, TF, TH, TG, laid together. -/
import Derived.Test.YtbfcnfgkccgbiaaGreatDoorTC
import Derived.Test.YtbfcnfgkccgbiaaGreatDoorBL


namespace Go.Proofs.YtbfcnfgkccgbiaaGreatDoor
open Go.RowKit

theorem row_bits {b i n : Nat} (hb : b < 4294967296) : (∀ k, k < 32 → b.testBit k = true → i ≤ k ∧ k ≤ n) ↔ b % 2 ^ i = 0 ∧ b / 2 ^ (n + 1) = 0 := by
  have h32 : ∀ k, b.testBit k = true → k < 32 := fun k hk => by
    rcases Nat.lt_or_ge k 32 with h0 | h0
    · exact h0
    · have : b < 2 ^ k := Nat.lt_of_lt_of_le hb (Nat.pow_le_pow_right (by omega) h0 : 2 ^ 32 ≤ 2 ^ k)
      rw [Nat.testBit_lt_two_pow this] at hk; cases hk
  constructor
  · intro h
    constructor
    · apply Nat.eq_of_testBit_eq
      intro k
      rw [Nat.testBit_mod_two_pow, Nat.zero_testBit]
      cases ht : b.testBit k with
      | false => simp
      | true =>
        have := (h k (h32 k ht) ht).1
        simp; omega
    · apply Nat.eq_of_testBit_eq
      intro k
      rw [Nat.testBit_div_two_pow, Nat.zero_testBit]
      cases ht : b.testBit (n + 1 + k) with
      | false => simp [Nat.add_comm] at ht ⊢; simpa [Nat.add_comm, Nat.add_left_comm, Nat.add_assoc] using ht
      | true =>
        have := (h _ (h32 _ ht) ht).2
        omega
  · rintro ⟨h1, h2⟩ k - hk
    constructor
    · rcases Nat.lt_or_ge k i with h0 | h0
      · have := Nat.testBit_mod_two_pow b i k
        rw [h1, Nat.zero_testBit, hk] at this
        simp at this; omega
      · exact h0
    · rcases Nat.lt_or_ge n k with h0 | h0
      · have this : (b / 2 ^ (n + 1)).testBit (k - (n + 1)) = b.testBit k := by
          rw [Nat.testBit_div_two_pow]
          first
            | rw [show n + 1 + (k - (n + 1)) = k by omega]
            | rw [show k - (n + 1) + (n + 1) = k by omega]
        rw [h2, Nat.zero_testBit, hk] at this
        cases this
      · exact h0
theorem row_cond (b j n : Nat) (hb : b < 4294967296) (hj : j ≤ 13) : ∃ P V Q : Nat, ((2 : Int) ^ j - 1) % 4294967296 = (P : Int) ∧ bits .and .u32 (b : Int) (P : Int) = (V : Int) ∧ (b : Int) / 2 ^ (n + 1) = (Q : Int) ∧ V = b % 2 ^ j ∧ Q = b / 2 ^ (n + 1) := by
  have hp : 2 ^ j ≤ 2 ^ 13 := Nat.pow_le_pow_right (by omega) hj
  have hp1 : 1 ≤ 2 ^ j := Nat.one_le_two_pow
  refine ⟨2 ^ j - 1, b &&& (2 ^ j - 1), b / 2 ^ (n + 1), ?_, ?_, by simp, Nat.and_two_pow_sub_one_eq_mod _ _, rfl⟩
  · have h2 : ((2 ^ j : Nat) : Int) = (2 : Int) ^ j := by simp
    rw [← h2]; omega
  · exact u32_and_nat _ _ (by omega) (by omega)
set_option maxRecDepth 100000 in
theorem fbuild_e (ok : Nat → Prop) (T N S : Int) (A : Option Addr) (n c : Nat) (rs : List Ri) (wA : Option Addr) (wn wc : Nat) (xs : List Int) (R : Option Addr) (m mc : Nat) (w : World) (hl : Sl RiE ok w A n c rs) (hx : Ints w wA wn wc xs) (q : Int) (hq : chkB T N S rs xs = q) (hbad : q ≠ 0) :
    Calls Tryz.prog 19 #[.agg #[.int .i64 T, .int .i64 N, .int .i64 S, .slice A n c], .slice wA wn wc, .slice R m mc] w fun e w' => e = .returned (.tuple #[.agg #[.slice none 0 0, .int .i64 0], .int .i64 q]) ∧ Below w.heap.size w w' := by
  have hal := ((Below.refl w.heap.size w).al (.cells #[.int .i64 T, .int .i64 N, .int .i64 S, .slice A n c] 24)).al (.cells #[.slice none 0 0, .int .i64 0] 34)
  have B0 := (Blk.new w 24 #[.int .i64 T, .int .i64 N, .int .i64 S, .slice A n c]).al (.cells #[.slice none 0 0, .int .i64 0] 34)
  have B1 := Blk.newAt (w.alloc (.cells #[.int .i64 T, .int .i64 N, .int .i64 S, .slice A n c] 24)) 34 #[.slice none 0 0, .int .i64 0] (w.heap.size + 1) (by simp)
  have HC := Lib.hid (accepts_e ok T N S A n c rs wA wn wc xs _ (hl.via hal) (hx.keep hal (Nat.le_refl _)) q hq hbad)
  have HAL := Lib.hid hal
  have HB1 := Lib.hid B1
  clear hl hx hq hal
  go_enter Tryz.func19, Tryz.ntmps19
  have cB0 := B0.cell
  have fB0 := B0.frozen
  have lB0 := B0.lt
  go_wp2_with fail
  clear cB0 fB0 lB0
  clear B0 B1
  generalize (w.alloc (.cells #[.int .i64 T, .int .i64 N, .int .i64 S, .slice A n c] 24)).alloc (.cells #[.slice none 0 0, .int .i64 0] 34) = W at *
  refine HC.out.mono ?_
  clear HC
  rintro e w1 ⟨rfl, hb⟩
  have HB := Lib.hid (HAL.out.via hb)
  have B2 := HB1.out.via hb
  have HB2 := Lib.hid B2
  clear hb HB1 HAL
  have cB2 := B2.cell
  have fB2 := B2.frozen
  have lB2 := B2.lt
  go_wp2_with fail
  have B3 := (HB2.out.set_ 0 (.slice none 0 0)).set_ 1 (.int .i64 0)
  simp only [List.setIfInBounds_toArray, List.set_cons_zero, List.set_cons_succ] at B3
  have cc2 := B3.cell
  refine bodyPost_ret (v := .tuple #[.agg #[.slice none 0 0, .int .i64 0], .int .i64 q]) (by simp [results, Tryz.results19, go_sem, cc2]) rfl ⟨rfl, ?_⟩
  exact (HB.out.setCell (p := ⟨w.heap.size + 1, 0, none⟩) (by show w.heap.size ≤ w.heap.size + 1; omega) _).setCell (p := ⟨w.heap.size + 1, 1, none⟩) (by show w.heap.size ≤ w.heap.size + 1; omega) _
def FbP (w : World) (N n : Nat) (rows : List (List Nat)) (D : Ky → Bool) (R : List Ru) (root : Ky) (e : Ending) (w' : World) : Prop :=
  (EndsOk N n rows ∧ FoP w D R root e w') ∨ (¬ EndsOk N n rows ∧ e = .returned (.tuple #[.agg #[.slice none 0 0, .int .i64 0], .int .i64 3]) ∧ Below w.heap.size w w')
set_option maxRecDepth 100000 in
set_option maxHeartbeats 8000000 in
theorem fbuild_c (ok okr : Nat → Prop) (g : Gr) (Ag : Option Addr) (ng cg : Nat) (A : Option Addr) (n c : Nat) (xs : List Int) (R : Option Addr) (m mc : Nat) (rows : List (List Nat)) (w : World) (hg : GrOk g) (hl : Sl RuE ok w Ag ng cg g.rules) (hx : Ints w A n c xs) (hn : n ≤ 12) (hxt : ∀ x ∈ xs, 0 ≤ x ∧ x < (g.terms : Int)) (hT : TabW w) (hr : Sl UrE okr w R m mc rows) (hrb : ∀ row ∈ rows, ∀ b ∈ row, b < 4294967296) :
    Calls Tryz.prog 19 #[grVal g Ag ng cg, .slice A n c, .slice R m mc] w (FbP w g.nons n rows (dOf xs (enOf rows)) g.rules ((false, g.start), 0, n)) := by
  have hal := ((Below.refl w.heap.size w).al (.cells #[.int .i64 (g.terms : Int), .int .i64 (g.nons : Int), .int .i64 (g.start : Int), .slice Ag ng cg] 24)).al (.cells #[.slice none 0 0, .int .i64 0] 34)
  have B0 := (Blk.new w 24 #[.int .i64 (g.terms : Int), .int .i64 (g.nons : Int), .int .i64 (g.start : Int), .slice Ag ng cg]).al (.cells #[.slice none 0 0, .int .i64 0] 34)
  have B1 := Blk.newAt (w.alloc (.cells #[.int .i64 (g.terms : Int), .int .i64 (g.nons : Int), .int .i64 (g.start : Int), .slice Ag ng cg] 24)) 34 #[.slice none 0 0, .int .i64 0] (w.heap.size + 1) (by simp)
  have HC := Lib.hid (accepts_c ok g Ag ng cg A n c xs _ hg (hl.via hal) (hx.keep hal (Nat.le_refl _)) hn hxt (hT.via hal))
  have HL := Lib.hid (hl.via hal)
  have HX := Lib.hid (hx.keep hal (Nat.le_refl _))
  have HT := Lib.hid (hT.via hal)
  have HG := Lib.hid hg
  have HAL := Lib.hid hal
  have HB1 := Lib.hid B1
  have HB0 := Lib.hid B0
  have HR0 := Lib.hid (hr.via hal)
  have HRB := Lib.hid hrb
  have hN1 := hg.ok.nons.1
  have hN2 := hg.ok.nons.2
  have hlen := hr.len
  clear hl hx hT hg hal hxt hr hrb
  simp only [grVal] at HC ⊢
  go_enter Tryz.func19, Tryz.ntmps19
  have cB0 := B0.cell
  have fB0 := B0.frozen
  have lB0 := B0.lt
  go_wp2_with fail
  clear cB0 fB0 lB0
  clear B0 B1
  have HSW := Lib.hid (show ((w.alloc (.cells #[.int .i64 (g.terms : Int), .int .i64 (g.nons : Int), .int .i64 (g.start : Int), .slice Ag ng cg] 24)).alloc (.cells #[.slice none 0 0, .int .i64 0] 34)).heap.size = w.heap.size + 2 by simp)
  generalize (w.alloc (.cells #[.int .i64 (g.terms : Int), .int .i64 (g.nons : Int), .int .i64 (g.start : Int), .slice Ag ng cg] 24)).alloc (.cells #[.slice none 0 0, .int .i64 0] 34) = W at *
  refine HC.out.mono ?_
  clear HC
  rintro e w1 ⟨bb, rfl, -, hb⟩
  have HB := Lib.hid hb
  have B0 := HB0.out.via hb
  have HB9 := Lib.hid (HB1.out.via hb)
  have HAB := Lib.hid (HAL.out.via hb)
  have HR := Lib.hid (HR0.out.via hb)
  have HBG := Lib.hid B0
  clear hb HB0 HB1 HAL HR0
  dsimp only
  by_cases hm : m = g.nons
  · have e1 : ((m : Int) != (g.nons : Int)) = false := by rw [hm]; simp
    have cB0 := B0.cell
    have fB0 := B0.frozen
    have lB0 := B0.lt
    go_wp2_with fail
    clear cB0 fB0 lB0
    clear B0 e1
    go_loopw [32] (fun q wr => ∃ i : Nat, q = .int .i64 (i : Int) ∧ i ≤ m ∧ Hid (∀ a row, a < i → rows[a]? = some row → RowOk n row) ∧ wr = w1) (fun q _ => m - (intOf q).toNat)
    case atStart => exact ⟨0, rfl, Nat.zero_le _, Lib.hid (fun a _ h => absurd h (by omega)), rfl⟩
    case round =>
      obtain ⟨i, rfl, hi, HQ, rfl⟩ := hrel
      by_cases him : i < m
      · obtain ⟨b1, o1, ⟨RA, rn, rc⟩, row, hAa, -, hb1, hx, hx2, hcx⟩ := HR.out.at_ him
        subst hAa
        have c0 := hcx 0 _ rfl
        simp only [UrE, Nat.add_zero, Nat.mul_one] at c0
        have i0 : (0 : Int) ≤ (i : Int) := by omega
        have i1 : (i : Int) < (m : Int) := by omega
        have HXR := Lib.hid hx
        have HX2 := Lib.hid (show Sl U3E okr wr RA rn rc row from hx2)
        have hxl := HX2.out.len
        clear hcx hx hx2
        by_cases hrn : rn = n + 1
        · subst hrn
          have e0 : IntKind.i64.wrap ((n : Int) + 1) = (((n + 1 : Nat)) : Int) := by rw [IntWalk.i64_in _ (by omega)]; omega
          go_wp2_with fail
          clear e0 c0
          go_loopw [45] (fun q wq => ∃ j : Nat, q = .int .i64 (j : Int) ∧ j ≤ n + 1 ∧ Hid (∀ p b, p < j → row[p]? = some b → ∀ k, k < 32 → b.testBit k = true → p ≤ k ∧ k ≤ n) ∧ wq = wr) (fun q _ => n + 1 - (intOf q).toNat)
          case atStart => exact ⟨0, rfl, Nat.zero_le _, Lib.hid (fun a _ h => absurd h (by omega)), rfl⟩
          case round =>
            obtain ⟨j, rfl, hj, HJ, rfl⟩ := hrel
            by_cases hjm : j < n + 1
            · obtain ⟨b2, o2, b, b', hRA, -, hb2, hy, ⟨hy1, hy2⟩, hcy⟩ := HX2.out.at_ hjm
              subst hRA hy1
              have c0 := hcy 0 _ rfl
              simp only [U3E, Nat.add_zero, Nat.mul_one] at c0
              have j0 : (0 : Int) ≤ (j : Int) := by omega
              have j1 : (j : Int) < ((n + 1 : Nat) : Int) := by omega
              have j2 : (j : Int) < (n : Int) + 1 := by omega
              have HY := Lib.hid hy
              clear hcy hy
              obtain ⟨P, V, Q, h1, h2, h3, hV, hQ⟩ := row_cond b j n hy2 (by omega)
              have HRC := Lib.hid (row_bits (b := b) (i := j) (n := n) hy2)
              rw [← hV, ← hQ] at HRC
              clear hV hQ
              by_cases hok : V = 0 ∧ Q = 0
              · obtain ⟨rfl, rfl⟩ := hok
                have HJN : Hid (∀ p b, p < j + 1 → row[p]? = some b → ∀ k, k < 32 → b.testBit k = true → p ≤ k ∧ k ≤ n) := Lib.hid fun p b' hp hpb => by
                  rcases Nat.lt_or_ge p j with h0 | h0
                  · exact HJ.out p b' h0 hpb
                  · obtain rfl : p = j := by omega
                    obtain rfl : b = b' := Option.some.inj (HY.out.symm.trans hpb)
                    exact HRC.out.2 ⟨rfl, rfl⟩
                rw [Int.natCast_zero] at h2 h3
                go_wp2_with fail
                exact ⟨⟨j + 1, by simp, by omega, HJN, trivial⟩, by simp [intOf]; omega⟩
              · have HNO := Lib.hid (show ¬ EndsOk g.nons n rows from fun h => hok (HRC.out.1 (((endsOk_iff.1 h).2 i row HXR.out).2 j b HY.out)))
                by_cases hv : V = 0
                · subst hv
                  have hq : Q ≠ 0 := fun e => hok ⟨rfl, e⟩
                  have hq1 : ((Q : Int) != 0) = true := by simpa using hq
                  rw [Int.natCast_zero] at h2
                  have BE := HB9.out
                  have cBE := BE.cell
                  have fBE := BE.frozen
                  have lBE := BE.lt
                  go_wp2_with fail
                  clear cBE fBE lBE
                  have B3 := (BE.set_ 0 (.slice none 0 0)).set_ 1 (.int .i64 0)
                  simp only [List.setIfInBounds_toArray, List.set_cons_zero, List.set_cons_succ] at B3
                  have cc2 := B3.cell
                  refine bodyPost_ret (v := .tuple #[.agg #[.slice none 0 0, .int .i64 0], .int .i64 3]) (by simp [results, Tryz.results19, go_sem, cc2]) rfl (Or.inr ⟨HNO.out, rfl, ?_⟩)
                  exact (HAB.out.setCell (p := ⟨w.heap.size + 1, 0, none⟩) (by show w.heap.size ≤ w.heap.size + 1; omega) _).setCell (p := ⟨w.heap.size + 1, 1, none⟩) (by show w.heap.size ≤ w.heap.size + 1; omega) _
                · have hv1 : ((V : Int) != 0) = true := by simpa using hv
                  have hv2 : ¬ (V : Int) = 0 := by omega
                  have BE := HB9.out
                  have cBE := BE.cell
                  have fBE := BE.frozen
                  have lBE := BE.lt
                  go_wp2_with fail
                  clear cBE fBE lBE
                  have B3 := (BE.set_ 0 (.slice none 0 0)).set_ 1 (.int .i64 0)
                  simp only [List.setIfInBounds_toArray, List.set_cons_zero, List.set_cons_succ] at B3
                  have cc2 := B3.cell
                  refine bodyPost_ret (v := .tuple #[.agg #[.slice none 0 0, .int .i64 0], .int .i64 3]) (by simp [results, Tryz.results19, go_sem, cc2]) rfl (Or.inr ⟨HNO.out, rfl, ?_⟩)
                  exact (HAB.out.setCell (p := ⟨w.heap.size + 1, 0, none⟩) (by show w.heap.size ≤ w.heap.size + 1; omega) _).setCell (p := ⟨w.heap.size + 1, 1, none⟩) (by show w.heap.size ≤ w.heap.size + 1; omega) _
            · obtain rfl : j = n + 1 := by omega
              have HQN : Hid (∀ a row, a < i + 1 → rows[a]? = some row → RowOk n row) := Lib.hid fun a row' ha har => by
                rcases Nat.lt_or_ge a i with h0 | h0
                · exact HQ.out a row' h0 har
                · obtain rfl : a = i := by omega
                  obtain rfl : row = row' := Option.some.inj (HXR.out.symm.trans har)
                  exact ⟨hxl, fun p b hp => HJ.out p b (by have := (List.getElem?_eq_some_iff.1 hp).1; omega) hp⟩
              go_wp2_with fail
              exact ⟨⟨i + 1, by simp, by omega, HQN, trivial⟩, by simp [intOf]; omega⟩
        · have e0 : IntKind.i64.wrap ((n : Int) + 1) = (((n + 1 : Nat)) : Int) := by rw [IntWalk.i64_in _ (by omega)]; omega
          have e1 : ((rn : Int) != ((n + 1 : Nat) : Int)) = true := by simp; omega
          have HNO := Lib.hid (show ¬ EndsOk g.nons n rows from fun h => hrn (hxl.symm.trans ((endsOk_iff.1 h).2 i row HXR.out).1))
          have BE := HB9.out
          have cBE := BE.cell
          have fBE := BE.frozen
          have lBE := BE.lt
          go_wp2_with fail
          clear cBE fBE lBE
          have B3 := (BE.set_ 0 (.slice none 0 0)).set_ 1 (.int .i64 0)
          simp only [List.setIfInBounds_toArray, List.set_cons_zero, List.set_cons_succ] at B3
          have cc2 := B3.cell
          refine bodyPost_ret (v := .tuple #[.agg #[.slice none 0 0, .int .i64 0], .int .i64 3]) (by simp [results, Tryz.results19, go_sem, cc2]) rfl (Or.inr ⟨HNO.out, rfl, ?_⟩)
          exact (HAB.out.setCell (p := ⟨w.heap.size + 1, 0, none⟩) (by show w.heap.size ≤ w.heap.size + 1; omega) _).setCell (p := ⟨w.heap.size + 1, 1, none⟩) (by show w.heap.size ≤ w.heap.size + 1; omega) _
      · obtain rfl : i = m := by omega
        have HE := Lib.hid (show EndsOk g.nons n rows from endsOk_iff.2 ⟨by omega, fun a row hr => HQ.out a row (by have := (List.getElem?_eq_some_iff.1 hr).1; omega) hr⟩)
        subst hm
        obtain ⟨ob, oo, rb, ro, rc, rfl, hE⟩ := HR.out.enV (by omega) (fun row hr => (HE.out.2 row hr).1)
        have hmk := fmake2_c ok g Ag ng cg A n c ob oo mc rb ro rc xs (enOf rows) wr HG.out.ok (HL.out.via HB.out) (HX.out.keep HB.out (Nat.le_refl _)) hE (HT.out.via HB.out) (HE.out.sup HRB.out) hn
        simp only [grVal] at hmk
        have BG := HBG.out
        have hs1 := HSW.out
        have hs2 := HB.out.size
        clear hE hlen him hi
        have cBG := BG.cell
        have fBG := BG.frozen
        have lBG := BG.lt
        go_wp2_with fail
        clear cBG fBG lBG
        clear BG
        refine hmk.mono ?_
        clear hmk
        rintro e w2 ⟨f, v, b2, rfl, hf, ⟨fA, fn, fc, rfl, hS⟩, hb2⟩
        obtain ⟨q, hq⟩ : ∃ q : Int, q = if b2 then 0 else 2 := ⟨_, rfl⟩
        rw [← hq]
        have HQQ := Lib.hid hq
        have HF := Lib.hid hf
        have HS := Lib.hid hS
        have HAB2 := Lib.hid (HAB.out.via hb2)
        have B8 := HB9.out.via hb2
        have HB8 := Lib.hid B8
        clear hq hf hS hb2
        dsimp only
        have cB8 := B8.cell
        have fB8 := B8.frozen
        have lB8 := B8.lt
        go_wp2_with fail
        clear cB8 fB8 lB8
        have B3 := (HB8.out.set_ 0 (.slice fA fn fc)).set_ 1 (.int .i64 f.1)
        simp only [List.setIfInBounds_toArray, List.set_cons_zero, List.set_cons_succ] at B3
        have cc2 := B3.cell
        refine bodyPost_ret (v := .tuple #[.agg #[.slice fA fn fc, .int .i64 f.1], .int .i64 q]) (by simp [results, Tryz.results19, go_sem, cc2]) rfl (Or.inl ⟨HE.out, f, _, b2, by rw [HQQ.out], HF.out, ⟨fA, fn, fc, rfl, ?_⟩, ?_⟩)
        · have h2 := (HS.out.agr (Agr.setCell (p := ⟨w.heap.size + 1, 0, none⟩) (.slice fA fn fc) fun b hb => by show b ≠ w.heap.size + 1; omega)).agr (Agr.setCell (p := ⟨w.heap.size + 1, 1, none⟩) (.int .i64 f.1) fun b hb => by show b ≠ w.heap.size + 1; omega)
          exact h2.mono fun b _ hb => by omega
        · exact (HAB2.out.setCell (p := ⟨w.heap.size + 1, 0, none⟩) (by show w.heap.size ≤ w.heap.size + 1; omega) _).setCell (p := ⟨w.heap.size + 1, 1, none⟩) (by show w.heap.size ≤ w.heap.size + 1; omega) _
  · have e1 : ((m : Int) != (g.nons : Int)) = true := by simp; omega
    have HNO := Lib.hid (show ¬ EndsOk g.nons n rows from fun h => hm (hlen.symm.trans h.1))
    have cB0 := B0.cell
    have fB0 := B0.frozen
    have lB0 := B0.lt
    have BE := HB9.out
    have cBE := BE.cell
    have fBE := BE.frozen
    have lBE := BE.lt
    go_wp2_with fail
    clear cBE fBE lBE
    have B3 := (BE.set_ 0 (.slice none 0 0)).set_ 1 (.int .i64 0)
    simp only [List.setIfInBounds_toArray, List.set_cons_zero, List.set_cons_succ] at B3
    have cc2 := B3.cell
    refine bodyPost_ret (v := .tuple #[.agg #[.slice none 0 0, .int .i64 0], .int .i64 3]) (by simp [results, Tryz.results19, go_sem, cc2]) rfl (Or.inr ⟨HNO.out, rfl, ?_⟩)
    exact (HAB.out.setCell (p := ⟨w.heap.size + 1, 0, none⟩) (by show w.heap.size ≤ w.heap.size + 1; omega) _).setCell (p := ⟨w.heap.size + 1, 1, none⟩) (by show w.heap.size ≤ w.heap.size + 1; omega) _
end Go.Proofs.YtbfcnfgkccgbiaaGreatDoor



namespace Go.Proofs.YtbfcnfgkccgbiaaGreatDoor
open Go.RowKit

/-- every span over ends that may be given is a span of the grammar -/
theorem endsOk_ky {g : Gr} {n : Nat} {xs : List Int} {rows : List (List Nat)} (h : EndsOk g.nons n rows) (hb : ∀ row ∈ rows, ∀ b ∈ row, b < 4294967296) (hl : xs.length = n) (hxt : ∀ x ∈ xs, 0 ≤ x ∧ x < (g.terms : Int)) {k : Ky} (hk : dOf xs (enOf rows) k = true) : KyOk g n k := by
  obtain ⟨⟨t, N⟩, i, j⟩ := k
  unfold dOf cOf at hk
  cases t with
  | true =>
    simp only [if_true] at hk
    by_cases hx : xs[i]? = some (N : Int)
    · rw [if_pos hx] at hk
      rw [Nat.testBit_two_pow] at hk
      have hj : i + 1 = j := by simpa using hk
      have hm := hxt _ (List.mem_of_getElem? hx)
      have hi := (List.getElem?_eq_some_iff.1 hx).1
      refine ⟨by simp [Gr.okSy]; omega, ?_, ?_⟩ <;> simp only <;> omega
    · rw [if_neg hx] at hk
      simp at hk
  | false =>
    simp only [Bool.false_eq_true, if_false] at hk
    have hs := h.sup hb N i j hk
    refine ⟨?_, hs.1, hs.2⟩
    have hN : N < rows.length := by
      rcases Nat.lt_or_ge N rows.length with h0 | h0
      · exact h0
      · unfold enOf at hk
        rw [List.getD_eq_getElem?_getD (l := rows), List.getElem?_eq_none h0] at hk
        simp at hk
    have := h.1
    simp [Gr.okSy]; omega
/-- on a terminal the given ends say what the grammar says -/
theorem dv_term {rules : List Ru} {xs : List Int} {E : EnS} {t i j : Nat} : dvD rules xs ((true, t), i, j) = dOf xs E ((true, t), i, j) := by
  apply Bool.eq_iff_iff.2
  rw [dvD_iff, dOf_term]
  unfold DvS
  simp only
  constructor
  · rintro ⟨h1, h2, h3⟩
    exact (part_one h1 h2).1 (dv_one.1 h3)
  · rintro ⟨h, rfl⟩
    have := (List.getElem?_eq_some_iff.1 h).1
    exact ⟨by omega, by omega, dv_one.2 (gpart_at h)⟩
end Go.Proofs.YtbfcnfgkccgbiaaGreatDoor



namespace Go.Proofs.YtbfcnfgkccgbiaaGreatDoor
open Go.RowKit

theorem Sl.u32s {ok : Nat → Prop} {w : World} {A : Option Addr} {m c : Nat} {rows : List (List Nat)} (h : Sl UrE ok w A m c rows) : ∀ row ∈ rows, ∀ b ∈ row, b < 4294967296 := by
  intro row hrow b hb
  obtain ⟨h1, h2, raw, h3, h4, h5⟩ := h
  obtain ⟨i, hi⟩ := List.mem_iff_getElem?.1 hrow
  have hil := (List.getElem?_eq_some_iff.1 hi).1
  obtain ⟨g1, g2, raw2, g3, g4, g5⟩ := h5 i _ row (List.getElem?_eq_getElem (show i < raw.length by omega)) hi
  obtain ⟨j, hj⟩ := List.mem_iff_getElem?.1 hb
  have hjl := (List.getElem?_eq_some_iff.1 hj).1
  have := g5 j _ b (List.getElem?_eq_getElem (show j < raw2.length by omega)) hj
  obtain ⟨e1, e2⟩ := this
  rw [← e1]; exact e2
/-- what the map says while the given ends are laid into it: rows below n, places below i of row n, bits below j of that place -/
def fvB (D : Ky → Bool) (E : EnS) (n i j : Nat) (k : Ky) : Bool := if k.1.1 then D k else (decide (k.1.2 < n ∨ (k.1.2 = n ∧ (k.2.1 < i ∨ (k.2.1 = i ∧ k.2.2 < j)))) && (E k.1.2 k.2.1).testBit k.2.2)
section
variable {D : Ky → Bool} {E : EnS} {n i j wn : Nat}
theorem fvB_hit (hb : (E n i).testBit j = true) (z : Ky) : (if z = ((false, n), i, j) then some (Value.bool true) else if fvB D E n i j z then some (.bool true) else none) = if fvB D E n i (j + 1) z then some (.bool true) else none := by
  obtain ⟨⟨t, N⟩, I, J⟩ := z
  by_cases e : (((t, N), I, J) : Ky) = ((false, n), i, j)
  · rw [if_pos e]
    cases e
    unfold fvB
    simp [hb]
  · rw [if_neg e]
    have : fvB D E n i (j + 1) ((t, N), I, J) = fvB D E n i j ((t, N), I, J) := by
      unfold fvB
      cases t with
      | true => rfl
      | false =>
        have e1 : ¬ (N = n ∧ I = i ∧ J = j) := fun ⟨a, b, c⟩ => e (by rw [a, b, c])
        simp only [Bool.false_eq_true, if_false]
        congr 1
        exact decide_eq_decide.2 (by omega)
    rw [this]
theorem fvB_miss (hb : (E n i).testBit j = false) (z : Ky) : fvB D E n i (j + 1) z = fvB D E n i j z := by
  obtain ⟨⟨t, N⟩, I, J⟩ := z
  unfold fvB
  cases t with
  | true => rfl
  | false =>
    simp only [Bool.false_eq_true, if_false]
    by_cases e : N = n ∧ I = i ∧ J = j
    · obtain ⟨rfl, rfl, rfl⟩ := e
      rw [hb]; simp
    · congr 1
      exact decide_eq_decide.2 (by omega)
theorem fvB_row (hs : SupE wn E) (z : Ky) : fvB D E n i (wn + 1) z = fvB D E n (i + 1) (i + 1) z := by
  obtain ⟨⟨t, N⟩, I, J⟩ := z
  unfold fvB
  cases t with
  | true => rfl
  | false =>
    simp only [Bool.false_eq_true, if_false]
    cases hb : (E N I).testBit J with
    | false => simp
    | true =>
      have := hs N I J hb
      congr 1
      exact decide_eq_decide.2 (by omega)
theorem fvB_all (hs : SupE wn E) (z : Ky) : fvB D E n (wn + 1) j z = fvB D E (n + 1) 0 0 z := by
  obtain ⟨⟨t, N⟩, I, J⟩ := z
  unfold fvB
  cases t with
  | true => rfl
  | false =>
    simp only [Bool.false_eq_true, if_false]
    cases hb : (E N I).testBit J with
    | false => simp
    | true =>
      have := hs N I J hb
      congr 1
      exact decide_eq_decide.2 (by omega)
theorem fvB_start (z : Ky) : fvB D E 0 0 0 z = (z.1.1 && D z) := by
  obtain ⟨⟨t, N⟩, I, J⟩ := z
  unfold fvB
  cases t with
  | true => simp
  | false => simp
theorem fvB_done {rules : List Ru} {xs : List Int} {rows : List (List Nat)} (z : Ky) : fvB (dvD rules xs) (enOf rows) rows.length 0 0 z = dOf xs (enOf rows) z := by
  obtain ⟨⟨t, N⟩, I, J⟩ := z
  unfold fvB
  cases t with
  | true =>
    simp only [if_true]
    exact dv_term
  | false =>
    simp only [Bool.false_eq_true, if_false]
    unfold dOf cOf
    simp only [Bool.false_eq_true, if_false]
    by_cases h : N < rows.length
    · simp [h]
    · have : enOf rows N I = 0 := by
        unfold enOf
        rw [List.getD_eq_getElem?_getD (l := rows), List.getElem?_eq_none (by omega)]
        simp
      rw [this]; simp
/-- each span that the map ever says is one of the grammar -/
theorem fvB_ky {g : Gr} {xs : List Int} {rows : List (List Nat)} (h : EndsOk g.nons wn rows) (hb : ∀ row ∈ rows, ∀ b ∈ row, b < 4294967296) (hl : xs.length = wn) (hxt : ∀ x ∈ xs, 0 ≤ x ∧ x < (g.terms : Int)) {k : Ky} (hk : fvB (dvD g.rules xs) (enOf rows) n i j k = true) : KyOk g wn k := by
  refine endsOk_ky h hb hl hxt ?_
  rw [← fvB_done (rules := g.rules)]
  obtain ⟨⟨t, N⟩, I, J⟩ := k
  unfold fvB at hk ⊢
  cases t with
  | true => exact hk
  | false =>
    simp only [Bool.false_eq_true, if_false, Bool.and_eq_true] at hk ⊢
    refine ⟨?_, hk.2⟩
    have : N < rows.length := by
      rcases Nat.lt_or_ge N rows.length with h0 | h0
      · exact h0
      · have h1 := hk.2
        unfold enOf at h1
        rw [List.getD_eq_getElem?_getD (l := rows), List.getElem?_eq_none h0] at h1
        simp at h1
    simp [this]
end
end Go.Proofs.YtbfcnfgkccgbiaaGreatDoor



namespace Go.Proofs.YtbfcnfgkccgbiaaGreatDoor
open Go.RowKit
open Go.MapKept
open Go.ChangeMaps (setBlock heap_setBlock_same heap_setBlock_other)
open Go.WideElems (Fit rd rg rd_key rd_mk other_key)

section
variable {κ : Type} [DecidableEq κ] {P : Program} {k : TypeId} {kk : κ → Value} {f : κ → Option Value} {w w' : World} {b r bm cnt : Nat} {left : κ → Bool} {t e : TypeId}
/-- what 'delete' does to the entries -/
theorem run_delete_K {ty : TypeId} {es : Array MapEntry} {clock : Nat} (K : Maps.Keyed P k) (ht : P.underlying t = some (.map k e)) (hb : w.heap[b]? = some (.map es clock)) (F : Fit P k anyElem es clock) {key : Value} {kl : Lit} (hkey : keyOf P k key = some kl) :
    ∃ es', (Builtin.delete_ #[t, k] ty #[.map (some b), key]).run P w = .ok (.tuple #[]) (setBlock w b (.map es' clock)) ∧ es'.toList.Sublist es.toList ∧ Fit P k anyElem es' clock ∧ (∀ x, x ∈ es'.toList ↔ x ∈ es.toList ∧ x.key ≠ key) := by
  rcases K.find w hkey es.toList F.keys with ⟨h1, h2⟩ | ⟨j, e0, h1, h2, h3⟩
  · refine ⟨es, ?_, List.Sublist.refl _, F, fun x => ⟨fun h => ⟨h, h2 x h⟩, fun h => h.1⟩⟩
    simp [Builtin.delete_, run_underlying ht, MapKept.run_getObj_map hb, K.check w _ hkey, h1, MapKept.run_setObj_map _ hb, Result.andThen, setBlock]
  · have hjl : j < es.toList.length := (List.getElem?_eq_some_iff.1 h2).1
    have hjs : j < es.size := by simpa using hjl
    have hsub : (es.eraseIdxIfInBounds j).toList = es.toList.eraseIdx j := by
      unfold Array.eraseIdxIfInBounds
      rw [dif_pos hjs]
      simp
    have hp : es.toList.Pairwise (fun x y => x.key ≠ y.key) := ((stamped_iff es clock).1 F.stamped).2.2
    refine ⟨es.eraseIdxIfInBounds j, ?_, ?_, ⟨Nat.le_trans (MapFrom.size_erase es j) F.size, stamped_erase F.stamped j, ?_⟩, fun x => ?_⟩
    · simp [Builtin.delete_, run_underlying ht, MapKept.run_getObj_map hb, K.check w _ hkey, h1, MapKept.run_setObj_map _ hb, Result.andThen, setBlock]
    · rw [hsub]; exact List.eraseIdx_sublist _ _
    · intro x hx
      rw [hsub] at hx
      exact F.reads x ((List.eraseIdx_sublist _ _).subset hx)
    · classical
      have hf := ChangeMaps.filter_eq_eraseIdx (fun x : MapEntry => decide (x.key = key)) es.toList j e0 h2 (by simp [h3]) (hp.imp fun {a c} h => by
        simp only [decide_eq_true_eq, not_and]
        intro ea ec
        exact h (ea.trans ec.symm))
      rw [hsub, ← hf, List.mem_filter]
      simp
/-- 'delete(m, k)' -/
theorem MapK.del {ty : TypeId} (h : MapK P k kk w b f) (K : Maps.Keyed P k) (ht : P.underlying t = some (.map k e)) (y : κ) {kl : Lit} (hkey : keyOf P k (kk y) = some kl) (hinj : ∀ x y, kk x = kk y → x = y) :
    ∃ w', (Builtin.delete_ #[t, k] ty #[.map (some b), kk y]).run P w = .ok (.tuple #[]) w' ∧ MapK P k kk w' b (fun x => if x = y then none else f x) ∧ w.grownBy w' (some b) ∧ w'.heap.size = w.heap.size ∧
      (∀ r left cnt, r ≠ b → RngK kk f w r b left cnt → ∃ cnt', cnt' ≤ cnt ∧ RngK kk (fun x => if x = y then none else f x) w' r b (fun z => left z && decide (z ≠ y)) cnt') := by
  obtain ⟨es, clock, hb, F, hk, hf⟩ := h
  obtain ⟨es', hrun, hsub, F', hm⟩ := run_delete_K (ty := ty) K ht hb F hkey
  have hf' : ∀ z v, (if z = y then none else f z) = some v ↔ ∃ x ∈ es'.toList, x.key = kk z ∧ x.val = v := by
    intro z v
    by_cases hz : z = y
    · subst hz
      simp only [if_true]
      constructor
      · intro h; cases h
      · rintro ⟨x, hx, h1, -⟩
        exact absurd h1 ((hm x).1 hx).2
    · rw [if_neg hz, hf z v]
      constructor
      · rintro ⟨x, hx, h1, h2⟩
        exact ⟨x, (hm x).2 ⟨hx, fun e => hz (hinj _ _ (h1.symm.trans e))⟩, h1, h2⟩
      · rintro ⟨x, hx, h1, h2⟩
        exact ⟨x, ((hm x).1 hx).1, h1, h2⟩
  refine ⟨_, hrun, ⟨es', clock, heap_setBlock_same hb _, F', fun x hx => hk x ((hm x).1 hx).1, hf'⟩, ⟨rfl, rfl, rfl, by simp [setBlock], fun i _ hi => heap_setBlock_other hb _ (fun e => hi (by rw [e]))⟩, by simp [setBlock], ?_⟩
  rintro r left cnt hne ⟨since, seen, c0, es1, clock1, h1, h2, h3, h4, h5, h6, h7, h8, h9, h10⟩
  rw [hb] at h2
  cases h2
  have hlm : ∀ x, x ∈ (leftOf es' seen).toList ↔ x ∈ (leftOf es seen).toList ∧ x.key ≠ kk y := by
    intro x
    simp only [leftOf, Array.toList_filter, List.mem_filter, hm x]
    constructor
    · rintro ⟨⟨a, b⟩, c⟩; exact ⟨⟨a, c⟩, b⟩
    · rintro ⟨⟨a, c⟩, b⟩; exact ⟨⟨a, b⟩, c⟩
  refine ⟨(leftOf es' seen).size, ?_, since, seen, c0, es', clock, (heap_setBlock_other hb _ hne).trans h1, heap_setBlock_same hb _, fun x hx => h3 x ((hm x).1 hx).1, h4, h5, ?_, fun x hx z hz => h7 x ((hm x).1 hx).1 z ((hm z).1 hz).1, ?_, ?_, rfl⟩
  · rw [← h10, ← Array.length_toList, ← Array.length_toList]
    simp only [leftOf, Array.toList_filter]
    exact (hsub.filter _).length_le
  · exact (hsub.map _).nodup h6
  · intro x hx
    obtain ⟨z, hz1, hz2⟩ := h8 x ((hm x).1 hx).1
    refine ⟨z, hz1, ?_⟩
    have hzy : z ≠ y := fun e' => ((hm x).1 hx).2 (by rw [hz1, e'])
    show (if z = y then none else f z) = some x.val
    rw [if_neg hzy]
    exact hz2
  · intro z
    rw [Bool.and_eq_true, decide_eq_true_eq, h9 z]
    constructor
    · rintro ⟨⟨x, hx, hxk⟩, hz⟩
      exact ⟨x, (hlm x).2 ⟨hx, fun e => hz (hinj _ _ (hxk.symm.trans e))⟩, hxk⟩
    · rintro ⟨x, hx, hxk⟩
      obtain ⟨a, c⟩ := (hlm x).1 hx
      exact ⟨⟨x, a, hxk⟩, fun e => c (by rw [hxk, e])⟩
variable {ops : Array Oper} {rest : List Oper} {o : Oper} {a : Act} {Q : Exit → Act → World → Prop}
/-- 'delete(m, k)' in the round of a range over m -/
theorem wpList_delete_K (hg : o.guard = none) (m x : Operand) (t : TypeId) (hop : o.op = Op.call { callee := Callee.builtin Builtin.delete, args := #[m, x], argTypes := #[t, k] })
    (K : Maps.Keyed P k) (ht : P.underlying t = some (.map k e)) (hinj : ∀ x y, kk x = kk y → x = y) (r b : Nat) (left : κ → Bool) (cnt : Nat) (hne : r ≠ b) (y : κ) {kl : Lit} (hkey : keyOf P k (kk y) = some kl)
    (hm : a.eval m = .map (some b)) (hx : a.eval x = kk y) (h : MapK P k kk w b f) (hr : RngK kk f w r b left cnt)
    (hK : ∀ w' cnt', MapK P k kk w' b (fun x => if x = y then none else f x) → RngK kk (fun x => if x = y then none else f x) w' r b (fun z => left z && decide (z ≠ y)) cnt' → cnt' ≤ cnt → w.grownBy w' (some b) → w'.heap.size = w.heap.size → wpList P ops Q rest (a.put o.dst (.tuple #[])) w') :
    wpList P ops Q (o :: rest) a w := by
  refine wpList_plain hg fun K' hK' => ?_
  obtain ⟨w', hrun, r1, r2, r3, r4⟩ := h.del (ty := o.type) K ht y hkey hinj
  obtain ⟨cnt', h1, h2⟩ := r4 r left cnt hne hr
  unfold Oper.wp
  simp [execOp, hop, resolve, invoke, builtin, hm, hx, hrun, Result.andThen]
  exact hK' _ _ (hK w' cnt' r1 h2 h1 r2 r3)
end
end Go.Proofs.YtbfcnfgkccgbiaaGreatDoor

