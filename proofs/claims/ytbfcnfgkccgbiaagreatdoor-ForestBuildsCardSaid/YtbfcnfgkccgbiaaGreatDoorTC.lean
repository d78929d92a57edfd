/- Texts TC, TD, laid together. -/
import Derived.Test.YtbfcnfgkccgbiaaGreatDoorJ3
import Derived.Test.YtbfcnfgkccgbiaaGreatDoorBU
import Derived.Test.YtbfcnfgkccgbiaaGreatDoorSK
import Derived.WideShapes
import Derived.OpenShut





namespace Go.Proofs.YtbfcnfgkccgbiaaGreatDoor
open Go.RowKit Go.WideShapes

def U3E : Elem Nat Nat where
  k := 1
  cells x := [.int .u32 (x : Int)]
  rel _ _ r x := r = x ∧ r < 4294967296
  pos := by omega
  len _ := rfl
  one r u hu := by simp at hu; subst hu; rfl
  agr h _ := h
  mono h _ := h
def UrE : Elem (List Nat) SlV where
  k := 1
  cells s := [.slice s.1 s.2.1 s.2.2]
  rel ok w r x := Sl U3E ok w r.1 r.2.1 r.2.2 x
  pos := by omega
  len _ := rfl
  one r u hu := by simp at hu; subst hu; rfl
  agr h k := h.agr k
  mono h k := h.mono k
section
variable {H : Type} {enc : TypeId × Value → H} {w : World} {base : Nat} {spare : Nat → Bool} {held : Bool}
theorem read_u32 {P : Program} {t : TypeId} (ht : P.underlying t = some (.int .u32)) {fuel : Nat} {cs : List Value} {x : DataW H × List MemPlace} (h : DataW.trod enc P w base spare held fuel t cs = some x) : ∃ n : Int, cs = [.int .u32 n] ∧ (Lit.int .u32 n).wf = true := by
  cases fuel with
  | zero => simp [DataW.trod] at h
  | succ m =>
    unfold DataW.trod at h
    rw [ht] at h
    split at h <;> simp_all
theorem open_u3 (n : Nat) (cs : List Value) (y : DataW H × List MemPlace) (h : DataW.trod enc Tryz.prog w base spare held n 58 cs = some y) : ∃ r z, cs = U3E.cells r ∧ U3E.rel (fun b => b < w.heap.size) w r z := by
  obtain ⟨k, hk, hw⟩ := read_u32 Tryz.underlying58 h
  have hb : 0 ≤ k ∧ k < 4294967296 := by
    have := Go.bounds_u32 hw
    omega
  refine ⟨k.toNat, k.toNat, ?_, rfl, by omega⟩
  have : ((k.toNat : Nat) : Int) = k := by omega
  simp [U3E, this, hk]
theorem open_ur (n : Nat) (cs : List Value) (y : DataW H × List MemPlace) (h : DataW.trod enc Tryz.prog w base spare held n 57 cs = some y) : ∃ r z, cs = UrE.cells r ∧ UrE.rel (fun b => b < w.heap.size) w r z := by
  have h1 := h
  obtain ⟨v, rfl⟩ : ∃ v, cs = [v] := by
    rcases Deep.open_slice Tryz.underlying57 h with ⟨hcs, -⟩ | ⟨a, len, cap, m, n, D, Pl, hcs, -⟩
    · exact ⟨_, hcs⟩
    · exact ⟨_, hcs⟩
  obtain ⟨A, n', c, l, rfl, hsl⟩ := open_sl U3E Tryz.underlying57 (by kernel_rfl) open_u3 h1
  exact ⟨(A, n', c), l, rfl, hsl⟩
set_option maxRecDepth 100000 in
theorem open_rows {r : Reach} {b0 : Nat} {v : Value} {d : DataW H} {p : List MemPlace} (hv : Value.okWide Tryz.prog w r b0 56 v) (h : DataW.Trod enc Tryz.prog w base spare held 56 v d p) :
    ∃ (A : Option Addr) (n c : Nat) (l : List (List Nat)), v = .slice A n c ∧ Sl UrE (fun b => b < w.heap.size) w A n c l := by
  obtain ⟨A, n, c, rfl⟩ := Go.WideShapes.okWide_slice Tryz.underlying56 hv
  obtain ⟨fuel, hf⟩ := h
  obtain ⟨A', n', c', l, hv', hsl⟩ := open_sl UrE Tryz.underlying56 (by kernel_rfl) open_ur (v := .slice A n c) hf
  cases hv'
  exact ⟨A, n, c, l, rfl, hsl⟩
end
/-- the ends that a grammar of N nonterminals and a word of n letters may be given -/
def EndsOk (N n : Nat) (rows : List (List Nat)) : Prop := rows.length = N ∧ ∀ row ∈ rows, row.length = n + 1 ∧ ∀ i b, row[i]? = some b → ∀ k, k < 32 → b.testBit k = true → i ≤ k ∧ k ≤ n
def enOf (rows : List (List Nat)) : EnS := fun N i => (rows.getD N []).getD i 0
theorem enOf_at {rows : List (List Nat)} {N i b : Nat} {row : List Nat} (h : rows[N]? = some row) (h2 : row[i]? = some b) : enOf rows N i = b := by
  simp [enOf, List.getD_eq_getElem?_getD, h, h2]
theorem Sl.enV {ok : Nat → Prop} {w : World} {A : Option Addr} {N c n : Nat} {rows : List (List Nat)} (h : Sl UrE ok w A N c rows) (hN : 0 < N) (hr : ∀ row ∈ rows, row.length = n + 1) :
    ∃ ob oo rb ro rc, A = some ⟨ob, oo, none⟩ ∧ EnV w ob oo N n rb ro rc (enOf rows) := by
  obtain ⟨h1, h2, raw, h3, h4, h5⟩ := h
  have hne : flat UrE raw ≠ [] := by
    intro e
    have := congrArg List.length e
    rw [flat_len] at this
    have e1 : UrE.k = 1 := rfl
    rw [e1] at this
    simp at this
    simp [this] at h3
    omega
  obtain ⟨ob, oo, rfl, hob, hc⟩ := h4 hne
  have key : ∀ a, a < N → ∃ rb ro rc, w.cell? ⟨ob, oo + a, none⟩ = some (.slice (some ⟨rb, ro, none⟩) (n + 1) rc) ∧ ∀ i, i ≤ n → w.cell? ⟨rb, ro + i, none⟩ = some (.int .u32 (enOf rows a i : Int)) := by
    intro a ha
    have hra : raw[a]? = some raw[a] := List.getElem?_eq_getElem (by omega)
    have hxa : rows[a]? = some rows[a] := List.getElem?_eq_getElem (by omega)
    obtain ⟨g1, g2, raw2, g3, g4, g5⟩ := h5 a _ _ hra hxa
    have hl := hr _ (List.getElem_mem (by omega : a < rows.length))
    have hcell := hc (a * 1 + 0) _ (flat_at (E := UrE) raw a _ 0 _ hra rfl)
    have hne2 : flat U3E raw2 ≠ [] := by
      intro e
      have := congrArg List.length e
      rw [flat_len] at this
      have e1 : U3E.k = 1 := rfl
      rw [e1] at this
      simp at this
      simp [this] at g3
      omega
    obtain ⟨rb, ro, e, hrb, hc2⟩ := g4 hne2
    refine ⟨rb, ro, raw[a].2.2, ?_, fun i hi => ?_⟩
    · rw [e] at hcell
      have : raw[a].2.1 = n + 1 := by omega
      rw [this] at hcell
      simpa using hcell
    · have hri : raw2[i]? = some raw2[i] := List.getElem?_eq_getElem (by omega)
      have hxi : rows[a][i]? = some rows[a][i] := List.getElem?_eq_getElem (by omega)
      have e2 := (g5 i _ _ hri hxi).1
      have := hc2 (i * 1 + 0) _ (flat_at (E := U3E) raw2 i _ 0 _ hri rfl)
      rw [e2] at this
      rw [enOf_at hxa hxi]
      simpa using this
  refine ⟨ob, oo, fun a => if ha : a < N then (key a ha).choose else 0, fun a => if ha : a < N then (key a ha).choose_spec.choose else 0, fun a => if ha : a < N then (key a ha).choose_spec.choose_spec.choose else 0, rfl, fun {a} ha => ?_, fun {a i} ha hi => ?_⟩
  · simp only [dif_pos ha]; exact (key a ha).choose_spec.choose_spec.choose_spec.1
  · simp only [dif_pos ha]; exact (key a ha).choose_spec.choose_spec.choose_spec.2 i hi
theorem EndsOk.sup {N n : Nat} {rows : List (List Nat)} (h : EndsOk N n rows) (hb : ∀ row ∈ rows, ∀ b ∈ row, b < 4294967296) : SupE n (enOf rows) := by
  intro a i j hj
  unfold enOf at hj
  rw [List.getD_eq_getElem?_getD, List.getD_eq_getElem?_getD] at hj
  cases hx : rows[a]? with
  | none => rw [hx] at hj; simp at hj
  | some row =>
    rw [hx] at hj
    simp only [Option.getD_some] at hj
    cases hy : row[i]? with
    | none => rw [hy] at hj; simp at hj
    | some b =>
      rw [hy] at hj
      simp only [Option.getD_some] at hj
      have hm := List.mem_of_getElem? hx
      have hlt := hb row hm b (List.mem_of_getElem? hy)
      have hj32 : j < 32 := by
        rcases Nat.lt_or_ge j 32 with h0 | h0
        · exact h0
        · have : b < 2 ^ j := Nat.lt_of_lt_of_le hlt (Nat.pow_le_pow_right (by omega) h0 : 2 ^ 32 ≤ 2 ^ j)
          rw [Nat.testBit_lt_two_pow this] at hj; cases hj
      exact (h.2 row hm).2 i b hy j hj32 hj
end Go.Proofs.YtbfcnfgkccgbiaaGreatDoor




namespace Go.Proofs.YtbfcnfgkccgbiaaGreatDoor
open Go.RowKit

def RowOk (n : Nat) (row : List Nat) : Prop := row.length = n + 1 ∧ ∀ i b, row[i]? = some b → ∀ k, k < 32 → b.testBit k = true → i ≤ k ∧ k ≤ n
theorem endsOk_iff {N n : Nat} {rows : List (List Nat)} : EndsOk N n rows ↔ rows.length = N ∧ ∀ (a : Nat) (row : List Nat), rows[a]? = some row → RowOk n row :=
  ⟨fun h => ⟨h.1, fun _ _ hr => h.2 _ (List.mem_of_getElem? hr)⟩, fun h => ⟨h.1, fun row hr => by
    obtain ⟨a, ha⟩ := List.mem_iff_getElem?.1 hr
    exact h.2 a row ha⟩⟩
theorem bit_of32 (x n : Nat) (h : x < 4294967296) : ∃ (Q R : Nat), (x : Int) / 2 ^ n = (Q : Int) ∧ bits .and .u32 (Q : Int) 1 = (R : Int) ∧ ((R : Int) == 1) = x.testBit n := by
  refine ⟨x / 2 ^ n, (x / 2 ^ n) &&& 1, by simp, ?_, ?_⟩
  · have h1 : x / 2 ^ n ≤ x := Nat.div_le_self _ _
    exact u32_and_nat _ 1 (by omega) (by omega)
  · rw [Nat.and_one_is_mod, Nat.testBit_eq_decide_div_mod_eq]
    generalize x / 2 ^ n = y
    by_cases h : y % 2 = 1
    · rw [h]; rfl
    · have h0 : y % 2 = 0 := by omega
      rw [h0]; rfl
set_option maxRecDepth 100000 in
set_option maxHeartbeats 8000000 in
theorem endsRight_c (okr : Nat → Prop) (T : Int) (N : Nat) (S : Int) (A : Option Addr) (ng cg : Nat) (wA : Option Addr) (n wc : Nat) (R : Option Addr) (m mc : Nat) (rows : List (List Nat)) (w : World) (hr : Sl UrE okr w R m mc rows) (hn : n ≤ 12) (hN : N ≤ 1000000) :
    Calls Tryz.prog 20 #[.agg #[.int .i64 T, .int .i64 (N : Int), .int .i64 S, .slice A ng cg], .slice wA n wc, .slice R m mc] w (SmP w (EndsOk N n rows)) := by
  have hal := (Below.refl w.heap.size w).al (.cells #[.int .i64 T, .int .i64 (N : Int), .int .i64 S, .slice A ng cg] 24)
  have BG := Blk.new w 24 #[.int .i64 T, .int .i64 (N : Int), .int .i64 S, .slice A ng cg]
  have HR := Lib.hid (hr.via hal)
  have HAL := Lib.hid hal
  clear hr hal
  go_enter Tryz.func20, Tryz.ntmps20
  go_upto_region 1 with fail
  generalize w.alloc (.cells #[.int .i64 T, .int .i64 (N : Int), .int .i64 S, .slice A ng cg] 24) = W at *
  have hlen := HR.out.len
  by_cases hm : m = N
  · subst hm
    have e1 : ((m : Int) != (m : Int)) = false := by simp
    have cBG := BG.cell
    have fBG := BG.frozen
    have lBG := BG.lt
    go_wp2_with fail
    clear cBG fBG lBG
    clear BG e1
    go_loopw [19] (fun q wr => ∃ i : Nat, q = .int .i64 (i : Int) ∧ i ≤ m ∧ Hid (∀ a row, a < i → rows[a]? = some row → RowOk n row) ∧ wr = W) (fun q _ => m - (intOf q).toNat)
    case atStart => exact ⟨0, rfl, Nat.zero_le _, Lib.hid (fun a _ h => absurd h (by omega)), rfl⟩
    case round =>
      obtain ⟨i, rfl, hi, HQ, rfl⟩ := hrel
      by_cases him : i < m
      · obtain ⟨b1, o1, ⟨RA, rn, rc⟩, row, hAa, -, hb1, hx, hx2, hcx⟩ := HR.out.at_ him
        subst hAa
        have c0 := hcx 0 _ rfl
        simp only [UrE, Nat.add_zero, Nat.mul_one] at c0
        have i0 : (0 : Int) ≤ (i : Int) := by omega
        have i1 : (i : Int) < (m : Int) := by omega
        have HX := Lib.hid hx
        have HX2 := Lib.hid (show Sl U3E okr wr RA rn rc row from hx2)
        have hxl := HX2.out.len
        clear hcx hx hx2
        by_cases hrn : rn = n + 1
        · subst hrn
          have e0 : IntKind.i64.wrap ((n : Int) + 1) = (((n + 1 : Nat)) : Int) := by rw [IntWalk.i64_in _ (by omega)]; omega
          go_wp2_with fail
          clear e0 c0
          go_loopw [31] (fun q wq => ∃ j : Nat, q = .int .i64 (j : Int) ∧ j ≤ n + 1 ∧ Hid (∀ p b, p < j → row[p]? = some b → ∀ k, k < 32 → b.testBit k = true → p ≤ k ∧ k ≤ n) ∧ wq = wr) (fun q _ => n + 1 - (intOf q).toNat)
          case atStart => exact ⟨0, rfl, Nat.zero_le _, Lib.hid (fun a _ h => absurd h (by omega)), rfl⟩
          case round =>
            obtain ⟨j, rfl, hj, HJ, rfl⟩ := hrel
            by_cases hjm : j < n + 1
            · obtain ⟨b2, o2, b, b', hRA, -, hb2, hy, ⟨hy1, hy2⟩, hcy⟩ := HX2.out.at_ hjm
              subst hRA hy1
              have c0 := hcy 0 _ rfl
              simp only [U3E, Nat.add_zero, Nat.mul_one] at c0
              have j0 : (0 : Int) ≤ (j : Int) := by omega
              have j1 : (j : Int) < ((n + 1 : Nat) : Int) := by omega
              have j2 : (j : Int) < (n : Int) + 1 := by omega
              have HY := Lib.hid hy
              clear hcy hy
              go_wp2_with fail
              clear c0
              go_loopw [36] (fun q wk => ∃ k : Nat, q = .int .i64 (k : Int) ∧ k ≤ 32 ∧ Hid (∀ l, l < k → b.testBit l = true → j ≤ l ∧ l ≤ n) ∧ wk = wr) (fun q _ => 32 - (intOf q).toNat)
              case atStart => exact ⟨0, rfl, Nat.zero_le _, Lib.hid (fun a h => absurd h (by omega)), rfl⟩
              case round =>
                obtain ⟨k, rfl, hk, HK, rfl⟩ := hrel
                by_cases hk32 : k < 32
                · have k0 : (0 : Int) ≤ (k : Int) := by omega
                  obtain ⟨Q, V, h1, h2, h3⟩ := bit_of32 b k hy2
                  cases ht : b.testBit k with
                  | false =>
                    rw [ht] at h3
                    have HKN : Hid (∀ l, l < k + 1 → b.testBit l = true → j ≤ l ∧ l ≤ n) := Lib.hid fun l hl hb => by
                      rcases Nat.lt_or_ge l k with h0 | h0
                      · exact HK.out l h0 hb
                      · obtain rfl : l = k := by omega
                        rw [ht] at hb
                        cases hb
                    go_wp2_with fail
                    exact ⟨⟨k + 1, by simp, by omega, HKN, trivial⟩, by simp [intOf]; omega⟩
                  | true =>
                    rw [ht] at h3
                    have HNO := Lib.hid (show ¬ (j ≤ k ∧ k ≤ n) → ¬ EndsOk m n rows from fun hno h => hno (((endsOk_iff.1 h).2 i row HX.out).2 j b HY.out k hk32 ht))
                    by_cases hkj : k < j
                    · have c1 : (k : Int) < (j : Int) := by omega
                      go_wp2_with fail
                      go_ret
                      exact ⟨false, rfl, by simpa using HNO.out (by omega), HAL.out⟩
                    · have c1 : ¬ (k : Int) < (j : Int) := by omega
                      by_cases hnk : n < k
                      · have c2 : (n : Int) < (k : Int) := by omega
                        go_wp2_with fail
                        go_ret
                        exact ⟨false, rfl, by simpa using HNO.out (by omega), HAL.out⟩
                      · have c2 : ¬ (n : Int) < (k : Int) := by omega
                        have HKN : Hid (∀ l, l < k + 1 → b.testBit l = true → j ≤ l ∧ l ≤ n) := Lib.hid fun l hl hb => by
                          rcases Nat.lt_or_ge l k with h0 | h0
                          · exact HK.out l h0 hb
                          · obtain rfl : l = k := by omega
                            omega
                        go_wp2_with fail
                        exact ⟨⟨k + 1, by simp, by omega, HKN, trivial⟩, by simp [intOf]; omega⟩
                · obtain rfl : k = 32 := by omega
                  have HJN : Hid (∀ p b, p < j + 1 → row[p]? = some b → ∀ k, k < 32 → b.testBit k = true → p ≤ k ∧ k ≤ n) := Lib.hid fun p b' hp hpb => by
                    rcases Nat.lt_or_ge p j with h0 | h0
                    · exact HJ.out p b' h0 hpb
                    · obtain rfl : p = j := by omega
                      obtain rfl : b = b' := Option.some.inj (HY.out.symm.trans hpb)
                      exact HK.out
                  go_wp2_with fail
                  exact ⟨⟨j + 1, by simp, by omega, HJN, trivial⟩, by simp [intOf]; omega⟩
            · obtain rfl : j = n + 1 := by omega
              have HQN : Hid (∀ a row, a < i + 1 → rows[a]? = some row → RowOk n row) := Lib.hid fun a row' ha har => by
                rcases Nat.lt_or_ge a i with h0 | h0
                · exact HQ.out a row' h0 har
                · obtain rfl : a = i := by omega
                  obtain rfl : row = row' := Option.some.inj (HX.out.symm.trans har)
                  exact ⟨hxl, fun p b hp => HJ.out p b (by have := (List.getElem?_eq_some_iff.1 hp).1; omega) hp⟩
              go_wp2_with fail
              exact ⟨⟨i + 1, by simp, by omega, HQN, trivial⟩, by simp [intOf]; omega⟩
        · have e0 : IntKind.i64.wrap ((n : Int) + 1) = (((n + 1 : Nat)) : Int) := by rw [IntWalk.i64_in _ (by omega)]; omega
          have e1 : ((rn : Int) != ((n + 1 : Nat) : Int)) = true := by simp; omega
          go_wp2_with fail
          go_ret
          exact ⟨false, rfl, by simp; intro h; exact hrn (hxl.symm.trans ((endsOk_iff.1 h).2 i row HX.out).1), HAL.out⟩
      · obtain rfl : i = m := by omega
        have HE := Lib.hid (show EndsOk i n rows from endsOk_iff.2 ⟨hlen, fun a row hr => HQ.out a row (by have := (List.getElem?_eq_some_iff.1 hr).1; omega) hr⟩)
        go_wp2_with fail
        go_ret
        exact ⟨true, rfl, by simpa using HE.out, HAL.out⟩
  · have e1 : ((m : Int) != (N : Int)) = true := by simp; omega
    have cBG := BG.cell
    have fBG := BG.frozen
    have lBG := BG.lt
    go_wp2_with fail
    go_ret
    exact ⟨false, rfl, by simp [EndsOk]; intro h; omega, HAL.out⟩
end Go.Proofs.YtbfcnfgkccgbiaaGreatDoor

