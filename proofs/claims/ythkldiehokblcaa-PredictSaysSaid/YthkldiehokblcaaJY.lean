/- Texts JY, laid together. -/
import Derived.Test.YthkldiehokblcaaJW
import Derived.Test.YthkldiehokblcaaJS



namespace Go.Proofs.Ythkldiehokblcaa
open Go.RowKit

def ints (l : List Nat) : List Int := l.map fun i : Nat => (i : Int)
/-- the clashes with their lists as ints -/
noncomputable def clI (l : List (Nat × Nat × List Nat)) : List (Nat × Nat × List Int) := l.map fun x => (x.1, x.2.1, ints x.2.2)
/-- between two terminals: row and list of n -/
structure OfR (e : Nat) (W : World) (bt : Nat) (I : Nat → Prop) (v1 v2 : Value) (R : List (List Int)) (C : List (Nat × Nat × SlV)) (D : List (Nat × Nat × List Int)) (rv : Value) (row : List Int) (wr : World) : Prop where
  t : TbM W bt I v1 v2 R C D wr
  cd : C.length = D.length + e
  r : OwnI wr (bt + 1) rv row.length row
  no : ∀ b, rv.ownBlock = some b → TbM.no bt I v1 v2 b
theorem OfR.via {ee : Nat} {W wr wa : World} {bt : Nat} {I : Nat → Prop} {v1 v2 : Value} {R : List (List Int)} {C : List (Nat × Nat × SlV)} {D : List (Nat × Nat × List Int)} {rv : Value} {row : List Int} (h : OfR ee W bt I v1 v2 R C D rv row wr) (k : Below wr.heap.size wr wa) : OfR ee W bt I v1 v2 R C D rv row wa :=
  ⟨h.t.via k, h.cd, h.r.keep k (Nat.le_refl _), h.no⟩
theorem OwnI.other2 {w w' : World} {base n : Nat} {v : Value} {xs : List Int} {row : Option Nat} (h : OwnI w base v n xs) (k : w.grownBy w' row) (hr : ∀ b, row = some b → v.ownBlock ≠ some b) : OwnI w' base v n xs := by
  refine ⟨h.1, ?_⟩
  rcases h.2 with h0 | ⟨g, cap, cur, rfl, hb, hh, hrest⟩
  · exact Or.inl h0
  · refine Or.inr ⟨g, cap, cur, rfl, hb, ?_, hrest⟩
    rw [k.block g (Array.getElem?_eq_some_iff.1 hh).1 (fun e => hr g e.symm rfl)]
    exact hh
theorem OfR.other {ee : Nat} {W wr wa : World} {bt : Nat} {I : Nat → Prop} {v1 v2 : Value} {R : List (List Int)} {C : List (Nat × Nat × SlV)} {D : List (Nat × Nat × List Int)} {rv : Value} {row : List Int} {rw_ : Option Nat} (h : OfR ee W bt I v1 v2 R C D rv row wr) (k : wr.grownBy wa rw_)
    (hr : ∀ b, rw_ = some b → TbM.no bt I v1 v2 b ∧ rv.ownBlock ≠ some b) : OfR ee W bt I v1 v2 R C D rv row wa :=
  ⟨h.t.other k (fun b e => (hr b e).1), h.cd, h.r.other2 k (fun b e => (hr b e).2), h.no⟩
theorem TbM.fresh {W wr : World} {bt : Nat} {I : Nat → Prop} {v1 v2 : Value} {R : List (List Int)} {C : List (Nat × Nat × SlV)} {D : List (Nat × Nat × List Int)} (h : TbM W bt I v1 v2 R C D wr) : TbM.no bt I v1 v2 wr.heap.size := by
  refine ⟨by have := h.blk.lt; omega, fun hb => ?_, fun e => ?_, fun e => ?_⟩
  · have := (h.i1 _ hb).2.1; omega
  · have := (h.o1.lt _ e).2; omega
  · have := (h.o2.lt _ e).2; omega
theorem OwnI.some_ {w : World} {base n c : Nat} {A : Option Addr} {xs : List Int} (h : OwnI w base (.slice A n c) n xs) (hn : 0 < n) : ∃ b, A = some ⟨b, 0, none⟩ ∧ (Value.slice A n c).ownBlock = some b := by
  rcases h.2 with ⟨h0, hn0⟩ | ⟨g, cap, cur, hv, _⟩
  · cases h0; omega
  · cases hv; exact ⟨g, rfl, rfl⟩
section
variable {ee : Nat} {W wr wa : World} {bt : Nat} {I : Nat → Prop} {v1 v2 : Value} {R : List (List Int)} {C : List (Nat × Nat × SlV)} {D : List (Nat × Nat × List Int)} {rv : Value} {row : List Int}
/-- the row has grown -/
theorem OfR.rowUp {x : Int} {rv' : Value} (h : OfR ee W bt I v1 v2 R C D rv row wr) (ho : OwnI wa (bt + 1) rv' (row.length + 1) (row ++ [x])) (k : wr.grownBy wa rv.ownBlock) (hv : rv'.ownBlock = rv.ownBlock ∨ rv'.ownBlock = some wr.heap.size) :
    OfR ee W bt I v1 v2 R C D rv' (row ++ [x]) wa := by
  refine ⟨h.t.other k h.no, h.cd, by simpa using ho, fun b hb => ?_⟩
  rcases hv with hv | hv <;> rw [hv] at hb
  · exact h.no b hb
  · rw [← Option.some.inj hb]; exact h.t.fresh
/-- a clash has been appended; what it holds is said later -/
theorem OfR.pushC {c : Nat × Nat × SlV} {v2' : Value} (h : OfR 0 W bt I v1 v2 R C D rv row wr) (ho : Own ClE 44 (fun _ => False) wa (bt + 1) v2' (C.length + 1) (C ++ [c])) (k : wr.grownBy wa v2.ownBlock)
    (hv : v2'.ownBlock = v2.ownBlock ∨ v2'.ownBlock = some wr.heap.size) : OfR 1 W bt I v1 v2' R (C ++ [c]) D rv row (wa.setCell ⟨bt, 1, none⟩ v2') := by
  refine ⟨h.t.pushC (by have := h.cd; omega) ho k hv, by have := h.cd; simp; omega, (h.r.other2 k fun b hb e => (h.no b e).2.2.2 hb).setCell (by simp) _, fun b hb => ?_⟩
  obtain ⟨a1, a2, a3, a4⟩ := h.no b hb
  refine ⟨a1, a2, a3, ?_⟩
  rcases hv with hv | hv <;> rw [hv]
  · exact a4
  · have := (h.r.lt b hb).2
    exact fun e => by have := Option.some.inj e; omega
/-- what the last clash holds -/
theorem OfR.addD {c : Nat × Nat × SlV} {xs : List Int} {lb : Nat} (h : OfR 1 W bt I v1 v2 R (C ++ [c]) D rv row wr) (hlb : TbM.no bt I v1 v2 lb) (hlt : lb < wr.heap.size) (hrv : rv.ownBlock ≠ some lb) (hx : Sl InE (fun b => b = lb) wr c.2.2.1 c.2.2.2.1 c.2.2.2.2 xs) :
    OfR 0 W bt (fun b => I b ∨ b = lb) v1 v2 R (C ++ [c]) (D ++ [(c.1, c.2.1, xs)]) rv row wr := by
  have hcd := h.cd
  simp only [List.length_append, List.length_singleton] at hcd
  refine ⟨h.t.addD (by omega) hlb hlt hx, by simp; omega, h.r, fun b hb => ?_⟩
  obtain ⟨a1, a2, a3, a4⟩ := h.no b hb
  exact ⟨a1, fun hc => hc.elim a2 fun e => hrv (e ▸ hb), a3, a4⟩
end
theorem posK_full (g : Gr) (n t : Nat) : posK g n t g.rules.length = posL g n t := rfl
theorem rowP_next (g : Gr) (n k : Nat) : rowP g n (k + 1) = rowP g n k ++ [headI (posL g n k)] := by
  unfold rowP; rw [List.range_succ, List.map_append]; rfl
theorem tabT_next (g : Gr) (k : Nat) : tabT g (k + 1) = tabT g k ++ [rowP g k (g.terms + 1)] := by
  unfold tabT; rw [List.range_succ, List.map_append]; rfl
theorem clN_len (g : Gr) (k : Nat) : (clN g k).length ≤ k * (g.terms + 1) := by
  induction k with
  | zero => simp [clN]
  | succ k ih => rw [clN_next, List.length_append, Nat.succ_mul]; have := clK_len g k (g.terms + 1); omega
theorem headI_app (l : List Nat) : (ints l ++ [(-1 : Int)])[0]? = some (headI l) := by
  cases l with
  | nil => rfl
  | cons a l => rfl
theorem headI_lt (l : List Nat) : headI l = -1 ∨ 0 ≤ headI l := by
  cases l with
  | nil => exact Or.inl rfl
  | cons a l => right; simp [headI]
theorem Ints.oneI (w : World) (x : Int) : Ints (w.alloc (.cells #[.int .i64 x] 3)) (some ⟨w.heap.size, 0, none⟩) 1 1 [x] :=
  ⟨rfl, Nat.le_refl _, fun _ => ⟨w.heap.size, 0, rfl, fun i hi => by
    have : i = 0 := by omega
    subst this
    have := (Blk.new w 3 #[.int .i64 x]).cell 0
    simp⟩⟩
def POfP (w : World) (g : Gr) (e : Ending) (w' : World) : Prop :=
  ∃ (I : Nat → Prop) (base : Nat) (v1 v2 : Value) (C : List (Nat × Nat × SlV)), e = .returned (.tuple #[.agg #[v1, v2], .int .i64 0]) ∧ w.heap.size ≤ base ∧ (∀ b, I b → w.heap.size ≤ b) ∧ Own RwE 25 I w' base v1 (tabT g g.nons).length (tabT g g.nons) ∧ Own ClE 44 (fun _ => False) w' base v2 C.length C ∧
    C.length = (clN g g.nons).length ∧ (∀ (i : Nat) c d, C[i]? = some c → (clI (clN g g.nons))[i]? = some d → c.1 = d.1 ∧ c.2.1 = d.2.1 ∧ Sl InE I w' c.2.2.1 c.2.2.2.1 c.2.2.2.2 d.2.2) ∧ Below w.heap.size w w'
set_option maxRecDepth 100000 in
set_option maxHeartbeats 4000000 in
theorem pof_c (ok : Nat → Prop) (g : Gr) (Ag : Option Addr) (ng cg : Nat) (w : World) (hg : GrOk g) (hl : Sl RuE ok w Ag ng cg g.rules) :
    Calls Try.prog 5 #[grVal g Ag ng cg] w (POfP w g) := by
  have hn1 := hg.ok.nons.1
  have hn10 := hg.ok.nons.2
  have ht8 := hg.ok.terms.2
  have hlen := hl.len
  have hng32 : ng ≤ 32 := by have := hg.ok.count; omega
  have B0 := (Blk.new w 24 #[.int .i64 (g.terms : Int), .int .i64 (g.nons : Int), .int .i64 (g.start : Int), .slice Ag ng cg]).al (.cells #[.slice none 0 0, .slice none 0 0] 31)
  have R0 := Blk.newAt (w.alloc (.cells #[.int .i64 (g.terms : Int), .int .i64 (g.nons : Int), .int .i64 (g.start : Int), .slice Ag ng cg] 24)) 31 #[.slice none 0 0, .slice none 0 0] (w.heap.size + 1) (by simp)
  have HB := Lib.hid (((Below.refl w.heap.size w).al (.cells #[.int .i64 (g.terms : Int), .int .i64 (g.nons : Int), .int .i64 (g.start : Int), .slice Ag ng cg] 24)).al (.cells #[.slice none 0 0, .slice none 0 0] 31))
  have HGO := Lib.hid hg
  have HL := Lib.hid hl
  simp only [grVal]
  clear hg hl
  go_enter Try.func5, Try.ntmps5
  have cB0 := B0.cell
  have fB0 := B0.frozen
  have lB0 := B0.lt
  go_wp2_with fail
  clear cB0 fB0 lB0
  have HR0 := Lib.hid R0
  clear R0
  generalize (w.alloc (.cells #[.int .i64 (g.terms : Int), .int .i64 (g.nons : Int), .int .i64 (g.start : Int), .slice Ag ng cg] 24)).alloc (.cells #[.slice none 0 0, .slice none 0 0] 31) = W at *
  refine (predict_c ok g Ag ng cg W HGO.out (HL.out.via HB.out)).mono ?_
  rintro e w1 ⟨base, v, bs, cs, F, rfl, hbc, hF, hb⟩
  obtain ⟨Av, cv, rfl, -⟩ := hbc.own.form
  rw [hlen] at hbc
  simp only [hlen]
  have HBC := Lib.hid hbc
  have HF := Lib.hid hF
  have HB1 := Lib.hid (HB.out.via hb)
  have B1 := B0.via hb
  have HR1 := Lib.hid (HR0.out.via hb)
  clear hb B0 hbc hF HB HR0
  have BT := Blk.new w1 31 #[.slice none 0 0, .slice none 0 0]
  have hw1 : w.heap.size + 1 < w1.heap.size := HR1.out.lt
  have hal := (Below.refl w1.heap.size w1).al (.cells #[.slice none 0 0, .slice none 0 0] 31)
  have HT0 := Lib.hid (show TbM w1 w1.heap.size (fun _ => False) (.slice none 0 0) (.slice none 0 0) [] [] [] (w1.alloc (.cells #[.slice none 0 0, .slice none 0 0] 31)) from
    ⟨BT, Own.nil _ _, Own.nil _ _, fun i c d hc => (by simp at hc), fun b hb => hb.elim, fun b hb => (by cases hb), hal⟩)
  have B2 := Lib.hid (B1.via hal)
  have HBG := Lib.hid B1
  clear BT hal
  go_upto_region 5 with fail
  clear B1
  generalize w1.alloc (.cells #[.slice none 0 0, .slice none 0 0] 31) = W2 at *
  have BG := B2.out
  have cBG := BG.cell
  have fBG := BG.frozen
  have lBG := BG.lt
  go_wp2_with fail
  clear cBG fBG lBG
  clear BG
  obtain ⟨bt, hbt⟩ : ∃ b, b = w1.heap.size := ⟨_, rfl⟩
  rw [← hbt] at HT0 ⊢
  have HBT := Lib.hid hbt
  have hbt1 : w.heap.size + 1 < bt := by omega
  clear hbt
  go_loopw [24] (fun a wr => ∃ (k : Nat) (I : Nat → Prop) (v1 v2 : Value) (C : List (Nat × Nat × SlV)), a = .int .i64 k ∧ k ≤ g.nons ∧ Hid (TbM w1 bt I v1 v2 (tabT g k) C (clI (clN g k)) wr ∧ (clI (clN g k)).length = C.length)) (fun a _ => g.nons - (intOf a).toNat)
  case atStart => exact ⟨0, _, _, _, [], rfl, Nat.zero_le _, Lib.hid ⟨HT0.out, rfl⟩⟩
  case round =>
    obtain ⟨k, I, v1, v2, C, rfl, hk, HT⟩ := hrel
    clear HT0
    by_cases hlt : k < g.nons
    · have i0 : (0 : Int) ≤ (k : Int) := by omega
      have i1 : (k : Int) < (g.nons : Int) := by omega
      have BG := HBG.out.below HT.out.1.bel (show w.heap.size < bt by omega)
      have cBG := BG.cell
      have fBG := BG.frozen
      have lBG := BG.lt
      go_wp2_with fail
      clear cBG fBG lBG
      clear BG
      go_loopw [8, 30] (fun rv a wr => ∃ (t : Nat) (I : Nat → Prop) (v2 : Value) (C : List (Nat × Nat × SlV)), a = .int .i64 t ∧ t ≤ g.terms + 1 ∧ Hid (OfR 0 w1 bt I v1 v2 (tabT g k) C (clI (clN g k ++ clK g k t)) rv (rowP g k t) wr)) (fun _ a _ => g.terms + 1 - (intOf a).toNat)
      case atStart => exact ⟨0, I, v2, C, rfl, Nat.zero_le _, Lib.hid ⟨by simpa [clK] using HT.out.1, by simpa [clK] using HT.out.2.symm, OwnI.nil _ _, fun b hb => (by cases hb)⟩⟩
      case round =>
        obtain ⟨t, I, v2, C, rfl, ht, HO⟩ := hrel
        clear HT
        obtain ⟨rA, rc, rfl, -⟩ := HO.out.r.form
        by_cases htt : t < g.terms + 1
        · have q0 : (0 : Int) ≤ (t : Int) := by omega
          have q1 : (t : Int) < (g.terms : Int) + 1 := by omega
          have BG := HBG.out.below HO.out.t.bel (show w.heap.size < bt by omega)
          have cBG := BG.cell
          have fBG := BG.frozen
          have lBG := BG.lt
          go_wp2_with fail
          clear cBG fBG lBG
          clear BG
          go_loopw [10, 36] (fun lv a wr => ∃ (i : Nat), a = .int .i64 i ∧ i ≤ ng ∧ Hid (OfR 0 w1 bt I v1 v2 (tabT g k) C (clI (clN g k ++ clK g k t)) (.slice rA (rowP g k t).length rc) (rowP g k t) wr) ∧ Hid (OwnI wr (bt + 1) lv (posK g k t i).length (ints (posK g k t i))) ∧ Hid (∀ b, lv.ownBlock = some b → TbM.no bt I v1 v2 b ∧ (Value.slice rA (rowP g k t).length rc).ownBlock ≠ some b)) (fun _ a _ => ng - (intOf a).toNat)
          case atStart => exact ⟨0, rfl, Nat.zero_le _, HO, Lib.hid (by simpa [posK, ints] using OwnI.nil _ _), Lib.hid (fun b hb => by cases hb)⟩
          case round =>
            obtain ⟨i, rfl, hi, HO2, HLV, HLN⟩ := hrel
            clear HO
            obtain ⟨lA, lc, rfl, -⟩ := HLV.out.form
            by_cases hin : i < ng
            · have hbel := HO2.out.t.bel
              obtain ⟨b1, o1, ⟨sl, sA, sn, sc⟩, ⟨sl', rhs⟩, rfl, -, hbb, hy, ⟨hx1, hx2⟩, hcc⟩ := (HL.out.via (HB1.out.trans (hbel.mono (by omega)))).at_ hin
              simp only at hx1 hx2
              obtain rfl : sl = sl' := hx1
              have d0 := hcc 0 _ rfl
              have d1 := hcc 1 _ rfl
              simp only [RuE, Nat.add_zero] at d0 d1
              have p0 : (0 : Int) ≤ (i : Int) := by omega
              have p1 : (i : Int) < (ng : Int) := by omega
              have HY := Lib.hid hy
              have hal := (Below.refl wr.heap.size wr).al (.cells #[.int .i64 (sl : Int), .slice sA sn sc] 58)
              have BX := Blk.new wr 58 #[.int .i64 (sl : Int), .slice sA sn sc]
              have HA4 := Lib.hid hal
              clear hcc hy hx2 hbb hal hbel
              go_upto_region 16 with fail
              clear d0 d1
              generalize wr.alloc (.cells #[.int .i64 (sl : Int), .slice sA sn sc] 58) = W4 at *
              have HO4 := Lib.hid (HO2.out.via HA4.out)
              have HLV4 := Lib.hid (HLV.out.keep HA4.out (Nat.le_refl _))
              by_cases hsk : sl = k
              · subst hsk
                have hsl := (HBC.out.own.toSl (ok' := fun _ => True) (fun _ _ h => h.elim) (fun _ _ => trivial)).at_ hin
                obtain ⟨hb, ho, r, x, rfl, -, hbl, hx, hxr, hcc⟩ := hsl
                have hxe : x = (some ⟨bs i, 0, none⟩, g.terms + 1, cs i) := by
                  unfold rowsC at hx
                  rw [List.getElem?_map, List.getElem?_range hin] at hx
                  exact (Option.some.inj hx).symm
                have hre : r = x := hxr
                rw [hre, hxe] at hcc
                have ch := hcc 0 _ rfl
                simp only [SlE, Nat.mul_one, Nat.add_zero] at ch
                have hlt1 : ∀ b, b < w1.heap.size → b < bt := fun b hb => by have := HBT.out; omega
                have ch4 := (HO4.out.t.bel.cell (p := ⟨hb, ho + i, none⟩) (hlt1 _ hbl)).trans ch
                have hrow := HBC.out.row i hin
                have cr4 := (HO4.out.t.bel.cell (p := ⟨bs i, t, none⟩) (hlt1 _ hrow.lt)).trans (hrow.cell htt)
                clear hcc hx hxr hxe hre ch hrow
                have cBX := BX.cell
                have fBX := BX.frozen
                have lBX := BX.lt
                cases hFt : F i t with
                | false =>
                  rw [hFt] at cr4
                  go_wp2_with fail
                  refine ⟨⟨i + 1, by go_num, by omega, HO4, ?_, HLN⟩, by simp [intOf]; omega⟩
                  rw [posK_miss HY.out (fun h => by have := (HF.out i _ HY.out t).2 h.2; rw [hFt] at this; cases this)]
                  exact HLV4
                | true =>
                  rw [hFt] at cr4
                  have hal5 := (Below.refl W4.heap.size W4).al (.cells #[.int .i64 (i : Int)] 3)
                  have HO5 := Lib.hid (HO4.out.via hal5)
                  have HLV5 := Lib.hid (HLV4.out.keep hal5 (Nat.le_refl _))
                  have HSZ := Lib.hid (show bt + 1 ≤ (W4.alloc (.cells #[.int .i64 (i : Int)] 3)).heap.size by have := HO4.out.t.blk.lt; simp; omega)
                  have hpl : (posK g sl t i).length ≤ 32 := Nat.le_trans (posK_len g sl t i) (by omega)
                  go_wp2_with (at_builtin; refine wpList_append_ints _ rfl (.tmp 54) (.tmp 56) rfl (bt + 1) (.slice lA (posK g sl t i).length lc) (posK g sl t i).length (ints (posK g sl t i)) rfl HLV5.out (some ⟨W4.heap.size, 0, none⟩) 1 1 [(i : Int)] rfl (Ints.oneI W4 (i : Int)) (by omega) HSZ.out ?_)
                  intro A6 c6 w6 ho6 hg6 hat6
                  have HO6 := Lib.hid (HO5.out.other hg6 HLN.out)
                  have HLN6 := Lib.hid (show ∀ b, (Value.slice A6 ((posK g sl t i).length + 1) c6).ownBlock = some b → TbM.no bt I v1 v2 b ∧ (Value.slice rA (rowP g sl t).length rc).ownBlock ≠ some b from fun b hb => by
                    rcases hat6 with h | h
                    · rw [h] at hb; exact HLN.out b hb
                    · rw [h] at hb
                      have e : b = W4.heap.size + 1 := by have := Option.some.inj hb; omega
                      have hfr := HO5.out.t.fresh
                      rw [World.size_alloc, ← e] at hfr
                      exact ⟨hfr, fun e2 => by have := (HO5.out.r.lt b e2).2; rw [World.size_alloc] at this; omega⟩)
                  have HLV6 := Lib.hid (show OwnI w6 (bt + 1) (.slice A6 ((posK g sl t i).length + 1) c6) (posK g sl t (i + 1)).length (ints (posK g sl t (i + 1))) from by
                    rw [posK_hit HY.out ⟨rfl, (HF.out i _ HY.out t).1 hFt⟩]
                    simpa [ints] using ho6)
                  clear ho6 hg6 hat6
                  go_wp2_with fail
                  exact ⟨⟨i + 1, by go_num, by omega, HO6, HLV6, HLN6⟩, by simp [intOf]; omega⟩
              · have hne : decide ((sl : Int) = (k : Int)) = false := by rw [decide_eq_false_iff_not]; omega
                have cBX := BX.cell
                have fBX := BX.frozen
                have lBX := BX.lt
                go_wp2_with fail
                refine ⟨⟨i + 1, by go_num, by omega, HO4, ?_, HLN⟩, by simp [intOf]; omega⟩
                rw [posK_miss HY.out (fun h => hsk h.1)]
                exact HLV4
            · obtain rfl : i = ng := by omega
              have hpl : (posK g k t i).length ≤ 32 := Nat.le_trans (posK_len g k t i) (by omega)
              have HPL := Lib.hid (show posK g k t i = posL g k t by rw [← hlen]; rfl)
              have hrl : (rowP g k t).length = t := by simp [rowP]
              have HRL := Lib.hid hrl
              have hcl : C.length ≤ 200 := by
                have h1 := HO2.out.cd
                have h2 := clN_len g k
                have h3 := clK_len g k t
                have h4 : k * (g.terms + 1) ≤ 10 * 9 := Nat.mul_le_mul (by omega) (by omega)
                simp only [clI, List.length_map, List.length_append] at h1
                omega
              clear hrl
              obtain ⟨vc1, vcc1, rfl, -⟩ := HO2.out.t.o2.form
              by_cases hgt : 1 < (posK g k t i).length
              · obtain ⟨lb, rfl, hlb⟩ := HLV.out.some_ (by omega)
                have HLB := Lib.hid hlb
                clear hlb
                have g1 : (1 : Int) < ((posK g k t i).length : Int) := by omega
                have BT := HO2.out.t.blk
                have hal := (Below.refl wr.heap.size wr).al (.cells #[.int .i64 (k : Int), .int .i64 (t : Int), .slice (some ⟨lb, 0, none⟩) (posK g k t i).length lc] 44)
                have HO5 := Lib.hid (HO2.out.via hal)
                have HLV5 := Lib.hid (HLV.out.keep hal (Nat.le_refl _))
                have HSZ := Lib.hid (show bt + 1 ≤ (wr.alloc (.cells #[.int .i64 (k : Int), .int .i64 (t : Int), .slice (some ⟨lb, 0, none⟩) (posK g k t i).length lc] 44)).heap.size by have := HO2.out.t.blk.lt; simp; omega)
                have HBC := Lib.hid (Blk.new wr 44 #[.int .i64 (k : Int), .int .i64 (t : Int), .slice (some ⟨lb, 0, none⟩) (posK g k t i).length lc])
                clear hal
                have cBT := BT.cell
                have fBT := BT.frozen
                have lBT := BT.lt
                go_wp2_with (at_builtin; refine wpList_append_cl _ rfl (.tmp 63) (.tmp 68) rfl (fun _ => False) (bt + 1) (.slice vc1 C.length vcc1) C.length C rfl HO5.out.t.o2 wr.heap.size k t (some ⟨lb, 0, none⟩, (posK g k t i).length, lc) rfl HBC.out (by omega) HSZ.out ?_)
                intro A6 c6 w6 ho6 hg6 hat6
                clear cBT fBT lBT
                have HO6 := Lib.hid (HO5.out.pushC (c := (k, t, (some ⟨lb, 0, none⟩, (posK g k t i).length, lc))) ho6 hg6 (by simpa using hat6))
                have HLV6 := Lib.hid ((HLV5.out.other2 hg6 fun b hb e => (HLN.out b e).1.2.2.2 hb).setCell (p := ⟨bt, 1, none⟩) (by simp) (.slice A6 (C.length + 1) c6))
                have HN6 := Lib.hid (show ∀ b, (Value.slice (some ⟨lb, 0, none⟩) (posK g k t i).length lc).ownBlock = some b → TbM.no bt I v1 (.slice A6 (C.length + 1) c6) b ∧ (Value.slice rA (rowP g k t).length rc).ownBlock ≠ some b from fun b hb => by
                  obtain ⟨⟨a1, a2, a3, a4⟩, a5⟩ := HLN.out b hb
                  refine ⟨⟨a1, a2, a3, ?_⟩, a5⟩
                  have hbl := (HLV.out.lt b hb).2
                  rcases hat6 with h | h <;> rw [h]
                  · exact a4
                  · exact fun e => by have := Option.some.inj e; omega)
                have BT6 := (HO5.out.t.blk.grown hg6 (fun e => by have := (HO5.out.t.o2.lt bt e.symm).1; omega))
                clear ho6 hg6 hat6 BT HO5 HLV5 HSZ HBC
                have cBT6 := BT6.cell
                have fBT6 := BT6.frozen
                have lBT6 := BT6.lt
                go_upto_region 21 with fail
                clear cBT6 fBT6 lBT6
                clear BT6
                generalize w6.setCell ⟨bt, 1, none⟩ (.slice A6 (C.length + 1) c6) = wq at *
                have HAL7 := Lib.hid ((Below.refl wq.heap.size wq).al (.cells #[.int .i64 (-1)] 3))
                have HO7 := Lib.hid (HO6.out.via HAL7.out)
                have HL7 := Lib.hid (HLV6.out.keep HAL7.out (Nat.le_refl _))
                have HC7 := Lib.hid (show (wq.alloc (.cells #[.int .i64 (-1)] 3)).cell? ⟨wq.heap.size, 0, none⟩ = some (.int .i64 (-1)) from (Blk.new wq 3 #[.int .i64 (-1)]).cell 0)
                have HSZ7 := Lib.hid (show bt + 1 ≤ (wq.alloc (.cells #[.int .i64 (-1)] 3)).heap.size by have := HO6.out.t.blk.lt; simp; omega)
                go_wp2_with (at_builtin; refine wpList_append_intK _ rfl (.tmp 72) (.tmp 73) rfl (bt + 1) (some ⟨lb, 0, none⟩) (posK g k t i).length lc (ints (posK g k t i)) rfl HL7.out wq.heap.size (-1) rfl HC7.out (by omega) HSZ7.out ?_)
                intro A8 c8 w8 ho8 hg8 hat8 hk8
                have HO8 := Lib.hid (HO7.out.other hg8 HN6.out)
                have HK8 := Lib.hid hk8
                have HG8 := Lib.hid hg8.size
                obtain ⟨b8, rfl, -⟩ := ho8.some_ (by omega)
                have h8c : w8.cell? ⟨b8, 0, none⟩ = some (.int .i64 (headI (posL g k t))) := by
                  obtain ⟨hla, -, h⟩ := ho8.toInts
                  obtain ⟨b, o, e, hc⟩ := h (by omega)
                  have := hc 0 (by omega)
                  cases e
                  rw [List.getD_eq_getElem?_getD, HPL.out, headI_app] at this
                  exact this
                have i9 : (0 : Int) < ((posK g k t i).length : Int) + 1 := by omega
                clear ho8 hg8 hat8 hk8
                obtain ⟨hd, hhd⟩ : ∃ hd, hd = headI (posL g k t) := ⟨_, rfl⟩
                rw [← hhd] at h8c
                have HHD := Lib.hid hhd
                clear hhd
                have HAL9 := Lib.hid ((Below.refl w8.heap.size w8).al (.cells #[.int .i64 hd] 3))
                have HO9 := Lib.hid (HO8.out.via HAL9.out)
                have HSZ9 := Lib.hid (show bt + 1 ≤ (w8.alloc (.cells #[.int .i64 hd] 3)).heap.size by have := HO8.out.t.blk.lt; simp; omega)
                have hrl9 : (rowP g k t).length ≤ 100 := by have := HRL.out; omega
                go_wp2_with (at_builtin; refine wpList_append_ints _ rfl (.tmp 71) (.tmp 77) rfl (bt + 1) (.slice rA (rowP g k t).length rc) (rowP g k t).length (rowP g k t) rfl HO9.out.r (some ⟨w8.heap.size, 0, none⟩) 1 1 [hd] rfl (Ints.oneI w8 hd) (by omega) HSZ9.out ?_)
                intro A10 c10 w10 ho10 hg10 hat10
                have HO10 := Lib.hid (HO9.out.rowUp ho10 hg10 (by simpa using hat10))
                have HG10 := Lib.hid hg10
                have HAT10 := Lib.hid hat10
                clear ho10 hg10 hat10
                go_wp2_with fail
                rw [HHD.out, ← rowP_next] at HO10
                have hlt7 := (HL7.out.lt lb HLB.out).2
                have hrv : (Value.slice A10 ((rowP g k t).length + 1) c10).ownBlock ≠ some lb := by
                  rcases HAT10.out with h | h <;> rw [h]
                  · exact (HN6.out lb HLB.out).2
                  · exact fun e => by have := Option.some.inj e; have := HG8.out; omega
                have hlt10 : lb < w10.heap.size := by have h1 := HG8.out; have h2 := HG10.out.size; simp at h2; omega
                have hx : Sl InE (fun b => b = lb) w10 (some ⟨lb, 0, none⟩) (posK g k t i).length lc (ints (posL g k t)) := by
                  rw [← HPL.out]
                  refine (((HK8.out.slE).mono (fun b _ ⟨o, e⟩ => by cases e; rfl)).via HAL9.out).agr (Agr.grown HG10.out fun b hb e => ?_)
                  subst hb
                  exact (HN6.out b HLB.out).2 e.symm
                have HO11 := Lib.hid (HO10.out.addD (HN6.out lb HLB.out).1 hlt10 hrv hx)
                refine ⟨⟨t + 1, fun b => I b ∨ b = lb, .slice A6 (C.length + 1) c6, C ++ [(k, t, (some ⟨lb, 0, none⟩, (posK g k t i).length, lc))], by go_num, by omega, ?_⟩, by simp [intOf]; omega⟩
                rw [clK_hit (by rw [← HPL.out]; exact hgt)]
                have := HO11.out
                simpa [clI, List.map_append] using Lib.hid this
              · have g1 : ¬ (1 : Int) < ((posK g k t i).length : Int) := by omega
                go_upto_region 21 with fail
                have HAL7 := Lib.hid ((Below.refl wr.heap.size wr).al (.cells #[.int .i64 (-1)] 3))
                have HO7 := Lib.hid (HO2.out.via HAL7.out)
                have HL7 := Lib.hid (HLV.out.keep HAL7.out (Nat.le_refl _))
                have HC7 := Lib.hid (show (wr.alloc (.cells #[.int .i64 (-1)] 3)).cell? ⟨wr.heap.size, 0, none⟩ = some (.int .i64 (-1)) from (Blk.new wr 3 #[.int .i64 (-1)]).cell 0)
                have HSZ7 := Lib.hid (show bt + 1 ≤ (wr.alloc (.cells #[.int .i64 (-1)] 3)).heap.size by have := HO2.out.t.blk.lt; simp; omega)
                go_wp2_with (at_builtin; refine wpList_append_intK _ rfl (.tmp 72) (.tmp 73) rfl (bt + 1) lA (posK g k t i).length lc (ints (posK g k t i)) rfl HL7.out wr.heap.size (-1) rfl HC7.out (by omega) HSZ7.out ?_)
                intro A8 c8 w8 ho8 hg8 hat8 hk8
                have HO8 := Lib.hid (HO7.out.other hg8 HLN.out)
                have HK8 := Lib.hid hk8
                have HG8 := Lib.hid hg8.size
                obtain ⟨b8, rfl, -⟩ := ho8.some_ (by omega)
                have h8c : w8.cell? ⟨b8, 0, none⟩ = some (.int .i64 (headI (posL g k t))) := by
                  obtain ⟨hla, -, h⟩ := ho8.toInts
                  obtain ⟨b, o, e, hc⟩ := h (by omega)
                  have := hc 0 (by omega)
                  cases e
                  rw [List.getD_eq_getElem?_getD, HPL.out, headI_app] at this
                  exact this
                have i9 : (0 : Int) < ((posK g k t i).length : Int) + 1 := by omega
                clear ho8 hg8 hat8 hk8
                obtain ⟨hd, hhd⟩ : ∃ hd, hd = headI (posL g k t) := ⟨_, rfl⟩
                rw [← hhd] at h8c
                have HHD := Lib.hid hhd
                clear hhd
                have HAL9 := Lib.hid ((Below.refl w8.heap.size w8).al (.cells #[.int .i64 hd] 3))
                have HO9 := Lib.hid (HO8.out.via HAL9.out)
                have HSZ9 := Lib.hid (show bt + 1 ≤ (w8.alloc (.cells #[.int .i64 hd] 3)).heap.size by have := HO8.out.t.blk.lt; simp; omega)
                have hrl9 : (rowP g k t).length ≤ 100 := by have := HRL.out; omega
                go_wp2_with (at_builtin; refine wpList_append_ints _ rfl (.tmp 71) (.tmp 77) rfl (bt + 1) (.slice rA (rowP g k t).length rc) (rowP g k t).length (rowP g k t) rfl HO9.out.r (some ⟨w8.heap.size, 0, none⟩) 1 1 [hd] rfl (Ints.oneI w8 hd) (by omega) HSZ9.out ?_)
                intro A10 c10 w10 ho10 hg10 hat10
                have HO10 := Lib.hid (HO9.out.rowUp ho10 hg10 (by simpa using hat10))
                have HG10 := Lib.hid hg10
                have HAT10 := Lib.hid hat10
                clear ho10 hg10 hat10
                go_wp2_with fail
                rw [HHD.out, ← rowP_next] at HO10
                refine ⟨⟨t + 1, I, .slice vc1 C.length vcc1, C, by go_num, by omega, ?_⟩, by simp [intOf]; omega⟩
                rw [clK_miss (by rw [← HPL.out]; exact hgt)]
                exact HO10
        · obtain rfl : t = g.terms + 1 := by omega
          obtain ⟨rb, hrA, hrb⟩ := HO.out.r.some_ (by simp [rowP])
          subst hrA
          have HRB := Lib.hid hrb
          clear hrb
          obtain ⟨va1, vc1, rfl, -⟩ := HO.out.t.o1.form
          have hrl : (rowP g k (g.terms + 1)).length = g.terms + 1 := by simp [rowP]
          have HRL := Lib.hid hrl
          have htl : (tabT g k).length ≤ 100 := by simp [tabT]; omega
          clear hrl
          have BT := HO.out.t.blk
          have hal := (Below.refl wr.heap.size wr).al (.cells #[.slice (some ⟨rb, 0, none⟩) (rowP g k (g.terms + 1)).length rc] 25)
          have HO5 := Lib.hid (HO.out.via hal)
          have HOW := Lib.hid (HO5.out.t.o1.mono (ok' := fun b => I b ∨ b = rb) fun b _ hb => Or.inl hb)
          have HCE := Lib.hid (show (wr.alloc (.cells #[.slice (some ⟨rb, 0, none⟩) (rowP g k (g.terms + 1)).length rc] 25)).cell? ⟨wr.heap.size, 0, none⟩ = some (.slice (some ⟨rb, 0, none⟩) (rowP g k (g.terms + 1)).length rc) from (Blk.new wr 25 #[.slice (some ⟨rb, 0, none⟩) (rowP g k (g.terms + 1)).length rc]).cell 0)
          have HREL := Lib.hid (HO5.out.r.toInts.slE.mono (ok' := fun b => (I b ∨ b = rb) ∧ some b ≠ (Value.slice va1 (tabT g k).length vc1).ownBlock) (fun b _ ⟨o, e⟩ => by
            cases e
            exact ⟨Or.inr rfl, fun e => (HO5.out.no rb HRB.out).2.2.1 e.symm⟩))
          have HSZ := Lib.hid (show bt + 1 ≤ (wr.alloc (.cells #[.slice (some ⟨rb, 0, none⟩) (rowP g k (g.terms + 1)).length rc] 25)).heap.size by have := HO.out.t.blk.lt; simp; omega)
          clear hal
          have cBT := BT.cell
          have fBT := BT.frozen
          have lBT := BT.lt
          go_wp2_with (at_builtin; refine wpList_append_rw _ rfl (.tmp 81) (.tmp 83) rfl (fun b => I b ∨ b = rb) (bt + 1) (.slice va1 (tabT g k).length vc1) (tabT g k).length (tabT g k) rfl HOW.out wr.heap.size (some ⟨rb, 0, none⟩, (rowP g k (g.terms + 1)).length, rc) (rowP g k (g.terms + 1)) rfl HCE.out HREL.out (by omega) HSZ.out ?_)
          intro A6 c6 w6 ho6 hg6 hat6
          clear cBT fBT lBT
          have hlt5 := (HO5.out.r.lt rb HRB.out).2
          have HT6 := Lib.hid (HO5.out.t.pushR (HO5.out.no rb HRB.out) hlt5 ho6 hg6 (by simpa using hat6))
          have BT6 := HO5.out.t.blk.grown hg6 (fun e => by have := (HO5.out.t.o1.lt bt e.symm).1; omega)
          have HCD := Lib.hid HO.out.cd
          clear ho6 hg6 hat6 BT hlt5 HO5 HOW HCE HREL HSZ
          have cBT6 := BT6.cell
          have fBT6 := BT6.frozen
          have lBT6 := BT6.lt
          go_wp2_with fail
          refine ⟨⟨k + 1, fun b => I b ∨ b = rb, .slice A6 ((tabT g k).length + 1) c6, v2, C, by go_num, by omega, ?_⟩, by simp [intOf]; omega⟩
          rw [tabT_next, clN_next]
          exact Lib.hid ⟨HT6.out, HCD.out.symm⟩
    · obtain rfl : k = g.nons := by omega
      obtain ⟨va1, vc1, rfl, -⟩ := HT.out.1.o1.form
      obtain ⟨va2, vc2, rfl, -⟩ := HT.out.1.o2.form
      have BT := HT.out.1.blk
      have BR := HR1.out.below HT.out.1.bel (by omega)
      have c2 := ((BR.set_ 0 (.slice va1 (tabT g g.nons).length vc1)).set_ 1 (.slice va2 C.length vc2)).cell
      have HTT := Lib.hid HT.out.1
      have HTL := Lib.hid HT.out.2
      have cBT := BT.cell
      have fBT := BT.frozen
      have lBT := BT.lt
      have cBR := BR.cell
      have fBR := BR.frozen
      have lBR := BR.lt
      go_wp2_with fail
      refine bodyPost_ret (v := .tuple #[.agg #[.slice va1 (tabT g g.nons).length vc1, .slice va2 C.length vc2], .int .i64 0]) (by simp [results, Try.results5, go_sem, c2]) rfl ?_
      have hne : ∀ b, I b → b ≠ w.heap.size + 1 := fun b hb e => by have := (HTT.out.i1 b hb).1; omega
      have hbel := HTT.out.bel.mono (show w.heap.size ≤ bt by omega)
      refine ⟨I, bt + 1, _, _, C, rfl, by omega, (fun b hb => by have := (HTT.out.i1 b hb).1; omega), (HTT.out.o1.setCell _ hne (by simp; omega)).setCell _ hne (by simp; omega), (HTT.out.o2.setCell _ (fun _ h => h.elim) (by simp; omega)).setCell _ (fun _ h => h.elim) (by simp; omega), ?_, fun i c d hc hd => ?_, ((HB1.out.trans hbel).setCell (by simp) _).setCell (by simp) _⟩
      · rw [← HTL.out]; simp [clI]
      · obtain ⟨a, b, sl⟩ := HTT.out.cl i c d hc hd
        exact ⟨a, b, (sl.agr (Agr.setCell _ hne)).agr (Agr.setCell _ hne)⟩
end Go.Proofs.Ythkldiehokblcaa

