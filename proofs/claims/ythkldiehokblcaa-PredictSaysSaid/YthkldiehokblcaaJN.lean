/- Texts JN, laid together. -/
import Derived.Test.YthkldiehokblcaaJL


namespace Go.Proofs.Ythkldiehokblcaa
open Go.RowKit

/-- nothing of the list is new -/
def ShutR (rc : Nat → Bool) (l : List Sy) : Prop := ∀ s ∈ l, s.1 = false → rc s.2 = true
theorem closed_rch {R : List Ru} {s : Nat} {rc : Nat → Bool} (h0 : rc s = true) (hc : ∀ u ∈ R, rc u.1 = true → ShutR rc u.2) {N : Nat} (h : RchN R s N) : rc N = true := by
  induction h with
  | start => exact h0
  | step N M rhs _ hr hm ih => exact hc _ hr ih _ hm rfl
/-- how far a pass has come: k rules -/
def PassR (N : Nat) (R : List Ru) (rc0 : Nat → Bool) (k : Nat) (rc : Nat → Bool) (ag : Bool) : Prop :=
  (ag = false ∧ rc = rc0 ∧ ∀ i u, i < k → R[i]? = some u → rc u.1 = true → ShutR rc u.2) ∨ (ag = true ∧ cntF rc N < cntF rc0 N)
/-- .. and j symbols of the next one -/
def PassQ (N : Nat) (R : List Ru) (rc0 : Nat → Bool) (k : Nat) (l : List Sy) (rc : Nat → Bool) (ag : Bool) : Prop :=
  (ag = false ∧ rc = rc0 ∧ (∀ i u, i < k → R[i]? = some u → rc u.1 = true → ShutR rc u.2) ∧ ShutR rc l) ∨ (ag = true ∧ cntF rc N < cntF rc0 N)
section
variable {N k : Nat} {R : List Ru} {rc0 rc : Nat → Bool} {ag : Bool} {l : List Sy}
theorem PassR.skip {u : Ru} (h : PassR N R rc0 k rc ag) (hk : R[k]? = some u) (hu : rc u.1 = true → ag = false → ShutR rc u.2) : PassR N R rc0 (k + 1) rc ag := by
  rcases h with ⟨h1, h2, h3⟩ | h
  · refine Or.inl ⟨h1, h2, fun i v hi hv hr => ?_⟩
    by_cases e : i = k
    · subst e; rw [hk] at hv; cases hv; exact hu hr h1
    · exact h3 i v (by omega) hv hr
  · exact Or.inr h
theorem PassR.start (h : PassR N R rc0 k rc ag) : PassQ N R rc0 k [] rc ag := by
  rcases h with ⟨h1, h2, h3⟩ | h
  · exact Or.inl ⟨h1, h2, h3, fun s hs => by cases hs⟩
  · exact Or.inr h
theorem PassQ.keep {s : Sy} (h : PassQ N R rc0 k l rc ag) (hs : s.1 = false → rc s.2 = true) : PassQ N R rc0 k (l ++ [s]) rc ag := by
  rcases h with ⟨h1, h2, h3, h4⟩ | h
  · refine Or.inl ⟨h1, h2, h3, fun z hz => ?_⟩
    rcases List.mem_append.1 hz with hz | hz
    · exact h4 z hz
    · obtain rfl := List.mem_singleton.1 hz; exact hs
  · exact Or.inr h
theorem PassQ.put {n : Nat} (h : PassQ N R rc0 k l rc ag) (hn : n < N) (h0 : rc n = false) (l' : List Sy) : PassQ N R rc0 k l' (putE rc n) true := by
  have hlt : cntF (putE rc n) N < cntF rc N := cntF_lt putE_le hn h0 (by unfold putE; rw [if_pos rfl])
  refine Or.inr ⟨rfl, ?_⟩
  rcases h with ⟨-, rfl, -⟩ | ⟨-, h⟩ <;> omega
theorem PassQ.done {u : Ru} (h : PassQ N R rc0 k u.2 rc ag) (hk : R[k]? = some u) : PassR N R rc0 (k + 1) rc ag := by
  rcases h with ⟨h1, h2, h3, h4⟩ | h
  · exact PassR.skip (Or.inl ⟨h1, h2, h3⟩) hk fun _ _ => h4
  · exact Or.inr h
end
structure RcR (w : World) (g : Gr) (Ag : Option Addr) (ng cg : Nat) (rc : Nat → Bool) (wr : World) : Prop where
  hg : Blk wr w.heap.size 24 (gCells g Ag ng cg)
  row : BRow wr (w.heap.size + 1) g.nons rc
  bel : Below w.heap.size w wr
  s : ∀ i, rc i = true → RchN g.rules g.start i
  st : rc g.start = true
theorem RcR.via {w wr wa : World} {g : Gr} {Ag : Option Addr} {ng cg : Nat} {rc : Nat → Bool} (h : RcR w g Ag ng cg rc wr) (hb : Below wr.heap.size wr wa) : RcR w g Ag ng cg rc wa :=
  ⟨h.hg.via hb, h.row.via hb, h.bel.trans (hb.mono h.bel.size), h.s, h.st⟩
theorem RcR.put {w wr : World} {g : Gr} {Ag : Option Addr} {ng cg : Nat} {rc : Nat → Bool} {n : Nat} (h : RcR w g Ag ng cg rc wr) (hn : n < g.nons) (hr : RchN g.rules g.start n) : RcR w g Ag ng cg (putE rc n) (wr.setCell ⟨w.heap.size + 1, n, none⟩ (.bool true)) := by
  refine ⟨h.hg.far (by simp) _, h.row.set hn, h.bel.setCell (by simp) _, fun i hi => ?_, putE_le _ h.st⟩
  unfold putE at hi
  by_cases e : i = n
  · rw [e]; exact hr
  · rw [if_neg e] at hi; exact h.s i hi
def RchP (w : World) (g : Gr) (e : Ending) (w' : World) : Prop :=
  ∃ b rc, e = .returned (.slice (some ⟨b, 0, none⟩) g.nons g.nons) ∧ BRow w' b g.nons rc ∧ (∀ i, rc i = true ↔ RchN g.rules g.start i) ∧ w.heap.size ≤ b ∧ Below w.heap.size w w'
theorem yes_c (v : Nat) (A : Option Addr) (n c : Nat) (w : World) : Calls Try.prog 60 #[.agg #[.int .i64 (v : Int), .slice A n c]] w fun e w' => e = .returned (.bool true) ∧ Below w.heap.size w w' := by
  go_enter Try.func60, Try.ntmps60
  go_wp2_with fail
  exact bodyPost_ret (v := .bool true) (by simp [results, Try.results60, go_sem]) rfl ⟨rfl, (Below.refl _ _).al _⟩
set_option maxRecDepth 100000 in
set_option maxHeartbeats 8000000 in
theorem reached_c (ok : Nat → Prop) (g : Gr) (Ag : Option Addr) (ng cg : Nat) (w : World) (hg : GrOk g) (hl : Sl RuE ok w Ag ng cg g.rules) :
    Calls Try.prog 59 #[grVal g Ag ng cg, .func (.func 60) #[] #[]] w (RchP w g) := by
  have hn1 := hg.ok.nons.1
  have hn10 := hg.ok.nons.2
  have hlen := hl.len
  have hst := hg.ok.start
  have hng32 : ng ≤ 32 := by have := hg.ok.count; omega
  have B0 := Blk.new w 24 (gCells g Ag ng cg)
  have hB0 := (Below.refl w.heap.size w).al (.cells (gCells g Ag ng cg) 24)
  have HGO := Lib.hid hg
  have HL := Lib.hid hl
  have hmb := mk_bools g.nons (by omega)
  have s0 : (0 : Int) ≤ (g.start : Int) := by omega
  have s1 : (g.start : Int) < (g.nons : Int) := by omega
  simp only [grVal]
  clear hg hl hlen
  go_enter Try.func59, Try.ntmps59
  have e0 : (Obj.cells #[.int .i64 (g.terms : Int), .int .i64 (g.nons : Int), .int .i64 (g.start : Int), .slice Ag ng cg] 24) = .cells (gCells g Ag ng cg) 24 := rfl
  go_upto_region 1 with fail
  have hW0 : (w.alloc (.cells (gCells g Ag ng cg) 24)).heap.size = w.heap.size + 1 := by simp
  clear e0
  generalize w.alloc (.cells (gCells g Ag ng cg) 24) = W0 at *
  have cB := B0.cell
  simp only [gCells] at cB
  have fB := B0.frozen
  go_upto_region 2 with fail
  have HG1 := Lib.hid (B0.al (.cells (mkCells (.bool false) g.nons) 4))
  have HB1 := Lib.hid (hB0.trans (((Below.refl W0.heap.size W0).al (.cells (mkCells (.bool false) g.nons) 4)).mono (by omega)))
  have HR1 := Lib.hid (BRow.new W0 g.nons)
  clear B0 hB0 cB fB hmb
  rw [hW0] at HR1
  have hW1 : w.heap.size + 2 ≤ (W0.alloc (.cells (mkCells (.bool false) g.nons) 4)).heap.size := by simp [hW0]
  generalize W0.alloc (.cells (mkCells (.bool false) g.nons) 4) = W1 at *
  clear hW0
  have Bg := HG1.out
  simp only [gCells] at Bg
  have ce := HR1.out.cell hst
  have fe := HR1.out.frozen
  have cBg := Bg.cell
  have fBg := Bg.frozen
  have lBg := Bg.lt
  go_upto_region 3 with fail
  clear cBg fBg lBg
  have HRR := Lib.hid (show RcR w g Ag ng cg (putE (fun _ => false) g.start) (W1.setCell ⟨w.heap.size + 1, g.start, none⟩ (.bool true)) from
    ⟨HG1.out.far (by simp) _, HR1.out.set hst, HB1.out.setCell (by simp) _, fun i hi => (by
      unfold putE at hi
      by_cases e : i = g.start
      · rw [e]; exact .start
      · rw [if_neg e] at hi; cases hi), by unfold putE; rw [if_pos rfl]⟩)
  clear ce fe Bg HG1 HB1 HR1
  generalize W1.setCell ⟨w.heap.size + 1, g.start, none⟩ (.bool true) = W2 at *
  go_wp2_with fail
  go_loopg [6] (2 * cntF (putE (fun _ => false) g.start) g.nons + 1) (fun gk a wx => ∃ rc ag, a = .bool ag ∧ Hid (RcR w g Ag ng cg rc wx) ∧ Hid (ag = false → ∀ u ∈ g.rules, rc u.1 = true → ShutR rc u.2) ∧ gk = 2 * cntF rc g.nons + (if ag then 1 else 0))
  case atStart => exact ⟨_, true, rfl, HRR, Lib.hid (fun h => by cases h), rfl⟩
  case round =>
    obtain ⟨rc, ag, rfl, HR, HS, hgk⟩ := hrel
    clear HRR
    cases ag with
    | false =>
      clear hgk
      go_wp2_with fail
      go_ret
      exact ⟨_, rc, rfl, HR.out.row, fun i => ⟨HR.out.s i, fun h => closed_rch HR.out.st (HS.out trivial) h⟩, by omega, HR.out.bel⟩
    | true =>
      have HGK := Lib.hid hgk
      clear hgk HS
      have Bg := HR.out.hg
      simp only [gCells] at Bg
      have cBg := Bg.cell
      have fBg := Bg.frozen
      have lBg := Bg.lt
      go_wp2_with fail
      clear cBg fBg lBg
      clear Bg
      go_loopw [6, 22] (fun a q wr => ∃ (k : Nat) (rc1 : Nat → Bool) (ag : Bool), q = .int .i64 k ∧ k ≤ ng ∧ a = .bool ag ∧ Hid (RcR w g Ag ng cg rc1 wr) ∧ Hid (PassR g.nons g.rules rc k rc1 ag)) (fun _ q _ => ng - (intOf q).toNat)
      case atStart => exact ⟨0, rc, false, rfl, Nat.zero_le _, rfl, HR, Lib.hid (Or.inl ⟨rfl, rfl, fun i u h => absurd h (Nat.not_lt_zero _)⟩)⟩
      case round =>
        obtain ⟨k, rc1, ag, rfl, hk, rfl, HR1, HP1⟩ := hrel
        clear HR
        by_cases hkn : k < ng
        · obtain ⟨b1, o1, ⟨sl, sA, sn, sc⟩, ⟨sl', rhs⟩, hAg, -, hbb, hy, ⟨hx1, hx2⟩, hc⟩ := HL.out.at_ hkn
          simp only at hx1 hx2
          obtain rfl : sl = sl' := hx1
          subst hAg
          have d0 := (HR1.out.bel.cell (p := ⟨b1, o1 + k * RuE.k + 0, none⟩) hbb).trans (hc 0 _ rfl)
          have d1 := (HR1.out.bel.cell (p := ⟨b1, o1 + k * RuE.k + 1, none⟩) hbb).trans (hc 1 _ rfl)
          simp only [RuE, Nat.add_zero] at d0 d1
          have i0 : (0 : Int) ≤ (k : Int) := by omega
          have i1 : (k : Int) < (ng : Int) := by omega
          have hmem := List.mem_of_getElem? hy
          have hsl : sl < g.nons := HGO.out.ok.left _ hmem
          have j0 : (0 : Int) ≤ (sl : Int) := by omega
          have j1 : (sl : Int) < (g.nons : Int) := by omega
          have HRT := Lib.hid (HGO.out.ok.right _ hmem)
          have hsn : sn ≤ 4 := by rw [← hx2.len]; exact HRT.out.1
          have HY := Lib.hid hy
          have HMEM := Lib.hid hmem
          have hal := (Below.refl wr.heap.size wr).al (.cells #[.int .i64 (sl : Int), .slice sA sn sc] 58)
          have HSR := Lib.hid hx2
          have BX := Blk.new wr 58 #[.int .i64 (sl : Int), .slice sA sn sc]
          have HR4 := Lib.hid (HR1.out.via hal)
          have hwr : w.heap.size ≤ wr.heap.size := HR1.out.bel.size
          have hwr2 : w.heap.size + 1 < wr.heap.size := HR1.out.row.lt
          clear hc hy hx2 hmem hbb hal
          go_upto_region 9 with fail
          clear d0 d1
          generalize wr.alloc (.cells #[.int .i64 (sl : Int), .slice sA sn sc] 58) = W4 at *
          generalize wr.heap.size = bx at *
          have BX4 := Lib.hid BX
          have ce := HR4.out.row.cell hsl
          have fe := HR4.out.row.frozen
          have cBX := BX.cell
          have fBX := BX.frozen
          have lBX := BX.lt
          cases hrl : rc1 sl with
          | false =>
            rw [hrl] at ce
            go_wp2_with fail
            exact ⟨⟨k + 1, rc1, ag, by go_num, by omega, rfl, HR4, Lib.hid (HP1.out.skip HY.out (fun h => by simp only at h; rw [hrl] at h; cases h))⟩, by simp [intOf]; omega⟩
          | true =>
            rw [hrl] at ce
            go_wp2_with fail
            clear cBX fBX lBX
            clear BX ce fe
            refine (yes_c sl sA sn sc W4).mono ?_
            rintro e w5 ⟨rfl, hb5⟩
            have HR5 := Lib.hid (HR4.out.via hb5)
            have BX := BX4.out.via hb5
            have HRS := Lib.hid (show RchN g.rules g.start sl from HR5.out.s sl hrl)
            clear hb5 HR4 BX4
            have cBX := BX.cell
            have fBX := BX.frozen
            have lBX := BX.lt
            go_wp2_with fail
            clear cBX fBX lBX
            clear BX
            go_loopw [6, 41] (fun a q wr => ∃ (j : Nat) (rc2 : Nat → Bool) (ag : Bool), q = .int .i64 j ∧ j ≤ sn ∧ a = .bool ag ∧ Hid (RcR w g (some ⟨b1, o1, none⟩) ng cg rc2 wr) ∧ Hid (PassQ g.nons g.rules rc k (rhs.take j) rc2 ag)) (fun _ q _ => sn - (intOf q).toNat)
            case atStart => exact ⟨0, rc1, ag, rfl, Nat.zero_le _, rfl, HR5, Lib.hid HP1.out.start⟩
            case round =>
              obtain ⟨j, rc2, ag2, rfl, hj, rfl, HR6, HP6⟩ := hrel
              clear HR5 HP1
              by_cases hjn : j < sn
              · obtain ⟨b2, o2, ⟨tb, tn⟩, x', rfl, -, hb2, hx, hxr, hc⟩ := (HSR.out.via HR6.out.bel).at_ hjn
                obtain rfl : (tb, tn) = x' := hxr
                have x0 := hc 0 _ rfl
                have x1 := hc 1 _ rfl
                simp only [SyE, Nat.add_zero] at x0 x1
                have q0 : (0 : Int) ≤ (j : Int) := by omega
                have q1 : (j : Int) < (sn : Int) := by omega
                have HTK := Lib.hid (take_at hx)
                have hxm := List.mem_of_getElem? hx
                have hoks := HRT.out.2 _ hxm
                have HXM := Lib.hid hxm
                have hal := (Below.refl wr.heap.size wr).al (.cells #[.bool tb, .int .i64 (tn : Int)] 68)
                have BY := Blk.new wr 68 #[.bool tb, .int .i64 (tn : Int)]
                have HR7 := Lib.hid (HR6.out.via hal)
                have hwr3 : w.heap.size + 1 < wr.heap.size := HR6.out.row.lt
                clear hc hx hb2 hal hxm
                go_upto_region 13 with fail
                clear x0 x1
                generalize wr.alloc (.cells #[.bool tb, .int .i64 (tn : Int)] 68) = W7 at *
                generalize wr.heap.size = by7 at *
                cases tb with
                | true =>
                  have cBY := BY.cell
                  have fBY := BY.frozen
                  have lBY := BY.lt
                  go_wp2_with fail
                  exact ⟨⟨j + 1, rc2, ag2, by go_num, by omega, rfl, HR7, Lib.hid (by rw [HTK.out]; exact HP6.out.keep (fun h => by cases h))⟩, by simp [intOf]; omega⟩
                | false =>
                  have hxt : tn < g.nons := by simpa [Gr.okSy] using hoks
                  have t0 : (0 : Int) ≤ (tn : Int) := by omega
                  have t1 : (tn : Int) < (g.nons : Int) := by omega
                  have ce := HR7.out.row.cell hxt
                  have fe := HR7.out.row.frozen
                  have cBY := BY.cell
                  have fBY := BY.frozen
                  have lBY := BY.lt
                  cases hrt : rc2 tn with
                  | true =>
                    rw [hrt] at ce
                    go_wp2_with fail
                    exact ⟨⟨j + 1, rc2, ag2, by go_num, by omega, rfl, HR7, Lib.hid (by rw [HTK.out]; exact HP6.out.keep (fun _ => hrt))⟩, by simp [intOf]; omega⟩
                  | false =>
                    rw [hrt] at ce
                    go_wp2_with fail
                    exact ⟨⟨j + 1, putE rc2 tn, true, by go_num, by omega, rfl, Lib.hid (HR7.out.put hxt (.step sl tn rhs HRS.out HMEM.out HXM.out)), Lib.hid (HP6.out.put hxt hrt _)⟩, by simp [intOf]; omega⟩
              · obtain rfl : j = sn := by omega
                have HTT := Lib.hid (show rhs.take j = rhs from List.take_of_length_le (by have := HSR.out.len; omega))
                go_wp2_with fail
                exact ⟨⟨k + 1, rc2, ag2, by go_num, by omega, rfl, HR6, Lib.hid (PassQ.done (u := (sl, rhs)) (by have := HP6.out; rw [HTT.out] at this; exact this) HY.out)⟩, by simp [intOf]; omega⟩
        · obtain rfl : k = ng := by omega
          have HLN := Lib.hid HL.out.len
          go_wp2_with fail
          go_roundg (2 * cntF rc1 g.nons + (if ag then 1 else 0))
          case measure =>
            rw [HGK.out]
            rcases HP1.out with ⟨h1, h2, -⟩ | ⟨h1, h2⟩
            · rw [h1, h2]; simp
            · rw [h1]; simp; omega
          case rel =>
            refine ⟨rc1, ag, rfl, HR1, Lib.hid (fun h u hu => ?_), rfl⟩
            rcases HP1.out with ⟨h1, h2, h3⟩ | ⟨h1, h2⟩
            · obtain ⟨i, hi⟩ := List.mem_iff_getElem?.1 hu
              have := (List.getElem?_eq_some_iff.1 hi).1
              exact h3 i u (by have := HLN.out; omega) hi
            · rw [h] at h1; cases h1
end Go.Proofs.Ythkldiehokblcaa

