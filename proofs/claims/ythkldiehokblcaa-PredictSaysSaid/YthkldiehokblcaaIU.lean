/- Texts IU, laid together. -/
import Derived.Test.YthkldiehokblcaaIS
import Derived.Test.YthkldiehokblcaaIT



namespace Go.Proofs.Ythkldiehokblcaa
open Go.RowKit

theorem prsL_len {f : Sy → Nat → Option (Option Tr × Nat)} {l : List Sy} : ∀ {k k' : Nat} {ts : List Tr}, prsL f l k = some (some ts, k') → ts.length = l.length ∧ ∀ t ∈ ts, ∃ s k1 k2, s ∈ l ∧ f s k1 = some (some t, k2) := by
  induction l with
  | nil => intro k k' ts h; simp only [prsL, Option.some.injEq, Prod.mk.injEq] at h; rw [← h.1]; exact ⟨rfl, fun t ht => by simp at ht⟩
  | cons a l ih =>
    intro k k' ts h
    simp only [prsL] at h
    cases ha : f a k with
    | none => rw [ha] at h; cases h
    | some p =>
      obtain ⟨o, k1⟩ := p
      cases o with
      | none => rw [ha] at h; simp at h
      | some t =>
        rw [ha] at h
        simp only at h
        cases hl : prsL f l k1 with
        | none => rw [hl] at h; cases h
        | some p =>
          obtain ⟨o, k2⟩ := p
          cases o with
          | none => rw [hl] at h; simp at h
          | some us =>
            rw [hl] at h
            simp only [Option.some.injEq, Prod.mk.injEq] at h
            obtain ⟨rfl, rfl⟩ := h
            obtain ⟨h1, h2⟩ := ih hl
            refine ⟨by simp [h1], fun x hx => ?_⟩
            rcases List.mem_cons.1 hx with rfl | hx
            · exact ⟨a, k, k1, by simp, ha⟩
            · obtain ⟨s, p1, p2, hs, hf⟩ := h2 x hx
              exact ⟨s, p1, p2, by simp [hs], hf⟩
/-- the parser's trees are narrow -/
theorem prs_nrw {g : Gr} (hg : g.Ok) {W : List Nat} (d : Nat) : ∀ s k t k', prs g W d s k = some (some t, k') → t.Nrw := by
  induction d with
  | zero => intro s k t k' h; simp [prs] at h
  | succ d ih =>
    intro s k t k' h
    obtain ⟨b, a⟩ := s
    cases b with
    | true =>
      simp only [prs, if_true] at h
      split at h
      · simp only [Option.some.injEq, Prod.mk.injEq] at h
        rw [← h.1]; exact .leaf a
      · simp at h
    | false =>
      simp only [prs, Bool.false_eq_true, if_false] at h
      cases hp : posL g a (laP g W k) with
      | nil => rw [hp] at h; simp at h
      | cons i is =>
        rw [hp] at h
        simp only at h
        cases hu : g.rules[i]? with
        | none => rw [hu] at h; cases h
        | some u =>
          rw [hu] at h
          simp only at h
          cases hl : prsL (prs g W d) u.2 k with
          | none => rw [hl] at h; cases h
          | some p =>
            obtain ⟨o, k2⟩ := p
            rw [hl] at h
            cases o with
            | none => simp at h
            | some ts =>
              simp only [Option.some.injEq, Prod.mk.injEq] at h
              rw [← h.1]
              obtain ⟨h1, h2⟩ := prsL_len hl
              refine .node i ts ?_ fun x hx => ?_
              · have := (hg.right u (List.mem_of_getElem? hu)).1; omega
              · obtain ⟨s, p1, p2, -, hf⟩ := h2 x hx
                exact ih _ _ _ _ hf
theorem enters_read : ∀ (args : Array Value) (w : World), (callFunc 32 args).run Try.prog w = .ok (.enter 32 args) w :=
  enters_q (c := _) (fn := Try.f32) rfl (by kernel_rfl) rfl
def PdP (w : World) (W : List Nat) (r : Option Tr) (k' : Nat) (e : Ending) (w' : World) : Prop :=
  ∃ (v : TrV) (b : Bool), e = .returned (.tuple #[trVal v, .int .i64 (k' : Int), .bool b]) ∧ Below w.heap.size w w' ∧ match r with
   | some t => if k' < W.length then b = false else b = true ∧ TreeR (fun b => w.heap.size ≤ b) w' v t
   | none => b = false
abbrev oG (g : Gr) (Ag : Option Addr) (ng cg : Nat) : Obj := .cells #[.int .i64 (g.terms : Int), .int .i64 (g.nons : Int), .int .i64 (g.start : Int), .slice Ag ng cg] 24
abbrev oW (wA : Option Addr) (n wc : Nat) : Obj := .cells #[.slice wA n wc] 25
abbrev oT : Obj := .cells #[.int .i64 0, .int .i64 0, .slice none 0 0] 37
abbrev oA : Obj := .cells #[.int .i64 0] 3
abbrev oF (a : Nat) : Obj := .cells #[.func (.func 32) #[] #[.pointer (some ⟨a, 0, none⟩), .pointer (some ⟨a + 1 + 1 + 1, 0, none⟩), .pointer (some ⟨a + 1, 0, none⟩), .pointer (some ⟨a + 1 + 1 + 1 + 1, 0, none⟩)]] 85
set_option maxRecDepth 100000 in
set_option maxHeartbeats 4000000 in
theorem predicted_c (ok : Nat → Prop) (g : Gr) (Ag : Option Addr) (ng cg : Nat) (wA : Option Addr) (wc : Nat) (W : List Nat) (d : Nat) (r : Option Tr) (k' : Nat) (w : World) (hg : GrOk g) (hl : Sl RuE ok w Ag ng cg g.rules) (hxs : Ints w wA W.length wc (ints W))
    (hW : ∀ x ∈ W, x < g.terms) (hWl : W.length ≤ 2000) (hp : prs g W d (false, g.start) 0 = some (r, k')) (hk : k' ≤ W.length) :
    Calls Try.prog 13 #[grVal g Ag ng cg, .slice wA W.length wc] w (PdP w W r k') := by
  have hst : g.okSy (false, g.start) := by have := hg.ok.start; simpa [Gr.okSy] using this
  have hb5 := ((((Below.refl w.heap.size w).al (oG g Ag ng cg)).al (oW wA W.length wc)).al oT).al oA
  have hb6 := hb5.al (oF w.heap.size)
  have BG := ((((Blk.new w 24 #[.int .i64 (g.terms : Int), .int .i64 (g.nons : Int), .int .i64 (g.start : Int), .slice Ag ng cg]).al (oW wA W.length wc)).al oT).al oA).al (oF w.heap.size)
  have BW := (((Blk.newAt (w.alloc (oG g Ag ng cg)) 25 #[.slice wA W.length wc] (w.heap.size + 1) (by simp)).al oT).al oA).al (oF w.heap.size)
  have BT := ((Blk.newAt ((w.alloc (oG g Ag ng cg)).alloc (oW wA W.length wc)) 37 #[.int .i64 0, .int .i64 0, .slice none 0 0] (w.heap.size + 1 + 1) (by simp)).al oA).al (oF w.heap.size)
  have BA := (Blk.newAt (((w.alloc (oG g Ag ng cg)).alloc (oW wA W.length wc)).alloc oT) 3 #[.int .i64 0] (w.heap.size + 1 + 1 + 1) (by simp)).al (oF w.heap.size)
  have BF := Blk.newAt ((((w.alloc (oG g Ag ng cg)).alloc (oW wA W.length wc)).alloc oT).alloc oA) 85 #[.func (.func 32) #[] #[.pointer (some ⟨w.heap.size, 0, none⟩), .pointer (some ⟨w.heap.size + 1 + 1 + 1, 0, none⟩), .pointer (some ⟨w.heap.size + 1, 0, none⟩), .pointer (some ⟨w.heap.size + 1 + 1 + 1 + 1, 0, none⟩)]] (w.heap.size + 1 + 1 + 1 + 1) (by simp)
  have HL := Lib.hid ((hl.mono (ok' := fun b => b ≠ w.heap.size + 1 + 1 + 1) (fun b hlt _ => by omega)).via hb6)
  have HX := Lib.hid ((hxs.slE.mono (ok' := fun b => b ≠ w.heap.size + 1 + 1 + 1) (fun b hlt _ => by omega)).via hb6)
  have HB6 := Lib.hid hb6
  have HG := Lib.hid hg
  have HP := Lib.hid hp
  have HW := Lib.hid hW
  have HBT := Lib.hid BT
  have HBA := Lib.hid BA
  have HBF := Lib.hid BF
  have HBG := Lib.hid BG
  have HBW := Lib.hid BW
  have hmf : ∀ (fn : Fn) (first cap : Array Value) (w : World), (Instr.makeFunc fn first cap).run Try.prog w = .ok (.func fn first cap) w := fun _ _ _ _ => rfl
  clear hb5 hb6 BG BW BT BA BF hl hxs hp hW hg
  simp only [grVal]
  go_enter Try.func13, Try.ntmps13
  go_upto_region 4 with fail
  simp only [oG, oW, oT, oA, oF] at HL HX HB6 HBT HBA HBF HBG HBW
  have HSZ := Lib.hid (show (((((w.alloc (oG g Ag ng cg)).alloc (oW wA W.length wc)).alloc oT).alloc oA).alloc (oF w.heap.size)).heap.size = w.heap.size + 5 by simp)
  simp only [oG, oW, oT, oA, oF] at HSZ
  generalize ((((w.alloc (.cells #[.int .i64 (g.terms : Int), .int .i64 (g.nons : Int), .int .i64 (g.start : Int), .slice Ag ng cg] 24)).alloc (.cells #[.slice wA W.length wc] 25)).alloc (.cells #[.int .i64 0, .int .i64 0, .slice none 0 0] 37)).alloc (.cells #[.int .i64 0] 3)).alloc (.cells #[.func (.func 32) #[] #[.pointer (some ⟨w.heap.size, 0, none⟩), .pointer (some ⟨w.heap.size + 1 + 1 + 1, 0, none⟩), .pointer (some ⟨w.heap.size + 1, 0, none⟩), .pointer (some ⟨w.heap.size + 1 + 1 + 1 + 1, 0, none⟩)]] 85) = W6 at *
  have HS := Lib.hid (show RqS W6 32 w.heap.size (w.heap.size + 1 + 1 + 1) (w.heap.size + 1) (w.heap.size + 1 + 1 + 1 + 1) g W Ag ng cg wA wc from ⟨HL.out, HX.out, by simpa [gCells] using HBG.out, HBW.out, HBF.out, by omega, by omega, by omega⟩)
  have BF := HBF.out
  have BG := HBG.out
  clear hmf
  have cBF := BF.cell
  have fBF := BF.frozen
  have lBF := BF.lt
  have cBG := BG.cell
  have fBG := BG.frozen
  have lBG := BG.lt
  iterate 15 go_step
  clear cBF fBF lBF cBG fBG lBG
  clear BF BG
  refine (read_n 32 (Lib.hid rfl) enters_read w.heap.size (w.heap.size + 1 + 1 + 1) (w.heap.size + 1) (w.heap.size + 1 + 1 + 1 + 1) g W Ag ng cg wA wc HG.out HW.out hWl d W6 (false, g.start) 0 r k' hst (Nat.zero_le _) HP.out HS.out HBA.out).mono ?_
  cases r with
  | none =>
    rintro e w7 ⟨hb7, ha7, hz7, he7, rfl⟩
    have BT := (ha7 _ (by omega) HBT.out.lt).trans HBT.out
    have BT : Blk w7 (w.heap.size + 1 + 1) 37 #[.int .i64 0, .int .i64 0, .slice none 0 0] := BT
    have BA := hb7
    have HE := Lib.hid (HB6.out.trans (he7.mono (by omega)))
    dsimp only [trVal]
    clear ha7 he7 hb7
    have BTa := BT.al (.cells #[.int .i64 0, .int .i64 0, .slice none 0 0] 37)
    have BAa := BA.al (.cells #[.int .i64 0, .int .i64 0, .slice none 0 0] 37)
    have BVa := BAa
    have cBTa := BTa.cell
    have fBTa := BTa.frozen
    have lBTa := BTa.lt
    have cBAa := BAa.cell
    have fBAa := BAa.frozen
    have lBAa := BAa.lt
    have cBVa := BVa.cell
    have fBVa := BVa.frozen
    have lBVa := BVa.lt
    go_upto_region 6 with fail
    go_region
    go_wp2_with fail
    refine bodyPost_ret (v := .tuple #[trVal (0, 0, none, 0, 0), .int .i64 (k' : Int), .bool false]) (by simp [results, Try.results13, go_sem, trVal, cBTa]) rfl ⟨(0, 0, none, 0, 0), false, rfl, ?_, ?_⟩
    · exact ((((HE.out.al _).setCell (by simp; omega) _).setCell (by simp; omega) _).setCell (by simp; omega) _).drew
    · rfl
  | some t =>
    rintro e w7 ⟨hb7, ha7, hz7, he7, ⟨va, vb, vA2, vn2, vc2⟩, rfl, hT7⟩
    have BT : Blk w7 (w.heap.size + 1 + 1) 37 #[.int .i64 0, .int .i64 0, .slice none 0 0] := (ha7 _ (by omega) HBT.out.lt).trans HBT.out
    have BA := hb7
    have HE := Lib.hid (HB6.out.trans (he7.mono (by omega)))
    have BV : Blk w7 (w.heap.size + 1) 25 #[.slice wA W.length wc] := (ha7 _ (by omega) HBW.out.lt).trans HBW.out
    have hsz := HSZ.out
    dsimp only [trVal]
    have hbig : W6.heap.size ≤ w7.heap.size := hz7
    have HTR := Lib.hid (hT7.al (.cells #[.int .i64 va, .int .i64 vb, .slice vA2 vn2 vc2] 37))
    clear ha7 he7 hb7 hT7
    have BTa := BT.al (.cells #[.int .i64 va, .int .i64 vb, .slice vA2 vn2 vc2] 37)
    have BAa := BA.al (.cells #[.int .i64 va, .int .i64 vb, .slice vA2 vn2 vc2] 37)
    have BVa := BV.al (.cells #[.int .i64 va, .int .i64 vb, .slice vA2 vn2 vc2] 37)
    have BN := Blk.new w7 37 #[.int .i64 va, .int .i64 vb, .slice vA2 vn2 vc2]
    have HZW := Lib.hid (show W6.heap.size ≤ (w7.alloc (.cells #[.int .i64 va, .int .i64 vb, .slice vA2 vn2 vc2] 37)).heap.size by simp; omega)
    by_cases hkl : k' < W.length
    · have e1 : (k' : Int) < (W.length : Int) := by omega
      clear BN
      have HKL := Lib.hid hkl
      clear hkl
      have cBTa := BTa.cell
      have fBTa := BTa.frozen
      have lBTa := BTa.lt
      have cBAa := BAa.cell
      have fBAa := BAa.frozen
      have lBAa := BAa.lt
      have cBVa := BVa.cell
      have fBVa := BVa.frozen
      have lBVa := BVa.lt
      go_upto_region 6 with fail
      go_region
      go_wp2_with fail
      refine bodyPost_ret (v := .tuple #[trVal (0, 0, none, 0, 0), .int .i64 (k' : Int), .bool false]) (by simp [results, Try.results13, go_sem, trVal, cBTa]) rfl ⟨(0, 0, none, 0, 0), false, rfl, ?_, ?_⟩
      · exact ((((HE.out.al _).setCell (by simp; omega) _).setCell (by simp; omega) _).setCell (by simp; omega) _).drew
      · simp only [HKL.out, if_true]
    · have e1 : ¬ (k' : Int) < (W.length : Int) := by omega
      have e2 : decide ((k' : Int) < (W.length : Int)) = false := by simp; omega
      have HKL := Lib.hid hkl
      clear hkl
      have HE2 := Lib.hid (HE.out.al (.cells #[.int .i64 va, .int .i64 vb, .slice vA2 vn2 vc2] 37))
      clear hsz hz7 hbig
      have cBTa := BTa.cell
      have fBTa := BTa.frozen
      have lBTa := BTa.lt
      have cBAa := BAa.cell
      have fBAa := BAa.frozen
      have lBAa := BAa.lt
      have cBVa := BVa.cell
      have fBVa := BVa.frozen
      have lBVa := BVa.lt
      have cBN := BN.cell
      have fBN := BN.frozen
      have lBN := BN.lt
      go_upto_region 7 with fail
      go_region
      go_wp2_with fail
      refine bodyPost_ret (v := .tuple #[trVal (va, vb, vA2, vn2, vc2), .int .i64 (k' : Int), .bool true]) (by simp [results, Try.results13, go_sem, trVal, cBTa]) rfl ⟨(va, vb, vA2, vn2, vc2), true, rfl, ?_, ?_⟩
      · exact (((HE2.out.setCell (by simp; omega) _).setCell (by simp; omega) _).setCell (by simp; omega) _).drew
      · simp only [HKL.out, if_false]
        have hz := HSZ.out
        exact ⟨trivial, ((HTR.out.set3 (fun b hb => by simp; omega) _ _ _).dr).mono (fun b _ hb => by omega)⟩
end Go.Proofs.Ythkldiehokblcaa

