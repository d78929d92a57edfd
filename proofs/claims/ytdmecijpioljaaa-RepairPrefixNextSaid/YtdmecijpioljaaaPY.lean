/- Texts PY, laid together. -/
import Derived.Test.YtdmecijpioljaaaPX


namespace Go.Proofs.Ytdmecijpioljaaa
open Go.RowKit

theorem ChF.none (b : Nat) : ChF (.slice none 0 0, [], .slice none 0 0, []) b := ⟨⟨fun e => (by cases e), fun j h hj => (by simp at hj)⟩, fun e => (by cases e), fun j b' hj => by simp at hj⟩
theorem Sets.none (e ti : TypeId) (w : World) (base : Nat) : Sets e ti w base (.slice none 0 0) [] [] :=
  ⟨Own.nil _ _, rfl, fun j h l hj => by simp at hj, fun j j' h h' b _ hj => by simp at hj, fun j h b hj => by simp at hj⟩
theorem ChM.start {w : World} {base bf : Nat} {c0 c1 c2 : Value} {AR : Option Addr} {nR cR : Nat} {R : List Ru} (hb : Blk w bf 108 #[c0, c1, c2, .slice AR nR cR, .slice none 0 0, .slice none 0 0]) (hr : Sl RuE (fun b => b < base) w AR nR cR R) (hbase : base ≤ w.heap.size) :
    ChM w base bf c0 c1 c2 AR nR cR R (.slice none 0 0) [] (.slice none 0 0) [] [] :=
  ⟨hb, hr, Sets.none _ _ _ _, Own.nil _ _, fun j b l hj => by simp at hj, fun j j' b _ hj => by simp at hj, fun j b hj => by simp at hj, fun b hb => (by cases hb), ChF.none bf, hbase⟩
def StartP (g : Gr) (Ag : Option Addr) (ng cg : Nat) (w : World) (e : Ending) (w' : World) : Prop :=
  ∃ (bf : Nat) (s : ChSt) (l : List It3), e = .returned (.pointer (some ⟨bf, 0, none⟩)) ∧ w.heap.size ≤ bf ∧ ChS w' w.heap.size bf (.int .i64 (g.terms : Int)) (.int .i64 (g.nons : Int)) (.int .i64 (g.start : Int)) Ag ng cg g.rules s [l] ∧ (∀ x, InvI g.rules g.start x 0 [l]) ∧ Below w.heap.size w w'
set_option maxRecDepth 100000 in
set_option maxHeartbeats 2000000 in
theorem Start_c (ok : Nat → Prop) (g : Gr) (Ag : Option Addr) (ng cg : Nat) (w : World) (hl : Sl RuE ok w Ag ng cg g.rules) (hR : g.rules.length ≤ 32) (h4 : ∀ u ∈ g.rules, u.2.length ≤ 4) :
    Calls Try.prog 35 #[grVal g Ag ng cg] w (StartP g Ag ng cg w) := by
  have hng : g.rules.length = ng := hl.len
  obtain ⟨O1, hO1⟩ : ∃ O, O = Obj.cells #[.int .i64 (g.terms : Int), .int .i64 (g.nons : Int), .int .i64 (g.start : Int), .slice Ag ng cg] 28 := ⟨_, rfl⟩
  obtain ⟨O2, hO2⟩ : ∃ O, O = Obj.cells #[.int .i64 (g.terms : Int), .int .i64 (g.nons : Int), .int .i64 (g.start : Int), .slice Ag ng cg, .slice none 0 0, .slice none 0 0] 108 := ⟨_, rfl⟩
  have hB0 := (Below.refl w.heap.size w).al O1
  have hB := hB0.al O2
  have B1 := (Blk.new w 28 #[.int .i64 (g.terms : Int), .int .i64 (g.nons : Int), .int .i64 (g.start : Int), .slice Ag ng cg])
  rw [← hO1] at B1
  have B2 := Blk.newAt (w.alloc O1) 108 #[.int .i64 (g.terms : Int), .int .i64 (g.nons : Int), .int .i64 (g.start : Int), .slice Ag ng cg, .slice none 0 0, .slice none 0 0] (w.heap.size + 1) (by simp)
  rw [← hO2] at B2
  have HL := Lib.hid ((hl.mono (ok' := fun b => b < w.heap.size) fun b hb _ => hb).via hB)
  have HB := Lib.hid hB
  have HBX := Lib.hid (B1.al O2)
  have HBF := Lib.hid B2
  have H4 := Lib.hid h4
  have hW : ((w.alloc O1).alloc O2).heap.size = w.heap.size + 2 := by simp
  simp only [grVal]
  clear hl hB hB0 h4 B2
  subst hO1
  go_enter Try.func35, Try.ntmps35
  have cB1 := B1.cell
  have fB1 := B1.frozen
  have lB1 := B1.lt
  go_upto_region 2 with fail
  clear cB1 fB1 lB1
  clear B1
  subst hO2
  generalize (w.alloc (.cells #[.int .i64 (g.terms : Int), .int .i64 (g.nons : Int), .int .i64 (g.start : Int), .slice Ag ng cg] 28)).alloc (.cells #[.int .i64 (g.terms : Int), .int .i64 (g.nons : Int), .int .i64 (g.start : Int), .slice Ag ng cg, .slice none 0 0, .slice none 0 0] 108) = W at *
  have HF0 := Lib.hid (ChM.start HBF.out HL.out (by omega))
  clear HBF HL
  go_wp2_with fail
  refine (set_c W w.heap.size (w.heap.size + 1) _ _ _ Ag ng cg g.rules (.slice none 0 0) [] (.slice none 0 0) [] [] HF0.out (by omega) (by simp)).mono ?_
  rintro e w1 ⟨rfl, v1, vm1, bm1, hF, hM⟩
  simp only [List.nil_append] at hF hM
  have HF1 := Lib.hid hF
  have HM1 := Lib.hid hM
  have BX1 := hM.blk (i := true) HBX.out ⟨ChF.none _, by omega⟩
  have HBX1 := Lib.hid BX1
  clear hF hM HF0 HBX
  have cBX1 := BX1.cell
  have fBX1 := BX1.frozen
  have lBX1 := BX1.lt
  go_wp2_with fail
  clear cBX1 fBX1 lBX1
  clear BX1
  refine (gN_c _ _).mono ?_
  rintro e w2 ⟨rfl, hb2⟩
  have HF2 := Lib.hid (HF1.out.via hb2)
  have HM2 := Lib.hid (HM1.out.via hb2)
  clear hb2 HF1 HM1
  go_wp2_with fail
  refine (cpredict_s HF2.out 0 [] rfl rfl (by omega) hR H4.out List.nodup_nil (fun x h => by cases h) false g.start).mono ?_
  rintro e w3 ⟨l0, hG, rfl, s3, hF3, hM3⟩
  have HG := Lib.hid (show Grew (PredI g.rules 0 (false, g.start) g.rules.length) [] l0 from by rw [hng]; exact hG)
  have HF3 := Lib.hid (show ChS w3 w.heap.size (w.heap.size + 1) _ _ _ Ag ng cg g.rules s3 [l0] from hF3)
  have HM3 := Lib.hid (HM2.out.trans (hM3.cx (bf := w.heap.size + 1)))
  clear hG hF3 hM3 HF2 HM2
  have HND := Lib.hid (HG.out.nd List.nodup_nil)
  have HOK := Lib.hid (show ∀ x ∈ l0, ItOk g.rules 0 x from fun x hx => (HG.out.src x hx).elim (fun h => by cases h) (fun h => h.ok))
  have HSO := Lib.hid (show ∀ (j : Nat) m, [l0][j]? = some m → m.length ≤ 100000 ∧ ∀ x ∈ m, ItOk g.rules 0 x from fun j m hj => by
    cases j with
    | zero =>
      obtain rfl : l0 = m := by simpa using hj
      exact ⟨lenI hR H4.out (by omega) HND.out HOK.out, HOK.out⟩
    | succ j => simp at hj)
  go_wp2_with fail
  refine (ccomplete_s w3 w.heap.size (w.heap.size + 1) 0 _ _ _ Ag ng cg g.rules s3 [l0] l0 HF3.out rfl rfl (by omega) hR H4.out HND.out HOK.out HSO.out).mono ?_
  rintro e w4 ⟨l4, hC, rfl, s4, hF4, hM4⟩
  have HF4 := Lib.hid (show ChS w4 w.heap.size (w.heap.size + 1) _ _ _ Ag ng cg g.rules s4 [l4] from hF4)
  have HM4 := Lib.hid (HM3.out.trans (hM4.cx (bf := w.heap.size + 1)))
  have HI := Lib.hid (fun x => InvI.start (w := x) HG.out hC)
  clear hC hF4 hM4
  go_wp2_with fail
  refine bodyPost_ret (v := .pointer (some ⟨w.heap.size + 1, 0, none⟩)) (by simp [results, Try.results35, go_sem]) rfl ?_
  exact ⟨_, s4, l4, rfl, by omega, HF4.out, HI.out, HB.out.trans (HM4.out.below (i := true) (fun b hb => ⟨ChF.none _, by omega⟩) (by omega))⟩
end Go.Proofs.Ytdmecijpioljaaa

