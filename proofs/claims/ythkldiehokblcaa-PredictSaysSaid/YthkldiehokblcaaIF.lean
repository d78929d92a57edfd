/- Texts IF, laid together. -/
import Derived.Test.YthkldiehokblcaaIE
import Derived.Test.YthkldiehokblcaaID
import Derived.Test.YthkldiehokblcaaJF




namespace Go.Proofs.Ythkldiehokblcaa
open Go.RowKit

theorem chkW_ok {T : Nat} {most : Nat} {xs : List Int} (h : chkW T most xs = 0) : ∃ W : List Nat, xs = ints W ∧ (∀ x ∈ W, x < T) ∧ W.length ≤ most := by
  unfold chkW at h
  split at h
  · cases h
  · split at h
    · cases h
    · rename_i h1 h2
      have h3 : ∀ x ∈ xs, 0 ≤ x ∧ x < T := fun x hx => by
        simp only [Bool.not_eq_true, List.any_eq_false] at h2
        have := h2 x hx
        simpa [okT] using this
      refine ⟨xs.map Int.toNat, ?_, ?_, by simp; omega⟩
      · unfold ints
        rw [List.map_map]
        refine (List.map_id _).symm.trans (List.map_congr_left fun x hx => ?_)
        have := h3 x hx
        simp only [Function.comp, id]; omega
      · intro x hx
        obtain ⟨y, hy, rfl⟩ := List.mem_map.1 hx
        have := h3 y hy
        omega
theorem pN_c (a : Nat) (w : World) : Calls Try.prog 20 #[.int .i64 (a : Int)] w fun e w' => e = .returned (.agg #[.bool false, .int .i64 (a : Int)]) ∧ Below w.heap.size w w' := by
  go_enter Try.func20, Try.ntmps20
  go_wp2_with fail
  refine bodyPost_ret (v := .agg #[.bool false, .int .i64 (a : Int)]) (by simp [results, Try.results20, go_sem]) rfl ⟨rfl, ?_⟩
  exact (Below.refl w.heap.size w).al _
theorem blk_caught {w : World} {b4 b5 b6 : Nat} {k : Int} (h45 : b4 ≠ b5) (h46 : b4 ≠ b6) (h56 : b5 ≠ b6) (B4 : Blk w b4 37 #[.int .i64 0, .int .i64 0, .slice none 0 0]) (B5 : Blk w b5 3 #[.int .i64 0]) (B6 : Blk w b6 32 #[.int .i64 0]) :
    Blk (caught w b4 b5 b6 k) b4 37 #[.int .i64 0, .int .i64 0, .slice none 0 0] ∧ Blk (caught w b4 b5 b6 k) b5 3 #[.int .i64 k] ∧ Blk (caught w b4 b5 b6 k) b6 32 #[.int .i64 10] := by
  unfold caught
  refine ⟨?_, ?_, ?_⟩
  · exact ((((((B4.al (.cells #[] 64)).set_ 0 (.int .i64 0)).set_ 1 (.int .i64 0)).set_ 2 (.slice none 0 0)).far (p := ⟨b5, 0, none⟩) h45 (.int .i64 k)).far (p := ⟨b6, 0, none⟩) h46 (.int .i64 10))
  · exact ((((((B5.al (.cells #[] 64)).far (p := ⟨b4, 0, none⟩) (Ne.symm h45) (.int .i64 0)).far (p := ⟨b4, 1, none⟩) (Ne.symm h45) (.int .i64 0)).far (p := ⟨b4, 2, none⟩) (Ne.symm h45) (.slice none 0 0)).set_ 0 (.int .i64 k)).far (p := ⟨b6, 0, none⟩) h56 (.int .i64 10))
  · exact ((((((B6.al (.cells #[] 64)).far (p := ⟨b4, 0, none⟩) (Ne.symm h46) (.int .i64 0)).far (p := ⟨b4, 1, none⟩) (Ne.symm h46) (.int .i64 0)).far (p := ⟨b4, 2, none⟩) (Ne.symm h46) (.slice none 0 0)).far (p := ⟨b5, 0, none⟩) (Ne.symm h56) (.int .i64 k)).set_ 0 (.int .i64 10))
theorem par_caught {tmps : Array Value} {b4 b5 b6 bv bp : Nat} {cs : Array Value} {w : World} {k : Int} {R : Ending → World → Prop} (h45 : b4 ≠ b5) (h46 : b4 ≠ b6) (h56 : b5 ≠ b6) (Bv : Blk w bv 60 #[.pointer (some ⟨bp, 0, none⟩)]) (Bp : Blk w bp 62 cs) (hcs : cs[7]? = some (.int .i64 k))
    (B4 : Blk w b4 37 #[.int .i64 0, .int .i64 0, .slice none 0 0]) (B5 : Blk w b5 3 #[.int .i64 0]) (B6 : Blk w b6 32 #[.int .i64 0])
    (h4 : tmps[4]?.getD undef = .pointer (some ⟨b4, 0, none⟩)) (h5 : tmps[5]?.getD undef = .pointer (some ⟨b5, 0, none⟩)) (h6 : tmps[6]?.getD undef = .pointer (some ⟨b6, 0, none⟩)) (hR : R (.returned (.tuple #[trVal (0, 0, none, 0, 0), .int .i64 k, .int .i64 10])) (caught w b4 b5 b6 k)) :
    Leaves Try.prog Try.f6 tmps R [{ target := .fn (.func 18) #[.pointer (some ⟨bv, 0, none⟩), .pointer (some ⟨b4, 0, none⟩), .pointer (some ⟨b5, 0, none⟩), .pointer (some ⟨b6, 0, none⟩)], args := #[] }] (.panicking rejV) w := by
  refine leaves_cons (f := 18) (args := #[.pointer (some ⟨bv, 0, none⟩), .pointer (some ⟨b4, 0, none⟩), .pointer (some ⟨b5, 0, none⟩), .pointer (some ⟨b6, 0, none⟩)]) (by simp) (by simp [go_sem]) ?_
  refine (catch_panicking bv bp b4 b5 b6 cs k h45 h46 h56 [] w Bv Bp hcs B4 B5 B6).mono ?_
  rintro e u' w'' ⟨rfl, rfl, rfl⟩
  change Leaves _ _ _ _ [] .returning _
  obtain ⟨F4, F5, F6⟩ := blk_caught (k := k) h45 h46 h56 B4 B5 B6
  exact ppar_res (v := (0, 0, none, 0, 0)) F4 F5 F6 h4 h5 h6 hR
theorem par_idle {tmps : Array Value} {b4 b5 b6 bv : Nat} {w : World} {v : TrV} {k q : Int} {R : Ending → World → Prop} (F4 : Blk w b4 37 #[.int .i64 v.1, .int .i64 v.2.1, .slice v.2.2.1 v.2.2.2.1 v.2.2.2.2]) (F5 : Blk w b5 3 #[.int .i64 k]) (F6 : Blk w b6 32 #[.int .i64 q])
    (h4 : tmps[4]?.getD undef = .pointer (some ⟨b4, 0, none⟩)) (h5 : tmps[5]?.getD undef = .pointer (some ⟨b5, 0, none⟩)) (h6 : tmps[6]?.getD undef = .pointer (some ⟨b6, 0, none⟩)) (hR : R (.returned (.tuple #[trVal v, .int .i64 k, .int .i64 q])) (w.alloc (.cells #[] 64))) :
    Leaves Try.prog Try.f6 tmps R [{ target := .fn (.func 18) #[.pointer (some ⟨bv, 0, none⟩), .pointer (some ⟨b4, 0, none⟩), .pointer (some ⟨b5, 0, none⟩), .pointer (some ⟨b6, 0, none⟩)], args := #[] }] .returning w := by
  refine leaves_cons (f := 18) (args := #[.pointer (some ⟨bv, 0, none⟩), .pointer (some ⟨b4, 0, none⟩), .pointer (some ⟨b5, 0, none⟩), .pointer (some ⟨b6, 0, none⟩)]) (by simp) (by simp [go_sem]) ?_
  refine (catch_idle ⟨bv, 0, none⟩ ⟨b4, 0, none⟩ ⟨b5, 0, none⟩ ⟨b6, 0, none⟩ w).mono ?_
  rintro e u' w'' ⟨rfl, rfl, rfl⟩
  change Leaves _ _ _ _ [] .returning _
  exact ppar_res (v := v) (F4.al _) (F5.al _) (F6.al _) h4 h5 h6 hR
/-- at a panic: what the results' slots hold, what is deferred, and a fact of the world -/
def QwP (Q : Exit → Act → World → Prop) (D : List Deferred) (p4 p5 p6 : Value) (Pw : List PanicEntry → World → Prop) : Exit → Act → World → Prop
  | .panic c, a, w => a.defers = D ∧ a.tmps[4]?.getD undef = p4 ∧ a.tmps[5]?.getD undef = p5 ∧ a.tmps[6]?.getD undef = p6 ∧ Pw c w
  | e, a, w => Q e a w
theorem QwP.imp {Q : Exit → Act → World → Prop} {D : List Deferred} {p4 p5 p6 : Value} {Pw : List PanicEntry → World → Prop} (h : ∀ c a w, a.defers = D → a.tmps[4]?.getD undef = p4 → a.tmps[5]?.getD undef = p5 → a.tmps[6]?.getD undef = p6 → Pw c w → Q (.panic c) a w) : ∀ (e : Exit) (a : Act) (w : World), QwP Q D p4 p5 p6 Pw e a w → Q e a w := fun e a w q => by
  cases e with
  | panic c => exact h c a w q.1 q.2.1 q.2.2.1 q.2.2.2.1 q.2.2.2.2
  | _ => exact q
theorem QwP.put {Q : Exit → Act → World → Prop} {D : List Deferred} {p4 p5 p6 : Value} {Pw : List PanicEntry → World → Prop} {d : Nat} (hd : 6 < d) (v : Value) : ∀ c a w, QwP Q D p4 p5 p6 Pw (.panic c) (a.put (some d) v) w → QwP Q D p4 p5 p6 Pw (.panic c) a w := fun c a w h => by
  simp only [QwP, Act.put] at h ⊢
  rw [Array.getElem?_setIfInBounds_ne (by omega), Array.getElem?_setIfInBounds_ne (by omega), Array.getElem?_setIfInBounds_ne (by omega)] at h
  exact h
/-- what Parse hands back of a parse -/
def ParR (w : World) (W : List Nat) (w' : World) (r : Option Tr) (k' : Nat) (v : TrV) (k q : Int) : Prop := match r with
  | none => q = 10 ∧ k = (k' : Int) ∧ v = (0, 0, none, 0, 0)
  | some t => if k' < W.length then q = 10 ∧ k = (k' : Int) ∧ v = (0, 0, none, 0, 0) else q = 0 ∧ k = 0 ∧ TreeR (fun b => w.heap.size ≤ b) w' v t
def PparP (w : World) (g : Gr) (xs : List Int) (e : Ending) (w' : World) : Prop :=
  ∃ (v : TrV) (k q : Int), e = .returned (.tuple #[trVal v, .int .i64 k, .int .i64 q]) ∧ Below w.heap.size w w' ∧
    (chkW g.terms 2000 xs ≠ 0 → q = chkW g.terms 2000 xs ∧ k = 0 ∧ v = (0, 0, none, 0, 0)) ∧
    (chkW g.terms 2000 xs = 0 → clN g g.nons ≠ [] → q = 8 ∧ k = 0 ∧ v = (0, 0, none, 0, 0)) ∧
    (chkW g.terms 2000 xs = 0 → clN g g.nons = [] → ∃ (W : List Nat) (d : Nat) (r : Option Tr) (k' : Nat), xs = ints W ∧ (∀ x ∈ W, x < g.terms) ∧ W.length ≤ 2000 ∧ prs g W d (false, g.start) 0 = some (r, k') ∧ k' ≤ W.length ∧ ParR w W w' r k' v k q)
set_option maxRecDepth 100000 in
set_option maxHeartbeats 4000000 in
theorem ppar_c (ok : Nat → Prop) (g : Gr) (Ag : Option Addr) (ng cg : Nat) (wA : Option Addr) (wn wcp : Nat) (xs : List Int) (w : World) (hg : GrOk g) (hl : Sl RuE ok w Ag ng cg g.rules) (hxs : Ints w wA wn wcp xs) :
    Calls Try.prog 6 #[grVal g Ag ng cg, .slice wA wn wcp] w (PparP w g xs) := by
  have BG := (((Blk.new w 24 #[.int .i64 (g.terms : Int), .int .i64 (g.nons : Int), .int .i64 (g.start : Int), .slice Ag ng cg]).al (.cells #[.int .i64 0, .int .i64 0, .slice none 0 0] 37)).al (.cells #[.int .i64 0] 3)).al (.cells #[.int .i64 0] 32)
  have B4 := ((Blk.newAt (w.alloc (.cells #[.int .i64 (g.terms : Int), .int .i64 (g.nons : Int), .int .i64 (g.start : Int), .slice Ag ng cg] 24)) 37 #[.int .i64 0, .int .i64 0, .slice none 0 0] (w.heap.size + 1) (by simp)).al (.cells #[.int .i64 0] 3)).al (.cells #[.int .i64 0] 32)
  have B5 := (Blk.newAt ((w.alloc (.cells #[.int .i64 (g.terms : Int), .int .i64 (g.nons : Int), .int .i64 (g.start : Int), .slice Ag ng cg] 24)).alloc (.cells #[.int .i64 0, .int .i64 0, .slice none 0 0] 37)) 3 #[.int .i64 0] (w.heap.size + 1 + 1) (by simp)).al (.cells #[.int .i64 0] 32)
  have B6 := Blk.newAt (((w.alloc (.cells #[.int .i64 (g.terms : Int), .int .i64 (g.nons : Int), .int .i64 (g.start : Int), .slice Ag ng cg] 24)).alloc (.cells #[.int .i64 0, .int .i64 0, .slice none 0 0] 37)).alloc (.cells #[.int .i64 0] 3)) 32 #[.int .i64 0] (w.heap.size + 1 + 1 + 1) (by simp)
  have HB := Lib.hid (((((Below.refl w.heap.size w).al (.cells #[.int .i64 (g.terms : Int), .int .i64 (g.nons : Int), .int .i64 (g.start : Int), .slice Ag ng cg] 24)).al (.cells #[.int .i64 0, .int .i64 0, .slice none 0 0] 37)).al (.cells #[.int .i64 0] 3)).al (.cells #[.int .i64 0] 32))
  have HL := Lib.hid hl
  have HX := Lib.hid hxs
  have HG := Lib.hid hg
  have hmf : ∀ (fn : Fn) (first cap : Array Value) (w : World), (Instr.makeFunc fn first cap).run Try.prog w = .ok (.func fn first cap) w := fun _ _ _ _ => rfl
  clear hl hg hxs
  simp only [grVal]
  go_enter_defers Try.func6, Try.ntmps6
  have cBG := BG.cell
  have fBG := BG.frozen
  have lBG := BG.lt
  go_wp2_with fail
  clear cBG fBG lBG
  have HBG := Lib.hid BG
  have HB4 := Lib.hid B4
  have HB5 := Lib.hid B5
  have HB6 := Lib.hid B6
  clear B4 B5 B6 BG
  have HZ0 := Lib.hid (show ((((w.alloc (.cells #[.int .i64 (g.terms : Int), .int .i64 (g.nons : Int), .int .i64 (g.start : Int), .slice Ag ng cg] 24)).alloc (.cells #[.int .i64 0, .int .i64 0, .slice none 0 0] 37)).alloc (.cells #[.int .i64 0] 3)).alloc (.cells #[.int .i64 0] 32)).heap.size = w.heap.size + 4 by simp)
  generalize (((w.alloc (.cells #[.int .i64 (g.terms : Int), .int .i64 (g.nons : Int), .int .i64 (g.start : Int), .slice Ag ng cg] 24)).alloc (.cells #[.int .i64 0, .int .i64 0, .slice none 0 0] 37)).alloc (.cells #[.int .i64 0] 3)).alloc (.cells #[.int .i64 0] 32) = W0 at *
  refine (pof_c ok g Ag ng cg W0 HG.out (HL.out.via HB.out)).mono ?_
  rintro e w1 ⟨I, base, v1, v2, C, rfl, hbase, hI, ho1, ho2, hcl, -, hb⟩
  obtain ⟨tA, tc, rfl, -⟩ := ho1.form
  obtain ⟨vA, vc, rfl, -⟩ := ho2.form
  have htl : (tabT g g.nons).length = g.nons := by simp [tabT]
  rw [htl] at ho1
  simp only [htl]
  have HB1 := Lib.hid (HB.out.via hb)
  have HBA := Lib.hid hbase
  have HI := Lib.hid hI
  clear hbase hI
  have HO1 := Lib.hid ho1
  have HCL := Lib.hid hcl
  have BG := HBG.out.via hb
  have B4 := HB4.out.via hb
  have B5 := HB5.out.via hb
  have B6 := HB6.out.via hb
  clear hb HB HBG HB4 HB5 HB6 ho1 ho2 htl hcl
  have cBG := BG.cell
  have fBG := BG.frozen
  have lBG := BG.lt
  have cB4 := B4.cell
  have fB4 := B4.frozen
  have lB4 := B4.lt
  have cB5 := B5.cell
  have fB5 := B5.frozen
  have lB5 := B5.lt
  have cB6 := B6.cell
  have fB6 := B6.frozen
  have lB6 := B6.lt
  go_upto_region 4 with fail
  clear cBG fBG lBG cB4 fB4 lB4 cB5 fB5 lB5 cB6 fB6 lB6
  have HGW := Lib.hid ((BG.far (p := ⟨w.heap.size + 1 + 1 + 1, 0, none⟩) (by simp <;> omega) (.int .i64 0)).al (.cells #[.slice tA g.nons tc, .slice vA C.length vc] 31))
  have H4W := Lib.hid ((B4.far (p := ⟨w.heap.size + 1 + 1 + 1, 0, none⟩) (by simp <;> omega) (.int .i64 0)).al (.cells #[.slice tA g.nons tc, .slice vA C.length vc] 31))
  have H5W := Lib.hid ((B5.far (p := ⟨w.heap.size + 1 + 1 + 1, 0, none⟩) (by simp <;> omega) (.int .i64 0)).al (.cells #[.slice tA g.nons tc, .slice vA C.length vc] 31))
  have H6W := Lib.hid ((B6.set_ 0 (.int .i64 0)).al (.cells #[.slice tA g.nons tc, .slice vA C.length vc] 31))
  have HTW := Lib.hid (Blk.newAt (w1.setCell ⟨w.heap.size + 1 + 1 + 1, 0, none⟩ (.int .i64 0)) 31 #[.slice tA g.nons tc, .slice vA C.length vc] w1.heap.size (by simp))
  have HBW := Lib.hid ((HB1.out.setCell (p := ⟨w.heap.size + 1 + 1 + 1, 0, none⟩) (by simp <;> omega) (.int .i64 0)).al (.cells #[.slice tA g.nons tc, .slice vA C.length vc] 31))
  have HOW := Lib.hid ((HO1.out.toSl (ok' := fun b => b ≠ w.heap.size + 1 + 1 + 1) (fun b _ hb => by have := HI.out b hb; have := HZ0.out; omega) (fun b hb => by have := HBA.out; have := HZ0.out; omega)).agr ((Agr.setCell (p := ⟨w.heap.size + 1 + 1 + 1, 0, none⟩) (.int .i64 0) fun b hb => hb).trans (Agr.below ((Below.refl _ _).al (.cells #[.slice tA g.nons tc, .slice vA C.length vc] 31)))))
  have hw1 : w.heap.size + 1 + 1 + 1 < w1.heap.size := B6.lt
  clear BG B4 B5 B6 HB1 HO1
  generalize (w1.setCell ⟨w.heap.size + 1 + 1 + 1, 0, none⟩ (.int .i64 0)).alloc (.cells #[.slice tA g.nons tc, .slice vA C.length vc] 31) = W1 at *
  generalize w1.heap.size = b7 at *
  have BG := HGW.out
  have cBG := BG.cell
  have fBG := BG.frozen
  have lBG := BG.lt
  go_wp2_with fail
  clear cBG fBG lBG
  clear BG
  refine (wordI_c (g.terms : Int) (g.nons : Int) (g.start : Int) (by have := HG.out.ok.terms; omega) Ag ng cg wA wn wcp 2000 xs W1 (HX.out.via HBW.out) (by omega)).mono ?_
  rintro e w2 ⟨rfl, hb⟩
  have HB2 := Lib.hid (HBW.out.trans (hb.mono HBW.out.size))
  have HG2 := Lib.hid (HGW.out.via hb)
  have H42 := Lib.hid (H4W.out.via hb)
  have H52 := Lib.hid (H5W.out.via hb)
  have H62 := Lib.hid (H6W.out.via hb)
  have HT2 := Lib.hid (HTW.out.via hb)
  have HO2 := Lib.hid (HOW.out.via hb)
  clear hb HGW H4W H5W H6W HTW HBW HOW
  obtain ⟨q, hq⟩ : ∃ q, q = chkW (g.terms : Int) 2000 xs := ⟨_, rfl⟩
  rw [← hq]
  have HQ := Lib.hid hq
  clear hq
  by_cases hq0 : q = 0
  · subst hq0
    have hq1 : ((0 : Int) != 0) = false := rfl
    obtain ⟨W, hxW, hW, hWl⟩ := chkW_ok HQ.out.symm
    have hlenW : wn = W.length := by rw [← HX.out.len, hxW]; simp [ints]
    subst hlenW
    subst hxW
    have BT := HT2.out
    cases hcl : clN g g.nons with
    | cons c0 cs =>
      have hC : 0 < C.length := by rw [HCL.out, hcl]; simp
      have c1 : (0 : Int) < (C.length : Int) := by omega
      have HC1 := Lib.hid hcl
      have B4 := H42.out
      have B5 := H52.out
      have B6 := H62.out
      clear hcl
      have cBT := BT.cell
      have fBT := BT.frozen
      have lBT := BT.lt
      have cB4 := B4.cell
      have fB4 := B4.frozen
      have lB4 := B4.lt
      have cB5 := B5.cell
      have fB5 := B5.frozen
      have lB5 := B5.lt
      have cB6 := B6.cell
      have fB6 := B6.frozen
      have lB6 := B6.lt
      go_wp2_with fail
      change Leaves _ _ _ _ _ _ _
      refine ppar_res (v := (0, 0, none, 0, 0)) (b4 := w.heap.size + 1) (b5 := w.heap.size + 1 + 1) (b6 := w.heap.size + 1 + 1 + 1) (k := 0) (q := 8) ?_ ?_ ?_ rfl rfl rfl ⟨_, _, _, rfl, ?_, fun h => absurd HQ.out.symm h, fun _ _ => ⟨rfl, rfl, rfl⟩, fun _ h => by rw [HC1.out] at h; cases h⟩
      · exact ((((B4.set_ 0 _).set_ 1 _).set_ 2 _).far (by simp <;> omega) _).far (by simp <;> omega) _
      · exact (((((B5.far (by simp <;> omega) _).far (by simp <;> omega) _).far (by simp <;> omega) _)).set_ 0 _).far (by simp <;> omega) _
      · exact ((((B6.far (by simp <;> omega) _).far (by simp <;> omega) _).far (by simp <;> omega) _).far (by simp <;> omega) _).set_ 0 _
      · exact ((((HB2.out.setCell (by simp <;> omega) _).setCell (by simp <;> omega) _).setCell (by simp <;> omega) _).setCell (by simp <;> omega) _).setCell (by simp <;> omega) _
    | nil =>
      have hC : C.length = 0 := by rw [HCL.out, hcl]; rfl
      have HC1 := Lib.hid hcl
      obtain ⟨d, r, k', hpr, hk'⟩ := prs_all HG.out.ok hcl hW
      have HPR := Lib.hid hpr
      have HW := Lib.hid hW
      rw [hC] at BT
      have BG := HG2.out
      clear hcl hpr hW
      have cBT := BT.cell
      have fBT := BT.frozen
      have lBT := BT.lt
      have cBG := BG.cell
      have fBG := BG.frozen
      have lBG := BG.lt
      go_upto_region 11 with fail
      clear cBT fBT lBT cBG fBG lBG
      have hal := ((Below.refl w2.heap.size w2).al (.cells (pzC g W Ag ng cg tA tc vA 0 vc wA wcp 0) 62)).al (.cells #[.pointer (some ⟨w2.heap.size, 0, none⟩)] 60)
      have HP3 := Lib.hid ((Blk.new w2 62 (pzC g W Ag ng cg tA tc vA 0 vc wA wcp 0)).al (.cells #[.pointer (some ⟨w2.heap.size, 0, none⟩)] 60))
      have BV := Blk.newAt (w2.alloc (.cells (pzC g W Ag ng cg tA tc vA 0 vc wA wcp 0) 62)) 60 #[.pointer (some ⟨w2.heap.size, 0, none⟩)] (w2.heap.size + 1) (by simp)
      have HZ3 := Lib.hid (show ((w2.alloc (.cells (pzC g W Ag ng cg tA tc vA 0 vc wA wcp 0) 62)).alloc (.cells #[.pointer (some ⟨w2.heap.size, 0, none⟩)] 60)).heap.size = w2.heap.size + 2 by simp)
      have HPZ := Lib.hid (show PzS ((w2.alloc (.cells (pzC g W Ag ng cg tA tc vA 0 vc wA wcp 0) 62)).alloc (.cells #[.pointer (some ⟨w2.heap.size, 0, none⟩)] 60)) w2.heap.size g W Ag ng cg tA tc wA wcp from
        ⟨((HL.out.via HB2.out).mono fun b hb _ => Nat.ne_of_lt hb).via hal, (HO2.out.mono fun b hb _ => Nat.ne_of_lt hb).via hal, ((HX.out.via HB2.out).slE.mono fun b hb _ => Nat.ne_of_lt hb).via hal⟩)
      have HAL := Lib.hid hal
      have BG3 := BG.via hal
      have B43 := Lib.hid (H42.out.via hal)
      have B53 := Lib.hid (H52.out.via hal)
      have B63 := Lib.hid (H62.out.via hal)
      have hb26 := H62.out.lt
      clear hal BG BT HG2 H42 H52 H62 HT2 HO2
      simp only [pzC] at HP3 BV HPZ HZ3 HAL BG3 B43 B53 B63
      generalize (w2.alloc (.cells #[.int .i64 (g.terms : Int), .int .i64 (g.nons : Int), .int .i64 (g.start : Int), .slice Ag ng cg, .slice tA g.nons tc, .slice vA 0 vc, .slice wA W.length wcp, .int .i64 0] 62)).alloc (.cells #[.pointer (some ⟨w2.heap.size, 0, none⟩)] 60) = W3 at *
      generalize w2.heap.size = bp at *
      have HPA := Lib.hid (show ∀ w', Below W3.heap.size W3 w' → Calls Try.prog 19 #[.pointer (some ⟨bp, 0, none⟩), .agg #[.bool false, .int .i64 (g.start : Int)]] w' (PzP w' bp (fun k => pzC g W Ag ng cg tA tc vA 0 vc wA wcp k) r k') from fun w' hb =>
        parse_n bp g W Ag ng cg tA tc vA 0 vc wA wcp HG.out HW.out hWl d w' (false, g.start) 0 r k' (by simpa [Gr.okSy] using HG.out.ok.start) (Nat.zero_le _) HPR.out (HPZ.out.agr (Agr.below hb)) (HP3.out.via hb))
      have HN := Lib.hid (fun w' => pN_c g.start w')
      have h45 : w.heap.size + 1 ≠ w.heap.size + 1 + 1 := by omega
      have h46 : w.heap.size + 1 ≠ w.heap.size + 1 + 1 + 1 := by omega
      have h56 : w.heap.size + 1 + 1 ≠ w.heap.size + 1 + 1 + 1 := by omega
      have HS := Lib.hid (show ∀ w', Below W3.heap.size W3 w' → ((∀ i, w'.cell? ⟨bp + 1, i, none⟩ = #[.pointer (some ⟨bp, 0, none⟩)][i]?) ∧ (∀ i, w'.cell? ⟨w.heap.size, i, none⟩ = #[.int .i64 (g.terms : Int), .int .i64 (g.nons : Int), .int .i64 (g.start : Int), .slice Ag ng cg][i]?)) from fun w' hb => ⟨(BV.via hb).cell, (BG3.via hb).cell⟩)
      have HD3 := Lib.hid (Below.refl W3.heap.size W3).drew
      have hHeld := HS.out _ HD3.out
      go_cut [10] from 38 to 42 (fun s10 wx => ∃ (bt : Nat) (v : TrV) (t : Tr), r = some t ∧ s10 = .pointer (some ⟨bt, 0, none⟩) ∧ Blk wx bt 37 #[.int .i64 v.1, .int .i64 v.2.1, .slice v.2.2.1 v.2.2.2.1 v.2.2.2.2] ∧ TreeR (fun b => W3.heap.size ≤ b) wx v t ∧ Blk wx bp 62 (pzC g W Ag ng cg tA tc vA 0 vc wA wcp k') ∧ Agr (fun b => b ≠ bp) W3 wx ∧ W3.heap.size ≤ wx.heap.size ∧ Below bp W3 wx)
      case first =>
        rename_i J0 K0 hJ0 hK0
        refine Code.wp_mono (QwP.imp (D := [{ target := .fn (.func 18) #[.pointer (some ⟨bp + 1, 0, none⟩), .pointer (some ⟨w.heap.size + 1, 0, none⟩), .pointer (some ⟨w.heap.size + 1 + 1, 0, none⟩), .pointer (some ⟨w.heap.size + 1 + 1 + 1, 0, none⟩)], args := #[] }]) (p4 := .pointer (some ⟨w.heap.size + 1, 0, none⟩)) (p5 := .pointer (some ⟨w.heap.size + 1 + 1, 0, none⟩)) (p6 := .pointer (some ⟨w.heap.size + 1 + 1 + 1, 0, none⟩)) (Pw := fun c wx => c = rejV ∧ r = none ∧ Blk wx bp 62 (pzC g W Ag ng cg tA tc vA 0 vc wA wcp k') ∧ Agr (fun b => b ≠ bp) W3 wx ∧ W3.heap.size ≤ wx.heap.size ∧ Below bp W3 wx) ?_) ?_
        · rintro c ⟨tmps, ds⟩ wx rfl h4 h5 h6 ⟨rfl, rfl, hp, ha, hz, he⟩
          have hz3 := HZ3.out
          have hag : ∀ {b : Nat} {T : TypeId} {cs : Array Value}, Blk W3 b T cs → b ≠ bp → Blk wx b T cs := fun hB hne => (ha _ hne hB.lt).trans hB
          refine par_caught h45 h46 h56 (hag BV (by omega)) hp (by rfl) (hag B43.out (by omega)) (hag B53.out (by omega)) (hag B63.out (by omega)) h4 h5 h6 ⟨_, _, _, rfl, ?_, fun h => absurd HQ.out.symm h, fun _ h => absurd HC1.out h, fun _ _ => ⟨W, d, none, k', rfl, HW.out, hWl, HPR.out, hk', rfl, rfl, rfl⟩⟩
          have HBC := (HB2.out.trans (HAL.out.mono (show w.heap.size ≤ bp by omega))).trans (he.mono (show w.heap.size ≤ bp by omega))
          unfold caught
          exact (((((HBC.al _).setCell (by simp <;> omega) _).setCell (by simp <;> omega) _).setCell (by simp <;> omega) _).setCell (by simp <;> omega) _).setCell (by simp <;> omega) _
        · refine wp_region_L 6 (fun w' => (∀ i, w'.cell? ⟨bp + 1, i, none⟩ = #[.pointer (some ⟨bp, 0, none⟩)][i]?) ∧ (∀ i, w'.cell? ⟨w.heap.size, i, none⟩ = #[.int .i64 (g.terms : Int), .int .i64 (g.nons : Int), .int .i64 (g.start : Int), .slice Ag ng cg][i]?)) (by kernel_rfl) ?_
          refine wpAnyL.take (i := 0) (d := some 38) (v := ?_) rfl (by kernel_rfl) (by kernel_rfl) (by kernel_rfl) (by kernel_rfl) rfl (QwP.put (by omega) _) (Or.inl ⟨by rfl, ?_⟩) (by assumption) ?_
          rotate_left
          · intro w hSw; (try dsimp only at hSw); go_simp; try with_reducible rfl
          simp only [Act.put, List.setIfInBounds_toArray, List.set_cons_zero, List.set_cons_succ]
          refine wpAnyL.take (i := 1) (d := some 39) (v := ?_) rfl (by kernel_rfl) (by kernel_rfl) (by kernel_rfl) (by kernel_rfl) rfl (QwP.put (by omega) _) (Or.inl ⟨by rfl, ?_⟩) (by assumption) ?_
          rotate_left
          · intro w hSw; (try dsimp only at hSw); go_simp; try with_reducible rfl
          simp only [Act.put, List.setIfInBounds_toArray, List.set_cons_zero, List.set_cons_succ]
          refine wpAnyL.take (i := 2) (d := some 40) (v := ?_) rfl (by kernel_rfl) (by kernel_rfl) (by kernel_rfl) (by kernel_rfl) rfl (QwP.put (by omega) _) (Or.inl ⟨by rfl, ?_⟩) (by assumption) ?_
          rotate_left
          · intro w hSw; (try dsimp only at hSw); go_simp; try with_reducible rfl
          simp only [Act.put, List.setIfInBounds_toArray, List.set_cons_zero, List.set_cons_succ]
          generalize W3.drew = WD at *
          refine wpAnyL.ready (rs := [3, 5]) (by kernel_rfl) (by simp) ?_
          refine AllL.cons rfl (fun K hK => ?_) (AllL.cons rfl (fun K hK => ?_) AllL.nil)
          · skip
            go_simp
            go_at_call 20
            refine (HN.out WD).mono ?_
            rintro e1 wn ⟨rfl, hbn⟩
            have HBN := Lib.hid (HD3.out.via hbn)
            have hzn := hbn.size
            have HBW := Lib.hid hbn
            clear hbn
            go_wp2_with fail
            refine hK.out _ _ (fun _ => HS.out wn HBN.out) ?_
            clear hK K
            try simp only [Act.put, List.setIfInBounds_toArray, List.set_cons_zero, List.set_cons_succ]
            refine wpAnyL.ready (rs := [4, 5]) (by kernel_rfl) (by simp) ?_
            refine AllL.cons rfl (fun K hK => ?_) (AllL.cons rfl (fun K hK => ?_) AllL.nil)
            · skip
              go_simp
              go_at_call 19
              refine (HPA.out wn HBN.out).mono ?_
              cases r with
              | none =>
                rintro e2 wp ⟨hp6, ha6, hz6, he6, rfl⟩
                dsimp only
                exact ⟨rfl, rfl, rfl, rfl, rfl, rfl, hp6, (Agr.below HBN.out).trans ha6, Nat.le_trans HBN.out.size hz6, (HBN.out.mono (by have := HZ3.out; omega)).trans he6⟩
              | some t =>
              rintro e2 wp ⟨hp6, ha6, hz6, he6, ⟨va, vb, vA2, vn2, vc2⟩, rfl, hT6⟩
              have hbpz := HZ3.out
              have hzx := HBN.out.size
              have HVp := Lib.hid (show Blk wp (bp + 1) 60 #[.pointer (some ⟨bp, 0, none⟩)] from (ha6 _ (by omega) (BV.via HBN.out).lt).trans (BV.via HBN.out))
              have HGp := Lib.hid (show Blk wp w.heap.size 24 #[.int .i64 (g.terms : Int), .int .i64 (g.nons : Int), .int .i64 (g.start : Int), .slice Ag ng cg] from (ha6 _ (by omega) (BG3.via HBN.out).lt).trans (BG3.via HBN.out))
              have HAP := Lib.hid ((Agr.below (ok := fun b => b ≠ bp) HBN.out).trans ha6)
              have HPP := Lib.hid hp6
              have HEP := Lib.hid ((HBN.out.mono (by omega)).trans he6)
              have HTP := Lib.hid (hT6.mono (ok' := fun b => W3.heap.size ≤ b) fun b _ hb => Nat.le_trans hzx hb)
              have hzp : W3.heap.size ≤ wp.heap.size := Nat.le_trans hzx hz6
              dsimp only [trVal]
              go_wp2_with fail
              refine hK.out _ _ (fun _ => ⟨HVp.out.cell, HGp.out.cell⟩) ?_
              clear hK K
              try simp only [Act.put, List.setIfInBounds_toArray, List.set_cons_zero, List.set_cons_succ]
              refine wpAnyL.ready (rs := [5]) (by kernel_rfl) (by simp) ?_
              refine AllL.cons rfl (fun K hK => ?_) AllL.nil
              go_simp
              have hal := (Below.refl wp.heap.size wp).al (.cells #[.int .i64 0, .int .i64 0, .slice none 0 0] 37)
              refine hK.out _ _ (fun _ => ⟨(HVp.out.via hal).cell, (HGp.out.via hal).cell⟩) ?_
              clear hK K
              try simp only [Act.put, List.setIfInBounds_toArray, List.set_cons_zero, List.set_cons_succ]
              refine wpAnyL.ready (rs := [6]) (by kernel_rfl) (by simp) ?_
              refine AllL.cons rfl (fun K hK => ?_) AllL.nil
              have BN := Blk.new wp 37 #[.int .i64 0, .int .i64 0, .slice none 0 0]
              have cBN := BN.cell
              have fBN := BN.frozen
              go_simp
              refine hK.out _ _ (fun h => absurd rfl h) ?_
              clear hK K
              refine wpAnyL.done (by kernel_rfl) ?_ _
              clear cBN fBN
              change K0 _ _
              refine hK0 _ _ (Met.intro (hJ0 _ _ ?_))
              (repeat apply Exists.intro)
              refine ⟨?_, rfl⟩
              exact ⟨_, (va, vb, vA2, vn2, vc2), t, rfl, rfl, Blk.new _ _ _, HTP.out.al _, HPP.out.al _, HAP.out.trans (Agr.below ((Below.refl wp.heap.size wp).al _)), by simp; omega, HEP.out.trans (((Below.refl wp.heap.size wp).al _).mono (by omega))⟩

              skip
            · go_simp
              have hal := (Below.refl wn.heap.size wn).al (.cells #[.int .i64 0, .int .i64 0, .slice none 0 0] 37)
              have HBA2 := Lib.hid (HBN.out.via hal)
              have BN := Blk.new wn 37 #[.int .i64 0, .int .i64 0, .slice none 0 0]
              refine hK.out _ _ (fun _ => HS.out _ HBA2.out) ?_
              clear hK K
              try simp only [Act.put, List.setIfInBounds_toArray, List.set_cons_zero, List.set_cons_succ]
              have hwas : (wn.alloc (.cells #[.int .i64 0, .int .i64 0, .slice none 0 0] 37)).heap.size = wn.heap.size + 1 := by simp
              generalize wn.alloc (.cells #[.int .i64 0, .int .i64 0, .slice none 0 0] 37) = wa at *
              refine wpAnyL.ready (rs := [4]) (by kernel_rfl) (by simp) ?_
              refine AllL.cons rfl (fun K hK => ?_) AllL.nil
              go_simp
              go_at_call 19
              refine (HPA.out wa HBA2.out).mono ?_
              cases r with
              | none =>
                rintro e2 wp ⟨hp6, ha6, hz6, he6, rfl⟩
                dsimp only
                exact ⟨rfl, rfl, rfl, rfl, rfl, rfl, hp6, (Agr.below HBA2.out).trans ha6, Nat.le_trans HBA2.out.size hz6, (HBA2.out.mono (by have := HZ3.out; omega)).trans he6⟩
              | some t =>
              rintro e2 wp ⟨hp6, ha6, hz6, he6, ⟨va, vb, vA2, vn2, vc2⟩, rfl, hT6⟩
              have hbpz := HZ3.out
              have hzx := HBA2.out.size
              have HVp := Lib.hid (show Blk wp (bp + 1) 60 #[.pointer (some ⟨bp, 0, none⟩)] from (ha6 _ (by omega) (BV.via HBA2.out).lt).trans (BV.via HBA2.out))
              have HGp := Lib.hid (show Blk wp w.heap.size 24 #[.int .i64 (g.terms : Int), .int .i64 (g.nons : Int), .int .i64 (g.start : Int), .slice Ag ng cg] from (ha6 _ (by omega) (BG3.via HBA2.out).lt).trans (BG3.via HBA2.out))
              have HAP := Lib.hid ((Agr.below (ok := fun b => b ≠ bp) HBA2.out).trans ha6)
              have HPP := Lib.hid hp6
              have HEP := Lib.hid ((HBA2.out.mono (by omega)).trans he6)
              have HTP := Lib.hid (hT6.mono (ok' := fun b => W3.heap.size ≤ b) fun b _ hb => Nat.le_trans hzx hb)
              have hzp : W3.heap.size ≤ wp.heap.size := Nat.le_trans hzx hz6
              dsimp only [trVal]
              go_wp2_with fail
              refine hK.out _ _ (fun _ => ⟨HVp.out.cell, HGp.out.cell⟩) ?_
              clear hK K
              try simp only [Act.put, List.setIfInBounds_toArray, List.set_cons_zero, List.set_cons_succ]
              refine wpAnyL.ready (rs := [6]) (by kernel_rfl) (by simp) ?_
              refine AllL.cons rfl (fun K hK => ?_) AllL.nil
              have hz1 := HBN.out.size
              have BN2 : Blk wp wn.heap.size 37 #[.int .i64 0, .int .i64 0, .slice none 0 0] := (ha6 _ (by omega) BN.lt).trans BN
              have cBN := BN2.cell
              have fBN := BN2.frozen
              go_simp
              refine hK.out _ _ (fun h => absurd rfl h) ?_
              clear hK K
              refine wpAnyL.done (by kernel_rfl) ?_ _
              clear cBN fBN
              change K0 _ _
              refine hK0 _ _ (Met.intro (hJ0 _ _ ?_))
              (repeat apply Exists.intro)
              refine ⟨?_, rfl⟩
              exact ⟨wn.heap.size, (va, vb, vA2, vn2, vc2), t, rfl, rfl, by simpa using ((BN2.set_ 0 (.int .i64 va)).set_ 1 (.int .i64 vb)).set_ 2 (.slice vA2 vn2 vc2), (hT6.set3 (fun b hb => by omega) _ _ _).mono (fun b _ hb => by omega), ((HPP.out.far (by simp; omega) _).far (by simp; omega) _).far (by simp; omega) _, ((HAP.out.setNew (by simp; omega) _).setNew (by simp; omega) _).setNew (by simp; omega) _, by simp; omega, ((HEP.out.setCell (by simp; omega) _).setCell (by simp; omega) _).setCell (by simp; omega) _⟩

              skip
          · go_simp
            have hal := (Below.refl WD.heap.size WD).al (.cells #[.int .i64 0, .int .i64 0, .slice none 0 0] 37)
            have HBA1 := Lib.hid (HD3.out.via hal)
            have BN := Blk.new WD 37 #[.int .i64 0, .int .i64 0, .slice none 0 0]
            refine hK.out _ _ (fun _ => HS.out _ HBA1.out) ?_
            clear hK K
            try simp only [Act.put, List.setIfInBounds_toArray, List.set_cons_zero, List.set_cons_succ]
            have hwas : (WD.alloc (.cells #[.int .i64 0, .int .i64 0, .slice none 0 0] 37)).heap.size = WD.heap.size + 1 := by simp
            generalize WD.alloc (.cells #[.int .i64 0, .int .i64 0, .slice none 0 0] 37) = wa at *
            refine wpAnyL.ready (rs := [3]) (by kernel_rfl) (by simp) ?_
            refine AllL.cons rfl (fun K hK => ?_) AllL.nil
            go_simp
            go_at_call 20
            refine (HN.out wa).mono ?_
            rintro e1 wn ⟨rfl, hbn⟩
            have HBN := Lib.hid (HBA1.out.via hbn)
            have hzn := hbn.size
            have HBW := Lib.hid hbn
            clear hbn
            go_wp2_with fail
            refine hK.out _ _ (fun _ => HS.out wn HBN.out) ?_
            clear hK K
            try simp only [Act.put, List.setIfInBounds_toArray, List.set_cons_zero, List.set_cons_succ]
            refine wpAnyL.ready (rs := [4]) (by kernel_rfl) (by simp) ?_
            refine AllL.cons rfl (fun K hK => ?_) AllL.nil
            go_simp
            go_at_call 19
            refine (HPA.out wn HBN.out).mono ?_
            cases r with
            | none =>
              rintro e2 wp ⟨hp6, ha6, hz6, he6, rfl⟩
              dsimp only
              exact ⟨rfl, rfl, rfl, rfl, rfl, rfl, hp6, (Agr.below HBN.out).trans ha6, Nat.le_trans HBN.out.size hz6, (HBN.out.mono (by have := HZ3.out; omega)).trans he6⟩
            | some t =>
            rintro e2 wp ⟨hp6, ha6, hz6, he6, ⟨va, vb, vA2, vn2, vc2⟩, rfl, hT6⟩
            have hbpz := HZ3.out
            have hzx := HBN.out.size
            have HVp := Lib.hid (show Blk wp (bp + 1) 60 #[.pointer (some ⟨bp, 0, none⟩)] from (ha6 _ (by omega) (BV.via HBN.out).lt).trans (BV.via HBN.out))
            have HGp := Lib.hid (show Blk wp w.heap.size 24 #[.int .i64 (g.terms : Int), .int .i64 (g.nons : Int), .int .i64 (g.start : Int), .slice Ag ng cg] from (ha6 _ (by omega) (BG3.via HBN.out).lt).trans (BG3.via HBN.out))
            have HAP := Lib.hid ((Agr.below (ok := fun b => b ≠ bp) HBN.out).trans ha6)
            have HPP := Lib.hid hp6
            have HEP := Lib.hid ((HBN.out.mono (by omega)).trans he6)
            have HTP := Lib.hid (hT6.mono (ok' := fun b => W3.heap.size ≤ b) fun b _ hb => Nat.le_trans hzx hb)
            have hzp : W3.heap.size ≤ wp.heap.size := Nat.le_trans hzx hz6
            dsimp only [trVal]
            go_wp2_with fail
            refine hK.out _ _ (fun _ => ⟨HVp.out.cell, HGp.out.cell⟩) ?_
            clear hK K
            try simp only [Act.put, List.setIfInBounds_toArray, List.set_cons_zero, List.set_cons_succ]
            refine wpAnyL.ready (rs := [6]) (by kernel_rfl) (by simp) ?_
            refine AllL.cons rfl (fun K hK => ?_) AllL.nil
            have hz1 := HD3.out.size
            have BN3 := BN.via HBW.out
            have BN2 : Blk wp WD.heap.size 37 #[.int .i64 0, .int .i64 0, .slice none 0 0] := (ha6 _ (by omega) BN3.lt).trans BN3
            have cBN := BN2.cell
            have fBN := BN2.frozen
            go_simp
            refine hK.out _ _ (fun h => absurd rfl h) ?_
            clear hK K
            refine wpAnyL.done (by kernel_rfl) ?_ _
            clear cBN fBN
            change K0 _ _
            refine hK0 _ _ (Met.intro (hJ0 _ _ ?_))
            (repeat apply Exists.intro)
            refine ⟨?_, rfl⟩
            exact ⟨WD.heap.size, (va, vb, vA2, vn2, vc2), t, rfl, rfl, by simpa using ((BN2.set_ 0 (.int .i64 va)).set_ 1 (.int .i64 vb)).set_ 2 (.slice vA2 vn2 vc2), (hT6.set3 (fun b hb => by omega) _ _ _).mono (fun b _ hb => by omega), ((HPP.out.far (by simp; omega) _).far (by simp; omega) _).far (by simp; omega) _, ((HAP.out.setNew (by simp; omega) _).setNew (by simp; omega) _).setNew (by simp; omega) _, by simp; omega, ((HEP.out.setCell (by simp; omega) _).setCell (by simp; omega) _).setCell (by simp; omega) _⟩
      case rest =>
        obtain ⟨bt, v, t, rfl, rfl, BTr, hT, hp, ha, hz, he⟩ := hcut
        have hag : ∀ {b : Nat} {T : TypeId} {cs : Array Value}, Blk W3 b T cs → b ≠ bp → Blk wc b T cs := fun hB hne => (ha _ hne hB.lt).trans hB
        have hz3 := HZ3.out
        have hBV := hag BV (by omega)
        have H4C := Lib.hid (hag B43.out (by omega))
        have H5C := Lib.hid (hag B53.out (by omega))
        have H6C := Lib.hid (show Blk wc (w.heap.size + 1 + 1 + 1) 32 #[.int .i64 0] from by simpa using hag B63.out (by omega))
        have HBC := Lib.hid ((HB2.out.trans (HAL.out.mono (by omega))).trans (he.mono (by omega)))
        have HTC := Lib.hid hT
        have HPC := Lib.hid hp
        clear hag hT ha he HS HD3 hHeld HPA HN
        have hpc := hp
        simp only [pzC] at hpc
        clear hp
        by_cases hkl : k' < W.length
        · have e1 : (k' : Int) < (W.length : Int) := by omega
          have HKL := Lib.hid hkl
          have chBV := hBV.cell
          have fhBV := hBV.frozen
          have lhBV := hBV.lt
          have chpc := hpc.cell
          have fhpc := hpc.frozen
          have lhpc := hpc.lt
          go_wp2_with fail
          change Leaves _ _ _ _ _ _ _
          refine par_caught h45 h46 h56 hBV HPC.out (by rfl) H4C.out H5C.out H6C.out rfl rfl rfl ⟨_, _, _, rfl, ?_, fun h => absurd HQ.out.symm h, fun _ h => absurd HC1.out h, fun _ _ => ⟨W, d, some t, k', rfl, HW.out, hWl, HPR.out, hk', ?_⟩⟩
          · unfold caught
            exact (((((HBC.out.al _).setCell (by simp <;> omega) _).setCell (by simp <;> omega) _).setCell (by simp <;> omega) _).setCell (by simp <;> omega) _).setCell (by simp <;> omega) _
          · unfold ParR
            simp only [HKL.out, if_true]
            exact ⟨trivial, trivial, trivial⟩
        · have e1 : ¬ (k' : Int) < (W.length : Int) := by omega
          have HKL := Lib.hid hkl
          have BTc := BTr
          have B4 := H4C.out
          have B5 := H5C.out
          have B6 := H6C.out
          have chBV := hBV.cell
          have fhBV := hBV.frozen
          have lhBV := hBV.lt
          have chpc := hpc.cell
          have fhpc := hpc.frozen
          have lhpc := hpc.lt
          have cBTc := BTc.cell
          have fBTc := BTc.frozen
          have lBTc := BTc.lt
          have cB4 := B4.cell
          have fB4 := B4.frozen
          have lB4 := B4.lt
          have cB5 := B5.cell
          have fB5 := B5.frozen
          have lB5 := B5.lt
          have cB6 := B6.cell
          have fB6 := B6.frozen
          have lB6 := B6.lt
          go_wp2_with fail
          change Leaves _ _ _ _ _ _ _
          refine par_idle (v := v) (b4 := w.heap.size + 1) (b5 := w.heap.size + 1 + 1) (b6 := w.heap.size + 1 + 1 + 1) (k := 0) (q := 0) ?_ ?_ ?_ rfl rfl rfl ⟨_, _, _, rfl, ?_, fun h => absurd HQ.out.symm h, fun _ h => absurd HC1.out h, fun _ _ => ⟨W, d, some t, k', rfl, HW.out, hWl, HPR.out, hk', ?_⟩⟩
          · exact ((((B4.set_ 0 _).set_ 1 _).set_ 2 _).far (by simp <;> omega) _).far (by simp <;> omega) _
          · exact (((((B5.far (by simp <;> omega) _).far (by simp <;> omega) _).far (by simp <;> omega) _)).set_ 0 _).far (by simp <;> omega) _
          · exact ((((B6.far (by simp <;> omega) _).far (by simp <;> omega) _).far (by simp <;> omega) _).far (by simp <;> omega) _).set_ 0 _
          · exact ((((((HBC.out.setCell (by simp <;> omega) _).setCell (by simp <;> omega) _).setCell (by simp <;> omega) _).setCell (by simp <;> omega) _).setCell (by simp <;> omega) _).al _)
          · unfold ParR
            simp only [HKL.out, if_false]
            refine ⟨trivial, trivial, ?_⟩
            have hst : ∀ {wy : World} (p : Addr) (u : Value), TreeR (fun b => W3.heap.size ≤ b) wy v t → p.block < W3.heap.size → TreeR (fun b => W3.heap.size ≤ b) (wy.setCell p u) v t := fun p u h hp => h.agr (Agr.setCell u fun b hb => by omega)
            refine ((hst _ _ (hst _ _ (hst _ _ (hst _ _ (hst _ _ HTC.out ?_) ?_) ?_) ?_) ?_).al _).mono (fun b _ hb => by omega)
            all_goals (simp <;> omega)
  · have hq1 : (q != 0) = true := by simpa using hq0
    have B4 := H42.out
    have B5 := H52.out
    have B6 := H62.out
    have cB4 := B4.cell
    have fB4 := B4.frozen
    have lB4 := B4.lt
    have cB5 := B5.cell
    have fB5 := B5.frozen
    have lB5 := B5.lt
    have cB6 := B6.cell
    have fB6 := B6.frozen
    have lB6 := B6.lt
    go_wp2_with fail
    change Leaves _ _ _ _ _ _ _
    have HQ0 := Lib.hid hq0
    refine ppar_res (v := (0, 0, none, 0, 0)) (b4 := w.heap.size + 1) (b5 := w.heap.size + 1 + 1) (b6 := w.heap.size + 1 + 1 + 1) (k := 0) (q := q) ?_ ?_ ?_ rfl rfl rfl ⟨_, _, _, rfl, ?_, fun _ => ⟨HQ.out, rfl, rfl⟩, fun h => absurd (HQ.out.trans h) HQ0.out, fun h => absurd (HQ.out.trans h) HQ0.out⟩
    · exact ((((B4.set_ 0 _).set_ 1 _).set_ 2 _).far (by simp <;> omega) _).far (by simp <;> omega) _
    · exact (((((B5.far (by simp <;> omega) _).far (by simp <;> omega) _).far (by simp <;> omega) _)).set_ 0 _).far (by simp <;> omega) _
    · exact ((((B6.far (by simp <;> omega) _).far (by simp <;> omega) _).far (by simp <;> omega) _).far (by simp <;> omega) _).set_ 0 _
    · exact ((((HB2.out.setCell (by simp <;> omega) _).setCell (by simp <;> omega) _).setCell (by simp <;> omega) _).setCell (by simp <;> omega) _).setCell (by simp <;> omega) _
end Go.Proofs.Ythkldiehokblcaa

