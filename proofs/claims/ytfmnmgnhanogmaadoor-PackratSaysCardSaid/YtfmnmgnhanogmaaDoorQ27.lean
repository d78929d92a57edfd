/- Texts OQ, laid together. -/
import Derived.Test.YtfmnmgnhanogmaaDoorQ22
import Derived.Test.YtfmnmgnhanogmaaDoorQ26



namespace Go.Proofs.YtfmnmgnhanogmaaDoor
open Go.RowKit

/-- what a call of Peg leaves: s is the count of steps ahead of it -/
def PegP (w : World) (bs : Nat) (R : List Ru) (W : List Nat) (m : Nat) (s : Int) (y : Sy) (k : Nat) (e : Ending) (w' : World) : Prop :=
  ∃ (v : TrV) (t : Tr) (en : Int) (okb : Bool) (s' : Int), e = .returned (.tuple #[trVal v, .int .i64 en, .bool okb]) ∧ TreeR (fun b => w.heap.size ≤ b) w' v t ∧ Blk w' bs 3 #[.int .i64 s'] ∧ s' ≤ s - 1 ∧ min s 0 - 1 - 32 * (m : Int) ≤ s' ∧ (s ≤ 0 → okb = false ∧ s' = s - 1) ∧ -100000 ≤ en ∧ en ≤ 100000 ∧
    (okb = true → ∃ e : Nat, en = (e : Int) ∧ e ≤ W.length ∧ (0 ≤ s' → ∃ d, pg R W d y k = some (some (t, e)))) ∧ (okb = false → 0 ≤ s' → ∃ d, pg R W d y k = some none) ∧ w.grownBy w' (some bs)
theorem pgL_up {R : List Ru} {W : List Nat} {d d' : Nat} (h : d ≤ d') {l : List Sy} {k : Nat} {r : Option (List Tr × Nat)} (e : pgL (pg R W d) l k = some r) : pgL (pg R W d') l k = some r := pgL_mono (pg_mono h) l k r e
/-- between the rounds of Peg's loop over the rules -/
structure PgB (W2 : World) (bs b5 b7 b10 : Nat) (gv : Array Value) (yn : Nat) (s : Int) (wr : World) : Prop where
  h5 : Blk wr b5 24 gv
  h7 : Blk wr b7 54 #[.bool false, .int .i64 (yn : Int)]
  h10 : Blk wr b10 34 #[.int .i64 0, .int .i64 0, .slice none 0 0]
  hs : Blk wr bs 3 #[.int .i64 s]
  gr : W2.grownBy wr (some bs)
  ne : bs < b5 ∧ b5 < b7 ∧ b7 < b10 ∧ b10 < W2.heap.size
/-- between the rounds of its loop over a rule's symbols -/
structure PgK (W2 : World) (bs b5 b7 b10 : Nat) (gv : Array Value) (yn : Nat) (s : Int) (i bt j : Nat) (v : Value) (ts : List Tr) (wr : World) : Prop where
  B : PgB W2 bs b5 b7 b10 gv yn s wr
  own : Own TrE 34 (fun b => bt + 1 ≤ b) wr (bt + 1) v j ts
  t : Blk wr bt 34 #[.int .i64 (i : Int), .int .i64 0, v]
  lo : W2.heap.size ≤ bt
  size : bt + 1 ≤ wr.heap.size
section
variable {W2 wr wa : World} {bs b5 b7 b10 : Nat} {gv : Array Value} {yn : Nat} {s s' : Int} {i bt j : Nat} {v v' : Value} {ts : List Tr}
theorem PgB.via (h : PgB W2 bs b5 b7 b10 gv yn s wr) (hb : Below wr.heap.size wr wa) : PgB W2 bs b5 b7 b10 gv yn s wa := ⟨h.h5.via hb, h.h7.via hb, h.h10.via hb, h.hs.via hb, h.gr.trans (grownOf hb _), h.ne⟩
theorem PgB.call (h : PgB W2 bs b5 b7 b10 gv yn s wr) (hs : Blk wa bs 3 #[.int .i64 s']) (hg : wr.grownBy wa (some bs)) : PgB W2 bs b5 b7 b10 gv yn s' wa := by
  have hne := h.ne
  have ne : ∀ b, bs < b → some b ≠ some bs := fun b hb e => by have := Option.some.inj e; omega
  exact ⟨h.h5.grown hg (ne _ (by omega)), h.h7.grown hg (ne _ (by omega)), h.h10.grown hg (ne _ (by omega)), hs, h.gr.trans hg, h.ne⟩
theorem PgB.more {row : Option Nat} (h : PgB W2 bs b5 b7 b10 gv yn s wr) (hg : wr.grownBy wa row) (hr : ∀ x, row = some x → W2.heap.size ≤ x) : PgB W2 bs b5 b7 b10 gv yn s wa := by
  have hne := h.ne
  exact ⟨h.h5.grown hg (fun e => by have := hr _ e.symm; omega), h.h7.grown hg (fun e => by have := hr _ e.symm; omega), h.h10.grown hg (fun e => by have := hr _ e.symm; omega), h.hs.grown hg (fun e => by have := hr _ e.symm; omega), grown_far h.gr hg hr, h.ne⟩
theorem PgK.call (h : PgK W2 bs b5 b7 b10 gv yn s i bt j v ts wr) (hs : Blk wa bs 3 #[.int .i64 s']) (hg : wr.grownBy wa (some bs)) : PgK W2 bs b5 b7 b10 gv yn s' i bt j v ts wa := by
  have hne := h.B.ne
  have hlo := h.lo
  have hsz := h.size
  refine ⟨h.B.call hs hg, h.own.agr (Agr.grown hg fun b hb e => ?_), h.t.grown hg (fun e => by have := Option.some.inj e; omega), h.lo, Nat.le_trans h.size hg.size⟩
  have e' := Option.some.inj e
  rcases hb with hb | hb
  · have hb' : bt + 1 ≤ b := hb
    omega
  · have := (h.own.lt b hb.symm).1; omega
theorem PgK.via (h : PgK W2 bs b5 b7 b10 gv yn s i bt j v ts wr) (hb : Below wr.heap.size wr wa) : PgK W2 bs b5 b7 b10 gv yn s i bt j v ts wa := h.call (h.B.hs.via hb) (grownOf hb _)
theorem PgK.push {t : Tr} (h : PgK W2 bs b5 b7 b10 gv yn s i bt j v ts wr) (ho : Own TrE 34 (fun b => bt + 1 ≤ b) wa (bt + 1) v' (j + 1) (ts ++ [t])) (hg : wr.grownBy wa v.ownBlock) : PgK W2 bs b5 b7 b10 gv yn s i bt (j + 1) v' (ts ++ [t]) (wa.setCell ⟨bt, 2, none⟩ v') := by
  have hlo := h.lo
  have hsz := h.size
  have hz := hg.size
  have hv : ∀ b, v.ownBlock = some b → bt + 1 ≤ b := fun b e => (h.own.lt b e).1
  refine ⟨(h.B.more hg fun x e => by have := hv x e; omega).more (grownBySet wa bt 2 v') (fun x e => by have := Option.some.inj e; omega), ho.setCell _ (fun b hb => by have hb' : bt + 1 ≤ b := hb; show b ≠ bt; omega) (by show bt < _; omega), ?_, hlo, by simp; omega⟩
  have := (h.t.grown hg (fun e => by have := hv _ e.symm; omega)).set_ 2 v'
  simpa using this
/-- a call of Peg behind two new boxes; its tree laid into the box x -/
theorem PgK.putK {x : Nat} {w8 w9 : World} {u0 u1 u2 : Value} (h : PgK W2 bs b5 b7 b10 gv yn s i bt j v ts wr) (hx : wr.heap.size ≤ x) (hal : Below wr.heap.size wr w8) (hs : Blk w9 bs 3 #[.int .i64 s']) (hg : w8.grownBy w9 (some bs)) :
    PgK W2 bs b5 b7 b10 gv yn s' i bt j v ts (((w9.setCell ⟨x, 0, none⟩ u0).setCell ⟨x, 1, none⟩ u1).setCell ⟨x, 2, none⟩ u2) := by
  have hne := h.B.ne
  have hlo := h.lo
  have hsz := h.size
  have z1 := hal.size
  have z2 := hg.size
  have ka : Agr (fun b => b < wr.heap.size ∧ b ≠ bs) wr (((w9.setCell ⟨x, 0, none⟩ u0).setCell ⟨x, 1, none⟩ u1).setCell ⟨x, 2, none⟩ u2) :=
    ((((Agr.below hal).trans (Agr.grown hg fun b hb e => hb.2 (Option.some.inj e))).trans (Agr.setCell (p := ⟨x, 0, none⟩) _ fun b hb => by have := hb.1; show b ≠ x; omega)).trans (Agr.setCell (p := ⟨x, 1, none⟩) _ fun b hb => by have := hb.1; show b ≠ x; omega)).trans (Agr.setCell (p := ⟨x, 2, none⟩) _ fun b hb => by have := hb.1; show b ≠ x; omega)
  have B := (((h.B.via hal).call hs hg).more (grownBySet w9 x 0 u0) (fun y e => by have := Option.some.inj e; omega)).more (grownBySet _ x 1 u1) (fun y e => by have := Option.some.inj e; omega)
  have own := (h.own.mono (ok' := fun b => (bt + 1 ≤ b) ∧ b < wr.heap.size) fun b hlt hb => ⟨hb, hlt⟩).agr (ka.mono fun b hb => by
    rcases hb with hb | hb
    · exact ⟨hb.2, by have := hb.1; omega⟩
    · have := h.own.lt b hb.symm; omega)
  exact ⟨B.more (grownBySet _ x 2 u2) (fun y e => by have := Option.some.inj e; omega), own.mono fun b _ hb => hb.1, ((((h.t.via hal).grown hg (fun e => by have := Option.some.inj e; omega)).far (p := ⟨x, 0, none⟩) (by simp only; omega) _).far (p := ⟨x, 1, none⟩) (by simp only; omega) _).far (p := ⟨x, 2, none⟩) (by simp only; omega) _, hlo, by simp; omega⟩
end
set_option maxRecDepth 100000 in
set_option maxHeartbeats 16000000 in
theorem peg_n (g : Gr) (W : List Nat) (hg : GrOk g) (hW : W.length ≤ 2000) (m : Nat) : ∀ (Ag : Option Addr) (ng cg : Nat) (wA : Option Addr) (wc bs : Nat) (s : Int) (y : Sy) (k : Nat) (w : World), s + 1 ≤ (m : Int) → m ≤ 100001 → -10000000 ≤ s → g.okSy y → k ≤ W.length →
    Sl RuE (fun b => b ≠ bs) w Ag ng cg g.rules → Sl InE (fun b => b ≠ bs) w wA W.length wc (intsN W) → Blk w bs 3 #[.int .i64 s] →
    Calls Tryd.prog 19 #[grVal g Ag ng cg, .slice wA W.length wc, .agg #[.bool y.1, .int .i64 (y.2 : Int)], .int .i64 (k : Int), .pointer (some ⟨bs, 0, none⟩)] w (PegP w bs g.rules W m s y k) := by
  induction m using Nat.strongRecOn with
  | ind m ih =>
    intro Ag ng cg wA wc bs s y k w hm hmb hsl hok hk hl hx hb
    obtain ⟨yb, yn⟩ := y
    have hs1 : IntKind.i64.wrap (s - 1) = s - 1 := IntWalk.i64_in _ (by omega)
    have hal := ((Below.refl w.heap.size w).al (.cells #[.int .i64 (g.terms : Int), .int .i64 (g.nons : Int), .int .i64 (g.start : Int), .slice Ag ng cg] 24)).al (.cells #[.bool yb, .int .i64 (yn : Int)] 54)
    have hal2 := hal.al (.cells #[.int .i64 0, .int .i64 0, .slice none 0 0] 34)
    have B5 := ((Blk.new w 24 #[.int .i64 (g.terms : Int), .int .i64 (g.nons : Int), .int .i64 (g.start : Int), .slice Ag ng cg]).al (.cells #[.bool yb, .int .i64 (yn : Int)] 54)).al (.cells #[.int .i64 0, .int .i64 0, .slice none 0 0] 34)
    have B7 := (Blk.newAt (w.alloc (.cells #[.int .i64 (g.terms : Int), .int .i64 (g.nons : Int), .int .i64 (g.start : Int), .slice Ag ng cg] 24)) 54 #[.bool yb, .int .i64 (yn : Int)] (w.heap.size + 1) (by simp)).al (.cells #[.int .i64 0, .int .i64 0, .slice none 0 0] 34)
    have B10 := Blk.newAt ((w.alloc (.cells #[.int .i64 (g.terms : Int), .int .i64 (g.nons : Int), .int .i64 (g.start : Int), .slice Ag ng cg] 24)).alloc (.cells #[.bool yb, .int .i64 (yn : Int)] 54)) 34 #[.int .i64 0, .int .i64 0, .slice none 0 0] (w.heap.size + 1 + 1) (by simp)
    have BS := hb.via hal2
    have HB := Lib.hid hal2
    have HL := Lib.hid (hl.via hal2)
    have HX := Lib.hid (hx.via hal2)
    have HOK := Lib.hid hok
    have HG := Lib.hid hg
    have IH := Lib.hid ih
    have hbs : bs < w.heap.size := hb.lt
    have HXL := Lib.hid (show ∀ bw ow, wA = some (⟨bw, ow, none⟩ : Addr) → 0 < W.length → bw < w.heap.size from fun bw ow e hl0 => by
      obtain ⟨b, o, e2, hlt, -⟩ := hx.intsIn.at_ hl0
      rw [e] at e2; cases e2; exact hlt)
    have HB5 := Lib.hid B5
    have HB7 := Lib.hid B7
    have HB10 := Lib.hid B10
    simp only [grVal]
    have hsz : w.heap.size + 3 ≤ (((w.alloc (.cells #[.int .i64 (g.terms : Int), .int .i64 (g.nons : Int), .int .i64 (g.start : Int), .slice Ag ng cg] 24)).alloc (.cells #[.bool yb, .int .i64 (yn : Int)] 54)).alloc (.cells #[.int .i64 0, .int .i64 0, .slice none 0 0] 34)).heap.size := by simp
    clear hl hx hb hok hg ih hal hal2 B5 B7 B10
    go_enter Tryd.func19, Tryd.ntmps19
    go_upto_region 1 with fail
    generalize ((w.alloc (.cells #[.int .i64 (g.terms : Int), .int .i64 (g.nons : Int), .int .i64 (g.start : Int), .slice Ag ng cg] 24)).alloc (.cells #[.bool yb, .int .i64 (yn : Int)] 54)).alloc (.cells #[.int .i64 0, .int .i64 0, .slice none 0 0] 34) = W1 at *
    obtain ⟨b5, hb5⟩ : ∃ b, b = w.heap.size := ⟨_, rfl⟩
    obtain ⟨b7, hb7⟩ : ∃ b, b = w.heap.size + 1 := ⟨_, rfl⟩
    obtain ⟨b10, hb10⟩ : ∃ b, b = w.heap.size + 1 + 1 := ⟨_, rfl⟩
    rw [← hb10] at HB10 ⊢
    rw [← hb7] at HB7 ⊢
    rw [← hb5] at HB5 ⊢
    have hbo : w.heap.size ≤ b5 ∧ b5 < b7 ∧ b7 < b10 ∧ b10 < W1.heap.size := by omega
    have HBE := Lib.hid hb5
    clear hb5 hb7 hb10
    have hag : Agr (fun b => b ≠ bs) W1 (W1.setCell ⟨bs, 0, none⟩ (.int .i64 (s - 1))) := Agr.setCell (p := ⟨bs, 0, none⟩) _ fun b hb => hb
    have HL2 := Lib.hid (HL.out.agr hag)
    have HX2 := Lib.hid (HX.out.agr hag)
    have HB52 := Lib.hid (HB5.out.far (p := ⟨bs, 0, none⟩) (by simp only; omega) (.int .i64 (s - 1)))
    have HB72 := Lib.hid (HB7.out.far (p := ⟨bs, 0, none⟩) (by simp only; omega) (.int .i64 (s - 1)))
    have HB102 := Lib.hid (HB10.out.far (p := ⟨bs, 0, none⟩) (by simp only; omega) (.int .i64 (s - 1)))
    have HBS2 := Lib.hid (show Blk (W1.setCell ⟨bs, 0, none⟩ (.int .i64 (s - 1))) bs 3 #[.int .i64 (s - 1)] from by have := BS.set_ 0 (.int .i64 (s - 1)); simpa using this)
    have HGR2 := Lib.hid (show w.grownBy (W1.setCell ⟨bs, 0, none⟩ (.int .i64 (s - 1))) (some bs) from (grownOf HB.out _).trans (grownBySet W1 bs 0 _))
    have hsz2 : b10 < (W1.setCell ⟨bs, 0, none⟩ (.int .i64 (s - 1))).heap.size := by simp; omega
    have cBS := BS.cell
    have fBS := BS.frozen
    have lBS := BS.lt
    go_upto_region 2 with fail
    clear cBS fBS lBS
    clear BS hag HL HX HB5 HB7 HB10 HB
    generalize W1.setCell ⟨bs, 0, none⟩ (.int .i64 (s - 1)) = W2 at *
    have BS := HBS2.out
    by_cases hneg : s - 1 < 0
    · have hd : decide (s - 1 < 0) = true := decide_eq_true hneg
      have B10 := HB102.out
      have HNEG := Lib.hid hneg
      clear hneg
      have cBS := BS.cell
      have fBS := BS.frozen
      have lBS := BS.lt
      have cB10 := B10.cell
      have fB10 := B10.frozen
      have lB10 := B10.lt
      go_wp2_with fail
      refine bodyPost_ret (v := .tuple #[trVal (0, 0, none, 0, 0), .int .i64 0, .bool false]) (by simp [results, Tryd.results19, go_sem, trVal, cB10]) rfl ⟨_, .node 0 [], 0, false, s - 1, rfl, TreeR.mk 0 (Sl.nil 0), ((BS.far (p := ⟨b10, 0, none⟩) (by simp only; omega) _).far (p := ⟨b10, 1, none⟩) (by simp only; omega) _).far (p := ⟨b10, 2, none⟩) (by simp only; omega) _, by omega, by omega, fun _ => ⟨rfl, rfl⟩, by omega, by omega, (fun h => by cases h), (fun _ h => by have := HNEG.out; omega), ?_⟩
      exact grown_far (grown_far (grown_far HGR2.out (grownBySet _ b10 _ _) (fun b e => by have := Option.some.inj e; omega)) (grownBySet _ b10 _ _) (fun b e => by have := Option.some.inj e; omega)) (grownBySet _ b10 _ _) (fun b e => by have := Option.some.inj e; omega)
    · have hd : decide (s - 1 < 0) = false := decide_eq_false hneg
      have hpos : 1 ≤ s := by omega
      have B7 := HB72.out
      clear hneg
      cases yb with
      | true =>
        have cBS := BS.cell
        have fBS := BS.frozen
        have lBS := BS.lt
        have cB7 := B7.cell
        have fB7 := B7.frozen
        have lB7 := B7.lt
        go_upto_region 5 with fail
        clear cBS fBS lBS cB7 fB7 lB7
        have hk1 : IntKind.i64.wrap ((k : Int) + 1) = (k : Int) + 1 := IntWalk.i64_in _ (by omega)
        have hdr := (Below.refl W2.heap.size W2).drew
        have B7d := B7.via hdr
        have B10d := HB102.out.via hdr
        have HBSd := Lib.hid (BS.via hdr)
        have HGRd := Lib.hid (HGR2.out.trans (grownOf hdr _))
        have HXd := Lib.hid (HX2.out.intsIn.via hdr)
        clear hdr BS B7 HBS2 HGR2 HX2 HL2 HB52 HB72 HB102
        have hpgt : ∀ r, (if W[k]? = some yn then (some (some (Tr.leaf yn, k + 1)) : Option (Option (Tr × Nat))) else some none) = r → pg g.rules W 1 (true, yn) k = r := fun r h => by rw [← h, pg, if_pos rfl]
        by_cases hkl : k < W.length
        · obtain ⟨bw, ow, hA, -, hcw⟩ := HXd.out.at_ hkl
          have hgd : (intsN W).getD k 0 = ((W[k]'hkl : Nat) : Int) := by
            unfold intsN
            rw [List.getD_eq_getElem?_getD, List.getElem?_map, List.getElem?_eq_getElem hkl]; rfl
          rw [hgd] at hcw
          subst hA
          have hwk : W[k]? = some (W[k]'hkl) := List.getElem?_eq_getElem hkl
          obtain ⟨a, ha⟩ : ∃ a, a = W[k]'hkl := ⟨_, rfl⟩
          rw [← ha] at hcw hwk
          rw [hwk] at hpgt
          have k0 : (0 : Int) ≤ (k : Int) := by omega
          have k1 : (k : Int) < (W.length : Int) := by omega
          have hdk : decide ((k : Int) < (W.length : Int)) = true := decide_eq_true k1
          have hwb : bw ≠ b10 := fun e => by have := HXL.out bw ow rfl (by omega); omega
          obtain ⟨ob, hob⟩ : ∃ ob, ((a : Int) == (yn : Int)) = ob := ⟨_, rfl⟩
          have HOB := Lib.hid hob
          clear ha hgd hwk
          have hHeld : (∀ i, W2.drew.cell? ⟨b7, i, none⟩ = #[.bool true, .int .i64 (yn : Int)][i]?) ∧ W2.drew.cell? ⟨bw, ow + k, none⟩ = some (.int .i64 (a : Int)) := ⟨B7d.cell, hcw⟩
          refine wp_region_noPanic ?_
          refine wp_region_L 20 (fun w' => (∀ i, w'.cell? ⟨b7, i, none⟩ = #[.bool true, .int .i64 (yn : Int)][i]?) ∧ w'.cell? ⟨bw, ow + k, none⟩ = some (.int .i64 (a : Int))) (by kernel_rfl) ?_
          generalize W2.drew = W3 at *
          refine wpAnyL.take (i := 0) (d := some 33) (v := ?_) rfl (by kernel_rfl) (by kernel_rfl) (by kernel_rfl) (by kernel_rfl) rfl (fun _ _ _ h => h) (Or.inl ⟨by rfl, ?_⟩) (by assumption) ?_
          rotate_left
          · intro w hSw; (try dsimp only at hSw); go_simp; try with_reducible rfl
          simp only [Act.put, List.setIfInBounds_toArray, List.set_cons_zero, List.set_cons_succ]
          refine wpAnyL.take (i := 1) (d := some 34) (v := ?_) rfl (by kernel_rfl) (by kernel_rfl) (by kernel_rfl) (by kernel_rfl) rfl (fun _ _ _ h => h) (Or.inl ⟨by rfl, ?_⟩) (by assumption) ?_
          rotate_left
          · intro w hSw; (try dsimp only at hSw); go_simp; try with_reducible rfl
          simp only [Act.put, List.setIfInBounds_toArray, List.set_cons_zero, List.set_cons_succ]
          refine wpAnyL.take (i := 2) (d := some 35) (v := ?_) rfl (by kernel_rfl) (by kernel_rfl) (by kernel_rfl) (by kernel_rfl) rfl (fun _ _ _ h => h) (Or.inl ⟨by rfl, ?_⟩) (by assumption) ?_
          rotate_left
          · intro w hSw; (try dsimp only at hSw); go_simp; try with_reducible rfl
          simp only [Act.put, List.setIfInBounds_toArray, List.set_cons_zero, List.set_cons_succ]
          refine wpAnyL.take (i := 3) (d := some 36) (v := ?_) rfl (by kernel_rfl) (by kernel_rfl) (by kernel_rfl) (by kernel_rfl) rfl (fun _ _ _ h => h) (Or.inl ⟨by rfl, ?_⟩) (by assumption) ?_
          rotate_left
          · intro w hSw; (try dsimp only at hSw); go_simp; try with_reducible rfl
          simp only [Act.put, List.setIfInBounds_toArray, List.set_cons_zero, List.set_cons_succ]
          refine wpAnyL.take (i := 4) (d := some 37) (v := ?_) rfl (by kernel_rfl) (by kernel_rfl) (by kernel_rfl) (by kernel_rfl) rfl (fun _ _ _ h => h) (Or.inl ⟨by rfl, ?_⟩) (by assumption) ?_
          rotate_left
          · intro w hSw; (try dsimp only at hSw); go_simp; try with_reducible rfl
          simp only [Act.put, List.setIfInBounds_toArray, List.set_cons_zero, List.set_cons_succ]
          refine wpAnyL.take (i := 5) (d := some 38) (v := ?_) rfl (by kernel_rfl) (by kernel_rfl) (by kernel_rfl) (by kernel_rfl) rfl (fun _ _ _ h => h) (Or.inl ⟨by rfl, ?_⟩) (by assumption) ?_
          rotate_left
          · intro w hSw; (try dsimp only at hSw); go_simp; try with_reducible rfl
          simp only [Act.put, List.setIfInBounds_toArray, List.set_cons_zero, List.set_cons_succ]
          refine wpAnyL.take (i := 6) (d := some 39) (v := ?_) rfl (by kernel_rfl) (by kernel_rfl) (by kernel_rfl) (by kernel_rfl) rfl (fun _ _ _ h => h) (Or.inl ⟨by rfl, ?_⟩) (by assumption) ?_
          rotate_left
          · intro w hSw; (try dsimp only at hSw); go_simp; try with_reducible rfl
          simp only [Act.put, List.setIfInBounds_toArray, List.set_cons_zero, List.set_cons_succ]
          refine wpAnyL.take (i := 7) (d := some 40) (v := ?_) rfl (by kernel_rfl) (by kernel_rfl) (by kernel_rfl) (by kernel_rfl) rfl (fun _ _ _ h => h) (Or.inl ⟨by rfl, ?_⟩) (by assumption) ?_
          rotate_left
          · intro w hSw; (try dsimp only at hSw); go_simp; try with_reducible rfl
          simp only [Act.put, List.setIfInBounds_toArray, List.set_cons_zero, List.set_cons_succ]
          refine wpAnyL.take (i := 8) (d := some 41) (v := ?_) rfl (by kernel_rfl) (by kernel_rfl) (by kernel_rfl) (by kernel_rfl) rfl (fun _ _ _ h => h) (Or.inl ⟨by rfl, ?_⟩) (by assumption) ?_
          rotate_left
          · intro w hSw; (try dsimp only at hSw); go_simp; try with_reducible rfl
          simp only [Act.put, List.setIfInBounds_toArray, List.set_cons_zero, List.set_cons_succ]
          refine wpAnyL.take (i := 9) (d := some 42) (v := ?_) rfl (by kernel_rfl) (by kernel_rfl) (by kernel_rfl) (by kernel_rfl) rfl (fun _ _ _ h => h) (Or.inl ⟨by rfl, ?_⟩) (by assumption) ?_
          rotate_left
          · intro w hSw; (try dsimp only at hSw); go_simp; try with_reducible rfl
          simp only [Act.put, List.setIfInBounds_toArray, List.set_cons_zero, List.set_cons_succ]
          refine wpAnyL.take (i := 10) (d := some 43) (v := ?_) rfl (by kernel_rfl) (by kernel_rfl) (by kernel_rfl) (by kernel_rfl) rfl (fun _ _ _ h => h) (Or.inl ⟨by rfl, ?_⟩) (by assumption) ?_
          rotate_left
          · intro w hSw; (try dsimp only at hSw); go_simp; try with_reducible rfl
          simp only [Act.put, List.setIfInBounds_toArray, List.set_cons_zero, List.set_cons_succ]
          refine wpAnyL.take (i := 11) (d := some 44) (v := ?_) rfl (by kernel_rfl) (by kernel_rfl) (by kernel_rfl) (by kernel_rfl) rfl (fun _ _ _ h => h) (Or.inl ⟨by rfl, ?_⟩) (by assumption) ?_
          rotate_left
          · intro w hSw; (try dsimp only at hSw); go_simp; try with_reducible rfl
          simp only [Act.put, List.setIfInBounds_toArray, List.set_cons_zero, List.set_cons_succ]
          refine wpAnyL.take (i := 12) (d := some 45) (v := ?_) rfl (by kernel_rfl) (by kernel_rfl) (by kernel_rfl) (by kernel_rfl) rfl (fun _ _ _ h => h) (Or.inl ⟨by rfl, ?_⟩) (by assumption) ?_
          rotate_left
          · intro w hSw; (try dsimp only at hSw); go_simp; try with_reducible rfl
          simp only [Act.put, List.setIfInBounds_toArray, List.set_cons_zero, List.set_cons_succ]
          refine wpAnyL.take (i := 13) (d := some 46) (v := ?_) rfl (by kernel_rfl) (by kernel_rfl) (by kernel_rfl) (by kernel_rfl) rfl (fun _ _ _ h => h) (Or.inl ⟨by rfl, ?_⟩) (by assumption) ?_
          rotate_left
          · intro w hSw; (try dsimp only at hSw); go_simp; try with_reducible rfl
          simp only [Act.put, List.setIfInBounds_toArray, List.set_cons_zero, List.set_cons_succ]
          refine wpAnyL.take (i := 14) (d := some 47) (v := ?_) rfl (by kernel_rfl) (by kernel_rfl) (by kernel_rfl) (by kernel_rfl) rfl (fun _ _ _ h => h) (Or.inl ⟨by rfl, ?_⟩) (by assumption) ?_
          rotate_left
          · intro w hSw; (try dsimp only at hSw); go_simp; try with_reducible rfl
          simp only [Act.put, List.setIfInBounds_toArray, List.set_cons_zero, List.set_cons_succ]
          refine wpAnyL.take (i := 15) (d := some 48) (v := ?_) rfl (by kernel_rfl) (by kernel_rfl) (by kernel_rfl) (by kernel_rfl) rfl (fun _ _ _ h => h) (Or.inl ⟨by rfl, ?_⟩) (by assumption) ?_
          rotate_left
          · intro w hSw; (try dsimp only at hSw); go_simp; try with_reducible rfl
          simp only [Act.put, List.setIfInBounds_toArray, List.set_cons_zero, List.set_cons_succ]
          refine wpAnyL.take (i := 16) (d := some 49) (v := ?_) rfl (by kernel_rfl) (by kernel_rfl) (by kernel_rfl) (by kernel_rfl) rfl (fun _ _ _ h => h) (Or.inl ⟨by rfl, ?_⟩) (by assumption) ?_
          rotate_left
          · intro w hSw; (try dsimp only at hSw); go_simp; try with_reducible rfl
          simp only [Act.put, List.setIfInBounds_toArray, List.set_cons_zero, List.set_cons_succ]
          refine wpAnyL.take (i := 17) (d := some 50) (v := ?_) rfl (by kernel_rfl) (by kernel_rfl) (by kernel_rfl) (by kernel_rfl) rfl (fun _ _ _ h => h) (Or.inl ⟨by rfl, ?_⟩) (by assumption) ?_
          rotate_left
          · intro w hSw; (try dsimp only at hSw); go_simp; try with_reducible rfl
          simp only [Act.put, List.setIfInBounds_toArray, List.set_cons_zero, List.set_cons_succ]
          refine wpAnyL.ready (rs := [18]) (by kernel_rfl) (by simp) ?_
          refine AllL.cons rfl (fun K hK => ?_) AllL.nil
          have cB := B10d.cell
          have fB := B10d.frozen
          go_simp
          have HBF := Lib.hid (show Blk (((W3.setCell ⟨b10, 0, none⟩ (.int .i64 (-1))).setCell ⟨b10, 1, none⟩ (.int .i64 (yn : Int))).setCell ⟨b10, 2, none⟩ (.slice none 0 0)) b10 34 #[.int .i64 (-1), .int .i64 (yn : Int), .slice none 0 0] from by
            have := ((B10d.set_ 0 (.int .i64 (-1))).set_ 1 (.int .i64 (yn : Int))).set_ 2 (.slice none 0 0); simpa using this)
          have HSF := Lib.hid (((HBSd.out.far (p := ⟨b10, 0, none⟩) (by simp only; omega) (.int .i64 (-1))).far (p := ⟨b10, 1, none⟩) (by simp only; omega) (.int .i64 (yn : Int))).far (p := ⟨b10, 2, none⟩) (by simp only; omega) (.slice none 0 0))
          have HGF := Lib.hid (grown_far (grown_far (grown_far HGRd.out (grownBySet _ b10 0 (.int .i64 (-1))) (fun b e => by have := Option.some.inj e; omega)) (grownBySet _ b10 1 (.int .i64 (yn : Int))) (fun b e => by have := Option.some.inj e; omega)) (grownBySet _ b10 2 (.slice none 0 0)) (fun b e => by have := Option.some.inj e; omega))
          have B77 := ((B7d.far (p := ⟨b10, 0, none⟩) (by simp only; omega) (.int .i64 (-1))).far (p := ⟨b10, 1, none⟩) (by simp only; omega) (.int .i64 (yn : Int))).far (p := ⟨b10, 2, none⟩) (by simp only; omega) (.slice none 0 0)
          have hS9 := And.intro B77.cell (show (((W3.setCell ⟨b10, 0, none⟩ (.int .i64 (-1))).setCell ⟨b10, 1, none⟩ (.int .i64 (yn : Int))).setCell ⟨b10, 2, none⟩ (.slice none 0 0)).cell? ⟨bw, ow + k, none⟩ = some (.int .i64 (a : Int)) from by simp [go_sem, hHeld.2])
          refine hK.out _ _ (fun _ => hS9) ?_
          clear hK K cB fB
          try dsimp only [Act.put]
          refine wpAnyL.ready (rs := [19]) (by kernel_rfl) (by simp) ?_
          refine AllL.cons rfl (fun K hK => ?_) AllL.nil
          go_simp
          refine hK.out _ _ (fun _ => hS9) ?_
          clear hK K
          try dsimp only [Act.put]
          refine wpAnyL.ready (rs := [20]) (by kernel_rfl) (by simp) ?_
          refine AllL.cons rfl (fun K hK => ?_) AllL.nil
          go_simp
          refine hK.out _ _ (fun h => absurd rfl h) ?_
          clear hK K
          refine wpAnyL.done (by kernel_rfl) ?_ _
          refine NoPanic.normal ?_
          clear B77 hS9 B7d B10d HBSd HGRd
          have BF := HBF.out
          have cBF := BF.cell
          have fBF := BF.frozen
          have lBF := BF.lt
          go_wp2_with fail
          refine bodyPost_ret (v := .tuple #[trVal (-1, (yn : Int), none, 0, 0), .int .i64 ((k : Int) + 1), .bool ob]) (by simp [results, Tryd.results19, go_sem, trVal, cBF]) rfl ⟨(-1, (yn : Int), none, 0, 0), .leaf yn, (k : Int) + 1, ob, s - 1, rfl, .leaf yn none 0, HSF.out, by omega, by omega, fun h => absurd h (by omega), by omega, by omega, ?_, ?_, HGF.out⟩
          · intro h
            have h1 := HOB.out
            rw [h] at h1
            have h2 : a = yn := by simp at h1; omega
            exact ⟨k + 1, by omega, by omega, fun _ => ⟨1, hpgt _ (by rw [h2]; simp)⟩⟩
          · intro h _
            have h1 := HOB.out
            rw [h] at h1
            have h2 : a ≠ yn := fun e => by rw [e] at h1; simp at h1
            exact ⟨1, hpgt _ (by simp [h2])⟩
        · have hdk : decide ((k : Int) < (W.length : Int)) = false := decide_eq_false (by omega)
          have hkn : W[k]? = none := List.getElem?_eq_none (by omega)
          rw [hkn, if_neg (by simp)] at hpgt
          have HPG := Lib.hid (hpgt _ rfl)
          have hHeld := B7d.cell
          clear hkn hpgt
          refine wp_region_noPanic ?_
          refine wp_region_L 20 (fun w' => (∀ i, w'.cell? ⟨b7, i, none⟩ = #[.bool true, .int .i64 (yn : Int)][i]?)) (by kernel_rfl) ?_
          generalize W2.drew = W3 at *
          refine wpAnyL.take (i := 0) (d := some 33) (v := ?_) rfl (by kernel_rfl) (by kernel_rfl) (by kernel_rfl) (by kernel_rfl) rfl (fun _ _ _ h => h) (Or.inl ⟨by rfl, ?_⟩) (by assumption) ?_
          rotate_left
          · intro w hSw; (try dsimp only at hSw); go_simp; try with_reducible rfl
          simp only [Act.put, List.setIfInBounds_toArray, List.set_cons_zero, List.set_cons_succ]
          refine wpAnyL.take (i := 1) (d := some 34) (v := ?_) rfl (by kernel_rfl) (by kernel_rfl) (by kernel_rfl) (by kernel_rfl) rfl (fun _ _ _ h => h) (Or.inl ⟨by rfl, ?_⟩) (by assumption) ?_
          rotate_left
          · intro w hSw; (try dsimp only at hSw); go_simp; try with_reducible rfl
          simp only [Act.put, List.setIfInBounds_toArray, List.set_cons_zero, List.set_cons_succ]
          refine wpAnyL.take (i := 2) (d := some 35) (v := ?_) rfl (by kernel_rfl) (by kernel_rfl) (by kernel_rfl) (by kernel_rfl) rfl (fun _ _ _ h => h) (Or.inl ⟨by rfl, ?_⟩) (by assumption) ?_
          rotate_left
          · intro w hSw; (try dsimp only at hSw); go_simp; try with_reducible rfl
          simp only [Act.put, List.setIfInBounds_toArray, List.set_cons_zero, List.set_cons_succ]
          refine wpAnyL.take (i := 3) (d := some 36) (v := ?_) rfl (by kernel_rfl) (by kernel_rfl) (by kernel_rfl) (by kernel_rfl) rfl (fun _ _ _ h => h) (Or.inl ⟨by rfl, ?_⟩) (by assumption) ?_
          rotate_left
          · intro w hSw; (try dsimp only at hSw); go_simp; try with_reducible rfl
          simp only [Act.put, List.setIfInBounds_toArray, List.set_cons_zero, List.set_cons_succ]
          refine wpAnyL.take (i := 4) (d := some 37) (v := ?_) rfl (by kernel_rfl) (by kernel_rfl) (by kernel_rfl) (by kernel_rfl) rfl (fun _ _ _ h => h) (Or.inl ⟨by rfl, ?_⟩) (by assumption) ?_
          rotate_left
          · intro w hSw; (try dsimp only at hSw); go_simp; try with_reducible rfl
          simp only [Act.put, List.setIfInBounds_toArray, List.set_cons_zero, List.set_cons_succ]
          refine wpAnyL.take (i := 5) (d := some 38) (v := ?_) rfl (by kernel_rfl) (by kernel_rfl) (by kernel_rfl) (by kernel_rfl) rfl (fun _ _ _ h => h) (Or.inl ⟨by rfl, ?_⟩) (by assumption) ?_
          rotate_left
          · intro w hSw; (try dsimp only at hSw); go_simp; try with_reducible rfl
          simp only [Act.put, List.setIfInBounds_toArray, List.set_cons_zero, List.set_cons_succ]
          refine wpAnyL.take (i := 6) (d := some 39) (v := ?_) rfl (by kernel_rfl) (by kernel_rfl) (by kernel_rfl) (by kernel_rfl) rfl (fun _ _ _ h => h) (Or.inl ⟨by rfl, ?_⟩) (by assumption) ?_
          rotate_left
          · intro w hSw; (try dsimp only at hSw); go_simp; try with_reducible rfl
          simp only [Act.put, List.setIfInBounds_toArray, List.set_cons_zero, List.set_cons_succ]
          refine wpAnyL.take (i := 7) (d := some 40) (v := ?_) rfl (by kernel_rfl) (by kernel_rfl) (by kernel_rfl) (by kernel_rfl) rfl (fun _ _ _ h => h) (Or.inl ⟨by rfl, ?_⟩) (by assumption) ?_
          rotate_left
          · intro w hSw; (try dsimp only at hSw); go_simp; try with_reducible rfl
          simp only [Act.put, List.setIfInBounds_toArray, List.set_cons_zero, List.set_cons_succ]
          refine wpAnyL.take (i := 8) (d := some 41) (v := ?_) rfl (by kernel_rfl) (by kernel_rfl) (by kernel_rfl) (by kernel_rfl) rfl (fun _ _ _ h => h) (Or.inl ⟨by rfl, ?_⟩) (by assumption) ?_
          rotate_left
          · intro w hSw; (try dsimp only at hSw); go_simp; try with_reducible rfl
          simp only [Act.put, List.setIfInBounds_toArray, List.set_cons_zero, List.set_cons_succ]
          refine wpAnyL.take (i := 9) (d := some 42) (v := ?_) rfl (by kernel_rfl) (by kernel_rfl) (by kernel_rfl) (by kernel_rfl) rfl (fun _ _ _ h => h) (Or.inl ⟨by rfl, ?_⟩) (by assumption) ?_
          rotate_left
          · intro w hSw; (try dsimp only at hSw); go_simp; try with_reducible rfl
          simp only [Act.put, List.setIfInBounds_toArray, List.set_cons_zero, List.set_cons_succ]
          refine wpAnyL.take (i := 10) (d := some 43) (v := undef) rfl (by kernel_rfl) (by kernel_rfl) (by kernel_rfl) (by kernel_rfl) rfl (fun _ _ _ h => h) (Or.inr ⟨by rfl, rfl⟩) (by assumption) ?_
          simp only [Act.put, List.setIfInBounds_toArray, List.set_cons_zero, List.set_cons_succ]
          refine wpAnyL.take (i := 11) (d := some 44) (v := undef) rfl (by kernel_rfl) (by kernel_rfl) (by kernel_rfl) (by kernel_rfl) rfl (fun _ _ _ h => h) (Or.inr ⟨by rfl, rfl⟩) (by assumption) ?_
          simp only [Act.put, List.setIfInBounds_toArray, List.set_cons_zero, List.set_cons_succ]
          refine wpAnyL.take (i := 12) (d := some 45) (v := undef) rfl (by kernel_rfl) (by kernel_rfl) (by kernel_rfl) (by kernel_rfl) rfl (fun _ _ _ h => h) (Or.inr ⟨by rfl, rfl⟩) (by assumption) ?_
          simp only [Act.put, List.setIfInBounds_toArray, List.set_cons_zero, List.set_cons_succ]
          refine wpAnyL.take (i := 13) (d := some 46) (v := undef) rfl (by kernel_rfl) (by kernel_rfl) (by kernel_rfl) (by kernel_rfl) rfl (fun _ _ _ h => h) (Or.inr ⟨by rfl, rfl⟩) (by assumption) ?_
          simp only [Act.put, List.setIfInBounds_toArray, List.set_cons_zero, List.set_cons_succ]
          refine wpAnyL.take (i := 14) (d := some 47) (v := undef) rfl (by kernel_rfl) (by kernel_rfl) (by kernel_rfl) (by kernel_rfl) rfl (fun _ _ _ h => h) (Or.inr ⟨by rfl, rfl⟩) (by assumption) ?_
          simp only [Act.put, List.setIfInBounds_toArray, List.set_cons_zero, List.set_cons_succ]
          refine wpAnyL.take (i := 15) (d := some 48) (v := undef) rfl (by kernel_rfl) (by kernel_rfl) (by kernel_rfl) (by kernel_rfl) rfl (fun _ _ _ h => h) (Or.inr ⟨by rfl, rfl⟩) (by assumption) ?_
          simp only [Act.put, List.setIfInBounds_toArray, List.set_cons_zero, List.set_cons_succ]
          refine wpAnyL.take (i := 16) (d := some 49) (v := undef) rfl (by kernel_rfl) (by kernel_rfl) (by kernel_rfl) (by kernel_rfl) rfl (fun _ _ _ h => h) (Or.inr ⟨by rfl, rfl⟩) (by assumption) ?_
          simp only [Act.put, List.setIfInBounds_toArray, List.set_cons_zero, List.set_cons_succ]
          refine wpAnyL.take (i := 17) (d := some 50) (v := ?_) rfl (by kernel_rfl) (by kernel_rfl) (by kernel_rfl) (by kernel_rfl) rfl (fun _ _ _ h => h) (Or.inl ⟨by rfl, ?_⟩) (by assumption) ?_
          rotate_left
          · intro w hSw; (try dsimp only at hSw); go_simp; try with_reducible rfl
          simp only [Act.put, List.setIfInBounds_toArray, List.set_cons_zero, List.set_cons_succ]
          refine wpAnyL.ready (rs := [18]) (by kernel_rfl) (by simp) ?_
          refine AllL.cons rfl (fun K hK => ?_) AllL.nil
          have cB := B10d.cell
          have fB := B10d.frozen
          go_simp
          have HBF := Lib.hid (show Blk (((W3.setCell ⟨b10, 0, none⟩ (.int .i64 (-1))).setCell ⟨b10, 1, none⟩ (.int .i64 (yn : Int))).setCell ⟨b10, 2, none⟩ (.slice none 0 0)) b10 34 #[.int .i64 (-1), .int .i64 (yn : Int), .slice none 0 0] from by
            have := ((B10d.set_ 0 (.int .i64 (-1))).set_ 1 (.int .i64 (yn : Int))).set_ 2 (.slice none 0 0); simpa using this)
          have HSF := Lib.hid (((HBSd.out.far (p := ⟨b10, 0, none⟩) (by simp only; omega) (.int .i64 (-1))).far (p := ⟨b10, 1, none⟩) (by simp only; omega) (.int .i64 (yn : Int))).far (p := ⟨b10, 2, none⟩) (by simp only; omega) (.slice none 0 0))
          have HGF := Lib.hid (grown_far (grown_far (grown_far HGRd.out (grownBySet _ b10 0 (.int .i64 (-1))) (fun b e => by have := Option.some.inj e; omega)) (grownBySet _ b10 1 (.int .i64 (yn : Int))) (fun b e => by have := Option.some.inj e; omega)) (grownBySet _ b10 2 (.slice none 0 0)) (fun b e => by have := Option.some.inj e; omega))
          have B77 := ((B7d.far (p := ⟨b10, 0, none⟩) (by simp only; omega) (.int .i64 (-1))).far (p := ⟨b10, 1, none⟩) (by simp only; omega) (.int .i64 (yn : Int))).far (p := ⟨b10, 2, none⟩) (by simp only; omega) (.slice none 0 0)
          have hS9 := B77.cell
          refine hK.out _ _ (fun _ => hS9) ?_
          clear hK K cB fB
          try dsimp only [Act.put]
          refine wpAnyL.ready (rs := [19]) (by kernel_rfl) (by simp) ?_
          refine AllL.cons rfl (fun K hK => ?_) AllL.nil
          go_simp
          refine hK.out _ _ (fun _ => hS9) ?_
          clear hK K
          try dsimp only [Act.put]
          refine wpAnyL.ready (rs := [20]) (by kernel_rfl) (by simp) ?_
          refine AllL.cons rfl (fun K hK => ?_) AllL.nil
          go_simp
          refine hK.out _ _ (fun h => absurd rfl h) ?_
          clear hK K
          refine wpAnyL.done (by kernel_rfl) ?_ _
          refine NoPanic.normal ?_
          clear B77 hS9 B7d B10d HBSd HGRd
          have BF := HBF.out
          have cBF := BF.cell
          have fBF := BF.frozen
          have lBF := BF.lt
          go_wp2_with fail
          refine bodyPost_ret (v := .tuple #[trVal (-1, (yn : Int), none, 0, 0), .int .i64 ((k : Int) + 1), .bool false]) (by simp [results, Tryd.results19, go_sem, trVal, cBF]) rfl ⟨(-1, (yn : Int), none, 0, 0), .leaf yn, (k : Int) + 1, false, s - 1, rfl, .leaf yn none 0, HSF.out, by omega, by omega, fun h => absurd h (by omega), by omega, by omega, (fun h => by cases h), fun _ _ => ⟨1, HPG.out⟩, HGF.out⟩
      | false =>
        have cBS := BS.cell
        have fBS := BS.frozen
        have lBS := BS.lt
        have cB7 := B7.cell
        have fB7 := B7.frozen
        have lB7 := B7.lt
        go_upto_region 6 with fail
        clear cBS fBS lBS cB7 fB7 lB7
        obtain ⟨m, rfl⟩ : ∃ mm, m = mm + 1 := ⟨m - 1, by omega⟩
        have HPB0 := Lib.hid (show PgB W2 bs b5 b7 b10 #[.int .i64 (g.terms : Int), .int .i64 (g.nons : Int), .int .i64 (g.start : Int), .slice Ag ng cg] yn (s - 1) W2 from ⟨HB52.out, HB72.out, HB102.out, BS, grownRefl _ _, by omega⟩)
        have hng := HL2.out.len
        have hcnt := HG.out.ok.count
        have B5 := HB52.out
        have HSY := Lib.hid (show yn < g.nons by simpa [Gr.okSy] using HOK.out)
        clear BS B7 HBS2 HB52 HB72 HB102 HXL hd HBE HOK
        have cB5 := B5.cell
        have fB5 := B5.frozen
        have lB5 := B5.lt
        go_wp2_with fail
        clear cB5 fB5 lB5
        clear B5
        go_loopw [54] (fun q wr => ∃ (i : Nat) (si : Int), q = .int .i64 i ∧ i ≤ ng ∧ si ≤ s - 1 ∧ -1 - 32 * (m : Int) - (i : Int) ≤ si ∧ Hid (PgB W2 bs b5 b7 b10 #[.int .i64 (g.terms : Int), .int .i64 (g.nons : Int), .int .i64 (g.start : Int), .slice Ag ng cg] yn si wr) ∧ Hid (0 ≤ si → ∃ d0, ∀ d, d0 ≤ d → ∀ r, pgC (pg g.rules W d) yn k i (g.rules.drop i) = some r → pgC (pg g.rules W d) yn k 0 g.rules = some r)) (fun q _ => ng - (intOf q).toNat)
        case atStart => exact ⟨0, s - 1, rfl, Nat.zero_le _, Int.le_refl _, by omega, HPB0, Lib.hid fun _ => ⟨0, fun d _ r h => by simpa using h⟩⟩
        case round =>
          obtain ⟨i, si, rfl, hi, hs2, hs3, HPB, HC⟩ := hrel
          clear HPB0
          by_cases hin : i < ng
          · have hag : Agr (fun b => b ≠ bs) W2 wr := Agr.grown HPB.out.gr fun b hb e => hb (Option.some.inj e)
            obtain ⟨b1, o1, ⟨sl, sA, sn, sc⟩, ⟨sl', rhs⟩, hAg, hob, hbb, hy, ⟨hx1, hx2⟩, hc⟩ := HL2.out.at_ hin
            simp only at hx1 hx2
            obtain rfl : sl = sl' := hx1
            have d0 := hag.cell hob (hc 0 _ rfl)
            have d1 := hag.cell hob (hc 1 _ rfl)
            simp only [RuE, Nat.add_zero] at d0 d1
            subst hAg
            have i0 : (0 : Int) ≤ (i : Int) := by omega
            have i1 : (i : Int) < (ng : Int) := by omega
            have hmem := List.mem_of_getElem? hy
            have HRT := Lib.hid (HG.out.ok.right _ hmem)
            have hsn : sn ≤ 4 := by rw [← hx2.len]; exact HRT.out.1
            have HDR := Lib.hid (show g.rules.drop i = (sl, rhs) :: g.rules.drop (i + 1) from by
              obtain ⟨hl, he⟩ := List.getElem?_eq_some_iff.1 hy
              rw [List.drop_eq_getElem_cons hl, he])
            have hal := (Below.refl wr.heap.size wr).al (.cells #[.int .i64 (sl : Int), .slice sA sn sc] 77)
            have HSR := Lib.hid hx2
            have HPB5 := Lib.hid (HPB.out.via hal)
            have HBX := Lib.hid (Blk.new wr 77 #[.int .i64 (sl : Int), .slice sA sn sc])
            have hwr : W2.heap.size ≤ wr.heap.size := HPB.out.gr.size
            clear hc hy hx2 hmem hbb hob hal HPB hag
            go_upto_region 9 with fail
            clear d0 d1
            have hs5 : wr.heap.size < (wr.alloc (.cells #[.int .i64 (sl : Int), .slice sA sn sc] 77)).heap.size := by simp
            generalize wr.alloc (.cells #[.int .i64 (sl : Int), .slice sA sn sc] 77) = W5 at *
            generalize wr.heap.size = b14 at *
            have BX := HBX.out
            have B7 := HPB5.out.h7
            by_cases hsl : sl = yn
            · subst hsl
              have e1 : ((sl : Int) != (sl : Int)) = false := by simp
              have cBX := BX.cell
              have fBX := BX.frozen
              have lBX := BX.lt
              have cB7 := B7.cell
              have fB7 := B7.frozen
              have lB7 := B7.lt
              go_upto_region 11 with fail
              clear cBX fBX lBX cB7 fB7 lB7
              have hal := (Below.refl W5.heap.size W5).al (.cells #[.int .i64 (i : Int), .int .i64 0, .slice none 0 0] 34)
              have HK0 := Lib.hid (show PgK W2 bs b5 b7 b10 #[.int .i64 (g.terms : Int), .int .i64 (g.nons : Int), .int .i64 (g.start : Int), .slice (some ⟨b1, o1, none⟩) ng cg] sl si i W5.heap.size 0 (.slice none 0 0) [] _ from
                ⟨HPB5.out.via hal, Own.nil _ _, Blk.new W5 34 #[.int .i64 (i : Int), .int .i64 0, .slice none 0 0], by omega, by simp⟩)
              replace BX := BX.via hal
              clear hal B7 HPB5 HBX
              generalize W5.alloc (.cells #[.int .i64 (i : Int), .int .i64 0, .slice none 0 0] 34) = W6 at *
              obtain ⟨bt, hbt⟩ : ∃ bt, bt = W5.heap.size := ⟨_, rfl⟩
              rw [← hbt] at HK0 ⊢
              have HBTE := Lib.hid (show W2.heap.size ≤ bt by omega)
              clear hbt
              have cBX := BX.cell
              have fBX := BX.frozen
              have lBX := BX.lt
              go_wp2_with fail
              clear cBX fBX lBX
              clear BX
              go_loopw [16, 17, 70] (fun sv bv q wr => ∃ (j ak : Nat) (sj : Int) (v : Value) (ts : List Tr), sv = .int .i64 ak ∧ bv = .bool true ∧ q = .int .i64 j ∧ j ≤ sn ∧ ak ≤ W.length ∧ sj ≤ si ∧ -1 - 32 * (m : Int) - (i : Int) ≤ sj ∧ Hid (PgK W2 bs b5 b7 b10 #[.int .i64 (g.terms : Int), .int .i64 (g.nons : Int), .int .i64 (g.start : Int), .slice (some ⟨b1, o1, none⟩) ng cg] sl sj i bt j v ts wr) ∧ Hid (0 ≤ sj → ∃ d, pgL (pg g.rules W d) (rhs.take j) k = some (some (ts, ak)))) (fun _ _ q _ => sn - (intOf q).toNat)
              case atStart => exact ⟨0, k, si, _, [], rfl, rfl, rfl, Nat.zero_le _, hk, Int.le_refl _, hs3, HK0, Lib.hid fun _ => ⟨0, by simp [pgL]⟩⟩
              case round =>
                obtain ⟨j, ak, sj, v, ts, rfl, rfl, rfl, hj, hak, hsj, hsj2, HK, HPL⟩ := hrel
                clear HK0
                obtain ⟨vA, vc, rfl, hvc⟩ := HK.out.own.form
                by_cases hjs : j < sn
                · have hag : Agr (fun b => b ≠ bs) W2 wr := Agr.grown HK.out.B.gr fun b hb e => hb (Option.some.inj e)
                  obtain ⟨b2, o2, ⟨zb, zn⟩, y', hyA, hob2, hyl, hy, hyr, hyc⟩ := HSR.out.at_ hjs
                  obtain rfl : (zb, zn) = y' := hyr
                  subst hyA
                  have x0 := hag.cell hob2 (hyc 0 _ rfl)
                  have x1 := hag.cell hob2 (hyc 1 _ rfl)
                  simp only [SyE, Nat.add_zero] at x0 x1
                  have j0 : (0 : Int) ≤ (j : Int) := by omega
                  have j1 : (j : Int) < (sn : Int) := by omega
                  have HY1 := Lib.hid hy
                  have HOKZ := Lib.hid (HRT.out.2 _ (List.mem_of_getElem? hy))
                  have HSP := Lib.hid (show rhs = rhs.take j ++ (zb, zn) :: rhs.drop (j + 1) from splitL_at hy)
                  have hal := (Below.refl wr.heap.size wr).al (.cells #[.bool zb, .int .i64 (zn : Int)] 54)
                  have BSY := Blk.new wr 54 #[.bool zb, .int .i64 (zn : Int)]
                  have hz7 : wr.heap.size < (wr.alloc (.cells #[.bool zb, .int .i64 (zn : Int)] 54)).heap.size := by simp
                  have HAL := Lib.hid hal
                  clear hyc hy hyl hob2 hal hag
                  go_upto_region 14 with fail
                  clear x0 x1
                  generalize wr.alloc (.cells #[.bool zb, .int .i64 (zn : Int)] 54) = W7 at *
                  obtain ⟨b19, hb19⟩ : ∃ b, b = wr.heap.size := ⟨_, rfl⟩
                  rw [← hb19] at BSY ⊢
                  have HB19 := Lib.hid hb19
                  clear hb19
                  go_upto_region 15 with fail
                  have hal2 := (Below.refl W7.heap.size W7).al (.cells #[.int .i64 0, .int .i64 0, .slice none 0 0] 34)
                  have HAL2 := Lib.hid (HAL.out.trans (hal2.mono HAL.out.size))
                  have HBK := Lib.hid (Blk.new W7 34 #[.int .i64 0, .int .i64 0, .slice none 0 0])
                  replace BSY := BSY.via hal2
                  have hz8 : W7.heap.size < (W7.alloc (.cells #[.int .i64 0, .int .i64 0, .slice none 0 0] 34)).heap.size := by simp
                  clear hal2 HAL
                  generalize W7.alloc (.cells #[.int .i64 0, .int .i64 0, .slice none 0 0] 34) = W8 at *
                  generalize W7.heap.size = b20 at *
                  have HK8 := Lib.hid (HK.out.via HAL2.out)
                  have B5 := HK8.out.B.h5
                  have hag8 : Agr (fun b => b ≠ bs) W2 W8 := Agr.grown HK8.out.B.gr fun b hb e => hb (Option.some.inj e)
                  have HCALL := Lib.hid (IH.out m (Nat.lt_succ_self m) (some ⟨b1, o1, none⟩) ng cg wA wc bs sj (zb, zn) ak W8 (by omega) (by omega) (by omega) HOKZ.out hak (HL2.out.agr hag8) (HX2.out.agr hag8) HK8.out.B.hs)
                  clear hag8
                  have cBSY := BSY.cell
                  have fBSY := BSY.frozen
                  have lBSY := BSY.lt
                  have cB5 := B5.cell
                  have fB5 := B5.frozen
                  have lB5 := B5.lt
                  go_wp2_with fail
                  clear cBSY fBSY lBSY cB5 fB5 lB5
                  clear BSY B5
                  refine HCALL.out.mono ?_
                  rintro e w9 ⟨⟨va, vb, vA2, vn2, vc2⟩, t, en, okb, s9, rfl, hT9, hs9, hle9, hlo9, hzz9, hen1, hen2, hok9, hno9, hg9⟩
                  have HG9 := Lib.hid hg9
                  have HK9 := Lib.hid (HK.out.putK (x := b20) (u0 := .int .i64 va) (u1 := .int .i64 vb) (u2 := .slice vA2 vn2 vc2) (by have := HAL2.out.size; have := HB19.out; omega) HAL2.out hs9 hg9)
                  have BK := HBK.out.grown hg9 (fun e => by have := Option.some.inj e; have := HK.out.B.ne; have := HK.out.lo; have := HK.out.size; omega)
                  have hW9 : W8.heap.size ≤ w9.heap.size := hg9.size
                  have HTA := Lib.hid (show TreeR (fun b => W8.heap.size ≤ b) (((w9.setCell ⟨b20, 0, none⟩ (.int .i64 va)).setCell ⟨b20, 1, none⟩ (.int .i64 vb)).setCell ⟨b20, 2, none⟩ (.slice vA2 vn2 vc2)) (va, vb, vA2, vn2, vc2) t from
                    hT9.agr (((Agr.setCell (p := ⟨b20, 0, none⟩) _ fun b hb => by have hb' : W8.heap.size ≤ b := hb; show b ≠ b20; omega).trans (Agr.setCell (p := ⟨b20, 1, none⟩) _ fun b hb => by have hb' : W8.heap.size ≤ b := hb; show b ≠ b20; omega)).trans (Agr.setCell (p := ⟨b20, 2, none⟩) _ fun b hb => by have hb' : W8.heap.size ≤ b := hb; show b ≠ b20; omega)))
                  have hb9 : -1 - 32 * (m : Int) - ((i + 1 : Nat) : Int) ≤ s9 := by
                    rcases Int.le_total sj 0 with h | h
                    · have := (hzz9 h).2; omega
                    · omega
                  have HBK2 := Lib.hid (show Blk (((w9.setCell ⟨b20, 0, none⟩ (.int .i64 va)).setCell ⟨b20, 1, none⟩ (.int .i64 vb)).setCell ⟨b20, 2, none⟩ (.slice vA2 vn2 vc2)) b20 34 #[.int .i64 va, .int .i64 vb, .slice vA2 vn2 vc2] from by
                    have := ((BK.set_ 0 (.int .i64 va)).set_ 1 (.int .i64 vb)).set_ 2 (.slice vA2 vn2 vc2); simpa using this)
                  have hWW : w9.heap.size = (((w9.setCell ⟨b20, 0, none⟩ (.int .i64 va)).setCell ⟨b20, 1, none⟩ (.int .i64 vb)).setCell ⟨b20, 2, none⟩ (.slice vA2 vn2 vc2)).heap.size := by simp
                  simp only [trVal]
                  clear hg9 hT9 hs9 HBK HK8 HCALL
                  have cBK := BK.cell
                  have fBK := BK.frozen
                  have lBK := BK.lt
                  go_upto_region 16 with fail
                  clear cBK fBK lBK
                  clear BK
                  generalize ((w9.setCell ⟨b20, 0, none⟩ (.int .i64 va)).setCell ⟨b20, 1, none⟩ (.int .i64 vb)).setCell ⟨b20, 2, none⟩ (.slice vA2 vn2 vc2) = WA at *
                  cases okb with
                  | false =>
                    go_wp2_with fail
                    refine ⟨⟨i + 1, s9, by go_num, by omega, by omega, hb9, Lib.hid HK9.out.B, Lib.hid fun h0 => ?_⟩, by simp [intOf]; omega⟩
                    obtain ⟨d0, hd0⟩ := HC.out (by omega)
                    obtain ⟨d1, hd1⟩ := hno9 rfl h0
                    obtain ⟨d2, hd2⟩ := HPL.out (by omega)
                    refine ⟨d0 + d1 + d2, fun d hd r h => hd0 d (by omega) r ?_⟩
                    have hl : pgL (pg g.rules W d) ((sl, rhs) : Ru).2 k = some none := by
                      simp only
                      rw [HSP.out]; exact pgL_stop (pgL_up (by omega) hd2) (pg_mono (show d1 ≤ d by omega) _ _ _ hd1)
                    rw [HDR.out, pgC_miss (u := (sl, rhs)) rfl hl]; exact h
                  | true =>
                    obtain ⟨e, rfl, hew, hpg⟩ := hok9 rfl
                    have hsp : 0 < sj := by
                      rcases Int.lt_or_le 0 sj with h | h
                      · exact h
                      · exact absurd (hzz9 h).1 (by simp)
                    have BN := HBK2.out
                    have B3 := HK9.out.t
                    have HPG := Lib.hid hpg
                    clear hok9 hno9 hzz9 hpg
                    go_upto_region 17 with fail
                    have cB3 := B3.cell
                    have fB3 := B3.frozen
                    have lB3 := B3.lt
                    have cBN := BN.cell
                    have fBN := BN.frozen
                    have lBN := BN.lt
                    have hal8 := (Below.refl WA.heap.size WA).al (.cells #[.int .i64 va, .int .i64 vb, .slice vA2 vn2 vc2] 34)
                    have HKA := Lib.hid (HK9.out.via hal8)
                    have HTB := Lib.hid ((HTA.out.via hal8).mono (ok' := fun b => (bt + 1 ≤ b) ∧ some b ≠ (Value.slice vA j vc).ownBlock) fun b _ hb => ⟨by have h : W8.heap.size ≤ b := hb; have := HK.out.size; have := HAL2.out.size; omega, fun e => by have := (HK.out.own.lt b e.symm).2; have h : W8.heap.size ≤ b := hb; have := HAL2.out.size; omega⟩)
                    have hszA := HK9.out.size
                    clear hal8
                    go_wp2_with (at_builtin; refine wpList_append_tr _ rfl (.tmp 87) (.tmp 89) rfl (fun b => bt + 1 ≤ b) (bt + 1) (.slice vA j vc) j ts rfl HKA.out.own WA.heap.size (va, vb, vA2, vn2, vc2) t rfl (Blk.new WA 34 #[.int .i64 va, .int .i64 vb, .slice vA2 vn2 vc2]) HTB.out (by omega) HKA.out.size ?_)
                    intro Av1 cv1 wB ho8 hg8 hat8
                    have HPU := Lib.hid (HKA.out.push ho8 hg8)
                    have B8 := HKA.out.t.grown hg8 (fun e => by have := (HKA.out.own.lt _ e.symm).1; omega)
                    clear cB3 fB3 lB3 cBN fBN lBN
                    clear B3 BN HKA HTB ho8 hg8 hat8 HK9 HTA
                    have cB8 := B8.cell
                    have fB8 := B8.frozen
                    have lB8 := B8.lt
                    go_wp2_with fail
                    refine ⟨⟨j + 1, e, s9, .slice Av1 (j + 1) cv1, ts ++ [t], rfl, rfl, by go_num, by omega, hew, by omega, by omega, HPU, Lib.hid fun h0 => ?_⟩, by simp [intOf]; omega⟩
                    obtain ⟨d1, hd1⟩ := HPG.out h0
                    obtain ⟨d2, hd2⟩ := HPL.out (by omega)
                    refine ⟨d1 + d2, ?_⟩
                    rw [List.take_add_one, HY1.out]
                    exact pgL_snoc (pgL_up (by omega) hd2) (pg_mono (show d1 ≤ d1 + d2 by omega) _ _ _ hd1)
                · obtain rfl : sn = j := by omega
                  have B3 := HK.out.t
                  have B10 := HK.out.B.h10
                  have cB3 := B3.cell
                  have fB3 := B3.frozen
                  have lB3 := B3.lt
                  have cB10 := B10.cell
                  have fB10 := B10.frozen
                  have lB10 := B10.lt
                  go_wp2_with fail
                  have hsz := HK.out.size
                  have hne := HK.out.B.ne
                  have hlo := HK.out.lo
                  have hs := HK.out.own.toSl (ok' := fun b => w.heap.size ≤ b ∧ b ≠ b10) (fun b _ hb => by have h : bt + 1 ≤ b := hb; omega) (fun b hb => by omega)
                  refine bodyPost_ret (v := .tuple #[trVal ((i : Int), 0, vA, sn, vc), .int .i64 (ak : Int), .bool true]) (by simp [results, Tryd.results19, go_sem, trVal, cB10]) rfl ⟨((i : Int), 0, vA, sn, vc), .node i ts, (ak : Int), true, sj, rfl, ((TreeR.mk i hs).set3 (fun b hb => hb.2) _ _ _).mono (fun b _ hb => hb.1), ((HK.out.B.hs.far (p := ⟨b10, 0, none⟩) (by simp only; omega) _).far (p := ⟨b10, 1, none⟩) (by simp only; omega) _).far (p := ⟨b10, 2, none⟩) (by simp only; omega) _, by omega, by omega, fun h => absurd h (by omega), by omega, by omega, (fun _ => ⟨ak, rfl, hak, fun h0 => ?_⟩), (fun h => by cases h), ?_⟩
                  · obtain ⟨d0, hd0⟩ := HC.out (by omega)
                    obtain ⟨d2, hd2⟩ := HPL.out h0
                    rw [← HSR.out.len, List.take_length] at hd2
                    refine ⟨d0 + d2 + 1, ?_⟩
                    rw [pg, if_neg (by simp)]
                    refine hd0 (d0 + d2) (by omega) _ ?_
                    rw [HDR.out, pgC_hit (u := (sl, rhs)) rfl (pgL_up (by omega) hd2)]
                  · exact grown_far (grown_far (grown_far (HGR2.out.trans HK.out.B.gr) (grownBySet _ b10 _ _) (fun b e => by have := Option.some.inj e; omega)) (grownBySet _ b10 _ _) (fun b e => by have := Option.some.inj e; omega)) (grownBySet _ b10 _ _) (fun b e => by have := Option.some.inj e; omega)
            · have e1 : ((sl : Int) != (yn : Int)) = true := by simp; omega
              have HSL := Lib.hid hsl
              clear hsl
              have cBX := BX.cell
              have fBX := BX.frozen
              have lBX := BX.lt
              have cB7 := B7.cell
              have fB7 := B7.frozen
              have lB7 := B7.lt
              go_wp2_with fail
              refine ⟨⟨i + 1, si, by go_num, by omega, by omega, by omega, HPB5, Lib.hid fun h0 => ?_⟩, by simp [intOf]; omega⟩
              obtain ⟨d0, hd0⟩ := HC.out h0
              refine ⟨d0, fun d hd r h => hd0 d hd r ?_⟩
              rw [HDR.out, pgC_skip HSL.out]; exact h
          · obtain rfl : ng = i := by omega
            have B10 := HPB.out.h10
            have cB10 := B10.cell
            have fB10 := B10.frozen
            have lB10 := B10.lt
            go_wp2_with fail
            refine bodyPost_ret (v := .tuple #[trVal (0, 0, none, 0, 0), .int .i64 0, .bool false]) (by simp [results, Tryd.results19, go_sem, trVal, cB10]) rfl ⟨(0, 0, none, 0, 0), .node 0 [], 0, false, si, rfl, TreeR.mk 0 (Sl.nil 0), ((HPB.out.hs.far (p := ⟨b10, 0, none⟩) (by simp only; omega) _).far (p := ⟨b10, 1, none⟩) (by simp only; omega) _).far (p := ⟨b10, 2, none⟩) (by simp only; omega) _, by omega, by omega, fun h => absurd h (by omega), by omega, by omega, (fun h => by cases h), (fun _ h0 => ?_), ?_⟩
            · obtain ⟨d0, hd0⟩ := HC.out h0
              refine ⟨d0 + 1, ?_⟩
              rw [pg, if_neg (by simp)]
              exact hd0 d0 (Nat.le_refl _) none (by rw [List.drop_eq_nil_of_le (by omega)]; rfl)
            · exact grown_far (grown_far (grown_far (HGR2.out.trans HPB.out.gr) (grownBySet _ b10 _ _) (fun b e => by have := Option.some.inj e; omega)) (grownBySet _ b10 _ _) (fun b e => by have := Option.some.inj e; omega)) (grownBySet _ b10 _ _) (fun b e => by have := Option.some.inj e; omega)
end Go.Proofs.YtfmnmgnhanogmaaDoor

