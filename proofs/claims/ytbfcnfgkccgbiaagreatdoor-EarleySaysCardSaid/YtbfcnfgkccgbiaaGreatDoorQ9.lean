/- Texts VC, laid together. -/
import Derived.Test.YtbfcnfgkccgbiaaGreatDoorQ2
import Derived.Test.YtbfcnfgkccgbiaaGreatDoorQ3
import Derived.Test.YtbfcnfgkccgbiaaGreatDoorQ8
import Derived.Laws.StructEq






namespace Go.Proofs.YtbfcnfgkccgbiaaGreatDoor
open Go.RowKit

/-! ### items as keys of the reference's maps -/
theorem item2_keyed : Maps.Keyed Tryz.prog 48 :=
  Maps.Keyed.of_law (deep_law_laid laidOut3 (m := 3) (by omega) (of_decide_eq_true (by kernel_rfl)) (by kernel_rfl) (by rw [Tryz.underlying48]))
theorem item2_key (x : It3) (h1 : x.r ≤ 1000000000) (h2 : x.d ≤ 1000000000) (h3 : x.f ≤ 1000000000) : ∃ l, keyOf Tryz.prog 48 (itVal x) = some l := by
  have hc : Tryz.prog.cellsOf 48 = 3 := by kernel_rfl
  have hi : Tryz.prog.cellsOf 3 = 1 := by kernel_rfl
  have w1 : (Lit.int .i64 (x.r : Int)).wf = true := WalkArith.wf_i64 (by omega)
  have w2 : (Lit.int .i64 (x.d : Int)).wf = true := WalkArith.wf_i64 (by omega)
  have w3 : (Lit.int .i64 (x.f : Int)).wf = true := WalkArith.wf_i64 (by omega)
  have hf : (itVal x).formed Tryz.prog 48 = true := by simp [Value.formed, Tryz.underlying48, hc, itVal]
  have hk : Tryz.prog.keyLits (Tryz.prog.types.size + 1) 48 [.int .i64 (x.r : Int), .int .i64 (x.d : Int), .int .i64 (x.f : Int)] = some [.int .i64 (x.r : Int), .int .i64 (x.d : Int), .int .i64 (x.f : Int)] := by
    have e : Tryz.prog.types.size + 1 = (Tryz.prog.types.size - 1) + 1 + 1 := by have : 1 ≤ Tryz.prog.types.size := of_decide_eq_true (by kernel_rfl); omega
    rw [e]
    generalize Tryz.prog.types.size - 1 = d
    simp [Program.keyLits, Tryz.underlying48, Tryz.underlying3, hc, hi, w1, w2, w3]
  refine ⟨.string (keyBytes [.int .i64 (x.r : Int), .int .i64 (x.d : Int), .int .i64 (x.f : Int)]), ?_⟩
  unfold keyOf
  rw [Tryz.underlying48]
  simp only [hf, Bool.and_true]
  rw [if_pos (by kernel_rfl)]
  show Option.map _ (Tryz.prog.keyLits _ _ [.int .i64 (x.r : Int), .int .i64 (x.d : Int), .int .i64 (x.f : Int)]) = _
  rw [hk]; rfl
theorem setF3_some {l : List It3} {x : It3} {v : Value} (h : setF3 l x = some v) : x ∈ l := by
  unfold setF3 at h
  by_cases hx : x ∈ l
  · exact hx
  · rw [if_neg hx] at h; cases h
theorem setF3_ins (l : List It3) (x : It3) : (fun z => if z = x then some (.bool true) else setF3 l z) = setF3 (insI l x) := by
  funext z
  unfold setF3
  by_cases hz : z = x
  · rw [if_pos hz, if_pos (insI_mem.2 (Or.inr hz))]
  · rw [if_neg hz]
    by_cases h : z ∈ l
    · rw [if_pos h, if_pos (insI_mem.2 (Or.inl h))]
    · rw [if_neg h, if_neg (fun h' => (insI_mem.1 h').elim h hz)]
theorem MapK.room3 {P : Program} {k : TypeId} {w : World} {b : Nat} {l : List It3} (h : MapK P k itVal w b (setF3 l)) : ∀ es clock, w.heap[b]? = some (.map es clock) → es.size ≤ l.length :=
  h.room (fun y => l.idxOf y) l.length (fun y hy => List.idxOf_lt_length_iff.2 (by
    cases h : setF3 l y with
    | none => exact absurd h hy
    | some v => exact setF3_some h)) (fun y z hy hz e => by
    have h1 : y ∈ l := by
      cases h : setF3 l y with
      | none => exact absurd h hy
      | some v => exact setF3_some h
    have h2 : z ∈ l := by
      cases h : setF3 l z with
      | none => exact absurd h hz
      | some v => exact setF3_some h
    have e1 := List.getElem_idxOf (List.idxOf_lt_length_iff.2 h1)
    have e2 := List.getElem_idxOf (List.idxOf_lt_length_iff.2 h2)
    have e' : l.idxOf y = l.idxOf z := e
    rw [← e1, ← e2]; congr 1)
/-! ### the sets in memory -/
/-- the slice of maps in block bi: the sets L, in the maps ms 0 .. ms n -/
structure MsI (w : World) (bi n : Nat) (ms : Nat → Nat) (L : List (List It3)) : Prop where
  cell : ∀ j, j ≤ n → w.cell? ⟨bi, j, none⟩ = some (.map (some (ms j)))
  map : ∀ j, j ≤ n → MapK Tryz.prog 48 itVal w (ms j) (setF3 (atI L j))
  inj : ∀ j j', j ≤ n → j' ≤ n → ms j = ms j' → j = j'
  ne : ∀ j, j ≤ n → ms j ≠ bi
  len : L.length = n + 1
/-- no block of the maps -/
def NoM (n : Nat) (ms : Nat → Nat) (b : Nat) : Prop := ∀ j, j ≤ n → ms j ≠ b
/-- only the maps have turned, and ranges over them go on -/
structure StpM (n : Nat) (ms : Nat → Nat) (w w' : World) : Prop where
  env : Below 0 w w'
  agr : Agr (NoM n ms) w w'
  itr : ∀ r j need cnt, j ≤ n → NoM n ms r → RngI itVal w r (ms j) need cnt → RngI itVal w' r (ms j) need cnt
section
variable {w w' w'' : World} {bi n : Nat} {ms : Nat → Nat} {L : List (List It3)}
theorem StpM.of (hb : Below w.heap.size w w') : StpM n ms w w' := ⟨hb.mono (Nat.zero_le _), Agr.below hb, fun _ _ _ _ _ _ h => h.via hb⟩
theorem StpM.trans (h : StpM n ms w w') (k : StpM n ms w' w'') : StpM n ms w w'' := ⟨h.env.trans k.env, h.agr.trans k.agr, fun r j need cnt hj hr hi => k.itr r j need cnt hj hr (h.itr r j need cnt hj hr hi)⟩
theorem StpM.aside (h : StpM n ms w w') {r : Nat} (hg : w'.grownBy w'' (some r)) (hr : w.heap.size ≤ r) (hno : NoM n ms r) : StpM n ms w w'' := by
  refine ⟨h.env.trans ⟨hg.os, hg.tape, hg.output, hg.size, fun b hb => absurd hb (Nat.not_lt_zero _)⟩, fun b hb hlt => ?_, fun r' j need cnt hj hr' hi => ?_⟩
  · rw [← h.agr b hb hlt]
    exact hg.block b (Nat.lt_of_lt_of_le hlt h.env.size) (fun e => by have := Option.some.inj e; omega)
  · have h1 := h.itr r' j need cnt hj hr' hi
    exact h1.agr_ (hg.block r' h1.lt.1 (fun e => by have := Option.some.inj e; have := hi.lt.1; omega)) (hg.block _ h1.lt.2 (fun e => hno j hj (Option.some.inj e)))
theorem StpM.below (h : StpM n ms w w') {base : Nat} (hm : ∀ j, j ≤ n → base ≤ ms j) (hb : base ≤ w.heap.size) : Below base w w' :=
  ⟨h.env.os, h.env.tape, h.env.output, h.env.size, fun b hlt => h.agr b (fun j hj e => by have := hm j hj; omega) (by omega)⟩
theorem MsI.via (h : MsI w bi n ms L) (hb : Below w.heap.size w w') : MsI w' bi n ms L :=
  ⟨fun j hj => (World.cell?_of_block (w := w) (a := ⟨bi, j, none⟩) (hb.block bi (World.block_lt_of_cell? w _ (h.cell j hj)))).trans (h.cell j hj), fun j hj => (h.map j hj).via hb, h.inj, h.ne, h.len⟩
theorem MsI.noM (h : MsI w bi n ms L) {b : Nat} (hb : w.heap.size ≤ b) : NoM n ms b := fun j hj e => by have := (h.map j hj).lt; omega
theorem MsI.lt (h : MsI w bi n ms L) : bi < w.heap.size := World.block_lt_of_cell? w _ (h.cell 0 (Nat.zero_le _))
/-- an item has been stored into the k-th map -/
theorem MsI.put (h : MsI w bi n ms L) {k : Nat} (hk : k ≤ n) {x : It3} (hm : MapK Tryz.prog 48 itVal w' (ms k) (fun z => if z = x then some (.bool true) else setF3 (atI L k) z)) (hg : w.grownBy w' (some (ms k))) : MsI w' bi n ms (putI L k x) := by
  refine ⟨fun j hj => ?_, fun j hj => ?_, h.inj, h.ne, putI_len.trans h.len⟩
  · exact (World.cell?_of_block (w := w) (a := ⟨bi, j, none⟩) (hg.block bi h.lt (fun e => h.ne k hk (Option.some.inj e).symm))).trans (h.cell j hj)
  · rw [atI_putI (by rw [h.len]; omega)]
    by_cases e : j = k
    · subst e; rw [if_pos rfl, ← setF3_ins]; exact hm
    · rw [if_neg e]; exact (h.map j hj).grown hg (fun e' => e (h.inj j k hj hk (Option.some.inj e')))
theorem StpM.put (h : MsI w bi n ms L) {k : Nat} (hk : k ≤ n) (hg : w.grownBy w' (some (ms k))) (hsz : w'.heap.size = w.heap.size) (hr : ∀ r need cnt, r ≠ ms k → RngI itVal w r (ms k) need cnt → RngI itVal w' r (ms k) need cnt) : StpM n ms w w' := by
  refine ⟨⟨hg.os, hg.tape, hg.output, by omega, fun b hb => absurd hb (Nat.not_lt_zero _)⟩, Agr.grown hg fun b hb e => hb k hk (Option.some.inj e).symm, fun r j need cnt hj hno hi => ?_⟩
  by_cases e : j = k
  · subst e; exact hr r need cnt (fun e => hno j hj e.symm) hi
  · exact hi.agr_ (hg.block r hi.lt.1 (fun e' => hno k hk (Option.some.inj e').symm)) (hg.block _ hi.lt.2 (fun e' => e (h.inj j k hj hk (Option.some.inj e'))))
end
theorem sy_eql (a b : Bool) (x y : Nat) (w : World) : (binOp .eql 66 (.agg #[.bool a, .int .i64 (x : Int)]) (.agg #[.bool b, .int .i64 (y : Int)])).run Tryz.prog w = .ok (.bool (decide ((a, x) = (b, y)))) w := by
  simp [go_sem]
  by_cases h1 : a = b <;> by_cases h2 : x = y <;> simp [h1, h2]
  omega
theorem lft_at {R : List Ru} {x : It3} {u : Ru} (h : R[x.r]? = some u) : lftI R x = u.1 := by unfold lftI; rw [h]
theorem nxt_at {R : List Ru} {x : It3} {u : Ru} (h : R[x.r]? = some u) : nxtI R x = u.2[x.d]? := by unfold nxtI; rw [h]
/-- what one step gives -/
def Stp2P (R : List Ru) (s : Nat) (xw : List Nat) (bi n : Nat) (ms : Nat → Nat) (L : List (List It3)) (k : Nat) (x : It3) (w : World) (e : Ending) (w' : World) : Prop :=
  e = .returned (.tuple #[]) ∧ ∃ L', MsI w' bi n ms L' ∧ ExtI L L' ∧ SndI R s xw L' ∧ CnsI R xw k x L L' ∧ (∀ j, j ≠ k → j ≠ k + 1 → atI L' j = atI L j) ∧ StpM n ms w w'
set_option maxRecDepth 100000 in
set_option maxHeartbeats 8000000 in
theorem step2_c (g : Gr) (Ag : Option Addr) (ng cg : Nat) (A : Option Addr) (cw : Nat) (xs : List Int) (xw : List Nat) (bi n : Nat) (ms : Nat → Nat) (L : List (List It3)) (k : Nat) (x : It3) (w : World) (hl : Sl RuE (NoM n ms) w Ag ng cg g.rules) (hx : Sl InE (NoM n ms) w A n cw xs)
    (hR : g.rules.length ≤ 32) (h4 : ∀ u ∈ g.rules, u.2.length ≤ 4) (hn : n ≤ 12) (hM : MsI w bi n ms L) (hS : SndI g.rules g.start xw L) (hxw : ∀ (i t : Nat), xs[i]? = some (t : Int) ↔ xw[i]? = some t) (hk : k ≤ n) (hxm : x ∈ atI L k) :
    Calls Tryz.prog 37 #[grVal g Ag ng cg, .slice A n cw, .slice (some ⟨bi, 0, none⟩) (n + 1) (n + 1), .int .i64 (k : Int), itVal x] w (Stp2P g.rules g.start xw bi n ms L k x w) := by
  have hxok := (hS.ok k x hxm).ok
  obtain ⟨hxf, u, hxu, hxd⟩ := hxok
  have hRn : ng ≤ 32 := by have := hl.len; omega
  have hxr : x.r < ng := by have := (List.getElem?_eq_some_iff.1 hxu).1; have := hl.len; omega
  have hu4 := h4 u (List.mem_of_getElem? hxu)
  have hxl := hx.len
  have hal := ((Below.refl w.heap.size w).al (.cells #[.int .i64 (g.terms : Int), .int .i64 (g.nons : Int), .int .i64 (g.start : Int), .slice Ag ng cg] 24)).al (.cells #[.int .i64 (x.r : Int), .int .i64 (x.d : Int), .int .i64 (x.f : Int)] 48)
  have HBG := Lib.hid ((Blk.new w 24 #[.int .i64 (g.terms : Int), .int .i64 (g.nons : Int), .int .i64 (g.start : Int), .slice Ag ng cg]).al (.cells #[.int .i64 (x.r : Int), .int .i64 (x.d : Int), .int .i64 (x.f : Int)] 48))
  have HBX := Lib.hid (Blk.newAt (w.alloc (.cells #[.int .i64 (g.terms : Int), .int .i64 (g.nons : Int), .int .i64 (g.start : Int), .slice Ag ng cg] 24)) 48 #[.int .i64 (x.r : Int), .int .i64 (x.d : Int), .int .i64 (x.f : Int)] (w.heap.size + 1) (by simp))
  have HNG := Lib.hid (hM.noM (Nat.le_refl w.heap.size))
  have HNX := Lib.hid (hM.noM (Nat.le_succ w.heap.size))
  have HL := Lib.hid (hl.via hal)
  have HX := Lib.hid (hx.via hal)
  have HM := Lib.hid (hM.via hal)
  have HS := Lib.hid hS
  have HST := Lib.hid (StpM.of (n := n) (ms := ms) hal)
  have HXW := Lib.hid hxw
  have HXM := Lib.hid hxm
  have HXU := Lib.hid hxu
  have H4 := Lib.hid h4
  clear hl hx hM hS hal hxw hxm h4
  simp only [grVal, itVal]
  have BG := HBG.out
  have BX := HBX.out
  go_enter Tryz.func37, Tryz.ntmps37
  have cBG := BG.cell
  have fBG := BG.frozen
  have lBG := BG.lt
  have cBX := BX.cell
  have fBX := BX.frozen
  have lBX := BX.lt
  go_upto_region 1 with fail
  generalize (w.alloc (.cells #[.int .i64 (g.terms : Int), .int .i64 (g.nons : Int), .int .i64 (g.start : Int), .slice Ag ng cg] 24)).alloc (.cells #[.int .i64 (x.r : Int), .int .i64 (x.d : Int), .int .i64 (x.f : Int)] 48) = W at *
  obtain ⟨b1, o1, ⟨xl, xA, xn, xc⟩, u', rfl, hbb, hb1, hy, ⟨e1, hsy⟩, hc⟩ := HL.out.at_ hxr
  obtain rfl : u = u' := Option.some.inj (hxu.symm.trans hy)
  simp only at e1 hsy
  have r0 := hc 0 _ rfl
  have r1 := hc 1 _ rfl
  simp only [RuE, Nat.add_zero] at r0 r1
  have i0 : (0 : Int) ≤ (x.r : Int) := by omega
  have i1 : (x.r : Int) < (ng : Int) := by omega
  have HE := Lib.hid e1
  have HSY := Lib.hid hsy
  have hsl := hsy.len
  clear hc hy e1 hsy
  by_cases hd : x.d = xn
  · have ed : ((x.d : Int) == (xn : Int)) = true := by simp [hd]
    have HNX0 := Lib.hid (show nxtI g.rules x = none from by
      unfold nxtI; rw [HXU.out]; exact List.getElem?_eq_none (by omega))
    have hfn : x.f ≤ n := Nat.le_trans hxf hk
    have cm := HM.out.cell x.f hfn
    have hmk := HM.out.map x.f hfn
    have f0 : (0 : Int) ≤ (x.f : Int) := by omega
    have f1 : (x.f : Int) < (n : Int) + 1 := by omega
    go_wp2_with (at_range; refine wpList_range_I rfl 94 4 Tryz.underlying94 _ rfl (ms x.f) rfl hmk ?_)
    intro w1 hr1 hb1 hz1
    go_wp2_with fail
    have HM1 := Lib.hid (HM.out.via hb1)
    have HRG1 := Lib.hid hr1
    have HSW1 := Lib.hid (StpM.of (n := n) (ms := ms) hb1)
    have HNB := Lib.hid (HM.out.noM (Nat.le_refl W.heap.size))
    have hne : W.heap.size ≠ ms x.f := fun e => HNB.out x.f hfn e.symm
    have HBI := Lib.hid HM.out.lt
    clear hmk cm hr1 hb1 ed r1
    obtain ⟨br, hbr⟩ : ∃ br, br = W.heap.size := ⟨_, rfl⟩
    rw [← hbr] at HRG1 HNB hne HBI ⊢
    have HBR := Lib.hid hbr
    clear hbr hz1
    go_loopw [11] (fun _ wr => ∃ (L' : List (List It3)) (need : It3 → Bool) (cnt : Nat), Hid (MsI wr bi n ms L' ∧ ExtI L L' ∧ SndI g.rules g.start xw L' ∧ (∀ j, j ≠ k → atI L' j = atI L j) ∧ RngI itVal wr br (ms x.f) need cnt ∧ ∀ y, y ∈ atI L x.f → nxtI g.rules y = some (false, lftI g.rules x) → need y = true ∨ (⟨y.r, y.d + 1, y.f⟩ : It3) ∈ atI L' k) ∧ Hid (StpM n ms W wr)) (fun _ wr => 100001 - World.rngSeen wr br)
    case atStart => exact ⟨L, _, 0, Lib.hid ⟨HM1.out, ExtI.refl L, HS.out, fun _ _ => rfl, HRG1.out, fun y hy _ => Or.inl (by show (setF3 (atI L x.f) y).isSome = true; unfold setF3; rw [if_pos hy]; rfl)⟩, HSW1⟩
    case round =>
      obtain ⟨L', need, cnt, HQ, HSW⟩ := hrel
      clear HM1 HRG1 HSW1
      go_wp2_with (at_next; refine wpList_next_I rfl _ rfl br (ms x.f) need cnt rfl HQ.out.2.2.2.2.1 (HQ.out.1.map x.f hfn) itVal_inj hne ?_ ?_)
      · intro w9 hd hbd hhd
        have HD := Lib.hid hd
        have HBD := Lib.hid hbd
        clear hd hbd hhd
        go_wp2_with fail
        refine bodyPost_ret (v := .tuple #[]) (by simp [results, Tryz.results37, go_sem]) rfl ⟨rfl, L', HQ.out.1.via HBD.out, HQ.out.2.1, HQ.out.2.2.1, ⟨fun r u' hr hn => ?_, fun _ y hy hy2 => ?_, fun t hn => ?_⟩, fun j hj _ => HQ.out.2.2.2.1 j hj, (HST.out.trans HSW.out).trans (StpM.of HBD.out)⟩
        · rw [HNX0.out] at hn; cases hn
        · rcases HQ.out.2.2.2.2.2 y hy hy2 with h | h
          · rw [HD.out y] at h; cases h
          · exact h
        · rw [HNX0.out] at hn; cases hn
      · intro y v w9 hf hrg hgr hsz hen
        obtain ⟨yr, yd, yf⟩ := y
        have hym := setF3_some hf
        obtain ⟨hyf, uy, hyu, hyd⟩ := (HQ.out.2.2.1.ok x.f _ hym).ok
        have hal := (Below.refl w9.heap.size w9).al (.cells #[.int .i64 (yr : Int), .int .i64 (yd : Int), .int .i64 (yf : Int)] 48)
        have hmb : ∀ j, j ≤ n → br ≠ ms j := fun j hj e => HNB.out j hj e.symm
        have HSN := Lib.hid ((HSW.out.aside hgr (by rw [HBR.out]; exact Nat.le_refl _) HNB.out).trans (StpM.of hal))
        have HRN := Lib.hid (hrg.via hal)
        have HMN := Lib.hid (show MsI (w9.alloc (.cells #[.int .i64 (yr : Int), .int .i64 (yd : Int), .int .i64 (yf : Int)] 48)) bi n ms L' from MsI.via ⟨fun j hj => (World.cell?_of_block (w := wr) (a := ⟨bi, j, none⟩) (hgr.block bi HQ.out.1.lt (fun e => by have := Option.some.inj e; have := HBI.out; omega))).trans (HQ.out.1.cell j hj), fun j hj => (HQ.out.1.map j hj).grown hgr (fun e => hmb j hj (Option.some.inj e).symm), HQ.out.1.inj, HQ.out.1.ne, HQ.out.1.len⟩ hal)
        have BY := Blk.new w9 48 #[.int .i64 (yr : Int), .int .i64 (yd : Int), .int .i64 (yf : Int)]
        have HYM := Lib.hid hym
        have HYU := Lib.hid hyu
        have HFU := Lib.hid hyf
        have hyr : yr < ng := by have := (List.getElem?_eq_some_iff.1 hyu).1; have := HL.out.len; simp only at *; omega
        have huy4 := H4.out uy (List.mem_of_getElem? hyu)
        simp only at hyd hyf
        simp only [itVal] at hen
        have HSZ := Lib.hid hsz
        clear hal hgr hrg hf hsz hym hyu hmb hyf
        have cBY := BY.cell
        have fBY := BY.frozen
        have lBY := BY.lt
        go_upto_region 6 with fail
        clear cBY fBY lBY
        clear hen
        have HBY := Lib.hid BY
        generalize w9.alloc (.cells #[.int .i64 (yr : Int), .int .i64 (yd : Int), .int .i64 (yf : Int)] 48) = wx at *
        generalize w9.heap.size = bx at *
        have HBGX := Lib.hid (show Blk wx w.heap.size 24 #[.int .i64 (g.terms : Int), .int .i64 (g.nons : Int), .int .i64 (g.start : Int), .slice (some ⟨b1, o1, none⟩) ng cg] from (HSN.out.agr _ HNG.out HBG.out.lt).trans HBG.out)
        have HBXX := Lib.hid (show Blk wx (w.heap.size + 1) 48 #[.int .i64 (x.r : Int), .int .i64 (x.d : Int), .int .i64 (x.f : Int)] from (HSN.out.agr _ HNX.out HBX.out.lt).trans HBX.out)
        obtain ⟨b2, o2, ⟨yl, yA, yn, yc⟩, u2, hb2, hbb2, hlt2, hy2, ⟨e2, hsy2⟩, hc2⟩ := (HL.out.agr HSN.out.agr).at_ hyr
        cases hb2
        obtain rfl : uy = u2 := Option.some.inj (HYU.out.symm.trans hy2)
        simp only at e2 hsy2
        have q1 := hc2 1 _ rfl
        simp only [RuE] at q1
        have p0 : wx.cell? ⟨b1, o1 + x.r * 2, none⟩ = some (.int .i64 (xl : Int)) := HSN.out.agr.cell (ok := NoM n ms) hbb r0
        have HSY2 := Lib.hid hsy2
        have hyl := hsy2.len
        have BGx := HBGX.out
        have BXx := HBXX.out
        have BYx := HBY.out
        have y0 : (0 : Int) ≤ (yr : Int) := by omega
        have y1 : (yr : Int) < (ng : Int) := by omega
        clear hc2 hy2 hsy2 hbb2
        have cBGx := BGx.cell
        have fBGx := BGx.frozen
        have lBGx := BGx.lt
        have cBYx := BYx.cell
        have fBYx := BYx.frozen
        have lBYx := BYx.lt
        go_upto_region 7 with fail
        clear cBGx fBGx lBGx cBYx fBYx lBYx
        clear q1
        by_cases hydl : yd < yn
        · obtain ⟨b3, o3, ⟨tb, tn⟩, s3, rfl, -, hlt3, hs3, hr3, hc3⟩ := HSY2.out.at_ hydl
          obtain rfl : (tb, tn) = s3 := hr3
          have s0 := hc3 0 _ rfl
          have s1 := hc3 1 _ rfl
          simp only [SyE, Nat.add_zero] at s0 s1
          have g0 : decide ((yd : Int) < (yn : Int)) = true := by simp; omega
          have d0 : (0 : Int) ≤ (yd : Int) := by omega
          have d1 : (yd : Int) < (yn : Int) := by omega
          have hse := fun wz => sy_eql tb false tn xl wz
          have HNY := Lib.hid (show nxtI g.rules ⟨yr, yd, yf⟩ = some (tb, tn) by rw [nxt_at HYU.out]; exact hs3)
          clear hc3 hs3
          by_cases hc : (tb, tn) = (false, xl)
          · have h1 := congrArg Prod.fst hc
            have h2 := congrArg Prod.snd hc
            simp only at h1 h2
            subst h1 h2
            simp only [decide_true] at hse
            clear hc
            have cBGx := BGx.cell
            have fBGx := BGx.frozen
            have lBGx := BGx.lt
            have cBXx := BXx.cell
            have fBXx := BXx.frozen
            have lBXx := BXx.lt
            have cBYx := BYx.cell
            have fBYx := BYx.frozen
            have lBYx := BYx.lt
            go_quiet (fail)
            clear cBGx fBGx lBGx cBXx fBXx lBXx cBYx fBYx lBYx
            clear BGx BXx BYx hse s0 s1 g0 p0
            have HDQ := Lib.hid (below_drewN (Below.refl wx.heap.size wx) nq)
            have HMQ := Lib.hid (HMN.out.via HDQ.out)
            have HRQ := Lib.hid (HRN.out.via HDQ.out)
            have HSQ := Lib.hid (HSN.out.trans (StpM.of HDQ.out))
            have BYQ := HBY.out.via HDQ.out
            clear HMN HRN HSN HBY HDQ HBGX HBXX
            generalize wx.drewN nq = wq at *
            have cm := HMQ.out.cell k hk
            have k0 : (0 : Int) ≤ (k : Int) := by omega
            have k1 : (k : Int) < (n : Int) + 1 := by omega
            have e9 : IntKind.i64.wrap ((yd : Int) + 1) = (yd : Int) + 1 := IntWalk.i64_in _ (by omega)
            have cBYQ := BYQ.cell
            have fBYQ := BYQ.frozen
            have lBYQ := BYQ.lt
            go_upto_region 8 with fail
            go_still_tail 12, (by kernel_rfl)
            clear cBYQ fBYQ lBYQ
            clear cm e9 BYQ
            have HMX := Lib.hid (HMQ.out.via (Below.refl wq.heap.size wq).drew)
            have HRX := Lib.hid (HRQ.out.via (Below.refl wq.heap.size wq).drew)
            have HSX := Lib.hid (HSQ.out.trans (StpM.of (Below.refl wq.heap.size wq).drew))
            change wpList _ _ _ _ _ wq.drew
            clear HMQ HRQ HSQ
            generalize wq.drew = wz at *
            obtain ⟨kl, hkl⟩ := item2_key ⟨yr, yd + 1, yf⟩ (by simp only; omega) (by simp only; omega) (by have := HFU.out; simp only at *; omega)
            have HKL := Lib.hid hkl
            have HLN := Lib.hid (show ∀ j, j ≤ n → (atI L' j).length ≤ 100000 from fun j hj => lenI hR H4.out (show j ≤ 100 by omega) (HQ.out.2.2.1.nd j) (fun z hz => (HQ.out.2.2.1.ok j z hz).ok))
            have HRM := Lib.hid (show ∀ es clock, wz.heap[ms k]? = some (.map es clock) → es.size < maxLen from fun es clock he => by
              have := (HMX.out.map k hk).room3 es clock he
              have h2 := HLN.out k hk
              simp only [maxLen]; omega)
            have hmk := HMX.out.map k hk
            clear hkl
            go_wp2_with (at_mapUpdate; refine wpList_put_I rfl item2_keyed 94 Tryz.underlying94 itVal_inj _ _ _ rfl (ms k) ⟨yr, yd + 1, yf⟩ (.bool true) rfl rfl rfl hmk HKL.out HRM.out ?_)
            intro wp hm9 hg9 hz9 hr9
            have HMP := Lib.hid (HMX.out.put hk hm9 hg9)
            have hsp := StpM.put HMX.out hk hg9 hz9 hr9
            have HSP := Lib.hid (HSX.out.trans hsp)
            have HRP := Lib.hid (hsp.itr br x.f _ _ hfn HNB.out HRX.out)
            have hkL : k < L'.length := by rw [HQ.out.1.len]; omega
            clear hm9 hg9 hz9 hr9 hsp hmk
            go_wp2_with fail
            refine ⟨⟨putI L' k ⟨yr, yd + 1, yf⟩, _, cnt + 1, Lib.hid ⟨HMP.out, HQ.out.2.1.trans (putI_ext hkL), HQ.out.2.2.1.put hkL (.comp k x ⟨yr, yd, yf⟩ (HS.out.ok k x HXM.out) (HQ.out.2.2.1.ok x.f _ HYM.out) HNX0.out (by rw [HNY.out, lft_at HXU.out, HE.out])), fun j hj => by rw [atI_putI hkL, if_neg hj]; exact HQ.out.2.2.2.1 j hj, HRP.out, fun y hy hy2 => ?_⟩, HSP⟩, ?_⟩
            · by_cases he : y = ⟨yr, yd, yf⟩
              · subst he; exact Or.inr (putI_mem hkL)
              · rcases HQ.out.2.2.2.2.2 y hy hy2 with h | h
                · exact Or.inl (by simp [h, he])
                · exact Or.inr ((putI_ext hkL).mem h)
            · rw [HRP.out.cnt_eq, HQ.out.2.2.2.2.1.cnt_eq]
              have h1 := HQ.out.2.2.2.2.1.le (HQ.out.1.map x.f hfn).room3
              have h2 := HLN.out x.f hfn
              omega
          · have hse2 : ∀ wz, (binOp .eql 66 (.agg #[.bool tb, .int .i64 (tn : Int)]) (.agg #[.bool false, .int .i64 (xl : Int)])).run Tryz.prog wz = .ok (.bool false) wz := fun wz => by rw [hse wz, decide_eq_false hc]
            have HNC := Lib.hid (show ¬ nxtI g.rules ⟨yr, yd, yf⟩ = some (false, lftI g.rules x) from fun e => by
              rw [HNY.out, lft_at HXU.out, ← HE.out] at e
              exact hc (Option.some.inj e))
            clear hc hse
            have cBGx := BGx.cell
            have fBGx := BGx.frozen
            have lBGx := BGx.lt
            have cBXx := BXx.cell
            have fBXx := BXx.frozen
            have lBXx := BXx.lt
            have cBYx := BYx.cell
            have fBYx := BYx.frozen
            have lBYx := BYx.lt
            go_quiet (fail)
            clear cBGx fBGx lBGx cBXx fBXx lBXx cBYx fBYx lBYx
            clear BGx BXx BYx g0 p0
            have HDQ := Lib.hid (below_drewN (Below.refl wx.heap.size wx) nq)
            have HMQ := Lib.hid (HMN.out.via HDQ.out)
            have HRQ := Lib.hid (HRN.out.via HDQ.out)
            have HSQ := Lib.hid (HSN.out.trans (StpM.of HDQ.out))
            have HLN := Lib.hid (show ∀ j, j ≤ n → (atI L' j).length ≤ 100000 from fun j hj => lenI hR H4.out (show j ≤ 100 by omega) (HQ.out.2.2.1.nd j) (fun z hz => (HQ.out.2.2.1.ok j z hz).ok))
            clear HMN HRN HSN HBY HDQ HBGX HBXX
            generalize wx.drewN nq = wq at *
            go_wp2_with fail
            refine ⟨⟨L', _, cnt + 1, Lib.hid ⟨HMQ.out, HQ.out.2.1, HQ.out.2.2.1, HQ.out.2.2.2.1, HRQ.out, fun y hy hy2 => ?_⟩, HSQ⟩, ?_⟩
            · by_cases he : y = ⟨yr, yd, yf⟩
              · subst he; exact absurd hy2 HNC.out
              · rcases HQ.out.2.2.2.2.2 y hy hy2 with h | h
                · exact Or.inl (by simp [h, he])
                · exact Or.inr h
            · rw [HRQ.out.cnt_eq, HQ.out.2.2.2.2.1.cnt_eq]
              have h1 := HQ.out.2.2.2.2.1.le (HQ.out.1.map x.f hfn).room3
              have h2 := HLN.out x.f hfn
              omega
        · have hydl2 : ¬ ((yd : Int) < (yn : Int)) := by omega
          have g0 : decide ((yd : Int) < (yn : Int)) = false := by simp; omega
          have HNC := Lib.hid (show ¬ nxtI g.rules ⟨yr, yd, yf⟩ = some (false, lftI g.rules x) from fun e => by
            rw [nxt_at HYU.out, List.getElem?_eq_none (by simp only; omega)] at e
            cases e)
          have cBGx := BGx.cell
          have fBGx := BGx.frozen
          have lBGx := BGx.lt
          have cBXx := BXx.cell
          have fBXx := BXx.frozen
          have lBXx := BXx.lt
          have cBYx := BYx.cell
          have fBYx := BYx.frozen
          have lBYx := BYx.lt
          go_quiet (fail)
          clear cBGx fBGx lBGx cBXx fBXx lBXx cBYx fBYx lBYx
          clear BGx BXx BYx g0 p0
          have HDQ := Lib.hid (below_drewN (Below.refl wx.heap.size wx) nq)
          have HMQ := Lib.hid (HMN.out.via HDQ.out)
          have HRQ := Lib.hid (HRN.out.via HDQ.out)
          have HSQ := Lib.hid (HSN.out.trans (StpM.of HDQ.out))
          have HLN := Lib.hid (show ∀ j, j ≤ n → (atI L' j).length ≤ 100000 from fun j hj => lenI hR H4.out (show j ≤ 100 by omega) (HQ.out.2.2.1.nd j) (fun z hz => (HQ.out.2.2.1.ok j z hz).ok))
          clear HMN HRN HSN HBY HDQ HBGX HBXX
          generalize wx.drewN nq = wq at *
          go_wp2_with fail
          refine ⟨⟨L', _, cnt + 1, Lib.hid ⟨HMQ.out, HQ.out.2.1, HQ.out.2.2.1, HQ.out.2.2.2.1, HRQ.out, fun y hy hy2 => ?_⟩, HSQ⟩, ?_⟩
          · by_cases he : y = ⟨yr, yd, yf⟩
            · subst he; exact absurd hy2 HNC.out
            · rcases HQ.out.2.2.2.2.2 y hy hy2 with h | h
              · exact Or.inl (by simp [h, he])
              · exact Or.inr h
          · rw [HRQ.out.cnt_eq, HQ.out.2.2.2.2.1.cnt_eq]
            have h1 := HQ.out.2.2.2.2.1.le (HQ.out.1.map x.f hfn).room3
            have h2 := HLN.out x.f hfn
            omega
  · have ed : ((x.d : Int) == (xn : Int)) = false := by simp; omega
    have hdl : x.d < xn := by omega
    obtain ⟨b3, o3, ⟨tb, tn⟩, s3, rfl, hb3, hlt3, hs3, hr3, hc3⟩ := HSY.out.at_ hdl
    obtain rfl : (tb, tn) = s3 := hr3
    have s0 := hc3 0 _ rfl
    have s1 := hc3 1 _ rfl
    simp only [SyE, Nat.add_zero] at s0 s1
    have d0 : (0 : Int) ≤ (x.d : Int) := by omega
    have d1 : (x.d : Int) < (xn : Int) := by omega
    have HNX1 := Lib.hid (show nxtI g.rules x = some (tb, tn) by rw [nxt_at HXU.out]; exact hs3)
    have HB3 := Lib.hid hb3
    have HS1 := Lib.hid s1
    have HLT3 := Lib.hid hlt3
    have hkL : k < L.length := by rw [HM.out.len]; omega
    clear hc3 hs3 hb3 hlt3
    cases tb with
    | false =>
      go_wp2_with fail
      clear r0 r1 s0 s1 ed
      go_loopw [89] (fun q wr => ∃ (i : Nat) (L' : List (List It3)), q = .int .i64 (i : Int) ∧ i ≤ ng ∧ Hid (MsI wr bi n ms L' ∧ ExtI L L' ∧ SndI g.rules g.start xw L' ∧ (∀ j, j ≠ k → atI L' j = atI L j) ∧ ∀ r u', r < i → g.rules[r]? = some u' → u'.1 = tn → (⟨r, 0, k⟩ : It3) ∈ atI L' k) ∧ Hid (StpM n ms W wr)) (fun q _ => ng - (intOf q).toNat)
      case atStart => exact ⟨0, L, rfl, Nat.zero_le _, Lib.hid ⟨HM.out, ExtI.refl L, HS.out, fun _ _ => rfl, fun r u' h => absurd h (Nat.not_lt_zero _)⟩, Lib.hid (StpM.of (Below.refl _ _))⟩
      case round =>
        obtain ⟨i, L', rfl, hi, HQ, HSW⟩ := hrel
        by_cases hin : i < ng
        · obtain ⟨b2, o2, ⟨rl, rA, rn, rc⟩, u2, hb2, hbb2, hlt2, hy2, ⟨e2, -⟩, hc2⟩ := (HL.out.agr HSW.out.agr).at_ hin
          cases hb2
          simp only at e2
          have q0 := hc2 0 _ rfl
          have q1 := hc2 1 _ rfl
          simp only [RuE, Nat.add_zero] at q0 q1
          have j0 : (0 : Int) ≤ (i : Int) := by omega
          have j1 : (i : Int) < (ng : Int) := by omega
          have HU2 := Lib.hid hy2
          have HE2 := Lib.hid e2
          have hal := (Below.refl wr.heap.size wr).al (.cells #[.int .i64 (rl : Int), .slice rA rn rc] 97)
          have BR := Blk.new wr 97 #[.int .i64 (rl : Int), .slice rA rn rc]
          have HSN := Lib.hid (HSW.out.trans (StpM.of hal))
          have HMN := Lib.hid (HQ.out.1.via hal)
          clear hc2 hy2 e2 hal hbb2 hlt2
          have cBR := BR.cell
          have fBR := BR.frozen
          have lBR := BR.lt
          go_upto_region 13 with fail
          clear cBR fBR lBR
          clear q0 q1
          generalize wr.alloc (.cells #[.int .i64 (rl : Int), .slice rA rn rc] 97) = wx at *
          generalize wr.heap.size = bx at *
          have BXx : Blk wx (w.heap.size + 1) 48 #[.int .i64 (x.r : Int), .int .i64 (x.d : Int), .int .i64 (x.f : Int)] := (HSN.out.agr _ HNX.out HBX.out.lt).trans HBX.out
          have p1 : wx.cell? ⟨b3, o3 + x.d * 2 + 1, none⟩ = some (.int .i64 (tn : Int)) := HSN.out.agr.cell (ok := NoM n ms) HB3.out HS1.out
          by_cases hrt : rl = tn
          · subst hrt
            have eq1 : ((rl : Int) == (rl : Int)) = true := by simp
            have cBR := BR.cell
            have fBR := BR.frozen
            have lBR := BR.lt
            have cBXx := BXx.cell
            have fBXx := BXx.frozen
            have lBXx := BXx.lt
            go_quiet (fail)
            clear cBR fBR lBR cBXx fBXx lBXx
            clear BR BXx p1 eq1
            have HDQ := Lib.hid (below_drewN (Below.refl wx.heap.size wx) nq)
            have HMQ := Lib.hid (HMN.out.via HDQ.out)
            have HSQ := Lib.hid (HSN.out.trans (StpM.of HDQ.out))
            clear HMN HSN HDQ
            generalize wx.drewN nq = wz at *
            have cm := HMQ.out.cell k hk
            have hmk := HMQ.out.map k hk
            have k0 : (0 : Int) ≤ (k : Int) := by omega
            have k1 : (k : Int) < (n : Int) + 1 := by omega
            obtain ⟨kl, hkl⟩ := item2_key ⟨i, 0, k⟩ (by simp only; omega) (by simp only; omega) (by simp only; omega)
            have HKL := Lib.hid hkl
            have HRM := Lib.hid (show ∀ es clock, wz.heap[ms k]? = some (.map es clock) → es.size < maxLen from fun es clock he => by
              have := (HMQ.out.map k hk).room3 es clock he
              have h2 := lenI hR H4.out (show k ≤ 100 by omega) (HQ.out.2.2.1.nd k) (fun z hz => (HQ.out.2.2.1.ok k z hz).ok)
              simp only [maxLen]; omega)
            clear hkl
            go_wp2_with (at_mapUpdate; refine wpList_put_I rfl item2_keyed 94 Tryz.underlying94 itVal_inj _ _ _ rfl (ms k) ⟨i, 0, k⟩ (.bool true) rfl rfl rfl hmk HKL.out HRM.out ?_)
            intro wp hm9 hg9 hz9 hr9
            have HMP := Lib.hid (HMQ.out.put hk hm9 hg9)
            have HSP := Lib.hid (HSQ.out.trans (StpM.put HMQ.out hk hg9 hz9 hr9))
            have hkL' : k < L'.length := by rw [HQ.out.1.len]; omega
            clear hm9 hg9 hz9 hr9 hmk cm
            go_wp2_with fail
            refine ⟨⟨i + 1, putI L' k ⟨i, 0, k⟩, by go_num, by omega, Lib.hid ⟨HMP.out, HQ.out.2.1.trans (putI_ext hkL'), HQ.out.2.2.1.put hkL' (.pred k x i u2 (HS.out.ok k x HXM.out) HU2.out (by rw [HNX1.out, HE2.out])), fun j hj => by rw [atI_putI hkL', if_neg hj]; exact HQ.out.2.2.2.1 j hj, fun r u' hr hu' hu2 => ?_⟩, HSP⟩, by simp [intOf]; omega⟩
            by_cases hri : r = i
            · subst hri; exact putI_mem hkL'
            · exact (putI_ext hkL').mem (HQ.out.2.2.2.2 r u' (by omega) hu' hu2)
          · have eq1 : ((rl : Int) == (tn : Int)) = false := by simp; omega
            have cBR := BR.cell
            have fBR := BR.frozen
            have lBR := BR.lt
            have cBXx := BXx.cell
            have fBXx := BXx.frozen
            have lBXx := BXx.lt
            go_quiet (fail)
            clear cBR fBR lBR cBXx fBXx lBXx
            clear BR BXx p1 eq1
            have HDQ := Lib.hid (below_drewN (Below.refl wx.heap.size wx) nq)
            have HMQ := Lib.hid (HMN.out.via HDQ.out)
            have HSQ := Lib.hid (HSN.out.trans (StpM.of HDQ.out))
            have HRT := Lib.hid hrt
            clear HMN HSN HDQ hrt
            generalize wx.drewN nq = wz at *
            go_wp2_with fail
            refine ⟨⟨i + 1, L', by go_num, by omega, Lib.hid ⟨HMQ.out, HQ.out.2.1, HQ.out.2.2.1, HQ.out.2.2.2.1, fun r u' hr hu' hu2 => ?_⟩, HSQ⟩, by simp [intOf]; omega⟩
            by_cases hri : r = i
            · subst hri
              have := Option.some.inj (hu'.symm.trans HU2.out)
              subst this
              exact absurd (HE2.out.trans hu2) HRT.out
            · exact HQ.out.2.2.2.2 r u' (by omega) hu' hu2
        · obtain rfl : i = ng := by omega
          go_wp2_with fail
          refine bodyPost_ret (v := .tuple #[]) (by simp [results, Tryz.results37, go_sem]) rfl ⟨rfl, L', HQ.out.1, HQ.out.2.1, HQ.out.2.2.1, ⟨fun r u' hr hn => ?_, fun h0 => ?_, fun t hn => ?_⟩, fun j hj _ => HQ.out.2.2.2.1 j hj, HST.out.trans HSW.out⟩
          · rw [HNX1.out] at hn
            exact HQ.out.2.2.2.2 r u' (by have := (List.getElem?_eq_some_iff.1 hr).1; have := HL.out.len; omega) hr (congrArg Prod.snd (Option.some.inj hn)).symm
          · rw [HNX1.out] at h0; cases h0
          · rw [HNX1.out] at hn; cases hn
    | true =>
      have hlw := HX.out.len
      by_cases hkn : k < n
      · obtain ⟨b4, o4, hA4, hb4, hc4⟩ := HX.out.intsIn.at_ hkn
        subst hA4
        obtain ⟨v, hv⟩ : ∃ v, v = xs.getD k 0 := ⟨_, rfl⟩
        rw [← hv] at hc4
        have HV := Lib.hid (show xs[k]? = some v from by
          rw [hv, List.getD_eq_getElem?_getD, List.getElem?_eq_getElem (by omega)]; rfl)
        have k0 : (0 : Int) ≤ (k : Int) := by omega
        have k1 : (k : Int) < (n : Int) := by omega
        have k2 : decide ((k : Int) < (n : Int)) = true := by simp; omega
        clear hv
        by_cases hvt : v = (tn : Int)
        · have e1 : (v == (tn : Int)) = true := by simp [hvt]
          have HVT := Lib.hid hvt
          clear hvt
          go_upto_region 16 with fail
          go_quiet (fail)
          clear r0 r1 s0 s1 ed e1 hc4 cBG cBX fBG fBX lBG lBX BG BX k2
          have HDQ := Lib.hid (below_drewN (Below.refl W.heap.size W) nq)
          have HMQ := Lib.hid (HM.out.via HDQ.out)
          have HSQ := Lib.hid (StpM.of (n := n) (ms := ms) HDQ.out)
          have BXQ := HBX.out.via HDQ.out
          clear HDQ
          generalize W.drewN nq = wq at *
          have cm := HMQ.out.cell (k + 1) (by omega)
          have j0 : (0 : Int) ≤ (k : Int) + 1 := by omega
          have j1 : (k : Int) + 1 < (n : Int) + 1 := by omega
          have e8 : IntKind.i64.wrap ((k : Int) + 1) = (k : Int) + 1 := IntWalk.i64_in _ (by omega)
          have e9 : IntKind.i64.wrap ((x.d : Int) + 1) = (x.d : Int) + 1 := IntWalk.i64_in _ (by omega)
          have cBXQ := BXQ.cell
          have fBXQ := BXQ.frozen
          have lBXQ := BXQ.lt
          go_upto_region 17 with fail
          go_still_tail 13, (by kernel_rfl)
          clear cBXQ fBXQ lBXQ
          clear cm e8 e9 BXQ
          have HMX := Lib.hid (HMQ.out.via (Below.refl wq.heap.size wq).drew)
          have HSX := Lib.hid (HSQ.out.trans (StpM.of (Below.refl wq.heap.size wq).drew))
          change wpList _ _ _ _ _ wq.drew
          clear HMQ HSQ
          generalize wq.drew = wz at *
          obtain ⟨kl, hkl⟩ := item2_key ⟨x.r, x.d + 1, x.f⟩ (by simp only; omega) (by simp only; omega) (by simp only; omega)
          have HKL := Lib.hid hkl
          have HRM := Lib.hid (show ∀ es clock, wz.heap[ms (k + 1)]? = some (.map es clock) → es.size < maxLen from fun es clock he => by
            have := (HMX.out.map (k + 1) (by omega)).room3 es clock he
            have h2 := lenI hR H4.out (show k + 1 ≤ 100 by omega) (HS.out.nd (k + 1)) (fun z hz => (HS.out.ok (k + 1) z hz).ok)
            simp only [maxLen]; omega)
          have hmk := HMX.out.map (k + 1) (by omega)
          clear hkl
          go_wp2_with (at_mapUpdate; refine wpList_put_I rfl item2_keyed 94 Tryz.underlying94 itVal_inj _ _ _ rfl (ms (k + 1)) ⟨x.r, x.d + 1, x.f⟩ (.bool true) rfl rfl rfl hmk HKL.out HRM.out ?_)
          intro wp hm9 hg9 hz9 hr9
          have HMP := Lib.hid (HMX.out.put (by omega) hm9 hg9)
          have HSP := Lib.hid (HSX.out.trans (StpM.put HMX.out (by omega) hg9 hz9 hr9))
          have hkL' : k + 1 < L.length := by rw [HM.out.len]; omega
          clear hm9 hg9 hz9 hr9 hmk
          go_wp2_with fail
          have HTW := Lib.hid ((HXW.out k tn).1 (by rw [← HVT.out]; exact HV.out))
          refine bodyPost_ret (v := .tuple #[]) (by simp [results, Tryz.results37, go_sem]) rfl ⟨rfl, _, HMP.out, putI_ext hkL', HS.out.put hkL' (.scan k x tn (HS.out.ok k x HXM.out) HNX1.out HTW.out), ⟨fun r u' hr hn => ?_, fun h0 => ?_, fun t hn ht => ?_⟩, fun j hj hj2 => by rw [atI_putI hkL', if_neg hj2], HST.out.trans HSP.out⟩
          · rw [HNX1.out] at hn; cases hn
          · rw [HNX1.out] at h0; cases h0
          · exact putI_mem hkL'
        · have e1 : (v == (tn : Int)) = false := by simp [hvt]
          have HVT := Lib.hid hvt
          clear hvt
          go_upto_region 16 with fail
          go_quiet (fail)
          clear r0 r1 s0 s1 ed e1 hc4 cBG cBX fBG fBX lBG lBX BG BX k2
          have HDQ := Lib.hid (below_drewN (Below.refl W.heap.size W) nq)
          go_wp2_with fail
          refine bodyPost_ret (v := .tuple #[]) (by simp [results, Tryz.results37, go_sem]) rfl ⟨rfl, L, HM.out.via HDQ.out, ExtI.refl L, HS.out, ⟨fun r u' hr hn => ?_, fun h0 => ?_, fun t hn ht => ?_⟩, fun j _ _ => rfl, HST.out.trans (StpM.of HDQ.out)⟩
          · rw [HNX1.out] at hn; cases hn
          · rw [HNX1.out] at h0; cases h0
          · rw [HNX1.out] at hn
            have h1 := (HXW.out k t).2 ht
            rw [HV.out] at h1
            have h2 := congrArg Prod.snd (Option.some.inj hn)
            exact absurd (by rw [Option.some.inj h1]; simp only at h2; rw [h2]) HVT.out
      · have k2 : decide ((k : Int) < (n : Int)) = false := by simp; omega
        go_upto_region 16 with fail
        go_quiet (fail)
        clear r0 r1 s0 s1 ed cBG cBX fBG fBX lBG lBX BG BX k2
        have HDQ := Lib.hid (below_drewN (Below.refl W.heap.size W) nq)
        go_wp2_with fail
        refine bodyPost_ret (v := .tuple #[]) (by simp [results, Tryz.results37, go_sem]) rfl ⟨rfl, L, HM.out.via HDQ.out, ExtI.refl L, HS.out, ⟨fun r u' hr hn => ?_, fun h0 => ?_, fun t hn ht => ?_⟩, fun j _ _ => rfl, HST.out.trans (StpM.of HDQ.out)⟩
        · rw [HNX1.out] at hn; cases hn
        · rw [HNX1.out] at h0; cases h0
        · have h1 := (HXW.out k t).2 ht
          have h2 := (List.getElem?_eq_some_iff.1 h1).1
          omega
end Go.Proofs.YtbfcnfgkccgbiaaGreatDoor

