/- Texts PO, BI, laid together. -/
import Derived.Test.YtbfcnfgkccgbiaaGreatDoorQ7
import Derived.Test.YtbfcnfgkccgbiaaGreatDoorQ2
import Derived.Test.YtbfcnfgkccgbiaaGreatDoorQ4



namespace Go.Proofs.YtbfcnfgkccgbiaaGreatDoor
open Go.RowKit

/-! ### items as keys -/
theorem laidOut3 : laidOutB Tryz.prog = true := by kernel_rfl
theorem item_keyed : Maps.Keyed Tryz.prog 47 :=
  Maps.Keyed.of_law (deep_law_laid laidOut3 (m := 3) (by omega) (of_decide_eq_true (by kernel_rfl)) (by kernel_rfl) (by rw [Tryz.underlying47]))
theorem itVal_inj (x y : It3) (h : itVal x = itVal y) : x = y := by
  obtain ⟨a, b, c⟩ := x
  obtain ⟨a', b', c'⟩ := y
  simp [itVal] at h
  obtain ⟨h1, h2, h3⟩ := h
  simp only [It3.mk.injEq]
  exact ⟨by omega, by omega, by omega⟩
theorem item_key (x : It3) (h1 : x.r ≤ 1000000000) (h2 : x.d ≤ 1000000000) (h3 : x.f ≤ 1000000000) : ∃ l, keyOf Tryz.prog 47 (itVal x) = some l := by
  have hc : Tryz.prog.cellsOf 47 = 3 := by kernel_rfl
  have hi : Tryz.prog.cellsOf 3 = 1 := by kernel_rfl
  have w1 : (Lit.int .i64 (x.r : Int)).wf = true := WalkArith.wf_i64 (by omega)
  have w2 : (Lit.int .i64 (x.d : Int)).wf = true := WalkArith.wf_i64 (by omega)
  have w3 : (Lit.int .i64 (x.f : Int)).wf = true := WalkArith.wf_i64 (by omega)
  have hf : (itVal x).formed Tryz.prog 47 = true := by simp [Value.formed, Tryz.underlying47, hc, itVal]
  have hk : Tryz.prog.keyLits (Tryz.prog.types.size + 1) 47 [.int .i64 (x.r : Int), .int .i64 (x.d : Int), .int .i64 (x.f : Int)] = some [.int .i64 (x.r : Int), .int .i64 (x.d : Int), .int .i64 (x.f : Int)] := by
    have e : Tryz.prog.types.size + 1 = (Tryz.prog.types.size - 1) + 1 + 1 := by have : 1 ≤ Tryz.prog.types.size := of_decide_eq_true (by kernel_rfl); omega
    rw [e]
    generalize Tryz.prog.types.size - 1 = d
    simp [Program.keyLits, Tryz.underlying47, Tryz.underlying3, hc, hi, w1, w2, w3]
  refine ⟨.string (keyBytes [.int .i64 (x.r : Int), .int .i64 (x.d : Int), .int .i64 (x.f : Int)]), ?_⟩
  unfold keyOf
  rw [Tryz.underlying47]
  simp only [hf, Bool.and_true]
  rw [if_pos (by kernel_rfl)]
  show Option.map _ (Tryz.prog.keyLits _ _ [.int .i64 (x.r : Int), .int .i64 (x.d : Int), .int .i64 (x.f : Int)]) = _
  rw [hk]; rfl
theorem bool_zero (w : World) : (zeroValue 4).run Tryz.prog w = .ok (.bool false) w := by kernel_rfl
/-- the map of a set -/
def setF3 (l : List It3) (x : It3) : Option Value := if x ∈ l then some (.bool true) else none

/-! ### the chart -/
def MpE : Elem Nat Nat where
  k := 1
  cells b := [.map (some b)]
  rel _ _ r x := r = x
  pos := by omega
  len _ := rfl
  one r u hu := by simp at hu; subst hu; rfl
  agr h _ := h
  mono h _ := h
abbrev ChSt := Value × List SlV × Value × List Nat
/-- no block of the chart's sets -/
def ChF (s : ChSt) (b : Nat) : Prop := Sets.no s.1 s.2.1 b ∧ s.2.2.1.ownBlock ≠ some b ∧ ∀ (j : Nat) b', s.2.2.2[j]? = some b' → b' ≠ b
/-- neither the headers' blocks nor those of the k-th set -/
def ChN (k : Nat) (s : ChSt) : Bool → Nat → Prop
  | true, b => NoK k s.1 s.2.1 b ∧ s.2.2.1.ownBlock ≠ some b ∧ ∀ b', s.2.2.2[k]? = some b' → b' ≠ b
  | false, b => ChF s b
theorem ChF.chn {k : Nat} {s : ChSt} {b : Nat} {i : Bool} (h : ChF s b) : ChN k s i b := match i with
  | true => ⟨h.1.nok, h.2.1, fun b' hb => h.2.2 k b' hb⟩
  | false => h
structure ChM (w : World) (base bf : Nat) (c0 c1 c2 : Value) (AR : Option Addr) (nR cR : Nat) (R : List Ru) (v : Value) (hs : List SlV) (vm : Value) (ms : List Nat) (L : List (List It3)) : Prop where
  blk : Blk w bf 79 #[c0, c1, c2, .slice AR nR cR, vm, v]
  rules : Sl RuE (fun b => b < base) w AR nR cR R
  sets : Sets 43 47 w base v hs L
  maps : Own MpE 149 (fun _ => False) w base vm L.length ms
  mapk : ∀ (j : Nat) b l, ms[j]? = some b → L[j]? = some l → base ≤ b ∧ MapK Tryz.prog 47 itVal w b (setF3 l)
  mapart : ∀ (j j' : Nat) b, j ≠ j' → ms[j]? = some b → ms[j']? ≠ some b
  mfar : ∀ (j : Nat) b, ms[j]? = some b → vm.ownBlock ≠ some b ∧ Sets.no v hs b
  vfar : ∀ b, vm.ownBlock = some b → Sets.no v hs b
  far : ChF (v, hs, vm, ms) bf
  base : base ≤ w.heap.size
section
variable {w w' : World} {base bf : Nat} {c0 c1 c2 v vm : Value} {AR : Option Addr} {nR cR : Nat} {R : List Ru} {hs : List SlV} {ms : List Nat} {L : List (List It3)}
theorem ChM.via (h : ChM w base bf c0 c1 c2 AR nR cR R v hs vm ms L) (hb : Below w.heap.size w w') : ChM w' base bf c0 c1 c2 AR nR cR R v hs vm ms L :=
  ⟨h.blk.via hb, h.rules.via hb, h.sets.via hb, h.maps.via hb, fun j b l h1 h2 => ⟨(h.mapk j b l h1 h2).1, (h.mapk j b l h1 h2).2.via hb⟩, h.mapart, h.mfar, h.vfar, h.far, Nat.le_trans h.base hb.size⟩
theorem ChM.dr (h : ChM w base bf c0 c1 c2 AR nR cR R v hs vm ms L) : ChM w.drew base bf c0 c1 c2 AR nR cR R v hs vm ms L := h.via ((Below.refl _ _).drew)
theorem ChM.mlt (h : ChM w base bf c0 c1 c2 AR nR cR R v hs vm ms L) {j b : Nat} (hj : ms[j]? = some b) : base ≤ b ∧ b < w.heap.size := by
  have hjl := (List.getElem?_eq_some_iff.1 hj).1
  have hl := h.maps.len
  have := h.mapk j b _ hj (List.getElem?_eq_getElem (show j < L.length by omega))
  exact ⟨this.1, this.2.lt⟩
theorem ChM.no_of (h : ChM w base bf c0 c1 c2 AR nR cR R v hs vm ms L) {b : Nat} (hb : b < base ∨ w.heap.size ≤ b) : ChF (v, hs, vm, ms) b := by
  refine ⟨?_, fun e => ?_, fun j b' hj e => ?_⟩
  · rcases hb with hb | hb
    · exact h.sets.no_lt hb
    · exact h.sets.no_ge hb
  · have := h.maps.lt b e; omega
  · have := h.mlt hj; omega
/-- an item more in the k-th set: in its map, and in its row -/
theorem ChM.grow {wm W2 w3 : World} {k gb c bm : Nat} {q q' : SlV} {l : List It3} {x : It3} (h : ChM w base bf c0 c1 c2 AR nR cR R (.slice (some ⟨gb, 0, none⟩) L.length c) hs vm ms L) (hl : L[k]? = some l) (hq : hs[k]? = some q) (hbm : ms[k]? = some bm)
    (hmk : MapK Tryz.prog 47 itVal wm bm (fun y => if y = x then some (.bool true) else setF3 l y)) (hgr : w.grownBy wm (some bm)) (hal : Below wm.heap.size wm W2)
    (ho : Own It3E 47 (fun _ => False) w3 base (slV q') (l ++ [x]).length (l ++ [x])) (hg : W2.grownBy w3 (slV q).ownBlock) (hat : (slV q').ownBlock = (slV q).ownBlock ∨ (slV q').ownBlock = some W2.heap.size) :
    ChM (w3.setCell ⟨gb, k, none⟩ (slV q')) base bf c0 c1 c2 AR nR cR R (.slice (some ⟨gb, 0, none⟩) L.length c) (hs.set k q') vm ms (L.set k (l ++ [x])) ∧ Mov (ChN k (.slice (some ⟨gb, 0, none⟩) L.length c, hs, vm, ms)) (ChN k (.slice (some ⟨gb, 0, none⟩) L.length c, hs.set k q', vm, ms)) w (w3.setCell ⟨gb, k, none⟩ (slV q')) := by
  have hwm : w.heap.size ≤ wm.heap.size := hgr.size
  have hmv := Mv.grow (v := .slice (some ⟨gb, 0, none⟩) L.length c) (i := k) hq hg hat rfl (slV q')
  have hmk2 := Mov.growK (v := .slice (some ⟨gb, 0, none⟩) L.length c) (i := k) hq hg hat rfl (slV q')
  have hno : ∀ b, b < w.heap.size → Sets.no (.slice (some ⟨gb, 0, none⟩) L.length c) hs b → Sets.no (.slice (some ⟨gb, 0, none⟩) L.length c) (hs.set k q') b := fun b hlt hb => hmv.no b (Nat.lt_of_lt_of_le hlt (Nat.le_trans hwm hal.size)) hb
  have hne : ∀ b, Sets.no (.slice (some ⟨gb, 0, none⟩) L.length c) hs b → some b ≠ (slV q).ownBlock ∧ b ≠ gb := fun b hb => ⟨fun e => hb.2 k q hq e.symm, fun e => hb.1 (by rw [e]; rfl)⟩
  have hAll : Agr (fun b => b ≠ bm ∧ some b ≠ (slV q).ownBlock ∧ b ≠ gb) w (w3.setCell ⟨gb, k, none⟩ (slV q')) :=
    (((Agr.grown hgr fun b hb e => hb.1 (Option.some.inj e)).trans (Agr.below hal)).trans (Agr.grown hg fun b hb => hb.2.1)).trans (Agr.setCell _ fun b hb => hb.2.2)
  have hm2 : Agr (fun b => some b ≠ (slV q).ownBlock ∧ b ≠ gb) wm (w3.setCell ⟨gb, k, none⟩ (slV q')) :=
    ((Agr.below hal).trans (Agr.grown hg fun b hb => hb.1)).trans (Agr.setCell _ fun b hb => hb.2)
  have hsm : Sets 43 47 W2 base (.slice (some ⟨gb, 0, none⟩) L.length c) hs L := (h.sets.agr (Agr.grown hgr fun b hb e => hb (by rw [Option.some.inj e]; exact (h.mfar k bm hbm).2))).via hal
  have hfar := h.far
  have hqlt : ∀ b, (slV q).ownBlock = some b → base ≤ b := fun b hb => ((h.sets.items k q l hq hl).lt b hb).1
  have hgb : base ≤ gb := (h.sets.row.lt gb rfl).1
  have hmb := h.mlt hbm
  have hlen : (L.set k (l ++ [x])).length = L.length := List.length_set ..
  have henv : Below 0 w (w3.setCell ⟨gb, k, none⟩ (slV q')) := (((Below.refl 0 w).grown hgr (Nat.zero_le _) (fun b _ => Nat.zero_le _)).trans (hal.mono (Nat.zero_le _))).trans hmv.env
  refine ⟨⟨?_, ?_, ?_, ?_, ?_, h.mapart, ?_, ?_, ?_, Nat.le_trans h.base henv.size⟩, ⟨henv, ?_, ?_⟩⟩
  · exact (hAll bf ⟨fun e => hfar.2.2 k bm hbm e.symm, hne bf hfar.1⟩ h.blk.lt).trans h.blk
  · exact h.rules.agr (hAll.mono fun b hb => ⟨by omega, fun e => by have := hqlt b e.symm; omega, by omega⟩)
  · exact hsm.grow hq hl ho hg hat
  · rw [hlen]
    refine h.maps.agr (hAll.mono fun b hb => ?_)
    rcases hb with hb | hb
    · exact hb.elim
    · exact ⟨fun e => (h.mfar k bm hbm).1 (by rw [← hb, e]), hne b (h.vfar b hb.symm)⟩
  · intro j b m hj hm
    have hbj := h.mlt hj
    have hnb := hne b (h.mfar j b hj).2
    refine ⟨hbj.1, ?_⟩
    by_cases e : k = j
    · subst e
      rw [hbm] at hj
      obtain rfl := Option.some.inj hj
      rw [set_get hl] at hm
      obtain rfl := Option.some.inj hm
      refine (hmk.agr_ (hm2 bm hnb hmk.lt)).ext fun y => ?_
      unfold setF3
      simp only [List.mem_append, List.mem_singleton]
      by_cases h1 : y = x
      · rw [if_pos h1, if_pos (Or.inr h1)]
      · rw [if_neg h1]
        by_cases h2 : y ∈ l
        · rw [if_pos h2, if_pos (Or.inl h2)]
        · rw [if_neg h2, if_neg (fun h => h.elim h2 h1)]
    · rw [List.getElem?_set_ne e] at hm
      have hbb : b ≠ bm := fun e' => h.mapart k j bm e hbm (by rw [← e']; exact hj)
      exact (h.mapk j b m hj hm).2.agr_ (hAll b ⟨hbb, hnb⟩ hbj.2)
  · exact fun j b hj => ⟨(h.mfar j b hj).1, hno b (h.mlt hj).2 (h.mfar j b hj).2⟩
  · exact fun b hb => hno b (h.maps.lt b hb).2 (h.vfar b hb)
  · exact ⟨hno bf h.blk.lt hfar.1, hfar.2⟩
  · intro t
    cases t with
    | true => exact hAll.mono fun b hb => ⟨fun e => hb.2.2 bm hbm e.symm, fun e => hb.1.2 q hq e.symm, fun e => hb.1.1 (by rw [e]; rfl)⟩
    | false => exact hAll.mono fun b hb => ⟨fun e => hb.2.2 k bm hbm e.symm, hne b hb.1⟩
  · intro t
    cases t with
    | true => exact fun b hlt hb => ⟨hmk2.no true b (Nat.lt_of_lt_of_le hlt (Nat.le_trans hwm hal.size)) hb.1, hb.2⟩
    | false => exact fun b hlt hb => ⟨hno b hlt hb.1, hb.2⟩
end
def ChS (w : World) (base bf : Nat) (c0 c1 c2 : Value) (AR : Option Addr) (nR cR : Nat) (R : List Ru) (s : ChSt) (L : List (List It3)) : Prop := ChM w base bf c0 c1 c2 AR nR cR R s.1 s.2.1 s.2.2.1 s.2.2.2 L
/-- the sets are now L', all else is as it was -/
def AddC (k : Nat) (w : World) (base bf : Nat) (c0 c1 c2 : Value) (AR : Option Addr) (nR cR : Nat) (R : List Ru) (s : ChSt) (L' : List (List It3)) (e : Ending) (w' : World) : Prop :=
  e = .returned (.tuple #[]) ∧ ∃ s', ChS w' base bf c0 c1 c2 AR nR cR R s' L' ∧ Mov (ChN k s) (ChN k s') w w'
theorem step_append_ei {ops : Array Oper} {o : Oper} {a : Act} {K : Act → World → Prop} {Q : Exit → Act → World → Prop} {F : Prop} (w : World) (hgd : o.guard = none) (s y : Operand)
    (ho : o.op = .call { callee := .builtin .append, args := #[s, y], argTypes := #[43, 43] })
    (base : Nat) (v : Value) (n : Nat) (l : List It3) (hv : a.eval s = v) (hown : Own It3E 47 (fun _ => False) w base v n l)
    (b : Nat) (x : It3) (hy : a.eval y = .slice (some ⟨b, 0, none⟩) 1 1) (hcell : Blk w b 47 #[.int .i64 (x.r : Int), .int .i64 (x.d : Int), .int .i64 (x.f : Int)])
    (h63 : n + 1 ≤ 1000000) (hbase : base ≤ w.heap.size)
    (h : ∀ A' c' w', Own It3E 47 (fun _ => False) w' base (.slice A' (n + 1) c') (n + 1) (l ++ [x]) → w.grownBy w' v.ownBlock → ((Value.slice A' (n + 1) c').ownBlock = v.ownBlock ∨ (Value.slice A' (n + 1) c').ownBlock = some w.heap.size) → K (a.put o.dst (.slice A' (n + 1) c')) w') :
    if Region.wanted o (yielded ops a.tmps) = true then Oper.wp Tryz.prog o a w K Q else F := by
  obtain ⟨i, hi, hz⟩ := Option.map_eq_some_iff.1 eitem_info
  simp only [Prod.mk.injEq] at hz
  refine step_append_E (E := It3E) w hgd s y 43 47 ho i (.agg #[.int .i64 0, .int .i64 0, .int .i64 0]) 24 (by kernel_rfl) hi hz.1 hz.2.1 hz.2.2 rfl (fun _ => False) base v n l hv hown b x x hy (fun j u hu => ?_) rfl (by simp [maxLen]; omega) (by omega) hbase h
  rw [hcell.cell j]
  rw [List.getElem?_toArray]; exact hu
set_option maxRecDepth 100000 in
set_option maxHeartbeats 2000000 in
theorem cadd_c (w : World) (base bf k : Nat) (c0 c1 c2 : Value) (AR : Option Addr) (nR cR : Nat) (R : List Ru) (v : Value) (hs : List SlV) (vm : Value) (ms : List Nat) (L : List (List It3)) (l : List It3) (x : It3) (h : ChM w base bf c0 c1 c2 AR nR cR R v hs vm ms L) (hk : L.length = k + 1) (hl : L[k]? = some l) (hk2 : k ≤ 1000) (hl2 : l.length ≤ 100000) (hx1 : x.r ≤ 1000000) (hx2 : x.d ≤ 1000000) (hx3 : x.f ≤ 1000000) :
    Calls Tryz.prog 62 #[.pointer (some ⟨bf, 0, none⟩), .agg #[.int .i64 (x.r : Int), .int .i64 (x.d : Int), .int .i64 (x.f : Int)]] w (AddC k w base bf c0 c1 c2 AR nR cR R (v, hs, vm, ms) (L.set k (addI l x))) := by
  have hsl := h.sets.len
  have hkl : k < hs.length := by omega
  have hml := h.maps.len
  obtain ⟨qA, qn, qc, hq⟩ : ∃ qA qn qc, hs[k]? = some ((qA, qn, qc) : SlV) := ⟨_, _, _, List.getElem?_eq_getElem hkl⟩
  have hit := h.sets.items k _ l hq hl
  obtain ⟨A', c', e', hc'⟩ := hit.form
  simp only [slV, Value.slice.injEq] at e'
  obtain ⟨rfl, rfl, rfl⟩ := e'
  obtain ⟨gb, c, hv, hgb1, hgb2, hcell, hfz⟩ := h.sets.cell hq
  subst hv
  obtain ⟨mA, mc, hvm, -⟩ := h.maps.form
  subst hvm
  obtain ⟨mg, mo, bm, bm', hmA, -, hmg, hbm, hbe, hmcell⟩ := (h.maps.toSl (ok' := fun b => base ≤ b) (fun _ _ h => h.elim) (fun b hb => hb)).at_ (show k < L.length by omega)
  obtain rfl : bm = bm' := hbe
  subst hmA
  have m0 := hmcell 0 _ rfl
  simp only [MpE, Nat.add_zero, Nat.mul_one] at m0
  obtain ⟨hbm1, hmapk⟩ := h.mapk k bm l hbm hl
  obtain ⟨kl, hkl2⟩ := item_key x (by omega) (by omega) (by omega)
  have hbB := (Below.refl w.heap.size w).alloc (Nat.le_refl _) (.cells #[.int .i64 (x.r : Int), .int .i64 (x.d : Int), .int .i64 (x.f : Int)] 47)
  have hB := Blk.new w 47 #[.int .i64 (x.r : Int), .int .i64 (x.d : Int), .int .i64 (x.f : Int)]
  have hM := h.via hbB
  have f4 := hM.blk.cell 4
  have f5 := hM.blk.cell 5
  simp only [List.getElem?_toArray, List.getElem?_cons_succ, List.getElem?_cons_zero] at f4 f5
  rw [hk] at f4 f5
  have g0 : (w.alloc (.cells #[.int .i64 (x.r : Int), .int .i64 (x.d : Int), .int .i64 (x.f : Int)] 47)).cell? ⟨gb, k, none⟩ = some (.slice qA l.length qc) := by
    rw [hbB.cell hgb2]; exact hcell
  replace m0 : (w.alloc (.cells #[.int .i64 (x.r : Int), .int .i64 (x.d : Int), .int .i64 (x.f : Int)] 47)).cell? ⟨mg, mo + k, none⟩ = some (.map (some bm)) := by
    rw [hbB.cell hmg]; exact m0
  have i0 : (0 : Int) ≤ (k : Int) := by omega
  have i1 : (k : Int) < ((k : Int) + 1) := by omega
  have e1 : ((k + 1 : Nat) : Int) - 1 = (k : Int) := by omega
  have HH := Lib.hid h
  have HB := Lib.hid hbB
  have HM := Lib.hid hM
  have HQ := Lib.hid hq
  have HL := Lib.hid hl
  have HK := Lib.hid hk
  have HBM := Lib.hid hbm
  have HMK := Lib.hid (hmapk.via hbB)
  have HKL := Lib.hid hkl2
  have GF := Lib.hid hfz
  clear h hbB hM hcell hit hq hl hk hsl hbm hmapk hkl2 hmcell hml hfz
  go_enter Tryz.func62, Tryz.ntmps62
  have chB := hB.cell
  have fhB := hB.frozen
  have lhB := hB.lt
  go_upto_region 1 with fail
  clear chB fhB lhB
  generalize hW : w.alloc (.cells #[.int .i64 (x.r : Int), .int .i64 (x.d : Int), .int .i64 (x.f : Int)] 47) = W at *
  have hWs : w.heap.size + 1 ≤ W.heap.size := by rw [← hW]; simp
  clear hW
  go_upto_region 2 with fail
  have hlk := fun n => MapK.look (w := W.drewN n) (HMK.out.via (below_drewN (Below.refl _ _) n)) false item_keyed Tryz.underlying149 (bool_zero _) x HKL.out
  have p3 := hB.cell
  by_cases hx : x ∈ l
  · simp only [itVal, setF3, if_pos hx, Option.getD_some] at hlk
    have HX := Lib.hid (show L.set k (addI l x) = L by unfold addI; rw [if_pos hx]; exact set_same HL.out)
    clear hx
    go_quiet (fail)
    go_wp2_with fail
    refine bodyPost_ret (v := .tuple #[]) (by simp [results, Tryz.results62, go_sem]) rfl ?_
    rw [HX.out]
    have hdn := below_drewN (Below.refl W.heap.size W)
    exact ⟨rfl, (.slice (some ⟨gb, 0, none⟩) L.length c, hs, .slice (some ⟨mg, mo, none⟩) L.length mc, ms), HM.out.via (hdn _), .of (HB.out.via (hdn _))⟩
  · simp only [itVal, setF3, if_neg hx, Option.getD_none] at hlk
    have HX := Lib.hid (show addI l x = l ++ [x] by unfold addI; rw [if_neg hx])
    clear hx
    go_quiet (fail)
    clear hlk p3 m0 f4 f5 g0
    have hdn := below_drewN (Below.refl W.heap.size W) nq
    have HM1 := Lib.hid (HM.out.via hdn)
    have HB1 := Lib.hid (HB.out.via hdn)
    have HMK1 := Lib.hid (HMK.out.via hdn)
    have HBX1 := Lib.hid (hB.via hdn)
    have hsz1 : W.heap.size ≤ (W.drewN nq).heap.size := hdn.size
    go_upto_region 3 with fail
    generalize W.drewN nq = W1 at *
    clear hdn HM HMK hB HB
    have hgw1 : gb < W1.heap.size := by omega
    have hbw1 : bm < W1.heap.size := HMK1.out.lt
    have hbmw : bm < w.heap.size := (HH.out.mlt HBM.out).2
    have hbf1 : bf < w.heap.size := HH.out.blk.lt
    have f4 := HM1.out.blk.cell 4
    have f5 := HM1.out.blk.cell 5
    simp only [List.getElem?_toArray, List.getElem?_cons_succ, List.getElem?_cons_zero] at f4 f5
    rw [HK.out] at f4 f5
    have m0 : W1.cell? ⟨mg, mo + k, none⟩ = some (.map (some bm)) := by
      obtain ⟨mg', mo', b1, b2, hm1, -, -, hb3, hb4, hc3⟩ := (HM1.out.maps.toSl (ok' := fun b => base ≤ b) (fun _ _ h => h.elim) (fun b hb => hb)).at_ (show k < L.length by have := HK.out; omega)
      cases hm1
      rw [HBM.out] at hb3
      obtain rfl := Option.some.inj hb3
      obtain rfl : b1 = bm := hb4
      have := hc3 0 _ rfl
      simpa [MpE] using this
    have p3 := HBX1.out.cell
    obtain ⟨wm, hrun, hmk, hgr, hszm⟩ := MapK.store (w := W1.drew) HMK1.out.dr item_keyed Tryz.underlying149 itVal_inj x (.bool true) HKL.out (fun es clock he => Nat.lt_of_le_of_lt (HMK1.out.room (fun y => l.idxOf y) l.length (fun y hy => List.idxOf_lt_length_iff.2 (by unfold setF3 at hy; by_cases h : y ∈ l; exact h; rw [if_neg h] at hy; exact absurd rfl hy)) (fun y z hy hz e => by
      have h1 : y ∈ l := by unfold setF3 at hy; by_cases h : y ∈ l; exact h; rw [if_neg h] at hy; exact absurd rfl hy
      have h2 : z ∈ l := by unfold setF3 at hz; by_cases h : z ∈ l; exact h; rw [if_neg h] at hz; exact absurd rfl hz
      have e1 := List.getElem_idxOf (List.idxOf_lt_length_iff.2 h1)
      have e2 := List.getElem_idxOf (List.idxOf_lt_length_iff.2 h2)
      have e' : l.idxOf y = l.idxOf z := e
      rw [← e1, ← e2]; congr 1) es clock he) (by simp [maxLen]; omega))
    simp only [itVal] at hrun
    have HMK2 := Lib.hid hmk
    have HGR := Lib.hid hgr
    have HSZ := Lib.hid hszm
    clear hmk hgr hszm
    as_aux_lemma =>
    go_region
    clear hrun f4 f5 m0 p3
    have hbmgb : gb ≠ bm := fun e => (HH.out.mfar k bm HBM.out).2.1 (by rw [e]; rfl)
    have hbmbf : bf ≠ bm := fun e => HH.out.far.2.2 k bm HBM.out e.symm
    have hgm := HGR.out
    have q3 := ((HBX1.out.dr).grown hgm (fun e => by have := Option.some.inj e; omega)).cell
    have HX2 := Lib.hid ((HBX1.out.dr).grown hgm (fun e => by have := Option.some.inj e; omega))
    have HBF2 := Lib.hid ((HM1.out.blk.dr).grown hgm (fun e => hbmbf (Option.some.inj e)))
    have q1 : wm.cell? ⟨bf, 5, none⟩ = some (.slice (some ⟨gb, 0, none⟩) (k + 1) c) := by
      rw [HBF2.out.cell, ← HK.out]; rfl
    have hq1 := HM1.out.sets.cell HQ.out
    obtain ⟨gb', c'', hv', -, -, hcell', hfz'⟩ := hq1
    cases hv'
    have q2 : wm.cell? ⟨gb, k, none⟩ = some (.slice qA l.length qc) := (Agr.grown (w := W1.drew) (ok := fun b => b = gb) hgm (fun b e e' => hbmgb (by rw [← e]; exact Option.some.inj e'))).cell rfl hcell'
    have GF2 := Lib.hid (show ∀ i, wm.frozen? ⟨gb, i, none⟩ = false from fun i => (grown_frozen hgm hgw1 (fun e' => hbmgb (Option.some.inj e')) i).trans (hfz' i))
    have hgq : some gb ≠ (slV (qA, l.length, qc)).ownBlock := fun e' => HH.out.sets.far k _ gb HQ.out e'.symm rfl
    have hbq : some bf ≠ (slV (qA, l.length, qc)).ownBlock := fun e' => HH.out.far.1.2 k _ HQ.out e'.symm
    have hql : ∀ b, (slV (qA, l.length, qc)).ownBlock = some b → b < w.heap.size := fun b hb => ((HH.out.sets.items k _ l HQ.out HL.out).lt b hb).2
    have hsz2 : wm.heap.size = W1.heap.size := HSZ.out
    have hIT : Own It3E 47 (fun _ => False) wm base (slV (qA, l.length, qc)) l.length l := ((HM1.out.sets.items k _ l HQ.out HL.out).dr).agr (Agr.grown hgm fun b hb e => by
      rcases hb with hb | hb
      · exact hb.elim
      · exact (HH.out.mfar k bm HBM.out).2.2 k _ HQ.out (by rw [← hb, e]))
    have HIT2 := Lib.hid hIT
    have HGQ := Lib.hid hgq
    have HBQ := Lib.hid hbq
    have HQL := Lib.hid hql
    have HSZ2 := Lib.hid hsz2
    have hgw' : gb < wm.heap.size := by omega
    have hww' : w.heap.size < wm.heap.size := by omega
    have hbf' : bf < wm.heap.size := by omega
    have hbase' : base ≤ wm.heap.size := by have := HM1.out.base; omega
    clear hcell' hfz' hgm hgq hbq hql hIT hsz2
    go_upto_region 4 with fail
    have hHeld : wm.drew.cell? ⟨bf, 5, none⟩ = some (.slice (some ⟨gb, 0, none⟩) (k + 1) c) ∧ wm.drew.cell? ⟨gb, k, none⟩ = some (.slice qA l.length qc) ∧ (∀ i, wm.drew.cell? ⟨w.heap.size, i, none⟩ = #[.int .i64 (x.r : Int), .int .i64 (x.d : Int), .int .i64 (x.f : Int)][i]?) := ⟨q1, q2, q3⟩
    refine wp_region_noPanic ?_
    refine wp_region_L 16 (fun w' => w'.cell? ⟨bf, 5, none⟩ = some (.slice (some ⟨gb, 0, none⟩) (k + 1) c) ∧ w'.cell? ⟨gb, k, none⟩ = some (.slice qA l.length qc) ∧ (∀ i, w'.cell? ⟨w.heap.size, i, none⟩ = #[.int .i64 (x.r : Int), .int .i64 (x.d : Int), .int .i64 (x.f : Int)][i]?)) (by kernel_rfl) ?_
    refine wpAnyL.take (i := 0) (d := some 29) (v := ?_) rfl (by kernel_rfl) (by kernel_rfl) (by kernel_rfl) (by kernel_rfl) rfl (fun _ _ _ h => h) (Or.inl ⟨by rfl, ?_⟩) (by assumption) ?_
    rotate_left
    · intro w hSw; (try dsimp only at hSw); go_simp; try with_reducible rfl
    simp only [Act.put, List.setIfInBounds_toArray, List.set_cons_zero, List.set_cons_succ]
    refine wpAnyL.take (i := 1) (d := some 30) (v := ?_) rfl (by kernel_rfl) (by kernel_rfl) (by kernel_rfl) (by kernel_rfl) rfl (fun _ _ _ h => h) (Or.inl ⟨by rfl, ?_⟩) (by assumption) ?_
    rotate_left
    · intro w hSw; (try dsimp only at hSw); go_simp; try with_reducible rfl
    simp only [Act.put, List.setIfInBounds_toArray, List.set_cons_zero, List.set_cons_succ]
    refine wpAnyL.take (i := 2) (d := some 31) (v := ?_) rfl (by kernel_rfl) (by kernel_rfl) (by kernel_rfl) (by kernel_rfl) rfl (fun _ _ _ h => h) (Or.inl ⟨by rfl, ?_⟩) (by assumption) ?_
    rotate_left
    · intro w hSw; (try dsimp only at hSw); go_simp; try with_reducible rfl
    simp only [Act.put, List.setIfInBounds_toArray, List.set_cons_zero, List.set_cons_succ]
    refine wpAnyL.take (i := 3) (d := some 32) (v := ?_) rfl (by kernel_rfl) (by kernel_rfl) (by kernel_rfl) (by kernel_rfl) rfl (fun _ _ _ h => h) (Or.inl ⟨by rfl, ?_⟩) (by assumption) ?_
    rotate_left
    · intro w hSw; (try dsimp only at hSw); go_simp; try with_reducible rfl
    simp only [Act.put, List.setIfInBounds_toArray, List.set_cons_zero, List.set_cons_succ]
    refine wpAnyL.take (i := 4) (d := some 33) (v := ?_) rfl (by kernel_rfl) (by kernel_rfl) (by kernel_rfl) (by kernel_rfl) rfl (fun _ _ _ h => h) (Or.inl ⟨by rfl, ?_⟩) (by assumption) ?_
    rotate_left
    · intro w hSw; (try dsimp only at hSw); go_simp; try with_reducible rfl
    simp only [Act.put, List.setIfInBounds_toArray, List.set_cons_zero, List.set_cons_succ]
    refine wpAnyL.take (i := 5) (d := some 34) (v := ?_) rfl (by kernel_rfl) (by kernel_rfl) (by kernel_rfl) (by kernel_rfl) rfl (fun _ _ _ h => h) (Or.inl ⟨by rfl, ?_⟩) (by assumption) ?_
    rotate_left
    · intro w hSw; (try dsimp only at hSw); go_simp; try with_reducible rfl
    simp only [Act.put, List.setIfInBounds_toArray, List.set_cons_zero, List.set_cons_succ]
    refine wpAnyL.take (i := 6) (d := some 35) (v := ?_) rfl (by kernel_rfl) (by kernel_rfl) (by kernel_rfl) (by kernel_rfl) rfl (fun _ _ _ h => h) (Or.inl ⟨by rfl, ?_⟩) (by assumption) ?_
    rotate_left
    · intro w hSw; (try dsimp only at hSw); go_simp; try with_reducible rfl
    simp only [Act.put, List.setIfInBounds_toArray, List.set_cons_zero, List.set_cons_succ]
    refine wpAnyL.take (i := 7) (d := some 36) (v := ?_) rfl (by kernel_rfl) (by kernel_rfl) (by kernel_rfl) (by kernel_rfl) rfl (fun _ _ _ h => h) (Or.inl ⟨by rfl, ?_⟩) (by assumption) ?_
    rotate_left
    · intro w hSw; (try dsimp only at hSw); go_simp; try with_reducible rfl
    simp only [Act.put, List.setIfInBounds_toArray, List.set_cons_zero, List.set_cons_succ]
    refine wpAnyL.take (i := 8) (d := some 37) (v := ?_) rfl (by kernel_rfl) (by kernel_rfl) (by kernel_rfl) (by kernel_rfl) rfl (fun _ _ _ h => h) (Or.inl ⟨by rfl, ?_⟩) (by assumption) ?_
    rotate_left
    · intro w hSw; (try dsimp only at hSw); go_simp; try with_reducible rfl
    simp only [Act.put, List.setIfInBounds_toArray, List.set_cons_zero, List.set_cons_succ]
    refine wpAnyL.take (i := 9) (d := some 38) (v := ?_) rfl (by kernel_rfl) (by kernel_rfl) (by kernel_rfl) (by kernel_rfl) rfl (fun _ _ _ h => h) (Or.inl ⟨by rfl, ?_⟩) (by assumption) ?_
    rotate_left
    · intro w hSw; (try dsimp only at hSw); go_simp; try with_reducible rfl
    simp only [Act.put, List.setIfInBounds_toArray, List.set_cons_zero, List.set_cons_succ]
    refine wpAnyL.take (i := 10) (d := some 39) (v := ?_) rfl (by kernel_rfl) (by kernel_rfl) (by kernel_rfl) (by kernel_rfl) rfl (fun _ _ _ h => h) (Or.inl ⟨by rfl, ?_⟩) (by assumption) ?_
    rotate_left
    · intro w hSw; (try dsimp only at hSw); go_simp; try with_reducible rfl
    simp only [Act.put, List.setIfInBounds_toArray, List.set_cons_zero, List.set_cons_succ]
    refine wpAnyL.take (i := 11) (d := some 40) (v := ?_) rfl (by kernel_rfl) (by kernel_rfl) (by kernel_rfl) (by kernel_rfl) rfl (fun _ _ _ h => h) (Or.inl ⟨by rfl, ?_⟩) (by assumption) ?_
    rotate_left
    · intro w hSw; (try dsimp only at hSw); go_simp; try with_reducible rfl
    simp only [Act.put, List.setIfInBounds_toArray, List.set_cons_zero, List.set_cons_succ]
    refine wpAnyL.take (i := 12) (d := some 41) (v := ?_) rfl (by kernel_rfl) (by kernel_rfl) (by kernel_rfl) (by kernel_rfl) rfl (fun _ _ _ h => h) (Or.inl ⟨by rfl, ?_⟩) (by assumption) ?_
    rotate_left
    · intro w hSw; (try dsimp only at hSw); go_simp; try with_reducible rfl
    simp only [Act.put, List.setIfInBounds_toArray, List.set_cons_zero, List.set_cons_succ]
    refine wpAnyL.ready (rs := [13]) (by kernel_rfl) (by simp) ?_
    refine AllL.cons rfl (fun K hK => ?_) AllL.nil
    go_simp
    have hal := ((Below.refl wm.heap.size wm).drew).al (.cells #[.int .i64 (x.r : Int), .int .i64 (x.d : Int), .int .i64 (x.f : Int)] 47)
    have hS2 := And.intro ((hal.cell (p := ⟨bf, 5, none⟩) hbf').trans q1) (And.intro ((hal.cell (p := ⟨gb, k, none⟩) hgw').trans q2) (fun i => (hal.cell (p := ⟨w.heap.size, i, none⟩) hww').trans (q3 i)))
    refine hK.out _ _ (fun _ => hS2) ?_
    clear hK K
    try dsimp only [Act.put]
    refine wpAnyL.ready (rs := [14]) (by kernel_rfl) (by simp) ?_
    refine AllL.cons rfl (fun K hK => ?_) AllL.nil
    refine step_append_ei _ rfl (.tmp 40) (.tmp 42) rfl base (.slice qA l.length qc) l.length l rfl (HIT2.out.via hal) wm.heap.size x rfl (Blk.new wm.drew 47 #[.int .i64 (x.r : Int), .int .i64 (x.d : Int), .int .i64 (x.f : Int)]) (by omega) (by simp; omega) ?_
    intro A1 d1 w1 ho1 hg1 hat1
    have hfin := HM1.out.dr.grow (q' := (A1, l.length + 1, d1)) HL.out HQ.out HBM.out HMK2.out HGR.out hal (by rw [List.length_append]; exact ho1) hg1 hat1
    have HFIN := Lib.hid hfin.1
    have HMV := Lib.hid (((Mov.of (N := ChN k (.slice (some ⟨gb, 0, none⟩) L.length c, hs, .slice (some ⟨mg, mo, none⟩) L.length mc, ms)) HB1.out).via ((Below.refl _ _).drew)).trans hfin.2)
    have g4 : w1.cell? ⟨bf, 5, none⟩ = some (.slice (some ⟨gb, 0, none⟩) (k + 1) c) := by
      rw [((HBF2.out.via hal).grown hg1 HBQ.out).cell, ← HK.out]; rfl
    have g5 : w1.cell? ⟨gb, k, none⟩ = some (.slice qA l.length qc) := (Agr.grown (ok := fun b => b = gb) hg1 (fun b e => by rw [e]; exact HGQ.out)).cell rfl hS2.2.1
    have g6 : ∀ i, w1.cell? ⟨w.heap.size, i, none⟩ = #[.int .i64 (x.r : Int), .int .i64 (x.d : Int), .int .i64 (x.f : Int)][i]? := fun i => by
      rw [((HX2.out.via hal).grown hg1 (fun e => by have := HQL.out _ e.symm; omega)).cell]
    have g7 : w1.frozen? ⟨gb, k, none⟩ = false := by
      exact (grown_frozen hg1 (by simp; omega) HGQ.out k).trans ((hal.frozen (p := ⟨gb, k, none⟩) hgw').trans (GF2.out k))
    clear hfin ho1
    refine hK.out _ _ (fun _ => ⟨g4, g5, g6⟩) ?_
    clear hK K
    try dsimp only [Act.put]
    refine wpAnyL.ready (rs := [15]) (by kernel_rfl) (by simp) ?_
    refine AllL.cons rfl (fun K hK => ?_) AllL.nil
    go_simp
    refine hK.out _ _ (fun _ => ⟨g4, g5, g6⟩) ?_
    clear hK K
    try dsimp only [Act.put]
    refine wpAnyL.ready (rs := [16]) (by kernel_rfl) (by simp) ?_
    refine AllL.cons rfl (fun K hK => ?_) AllL.nil
    go_simp
    refine hK.out _ _ (fun h => absurd rfl h) ?_
    clear hK K
    refine wpAnyL.done (by kernel_rfl) ?_ _
    refine NoPanic.normal ?_
    clear g4 g5 g6 g7
    go_wp2_with fail
    refine bodyPost_ret (v := .tuple #[]) (by simp [results, Tryz.results62, go_sem]) rfl ?_
    rw [HX.out]
    exact ⟨rfl, (.slice (some ⟨gb, 0, none⟩) L.length c, hs.set k (A1, l.length + 1, d1), .slice (some ⟨mg, mo, none⟩) L.length mc, ms), HFIN.out, HMV.out⟩
end Go.Proofs.YtbfcnfgkccgbiaaGreatDoor



namespace Go.Proofs.YtbfcnfgkccgbiaaGreatDoor
open Go.RowKit

def InE : Elem Int Int where
  k := 1
  cells x := [.int .i64 x]
  rel _ _ r x := r = x
  pos := by omega
  len _ := rfl
  one r u hu := by simp at hu; subst hu; rfl
  agr h _ := h
  mono h _ := h
theorem flatIn (l : List Int) : flat InE l = l.map (Value.int .i64) := by
  induction l with
  | nil => rfl
  | cons x l ih => simp only [flat, List.flatMap_cons, List.map_cons] at ih ⊢; rw [ih]; rfl
theorem Ints.slE {w : World} {A : Option Addr} {n c : Nat} {xs : List Int} (h : Ints w A n c xs) : Sl InE (fun b => ∃ o, A = some ⟨b, o, none⟩) w A n c xs := by
  refine ⟨h.1, h.2.1, xs, h.1, fun hne => ?_, fun i r x hr hx => by rw [hr] at hx; exact Option.some.inj hx⟩
  have hn : 0 < n := by
    rcases Nat.eq_zero_or_pos n with h0 | h0
    · exfalso; apply hne
      have : xs = [] := List.eq_nil_of_length_eq_zero (by rw [h.1, h0])
      rw [this]; rfl
    · exact h0
  obtain ⟨b, off, e, hc⟩ := h.2.2 hn
  refine ⟨b, off, e, ⟨off, e⟩, fun j u hu => ?_⟩
  rw [flatIn, List.getElem?_map] at hu
  obtain ⟨y, hy, rfl⟩ := Option.map_eq_some_iff.1 hu
  have hj := (List.getElem?_eq_some_iff.1 hy).1
  have e1 := hc j (by have := h.1; omega)
  rw [List.getD_eq_getElem?_getD, hy] at e1
  exact e1
theorem Sl.intsIn {ok : Nat → Prop} {w : World} {A : Option Addr} {n c : Nat} {xs : List Int} (h : Sl InE ok w A n c xs) : Ints w A n c xs := by
  obtain ⟨h1, h2, raw, h3, h4, h5⟩ := h
  have er : raw = xs := List.ext_getElem (by omega) fun i a b => h5 i _ _ (List.getElem?_eq_getElem a) (List.getElem?_eq_getElem b)
  subst er
  refine ⟨h1, h2, fun hn => ?_⟩
  obtain ⟨b, off, e, -, hc⟩ := h4 (by rw [flatIn]; intro e; have : raw.length = 0 := by simpa using congrArg List.length e
                                      omega)
  refine ⟨b, off, e, fun i hi => ?_⟩
  have hi' : i < raw.length := by omega
  exact hc i _ (by rw [flatIn, List.getElem?_map, List.getElem?_eq_getElem hi', List.getD_eq_getElem?_getD, List.getElem?_eq_getElem hi']; rfl)
end Go.Proofs.YtbfcnfgkccgbiaaGreatDoor

