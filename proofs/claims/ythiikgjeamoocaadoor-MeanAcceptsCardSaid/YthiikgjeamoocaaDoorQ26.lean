/- Texts TV, TY, EK, SK, laid together. -/
import Derived.Test.YthiikgjeamoocaaDoorQ18
import Derived.Test.YthiikgjeamoocaaDoorQ3
import Derived.Test.YthiikgjeamoocaaDoorQ25
import Derived.Test.YthiikgjeamoocaaDoorQ4
import Derived.Test.YthiikgjeamoocaaDoorQ2
import Derived.Laws.StructEq



namespace Go.Proofs.YthiikgjeamoocaaDoor
open Go.RowKit

mutual
def CT.tr : CT → Tr
  | .mk r t _ ks => if r < 0 then .leaf t.toNat else .node r.toNat (CT.trs ks)
def CT.trs : List CT → List Tr
  | [] => []
  | a :: l => a.tr :: CT.trs l
end
theorem CT.trs_eq : ∀ l : List CT, CT.trs l = l.map CT.tr
  | [] => by simp [CT.trs]
  | a :: l => by simp [CT.trs, CT.trs_eq l]
theorem CT.tr_eq (x : CT) : x.tr = if x.rule < 0 then .leaf x.term.toNat else .node x.rule.toNat (x.kids.map CT.tr) := by
  cases x with | mk r t s ks =>
    show (CT.mk r t s ks).tr = if r < 0 then .leaf t.toNat else .node r.toNat (ks.map CT.tr)
    rw [CT.tr, CT.trs_eq]
theorem szL_mem {l : List CT} (h : ∀ x ∈ l, x.Wf) {y : CT} (hy : y ∈ l) : y.size ≤ szL l := by
  induction l with
  | nil => cases hy
  | cons a l ih =>
    rw [szL_cons]
    have h1 := (h a (List.mem_cons_self ..)).pos
    have h2 := szL_nn fun x hx => h x (List.mem_cons_of_mem a hx)
    rcases List.mem_cons.1 hy with rfl | hy
    · omega
    · have := ih (fun x hx => h x (List.mem_cons_of_mem _ hx)) hy; omega
theorem leafT_c (a : Nat) (w : World) : Calls Tryd.prog 65 #[.int .i64 (a : Int)] w fun e w' => e = .returned (trVal (-1, (a : Int), none, 0, 0)) ∧ Below w.heap.size w w' := by
  go_enter Tryd.func65, Tryd.ntmps65
  go_wp2_with fail
  refine bodyPost_ret (v := trVal (-1, (a : Int), none, 0, 0)) (by simp [results, Tryd.results65, go_sem, trVal]) rfl ⟨rfl, ?_⟩
  first | exact Below.refl _ _ | exact (Below.refl _ _).al _
/-- the loop of plain -/
structure PlRel (w : World) (r : Int) (l : List Tr) (k : Nat) (v : Value) (wr : World) : Prop where
  b1 : Blk wr w.heap.size 59 #[.int .i64 0, .int .i64 0, .slice none 0 0]
  b2 : Blk wr (w.heap.size + 1) 59 #[.int .i64 r, .int .i64 0, v]
  own : Own TrE 59 (fun b => w.heap.size + 2 ≤ b) wr (w.heap.size + 2) v k (l.take k)
  bel : Below w.heap.size w wr
  size : w.heap.size + 2 ≤ wr.heap.size
theorem PlRel.via {w wr wa : World} {r : Int} {l : List Tr} {k : Nat} {v : Value} (h : PlRel w r l k v wr) (hb : Below wr.heap.size wr wa) : PlRel w r l k v wa :=
  ⟨h.b1.via hb, h.b2.via hb, h.own.via hb, h.bel.via hb, Nat.le_trans h.size hb.size⟩
theorem PlRel.push {w wr w1 : World} {r : Int} {l : List Tr} {y : Tr} {k : Nat} {v v' : Value} (h : PlRel w r l k v wr) (hy : l[k]? = some y) (ho : Own TrE 59 (fun b => w.heap.size + 2 ≤ b) w1 (w.heap.size + 2) v' (k + 1) (l.take k ++ [y])) (hg : wr.grownBy w1 v.ownBlock) :
    PlRel w r l (k + 1) v' (w1.setCell ⟨w.heap.size + 1, 2, none⟩ v') := by
  have hne : ∀ j, j < w.heap.size + 2 → some j ≠ v.ownBlock := fun j hj e => by have := (h.own.lt j e.symm).1; omega
  have hsz := h.size
  refine ⟨?_, ?_, ?_, ?_, ?_⟩
  · exact (h.b1.grown hg (hne _ (by omega))).far (by simp) _
  · have := (h.b2.grown hg (hne _ (by omega))).set_ 2 v'; simpa using this
  · have e : l.take (k + 1) = l.take k ++ [y] := by
      have hl := (List.getElem?_eq_some_iff.1 hy)
      rw [List.take_succ_eq_append_getElem hl.1, hl.2]
    rw [e]
    exact ho.setCell _ (fun b hb => by show b ≠ w.heap.size + 1; omega) (by show w.heap.size + 1 < _; omega)
  · exact (h.bel.grown hg (by omega) fun j hj => by have := (h.own.lt j hj).1; omega).setCell (by simp) _
  · have := hg.size; simp; omega
def PlP (w : World) (t : CT) (e : Ending) (w' : World) : Prop := ∃ v : TrV, e = .returned (trVal v) ∧ TreeR (fun b => w.heap.size ≤ b) w' v t.tr ∧ Below w.heap.size w w'
set_option maxRecDepth 100000 in
set_option maxHeartbeats 4000000 in
theorem plain_n (N : Nat) : ∀ (ok : Nat → Prop) (b : Nat) (t : CT) (w : World), PtR ok w b t → t.Wf → t.size ≤ (N : Int) →
    Calls Tryd.prog 50 #[.pointer (ptA b)] w (PlP w t) := by
  induction N with
  | zero => intro ok b t w _ h1 h2; have := h1.pos; omega
  | succ N ih =>
    intro ok b t w h hW hN
    obtain ⟨A, c, hb, hB, hS⟩ := h.open
    have hlen := hW.len
    have hle := hS.le
    have htm := hW.term
    have HS := Lib.hid hS
    have HW := Lib.hid hW
    have HN := Lib.hid hN
    obtain ⟨n, hn⟩ : ∃ n, n = t.kids.length := ⟨_, rfl⟩
    have HNN := Lib.hid hn
    rw [← hn] at hB hlen hle
    obtain ⟨r, hr⟩ : ∃ r, r = t.rule := ⟨_, rfl⟩
    obtain ⟨tm, ht⟩ : ∃ tm, tm = t.term := ⟨_, rfl⟩
    have HRR := Lib.hid hr
    have HTT := Lib.hid ht
    rw [← hr, ← ht] at hB
    rw [← hr, ← ht] at htm
    have hal := (Below.refl w.heap.size w).al (.cells #[.int .i64 0, .int .i64 0, .slice none 0 0] 59)
    have HB1 := Lib.hid hal
    have B1 := Blk.new w 59 #[.int .i64 0, .int .i64 0, .slice none 0 0]
    have BT := hB.via hal
    clear h hS hW hN hn hr ht hB hal hb
    go_enter Tryd.func50, Tryd.ntmps50
    by_cases h0 : r < 0
    · obtain ⟨a, rfl⟩ : ∃ a : Nat, tm = (a : Int) := ⟨tm.toNat, by have := htm h0; omega⟩
      have HTR := Lib.hid (show t.tr = .leaf a by rw [CT.tr_eq, if_pos (by rw [← HRR.out]; exact h0), ← HTT.out]; rfl)
      clear htm
      have cBT := BT.cell
      have fBT := BT.frozen
      have lBT := BT.lt
      go_upto_region 2 with fail
      generalize hW1 : w.alloc (.cells #[.int .i64 0, .int .i64 0, .slice none 0 0] 59) = W1 at *
      have HW1 := Lib.hid hW1
      clear hW1
      go_wp2_with fail
      refine (leafT_c a W1).mono ?_
      rintro e w2 ⟨rfl, hb2⟩
      clear cBT fBT lBT
      have B2 := B1.via hb2
      have HB2 := Lib.hid (HB1.out.via hb2)
      clear hb2 BT B1
      simp only [trVal]
      have cB2 := B2.cell
      have fB2 := B2.frozen
      have lB2 := B2.lt
      go_wp2_with fail
      refine bodyPost_ret (v := trVal (-1, (a : Int), none, 0, 0)) (by simp [results, Tryd.results50, go_sem, trVal, cB2]) rfl ⟨_, rfl, ?_, ?_⟩
      · rw [HTR.out]; exact .leaf a none 0
      · exact ((HB2.out.setCell (by simp) _).setCell (by simp) _).setCell (by simp) _
    · obtain ⟨rn, rfl⟩ : ∃ rn : Nat, r = (rn : Int) := ⟨r.toNat, by omega⟩
      have HTR := Lib.hid (show t.tr = .node rn (t.kids.map CT.tr) by rw [CT.tr_eq, if_neg (by rw [← HRR.out]; exact h0), ← HRR.out]; rfl)
      have HKL := Lib.hid (show (t.kids.map CT.tr).length = n by rw [List.length_map]; exact HNN.out.symm)
      obtain ⟨l, hl⟩ : ∃ l, l = t.kids.map CT.tr := ⟨_, rfl⟩
      have HL := Lib.hid hl
      rw [← hl] at HTR HKL
      clear htm hl
      have BT2 := BT.al (.cells #[.int .i64 (rn : Int), .int .i64 0, .slice none 0 0] 59)
      have cBT := BT.cell
      have fBT := BT.frozen
      have lBT := BT.lt
      have cBT2 := BT2.cell
      have fBT2 := BT2.frozen
      have lBT2 := BT2.lt
      go_wp2_with fail
      clear cBT fBT lBT cBT2 fBT2 lBT2
      go_loopw [26] (fun i wr => ∃ (k : Nat) (v : Value), i = .int .i64 k ∧ k ≤ n ∧ Hid (PlRel w (rn : Int) l k v wr)) (fun i _ => n - (intOf i).toNat)
      case atStart =>
        refine ⟨0, _, rfl, Nat.zero_le _, Lib.hid ⟨?_, ?_, Own.nil _ _, ?_, ?_⟩⟩
        · exact B1.al _
        · have := (Blk.new (w.alloc (.cells #[.int .i64 0, .int .i64 0, .slice none 0 0] 59)) 59 #[.int .i64 (rn : Int), .int .i64 0, .slice none 0 0])
          simpa using this
        · exact ((Below.refl _ _).al _).al _
        · simp
      case round =>
        obtain ⟨k, v, rfl, hk, HR⟩ := hrel
        obtain ⟨Av, cv, rfl, -⟩ := HR.out.own.form
        by_cases hlt : k < n
        · obtain ⟨b3, o3, x, y, hA, -, hb3, hy, hxy, hc⟩ := HS.out.at_ (i := k) (by rw [← HNN.out]; exact hlt)
          subst hA
          have hxy' : PtR ok w x y := hxy
          have c0 := (HR.out.bel.cell (p := ⟨b3, o3 + k * 1, none⟩) hb3).trans (hc 0 _ rfl)
          simp only [Nat.mul_one] at c0
          have i0 : (0 : Int) ≤ (k : Int) := by omega
          have i1 : (k : Int) < (n : Int) := by omega
          have hym := List.mem_of_getElem? hy
          have hsy : y.size ≤ (N : Int) := by
            have h1 := HW.out.size_eq
            have h2 := HN.out
            have h3 := szL_nn HW.out.kids
            have h4 : y.size ≤ szL t.kids := szL_mem HW.out.kids hym
            have h5 : t.size = 1 + szL t.kids := h1
            omega
          have HYL := Lib.hid (show l[k]? = some y.tr by rw [HL.out, List.getElem?_map, hy]; rfl)
          have HYW := Lib.hid (HW.out.kids y hym)
          have HY := Lib.hid (hxy'.via HR.out.bel)
          have HSY := Lib.hid hsy
          have Bo := HR.out.b2
          clear hc hy hxy hxy' hsy hym hb3
          go_upto_region 7 with fail
          clear c0
          have cBo := Bo.cell
          have fBo := Bo.frozen
          have lBo := Bo.lt
          go_region_law (first
            | (go_simp; go_at_call 50; refine (ih ok x y wr.drew (PtR.via HY.out (Below.refl wr.heap.size wr).drew) HYW.out HSY.out).mono ?_; rintro e w' ⟨v2, rfl, hT2, hb2⟩; have cP := (Bo.dr.via hb2).cell; have lP := (Bo.dr.via hb2).lt; dsimp only [trVal])
            | (have HA := (HR.out.via ((Below.refl wr.heap.size wr).drew)).via hb2
               have HB := HA.via ((Below.refl w'.heap.size w').alloc (Nat.le_refl _) (.cells #[.int .i64 v2.1, .int .i64 v2.2.1, .slice v2.2.2.1 v2.2.2.2.1 v2.2.2.2.2] 59))
               refine step_append_tr _ rfl (.tmp 31) (.tmp 34) rfl (fun b => w.heap.size + 2 ≤ b) (w.heap.size + 2) (.slice Av k cv) k (l.take k) rfl HB.own w'.heap.size v2 y.tr rfl (Blk.new w' 59 #[.int .i64 v2.1, .int .i64 v2.2.1, .slice v2.2.2.1 v2.2.2.2.1 v2.2.2.2.2]) ((hT2.al _).mono fun b _ hb => ⟨Nat.le_trans HR.out.size hb, fun e => Nat.lt_irrefl b (Nat.lt_of_lt_of_le (HR.out.own.lt b e.symm).2 hb)⟩) (by omega) HB.size ?_
               intro Av1 cv1 w1 ho1 hg1 hat1
               have B2g := HB.b2.grown hg1 (fun e => by have := (HB.own.lt _ e.symm).1; omega)
               have c2g := B2g.cell
               have f2g := B2g.frozen))
          all_goals
            have HP := Lib.hid (PlRel.push HB HYL.out ho1 hg1)
            clear HA HB
            go_wp2_with fail
            exact ⟨⟨k + 1, _, by go_num, by omega, HP⟩, by simp [intOf]; omega⟩
        · have hk' : k = n := by omega
          subst hk'
          have B1' := HR.out.b1
          have B2' := HR.out.b2
          have cB1' := B1'.cell
          have fB1' := B1'.frozen
          have lB1' := B1'.lt
          have cB2' := B2'.cell
          have fB2' := B2'.frozen
          have lB2' := B2'.lt
          go_wp2_with fail
          refine bodyPost_ret (v := trVal ((rn : Int), 0, Av, k, cv)) (by simp [results, Tryd.results50, go_sem, trVal, cB1']) rfl ⟨_, rfl, ?_, ?_⟩
          · have ho := ((HR.out.own.setCell (p := ⟨w.heap.size, 0, none⟩) (.int .i64 (rn : Int)) (fun b hb => by show b ≠ w.heap.size; omega) (by show w.heap.size < _; omega)).setCell (p := ⟨w.heap.size, 1, none⟩) (.int .i64 0) (fun b hb => by show b ≠ w.heap.size; omega) (by show w.heap.size < _; omega)).setCell (p := ⟨w.heap.size, 2, none⟩) (.slice Av k cv) (fun b hb => by show b ≠ w.heap.size; omega) (by show w.heap.size < _; omega)
            have hs := ho.toSl (ok' := fun b => w.heap.size ≤ b) (fun b _ hb => by omega) (fun b hb => by omega)
            rw [List.take_of_length_le (by rw [HKL.out]; exact Nat.le_refl _)] at hs
            rw [HTR.out]
            exact TreeR.mk rn hs
          · exact ((HR.out.bel.setCell (by simp) _).setCell (by simp) _).setCell (by simp) _
end Go.Proofs.YthiikgjeamoocaaDoor




namespace Go.Proofs.YthiikgjeamoocaaDoor
open Go.RowKit

theorem runL_uniq {nd : List NdI} {root most : Nat} : ∀ (d d' : Nat) (st r r' : LsS), runL nd root most d st = some r → runL nd root most d' st = some r' → r = r'
  | 0, d', st, r, r', h, _ => by simp [runL] at h
  | d + 1, 0, st, r, r', _, h => by simp [runL] at h
  | d + 1, d' + 1, st, r, r', h, h' => by
    unfold runL at h h'
    split at h
    · next hc =>
      rw [if_pos hc] at h'
      cases h; cases h'; rfl
    · next hc =>
      rw [if_neg hc] at h'
      cases hp : (popQ st.q).getLast? with
      | none =>
        rw [hp] at h h'
        cases h; cases h'; rfl
      | some x =>
        rw [hp] at h h'
        simp only at h h'
        split at h
        · next hb =>
          rw [if_pos hb] at h'
          cases h; cases h'; rfl
        · next hb =>
          rw [if_neg hb] at h'
          exact runL_uniq d d' _ r r' h h'
/-- the first tree of a terminal's node -/
def initT (x : NdI) : List CT := if x.1.1 = true then [.mk (-1) x.1.2.1 1 []] else []
def startL (nd : List NdI) : LsS := ⟨nd.map initT, [], [], []⟩
abbrev c00 (v p : Nat) : Cand := (v, p, 0, 0, 0, 0)
noncomputable def feedTo (nd : List NdI) (v k : Nat) (st : LsS) : LsS := (List.range k).foldl (fun s p => firstL nd (c00 v p) s) st
noncomputable def seedTo (nd : List NdI) (v : Nat) : LsS := (List.range v).foldl (fun s u => feedTo nd u (ndAt nd u).2.length s) (startL nd)
theorem feedTo_succ (nd : List NdI) (v k : Nat) (st : LsS) : feedTo nd v (k + 1) st = firstL nd (c00 v k) (feedTo nd v k st) := by
  unfold feedTo; rw [List.range_succ, List.foldl_append]; rfl
theorem seedTo_succ (nd : List NdI) (v : Nat) : seedTo nd (v + 1) = feedTo nd v (ndAt nd v).2.length (seedTo nd v) := by
  unfold seedTo; rw [List.range_succ, List.foldl_append]; rfl
/-- the packs from the v-th node on -/
def restK (nd : List NdI) (v : Nat) : Nat := ((nd.drop v).map fun x => x.2.length).sum
theorem restK_step {nd : List NdI} {v : Nat} (hv : v < nd.length) : restK nd v = (ndAt nd v).2.length + restK nd (v + 1) := by
  unfold restK
  rw [List.drop_eq_getElem_cons hv, List.map_cons, List.sum_cons]
  unfold ndAt
  rw [List.getElem?_eq_getElem hv]; rfl
theorem restK_end {nd : List NdI} {v : Nat} (hv : nd.length ≤ v) : restK nd v = 0 := by unfold restK; rw [List.drop_eq_nil_of_le hv]; rfl
/-- terminals are no negative numbers -/
def TmK (nd : List NdI) : Prop := ∀ x ∈ nd, x.1.1 = true → 0 ≤ x.1.2.1
theorem lstAt_start {nd : List NdI} (v : Nat) : lstAt (startL nd).lists v = initT (ndAt nd v) := by
  show (nd.map initT).getD v [] = _
  rw [List.getD_eq_getElem?_getD, List.getElem?_map]
  unfold ndAt
  cases nd[v]? <;> rfl
theorem initT_ok {x : NdI} (h : x.1.1 = true → 0 ≤ x.1.2.1) : (initT x).length ≤ 1 ∧ ∀ t ∈ initT x, t.Wf ∧ t.size ≤ 5000 := by
  unfold initT
  split
  · next hx =>
    refine ⟨by simp, fun t ht => ?_⟩
    rw [List.mem_singleton.1 ht]
    refine ⟨?_, by show (1 : Int) ≤ 5000; omega⟩
    have := CT.Wf.mk (-1) x.1.2.1 [] (fun k hk => by cases hk) (by simp) (fun _ => h hx)
    simpa using this
  · exact ⟨by simp, fun t ht => by cases ht⟩
theorem startL_inv {nd : List NdI} {most : Nat} (hT : TmK nd) (hm : 1 ≤ most) : LInv nd most (restK nd 0) (startL nd) 0 (restK nd 0) := by
  refine ⟨by simp [startL], fun v => ?_, (fun x hx => by cases hx), (fun p hp => by cases hp), by simp [startL, wSum], by simp [startL], ⟨by simp [startL], fun p hp => by cases hp⟩⟩
  rw [lstAt_start]
  have h := initT_ok (x := ndAt nd v) (by
    by_cases hv : v < nd.length
    · have : ndAt nd v ∈ nd := by unfold ndAt; rw [List.getElem?_eq_getElem hv]; exact List.getElem_mem hv
      exact hT _ this
    · unfold ndAt; rw [List.getElem?_eq_none (by omega)]; intro h; cases h)
  exact ⟨Nat.le_trans h.1 hm, h.2⟩
theorem c00_ok {nd : List NdI} {most v p : Nat} (hv : v < nd.length) (hp : p < (ndAt nd v).2.length) : CdOk nd most (c00 v p) :=
  ⟨hv, hp, fun i => by
    have : Rk.get (0, 0, 0, 0) i = 0 := by
      match i with
      | 0 => rfl
      | 1 => rfl
      | 2 => rfl
      | i + 3 => rfl
    show Rk.get (0, 0, 0, 0) i ≤ most
    rw [this]; exact Nat.zero_le _⟩
theorem feedTo_inv {nd : List NdI} {most base : Nat} (hf : FoK nd) {v : Nat} (hv : v < nd.length) : ∀ (k : Nat) (st : LsS) (rem : Nat), k ≤ (ndAt nd v).2.length → LInv nd most base st 0 (k + rem) → LInv nd most base (feedTo nd v k st) 0 rem ∧ (feedTo nd v k st).lists = st.lists
  | 0, st, rem, _, h => ⟨by simpa [feedTo] using h, rfl⟩
  | k + 1, st, rem, hk, h => by
    obtain ⟨a, b⟩ := feedTo_inv hf hv k st (rem + 1) (by omega) (by rwa [show k + (rem + 1) = k + 1 + rem by omega])
    rw [feedTo_succ]
    exact ⟨firstL_inv hf (c00_ok hv (by omega)) a, (firstL_lists nd _ _).trans b⟩
theorem seedTo_inv {nd : List NdI} {most : Nat} (hf : FoK nd) (hT : TmK nd) (hm : 1 ≤ most) : ∀ v, v ≤ nd.length → LInv nd most (restK nd 0) (seedTo nd v) 0 (restK nd v) ∧ (seedTo nd v).lists = nd.map initT
  | 0, _ => ⟨startL_inv hT hm, rfl⟩
  | v + 1, hv => by
    obtain ⟨a, b⟩ := seedTo_inv hf hT hm v (by omega)
    rw [restK_step (show v < nd.length by omega)] at a
    rw [seedTo_succ]
    obtain ⟨c, d⟩ := feedTo_inv hf (show v < nd.length by omega) _ _ _ (Nat.le_refl _) a
    exact ⟨c, d.trans b⟩
/-- the state where the main loop has ended -/
noncomputable def endL (nd : List NdI) (root most : Nat) : LsS := @Classical.epsilon LsS ⟨startL nd⟩ fun s => ∃ d, runL nd root most d (seedTo nd nd.length) = some s
theorem endL_eq {nd : List NdI} {root most d : Nat} {s : LsS} (h : runL nd root most d (seedTo nd nd.length) = some s) : endL nd root most = s := by
  obtain ⟨d', h'⟩ := @Classical.epsilon_spec_aux LsS ⟨startL nd⟩ (fun s => ∃ d, runL nd root most d (seedTo nd nd.length) = some s) ⟨s, d, h⟩
  exact runL_uniq d' d _ _ _ h' h
theorem endL_run {nd : List NdI} {root most : Nat} (hf : FoK nd) (hT : TmK nd) (hm : 1 ≤ most) : ∃ d, runL nd root most d (seedTo nd nd.length) = some (endL nd root most) := by
  obtain ⟨h, -⟩ := seedTo_inv hf hT hm nd.length (Nat.le_refl _)
  rw [restK_end (Nat.le_refl _)] at h
  obtain ⟨d, r, hd⟩ := runL_ex (root := root) hf _ _ _ (Nat.le_refl _) (Nat.le_refl _) h
  exact ⟨d, by rw [endL_eq hd]; exact hd⟩
/-- what core.Trees answers -/
noncomputable def trsV (r : Int) (nd : List NdI) (most : Nat) : List Tr × Bool :=
  if r < 0 ∨ most = 0 then ([], true)
  else if (lstAt (endL nd r.toNat most).lists r.toNat).length < most ∧ (cntV (r, nd) = -1 ∨ ((lstAt (endL nd r.toNat most).lists r.toNat).length : Int) < cntV (r, nd)) then ([], false)
  else ((lstAt (endL nd r.toNat most).lists r.toNat).map CT.tr, true)
end Go.Proofs.YthiikgjeamoocaaDoor





namespace Go.Proofs.YthiikgjeamoocaaDoor
open Go.RowKit

/-- no row is longer than memory allows -/
def FoB (f : List NdI) : Prop := f.length ≤ 17592186044416 ∧ ∀ x ∈ f, x.2.length ≤ 17592186044416 ∧ ∀ p ∈ x.2, p.2.length ≤ 17592186044416
end Go.Proofs.YthiikgjeamoocaaDoor

