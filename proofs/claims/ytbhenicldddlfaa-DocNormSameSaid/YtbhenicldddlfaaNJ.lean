/- Texts NJ, laid together. -/
import Derived.Test.YtbhenicldddlfaaNI
import Derived.Test.YtbhenicldddlfaaD7



namespace Go.Proofs.Ytbhenicldddlfaa
open Go.RowKit

def NrmP (t : Dc) (w : World) (e : Ending) (w' : World) : Prop := ∃ v', e = .returned (dcVal v') ∧ DcR (fun b => w.heap.size ≤ b) w' v' t.nrm ∧ Below w.heap.size w w'
/-- behind k arguments: the new node in block bo, its arguments in a row of its own -/
structure NS (W : World) (bo lo : Nat) (ok : Nat → Prop) (c0 c1 c2 : Value) (k : Nat) (v : Value) (ks : List Dc) (wr : World) : Prop where
  own : Own DcE 30 ok wr lo v k ks
  blk : Blk wr bo 30 #[c0, c1, c2, v]
  bel : Below bo W wr
  lt : bo < lo
  size : lo ≤ wr.heap.size
  okk : ∀ b, ok b → bo < b
section
variable {W wr wa w1 : World} {bo lo k : Nat} {ok : Nat → Prop} {c0 c1 c2 v v' : Value} {ks ks' : List Dc}
theorem NS.below (h : NS W bo lo ok c0 c1 c2 k v ks wr) (hb : Below wr.heap.size wr wa) : NS W bo lo ok c0 c1 c2 k v ks wa :=
  ⟨h.own.via hb, h.blk.via hb, h.bel.trans (hb.mono (by have := h.lt; have := h.size; omega)), h.lt, Nat.le_trans h.size hb.size, h.okk⟩
theorem NS.push {k' : Nat} (h : NS W bo lo ok c0 c1 c2 k v ks wr) (ho : Own DcE 30 ok w1 lo v' k' ks') (hg : wr.grownBy w1 v.ownBlock) : NS W bo lo ok c0 c1 c2 k' v' ks' (w1.setCell ⟨bo, 3, none⟩ v') := by
  have hlt := h.lt
  have hsz := h.size
  have hne : ∀ j, j ≤ bo → some j ≠ v.ownBlock := fun j hj e => by have := (h.own.lt j e.symm).1; omega
  refine ⟨ho.setCell _ (fun b hb e => by have := h.okk b hb; simp only at e; omega) hlt, ?_, ?_, hlt, ?_, h.okk⟩
  · have := (h.blk.grown hg (hne _ (by omega))).set_ 3 v'; simpa using this
  · exact (h.bel.grown hg (by omega) (fun j e => by have := (h.own.lt j e).1; omega)).setCell (Nat.le_refl _) _
  · have := hg.size; simp; omega
end
theorem NS.text {W wr : World} {bo lo n c g : Nat} {ok : Nat → Prop} {c0 c1 c2 : Value} {l : List Dc} {y : Dc} (h : NS W bo lo ok c0 c1 c2 (n + 1) (.slice (some ⟨g, 0, none⟩) (n + 1) c) (l ++ [y]) wr) (hg : lo ≤ g) (s : ByteArray) :
    NS W bo lo ok c0 c1 c2 (n + 1) (.slice (some ⟨g, 0, none⟩) (n + 1) c) (l ++ [.node y.kind s y.ind y.args]) (wr.setCell ⟨g, n * 4 + 1, none⟩ (.string s)) := by
  have h1 := h.lt
  exact ⟨h.own.setText s, h.blk.far (by simp; omega) _, h.bel.setCell (by simp; omega) _, h.lt, by have := h.size; simpa using this, h.okk⟩
theorem nrms_take {ks : List Dc} {k : Nat} {y : Dc} (h : ks[k]? = some y) : Dc.nrms (ks.take (k + 1)) = Dc.nrms (ks.take k) ++ [y.nrm] := by
  rw [Dc.nrms_map, Dc.nrms_map]
  have hl := List.getElem?_eq_some_iff.1 h
  rw [List.take_succ_eq_append_getElem hl.1, hl.2, List.map_append]; rfl

theorem nrm_else {t : Dc} (h5 : t.kind ≠ 5) (h4 : t.kind ≠ 4) : t.nrm = .node t.kind t.text t.ind (Dc.nrms t.args) := by
  cases t; simp only [Dc.kind] at h4 h5; rw [Dc.nrm, if_neg h5, if_neg h4]; rfl
theorem nrm_4 {t : Dc} (h4 : t.kind = 4) : t.nrm = catD t.text t.ind (mergeD (spliceD (Dc.nrms t.args))) := by
  cases t; simp only [Dc.kind] at h4; subst h4; rw [Dc.nrm, if_neg (by omega), if_pos rfl]; rfl
theorem nrm_5 {t x : Dc} (h5 : t.kind = 5) (hx : t.args = [x]) : t.nrm = nestD t.text t.ind [x.nrm] x.nrm := by
  cases t; simp only [Dc.kind, Dc.args] at h5 hx; subst h5 hx; rw [Dc.nrm, if_pos rfl]; rfl
theorem Dc.len_sizes (l : List Dc) : l.length ≤ Dc.sizes l := by
  induction l with
  | nil => simp
  | cons a l ih => have := a.size_pos; simp only [List.length_cons, Dc.sizes]; omega
theorem spliceD_take {ks : List Dc} {j : Nat} {y : Dc} (h : ks[j]? = some y) : spliceD (ks.take (j + 1)) = spliceD (ks.take j) ++ if y.kind = 4 then y.args else [y] := by
  have hl := List.getElem?_eq_some_iff.1 h
  rw [List.take_succ_eq_append_getElem hl.1, hl.2]
  simp [spliceD]
theorem ba_empty (s : ByteArray) : s.toList.isEmpty = decide (s.size = 0) := by
  rw [ByteArray.toList_eq]
  have e : s.data.toList.length = s.size := by cases s; rfl
  cases h : s.data.toList with
  | nil => rw [h] at e; simp at e; simp [← e]
  | cons a l => rw [h] at e; rw [decide_eq_false (by rw [← e]; simp)]; rfl
theorem Dc.Ok.text_le {t : Dc} (h : t.Ok) : t.text.size ≤ 60 := by
  cases h with
  | text s h => exact h.1
  | _ => exact Nat.zero_le _
def pushL (l : List Dc) : List Dc := l.foldl pushD []
theorem pushL_take {ks : List Dc} {j : Nat} {y : Dc} (h : ks[j]? = some y) : pushL (ks.take (j + 1)) = pushD (pushL (ks.take j)) y := by
  have hl := List.getElem?_eq_some_iff.1 h
  rw [List.take_succ_eq_append_getElem hl.1, hl.2, pushL, List.foldl_append]; rfl
theorem pushD_skip {out : List Dc} {x : Dc} (h : x.kind = 0) (h2 : x.text.size = 0) : pushD out x = out := by
  unfold pushD; rw [if_pos ⟨h, h2⟩]
theorem pushD_kind {out : List Dc} {x : Dc} (h : x.kind ≠ 0) : pushD out x = out ++ [x] := by
  unfold pushD
  rw [if_neg fun e => h e.1]
  split
  · rw [if_neg fun e => h e.1]
  · rfl
theorem pushD_nil {x : Dc} (h2 : x.text.size ≠ 0) : pushD [] x = [] ++ [x] := by
  unfold pushD
  rw [if_neg fun e => h2 e.2]; rfl
theorem pushD_far {p : List Dc} {x y : Dc} (h2 : x.text.size ≠ 0) (h : ¬ (y.kind = 0 ∧ y.text.size + x.text.size ≤ 60)) : pushD (p ++ [y]) x = (p ++ [y]) ++ [x] := by
  unfold pushD
  rw [if_neg fun e => h2 e.2]
  simp only [List.getLast?_append, List.getLast?_singleton, Option.some_or]
  rw [if_neg fun e => h e.2]
theorem pushD_fit {p : List Dc} {x y : Dc} (h2 : x.text.size ≠ 0) (h0 : x.kind = 0) (h : y.kind = 0 ∧ y.text.size + x.text.size ≤ 60) : pushD (p ++ [y]) x = p ++ [.node y.kind (y.text ++ x.text) y.ind y.args] := by
  unfold pushD
  rw [if_neg fun e => h2 e.2]
  simp only [List.getLast?_append, List.getLast?_singleton, Option.some_or]
  rw [if_pos ⟨h0, h⟩, List.dropLast_concat]
theorem pushL_ok {l : List Dc} (h : ∀ x ∈ l, x.Ok) (j : Nat) : ∀ x ∈ pushL (l.take j), x.Ok := mergeD_ok fun x hx => h x (List.mem_of_mem_take hx)
theorem pushL_len (l : List Dc) (j : Nat) : (pushL (l.take j)).length ≤ Dc.sizes l := by
  have h1 := Dc.len_sizes (pushL (l.take j))
  have h2 : Dc.sizes (pushL (l.take j)) ≤ Dc.sizes (l.take j) := mergeD_size _
  have h3 := Dc.sizes_take_le l j
  omega
theorem Ints.tri (w : World) (x y z : Int) (t : TypeId) : Ints (w.alloc (.cells #[.int .i64 x, .int .i64 y, .int .i64 z] t)) (some ⟨w.heap.size, 0, none⟩) 3 3 [x, y, z] :=
  ⟨rfl, Nat.le_refl _, fun _ => ⟨w.heap.size, 0, rfl, fun i hi => by
    rw [Nat.zero_add, World.cell?_alloc_new]
    rcases (by omega : i = 0 ∨ i = 1 ∨ i = 2) with rfl | rfl | rfl <;> rfl⟩⟩
theorem NrmP.fin {t : Dc} {w W wr : World} {bo : Nat} (v : DcV) (hB : Below w.heap.size w W) (hb : Below bo W wr) (h0 : w.heap.size + 1 < bo) (hT : DcR (fun b => bo ≤ b) wr v t.nrm) :
    NrmP t w (.returned (dcVal v)) (World.set4 wr (w.heap.size + 1) v) :=
  ⟨v, rfl, (hT.agr (agr_set4 fun b hb => by omega)).mono fun b _ hb => by omega, below_set4 (hB.trans (hb.mono (by omega))) (by omega)⟩

set_option maxRecDepth 100000 in
set_option maxHeartbeats 8000000 in
theorem norm_n (N : Nat) : ∀ (v : DcV) (t : Dc) (w : World), DcR (fun _ => True) w v t → t.Ok → t.size ≤ N → N ≤ 100000 → Calls Try.prog 25 #[dcVal v] w (NrmP t w) := by
  induction N with
  | zero => intro v t w _ _ h; have := t.size_pos; omega
  | succ N ih =>
    intro v t w hT ho hN hM
    obtain ⟨a, s, b, A, m, c⟩ := v
    obtain ⟨h1, h2, h3, hS⟩ := hT.parts
    simp only at h1 h2 h3 hS
    subst h1 h2 h3
    simp only [dcVal]
    have HO := Lib.hid ho
    have hps := t.size_pos
    have hln : m < t.size := by rw [← hS.len]; exact t.args_len
    have hki := ho.kind_le
    have hii := ho.ind_le
    have hB0 := (Below.refl w.heap.size w).al (.cells #[.int .i64 (t.kind : Int), .string t.text, .int .i64 (t.ind : Int), .slice A m c] 30)
    have hB := hB0.al (.cells #[.int .i64 0, .string ⟨#[]⟩, .int .i64 0, .slice none 0 0] 30)
    have B0 := (Blk.new w 30 #[.int .i64 (t.kind : Int), .string t.text, .int .i64 (t.ind : Int), .slice A m c]).al (.cells #[.int .i64 0, .string ⟨#[]⟩, .int .i64 0, .slice none 0 0] 30)
    have R0 := Blk.new1 w (.cells #[.int .i64 (t.kind : Int), .string t.text, .int .i64 (t.ind : Int), .slice A m c] 30) 30 #[.int .i64 0, .string ⟨#[]⟩, .int .i64 0, .slice none 0 0]
    have HS := Lib.hid (hS.via hB)
    have HB := Lib.hid hB
    have hW : ((w.alloc (.cells #[.int .i64 (t.kind : Int), .string t.text, .int .i64 (t.ind : Int), .slice A m c] 30)).alloc (.cells #[.int .i64 0, .string ⟨#[]⟩, .int .i64 0, .slice none 0 0] 30)).heap.size = w.heap.size + 2 := by simp
    clear hT hS hB hB0 ho
    go_enter Try.func25, Try.ntmps25
    go_upto_region 1 with fail
    generalize (w.alloc (.cells #[.int .i64 (t.kind : Int), .string t.text, .int .i64 (t.ind : Int), .slice A m c] 30)).alloc (.cells #[.int .i64 0, .string ⟨#[]⟩, .int .i64 0, .slice none 0 0] 30) = W at *
    have HW := Lib.hid hW
    have hWl : w.heap.size + 1 < W.heap.size := by omega
    clear hW
    have B1 := Blk.new W 30 #[.int .i64 (t.kind : Int), .string t.text, .int .i64 (t.ind : Int), .slice none 0 0]
    have hB1 := (Below.refl W.heap.size W).al (.cells #[.int .i64 (t.kind : Int), .string t.text, .int .i64 (t.ind : Int), .slice none 0 0] 30)
    have HB1 := Lib.hid hB1
    have hs1 : W.heap.size + 1 ≤ (W.alloc (.cells #[.int .i64 (t.kind : Int), .string t.text, .int .i64 (t.ind : Int), .slice none 0 0] 30)).heap.size := by simp
    have HR0 := Lib.hid R0
    have HB0 := Lib.hid B0
    have cB0 := B0.cell
    have fB0 := B0.frozen
    have lB0 := B0.lt
    clear R0 hB1
    go_upto_region 2 with fail
    clear cB0 fB0 lB0
    replace B0 := B0.via HB1.out
    generalize W.alloc (.cells #[.int .i64 (t.kind : Int), .string t.text, .int .i64 (t.ind : Int), .slice none 0 0] 30) = W1 at *
    have cB0 := B0.cell
    have fB0 := B0.frozen
    have lB0 := B0.lt
    go_wp2_with fail
    clear cB0 fB0 lB0
    clear B0
    have hNS : NS W W.heap.size (W.heap.size + 1) (fun b => W.heap.size + 1 ≤ b) (.int .i64 (t.kind : Int)) (.string t.text) (.int .i64 (t.ind : Int)) 0 (.slice none 0 0) (Dc.nrms (t.args.take 0)) W1 :=
      ⟨by simpa [Dc.nrms] using Own.nil W1 (W.heap.size + 1), B1, HB1.out, by omega, hs1, fun b hb => by omega⟩
    have HN0 := Lib.hid hNS
    have HI := Lib.hid ih
    clear hNS B1 ih
    generalize hbo : W.heap.size = bo at *
    have HBO := Lib.hid hbo
    clear hbo
    go_loopw [23] (fun i wr => ∃ (k : Nat) (v : Value), i = .int .i64 k ∧ k ≤ m ∧ NS W bo (bo + 1) (fun b => bo + 1 ≤ b) (.int .i64 (t.kind : Int)) (.string t.text) (.int .i64 (t.ind : Int)) k v (Dc.nrms (t.args.take k)) wr) (fun i _ => m - (intOf i).toNat)
    case atStart => exact ⟨0, _, rfl, Nat.zero_le _, HN0.out⟩
    case round =>
      obtain ⟨k, v, rfl, hk, hr⟩ := hrel
      obtain ⟨Av, cv, rfl, -⟩ := hr.own.form
      have HR := Lib.hid hr
      have hsz := hr.size
      have hbr := hr.bel
      clear hr
      by_cases hlt : k < m
      · as_aux_lemma =>
        obtain ⟨b1, o1, ⟨xk, xs, xi, xA, xn, xc⟩, y, rfl, -, hb1, hy, hxy, hc⟩ := (HS.out.via (by have := HBO.out; rw [this]; exact hbr)).at_ hlt
        have hxy' : DcR (fun _ => True) wr (xk, xs, xi, xA, xn, xc) y := hxy
        have c0 := hc 0 _ rfl
        have c1 := hc 1 _ rfl
        have c2 := hc 2 _ rfl
        have c3 := hc 3 _ rfl
        simp only [DcE, Nat.add_zero] at c0 c1 c2 c3
        have i0 : (0 : Int) ≤ (k : Int) := by omega
        have i1 : (k : Int) < (m : Int) := by omega
        have hBx := (Below.refl wr.heap.size wr).al (.cells #[.int .i64 (xk : Int), .string xs, .int .i64 (xi : Int), .slice xA xn xc] 30)
        have BX := Blk.new wr 30 #[.int .i64 (xk : Int), .string xs, .int .i64 (xi : Int), .slice xA xn xc]
        have HX := Lib.hid (hxy'.via hBx)
        have HR2 := Lib.hid (HR.out.below hBx)
        have hym := List.mem_of_getElem? hy
        have hsy := Dc.size_arg hym
        have HOY := Lib.hid (HO.out.arg y hym)
        have HF := Lib.hid (nrms_take hy)
        have Bo := HR2.out.blk
        have hsz2 := HR2.out.size
        have HNX := Lib.hid (show some wr.heap.size ≠ (Value.slice Av k cv).ownBlock from fun e => Nat.lt_irrefl _ (HR.out.own.lt _ e.symm).2)
        clear hc hxy hxy' hy hb1 hBx hym HR hbr
        have cBo := Bo.cell
        have fBo := Bo.frozen
        have lBo := Bo.lt
        have cBX := BX.cell
        have fBX := BX.frozen
        have lBX := BX.lt
        go_upto_region 5 with fail
        clear c0 c1 c2 c3
        generalize wr.alloc (.cells #[.int .i64 (xk : Int), .string xs, .int .i64 (xi : Int), .slice xA xn xc] 30) = wx at *
        have hHeld : (∀ i, wx.drew.cell? ⟨bo, i, none⟩ = #[.int .i64 (t.kind : Int), .string t.text, .int .i64 (t.ind : Int), .slice Av k cv][i]?) ∧ (∀ i, wx.drew.cell? ⟨wr.heap.size, i, none⟩ = #[.int .i64 (xk : Int), .string xs, .int .i64 (xi : Int), .slice xA xn xc][i]?) := ⟨cBo, cBX⟩
        refine wp_region_noPanic ?_
        refine wp_region_L 7 (fun w' => (∀ i, w'.cell? ⟨bo, i, none⟩ = #[.int .i64 (t.kind : Int), .string t.text, .int .i64 (t.ind : Int), .slice Av k cv][i]?) ∧ (∀ i, w'.cell? ⟨wr.heap.size, i, none⟩ = #[.int .i64 (xk : Int), .string xs, .int .i64 (xi : Int), .slice xA xn xc][i]?)) (by kernel_rfl) ?_
        refine wpAnyL.take (i := 0) (d := some 27) (v := ?_) rfl (by kernel_rfl) (by kernel_rfl) (by kernel_rfl) (by kernel_rfl) rfl (fun _ _ _ h => h) (Or.inl ⟨by rfl, ?_⟩) (by assumption) ?_
        rotate_left
        · intro w hSw; (try dsimp only at hSw); go_simp; try with_reducible rfl
        simp only [Act.put, List.setIfInBounds_toArray, List.set_cons_zero, List.set_cons_succ]
        refine wpAnyL.take (i := 1) (d := some 28) (v := ?_) rfl (by kernel_rfl) (by kernel_rfl) (by kernel_rfl) (by kernel_rfl) rfl (fun _ _ _ h => h) (Or.inl ⟨by rfl, ?_⟩) (by assumption) ?_
        rotate_left
        · intro w hSw; (try dsimp only at hSw); go_simp; try with_reducible rfl
        simp only [Act.put, List.setIfInBounds_toArray, List.set_cons_zero, List.set_cons_succ]
        refine wpAnyL.take (i := 2) (d := some 29) (v := ?_) rfl (by kernel_rfl) (by kernel_rfl) (by kernel_rfl) (by kernel_rfl) rfl (fun _ _ _ h => h) (Or.inl ⟨by rfl, ?_⟩) (by assumption) ?_
        rotate_left
        · intro w hSw; (try dsimp only at hSw); go_simp; try with_reducible rfl
        simp only [Act.put, List.setIfInBounds_toArray, List.set_cons_zero, List.set_cons_succ]
        refine wpAnyL.ready (rs := [3]) (by kernel_rfl) (by simp) ?_
        refine AllL.cons rfl (fun K hK => ?_) AllL.nil
        go_simp
        go_at_call 25
        refine (HI.out (xk, xs, xi, xA, xn, xc) y wx.drew HX.out.dr HOY.out (by omega) (by omega)).mono ?_
        rintro e w' ⟨⟨vk, vs, vi, vA, vn, vc⟩, rfl, hT2, hb2⟩
        have HB2 := HR2.out.below (((Below.refl wx.heap.size wx).drew).trans hb2)
        have HBX2 := BX.dr.via hb2
        dsimp only [dcVal]
        go_wp2_with fail
        refine hK.out _ _ (fun _ => ⟨HB2.blk.cell, HBX2.cell⟩) ?_
        clear hK K
        try dsimp only [Act.put]
        refine wpAnyL.ready (rs := [4]) (by kernel_rfl) (by simp) ?_
        refine AllL.cons rfl (fun K hK => ?_) AllL.nil
        go_simp
        have hal := (Below.refl w'.heap.size w').al (.cells #[.int .i64 (vk : Int), .string vs, .int .i64 (vi : Int), .slice vA vn vc] 30)
        have HB3 := HB2.below hal
        have HBX3 := HBX2.via hal
        refine hK.out _ _ (fun _ => ⟨HB3.blk.cell, HBX3.cell⟩) ?_
        clear hK K
        try simp only [Act.put, List.setIfInBounds_toArray, List.set_cons_zero, List.set_cons_succ]
        refine wpAnyL.ready (rs := [5]) (by kernel_rfl) (by simp) ?_
        refine AllL.cons rfl (fun K hK => ?_) AllL.nil
        have hT3 := (hT2.via hal).mono (ok' := fun b => (bo + 1 ≤ b) ∧ some b ≠ (Value.slice Av k cv).ownBlock) fun b _ hb => ⟨Nat.le_trans hsz2 hb, fun e => Nat.lt_irrefl b (Nat.lt_of_lt_of_le (HR2.out.own.lt b e.symm).2 hb)⟩
        refine step_append_dc _ rfl (.tmp 28) (.tmp 31) rfl (fun b => bo + 1 ≤ b) (bo + 1) (.slice Av k cv) k (Dc.nrms (t.args.take k)) rfl HB3.own w'.heap.size (vk, vs, vi, vA, vn, vc) y.nrm rfl (Blk.new w' 30 #[.int .i64 (vk : Int), .string vs, .int .i64 (vi : Int), .slice vA vn vc]) hT3 (by omega) HB3.size ?_
        intro Av1 cv1 w1 ho1 hg1 hat1
        have B2g := HB3.blk.grown hg1 (fun e => by have := (HB3.own.lt _ e.symm).1; omega)
        have BXg := HBX3.grown hg1 HNX.out
        refine hK.out _ _ (fun _ => ⟨B2g.cell, BXg.cell⟩) ?_
        clear hK K
        have hHeld3 := And.intro B2g.cell BXg.cell
        refine wpAnyL.take (i := 6) (d := some 33) (v := ?_) rfl (by kernel_rfl) (by kernel_rfl) (by kernel_rfl) (by kernel_rfl) rfl (fun _ _ _ h => h) (Or.inl ⟨by rfl, ?_⟩) (by assumption) ?_
        rotate_left
        · intro w hSw; (try dsimp only at hSw); go_simp; try with_reducible rfl
        simp only [Act.put, List.setIfInBounds_toArray]
        refine wpAnyL.ready (rs := [7]) (by kernel_rfl) (by simp) ?_
        refine AllL.cons rfl (fun K hK => ?_) AllL.nil
        have c2g := B2g.cell
        have f2g := B2g.frozen
        go_simp
        refine hK.out _ _ (fun h => absurd rfl h) ?_
        clear hK K
        refine wpAnyL.done (by kernel_rfl) ?_ _
        refine NoPanic.normal ?_
        have HP := Lib.hid (HB3.push ho1 hg1)
        clear HB2 HB3
        rw [← HF.out] at HP
        go_wp2_with fail
        exact ⟨⟨k + 1, _, by go_num, by omega, HP.out⟩, by simp [intOf]; omega⟩
      · obtain rfl : k = m := by omega
        have HL := Lib.hid (show Dc.nrms (t.args.take k) = Dc.nrms t.args by rw [List.take_of_length_le (by have := HS.out.len; omega)])
        rw [HL.out] at HR
        have R1 := HR0.out.below hbr (by omega)
        have B0 := HB0.out.below hbr (by omega)
        have Bo := HR.out.blk
        have HBW := Lib.hid hbr
        clear HL HN0 HB1 hbr
        have hcase : (t.kind ≠ 5 ∧ t.kind ≠ 4) ∨ t.kind = 5 ∨ t.kind = 4 := by omega
        rcases hcase with hk0 | hk0 | hk0
        · as_aux_lemma =>
          have hb5 : ((t.kind : Int) == 5) = false := by simp; omega
          have hb4 : ((t.kind : Int) == 4) = false := by simp; omega
          have HK := Lib.hid hk0
          clear hk0
          have cR1 := R1.cell
          have fR1 := R1.frozen
          have lR1 := R1.lt
          have cB0 := B0.cell
          have fB0 := B0.frozen
          have lB0 := B0.lt
          have cBo := Bo.cell
          have fBo := Bo.frozen
          have lBo := Bo.lt
          go_wp2_with fail
          refine bodyPost_ret (v := dcVal (t.kind, t.text, t.ind, Av, k, cv)) (by simp [results, Try.results25, go_sem, dcVal, cR1]) rfl (NrmP.fin (t.kind, t.text, t.ind, Av, k, cv) HB.out HBW.out hWl ?_)
          rw [nrm_else HK.out.1 HK.out.2]
          exact DcR.of _ _ _ (HR.out.own.toSl (fun b _ hb => by omega) (fun b hb => by omega))
        · as_aux_lemma =>
          have hb5 : ((t.kind : Int) == 5) = true := by simp; omega
          have HK := Lib.hid hk0
          clear hk0
          obtain ⟨x, hx⟩ := HO.out.arg_one (Or.inl HK.out)
          obtain rfl : k = 1 := by have := HS.out.len; rw [hx] at this; simpa using this.symm
          have HSO := Lib.hid (HR.out.own.toSl (ok' := fun b => bo + 1 ≤ b) (fun b _ hb => by omega) (fun b hb => by omega))
          obtain ⟨b1, o1, ⟨xk, xs, xi, xA, xn, xc⟩, y, rfl, -, hb1, hy, hxy, hc⟩ := HSO.out.at_ (i := 0) (by omega)
          obtain rfl : y = x.nrm := by rw [hx] at hy; simpa [Dc.nrms] using hy.symm
          have hxy' : DcR (fun b => bo + 1 ≤ b) wr (xk, xs, xi, xA, xn, xc) x.nrm := hxy
          obtain ⟨e1, e2, e3, e4⟩ := hxy'.parts
          simp only at e1 e2 e3 e4
          have c0 := hc 0 _ rfl
          have c1 := hc 1 _ rfl
          have c2 := hc 2 _ rfl
          have c3 := hc 3 _ rfl
          simp only [DcE, Nat.add_zero, Nat.zero_mul] at c0 c1 c2 c3
          have HOX := Lib.hid (Dc.nrm_ok x (HO.out.arg x (by rw [hx]; exact List.mem_cons_self ..)))
          have hxi := HOX.out.ind_le
          have hxk := HOX.out.kind_le
          have HSX := Lib.hid (show x.nrm.size ≤ 1000000 by have := Dc.nrm_size x; have := Dc.size_arg (t := t) (x := x) (by rw [hx]; exact List.mem_cons_self ..); omega)
          have HN := Lib.hid (nrm_5 HK.out hx)
          have HXX := Lib.hid hx
          clear hx
          have HE := Lib.hid (And.intro e1 (And.intro e3 e4))
          have hxi' : xi ≤ 20 := by omega
          have hxk' : xk ≤ 6 := by omega
          have hBx := (Below.refl wr.heap.size wr).al (.cells #[.int .i64 (xk : Int), .string xs, .int .i64 (xi : Int), .slice xA xn xc] 30)
          have HX := Lib.hid (hxy'.via hBx)
          have HR2 := Lib.hid (HR.out.below hBx)
          have HBW2 := Lib.hid (HBW.out.trans (hBx.mono (by omega)))
          have R2 := R1.via hBx
          have B2 := B0.via hBx
          have BX := Blk.new wr 30 #[.int .i64 (xk : Int), .string xs, .int .i64 (xi : Int), .slice xA xn xc]
          clear e1 e2 e3 e4 hxy hxy' hc hb1 hxi hxk hBx HSO
          have cBo := Bo.cell
          have cB0 := B0.cell
          have fB0 := B0.frozen
          have lB0 := B0.lt
          go_upto_region 10 with fail
          clear c0 c1 c2 c3 cBo
          clear cB0 fB0 lB0
          clear R1 B0 Bo HR HBW
          have hgb : wr.heap.size < (wr.alloc (.cells #[.int .i64 (xk : Int), .string xs, .int .i64 (xi : Int), .slice xA xn xc] 30)).heap.size := by simp
          generalize wr.alloc (.cells #[.int .i64 (xk : Int), .string xs, .int .i64 (xi : Int), .slice xA xn xc] 30) = wx at *
          have hii0 : t.ind ≤ 20 := hii
          cases hi0 : ((t.ind : Int) == 0)
          case' true =>
            have HI0 := Lib.hid (show t.ind = 0 by simpa using hi0)
            have cR2 := R2.cell
            have fR2 := R2.frozen
            have lR2 := R2.lt
            have cB2 := B2.cell
            have fB2 := B2.frozen
            have lB2 := B2.lt
            have cBX := BX.cell
            have fBX := BX.frozen
            have lBX := BX.lt
            go_wp2_with fail
            refine bodyPost_ret (v := dcVal (xk, xs, xi, xA, xn, xc)) (by simp [results, Try.results25, go_sem, dcVal, cR2]) rfl (NrmP.fin (xk, xs, xi, xA, xn, xc) HB.out HBW2.out hWl ?_)
            rw [HN.out, nestD, if_pos (Or.inl HI0.out)]
            exact HX.out.mono fun b _ hb => by omega
          case' false =>
            have HI0 := Lib.hid (show ¬ t.ind = 0 by simpa using hi0)
            have hA := (Below.refl wx.heap.size wx).al (.cells #[.int .i64 1, .int .i64 2, .int .i64 3] 3)
            have I1 := Ints.tri wx 1 2 3 3
            have HR3 := Lib.hid (HR2.out.below hA)
            have HBW3 := Lib.hid (HBW2.out.trans (hA.mono (by omega)))
            have HX3 := Lib.hid (HX.out.via hA)
            have cB2 := B2.cell
            have fB2 := B2.frozen
            have lB2 := B2.lt
            have cBX := BX.cell
            have fBX := BX.frozen
            have lBX := BX.lt
            go_wp2_with fail
            clear cB2 fB2 lB2 cBX fBX lBX
            replace R2 := R2.via hA
            replace B2 := B2.via hA
            replace BX := BX.via hA
            clear HR2 HBW2 HX
            have HZW := Lib.hid (show wx.heap.size < (wx.alloc (.cells #[.int .i64 1, .int .i64 2, .int .i64 3] 3)).heap.size by simp)
            generalize wx.alloc (.cells #[.int .i64 1, .int .i64 2, .int .i64 3] 3) = wy at *
            refine (dhas_a _ xk xs xi xA xn xc x.nrm (some ⟨wx.heap.size, 0, none⟩) 3 3 [1, 2, 3] wy HX3.out I1 (by omega) HSX.out).mono ?_
            rintro e wz ⟨rfl, hbz⟩
            replace R2 := R2.via hbz
            replace B2 := B2.via hbz
            replace BX := BX.via hbz
            have HR4 := Lib.hid (HR3.out.below hbz)
            have HBW4 := Lib.hid (HBW3.out.trans (hbz.mono (by have := HR3.out.size; omega)))
            have HX4 := Lib.hid (HX3.out.via hbz)
            have Bo := HR4.out.blk
            clear HR3 HBW3 HX3 I1 hA hbz
            cases hh : hasB [1, 2, 3] x.nrm
            case' false =>
              have HH := Lib.hid hh
              clear hh
              have cR2 := R2.cell
              have fR2 := R2.frozen
              have lR2 := R2.lt
              have cB2 := B2.cell
              have fB2 := B2.frozen
              have lB2 := B2.lt
              have cBX := BX.cell
              have fBX := BX.frozen
              have lBX := BX.lt
              go_wp2_with fail
              refine bodyPost_ret (v := dcVal (xk, xs, xi, xA, xn, xc)) (by simp [results, Try.results25, go_sem, dcVal, cR2]) rfl (NrmP.fin (xk, xs, xi, xA, xn, xc) HB.out HBW4.out hWl ?_)
              rw [HN.out, nestD, if_pos (Or.inr HH.out)]
              exact HX4.out.mono fun b _ hb => by omega
            case' true =>
              have HH := Lib.hid (show ¬ (t.ind = 0 ∨ hasB [1, 2, 3] x.nrm = false) by rintro (h | h); exact HI0.out h; rw [hh] at h; cases h)
              clear hh
              obtain ⟨q, hq⟩ : ∃ q, q = xi + t.ind := ⟨_, rfl⟩
              have hw : IntKind.i64.wrap ((xi : Int) + (t.ind : Int)) = (q : Int) := (IntWalk.i64_in _ (by omega)).trans (by omega)
              have HQ := Lib.hid hq
              clear hq
              cases hx5 : ((xk : Int) == 5)
              case' false =>
                have HX5 := Lib.hid (show xk ≠ 5 by simp at hx5; omega)
                have hk4 : ((t.kind : Int) == 4) = false := by have := HK.out; simp; omega
                have cR2 := R2.cell
                have fR2 := R2.frozen
                have lR2 := R2.lt
                have cB2 := B2.cell
                have fB2 := B2.frozen
                have lB2 := B2.lt
                have cBX := BX.cell
                have fBX := BX.frozen
                have lBX := BX.lt
                have cBo := Bo.cell
                have fBo := Bo.frozen
                have lBo := Bo.lt
                go_wp2_with fail
                refine bodyPost_ret (v := dcVal (t.kind, t.text, t.ind, some ⟨b1, o1, none⟩, 1, cv)) (by simp [results, Try.results25, go_sem, dcVal, cR2]) rfl (NrmP.fin (t.kind, t.text, t.ind, some ⟨b1, o1, none⟩, 1, cv) HB.out HBW4.out hWl ?_)
                rw [HN.out, nestD, if_neg HH.out, if_neg (fun e => HX5.out (by rw [HE.out.1]; exact e.1)), HK.out]
                have := DcR.of 5 t.text t.ind (HR4.out.own.toSl (ok' := fun b => bo ≤ b) (fun b _ hb => by omega) (fun b hb => by omega))
                rw [HXX.out] at this
                simpa [Dc.nrms] using this
              case' true =>
                have HX5 := Lib.hid (show xk = 5 by simp at hx5; omega)
                cases hq20 : decide ((q : Int) ≤ 20)
                case' false =>
                  have HQ2 := Lib.hid (show ¬ q ≤ 20 by simp at hq20; omega)
                  have hk4 : ((t.kind : Int) == 4) = false := by have := HK.out; simp; omega
                  have cR2 := R2.cell
                  have fR2 := R2.frozen
                  have lR2 := R2.lt
                  have cB2 := B2.cell
                  have fB2 := B2.frozen
                  have lB2 := B2.lt
                  have cBX := BX.cell
                  have fBX := BX.frozen
                  have lBX := BX.lt
                  have cBo := Bo.cell
                  have fBo := Bo.frozen
                  have lBo := Bo.lt
                  go_wp2_with fail
                  refine bodyPost_ret (v := dcVal (t.kind, t.text, t.ind, some ⟨b1, o1, none⟩, 1, cv)) (by simp [results, Try.results25, go_sem, dcVal, cR2]) rfl (NrmP.fin (t.kind, t.text, t.ind, some ⟨b1, o1, none⟩, 1, cv) HB.out HBW4.out hWl ?_)
                  rw [HN.out, nestD, if_neg HH.out, if_neg (fun e => HQ2.out (by rw [HQ.out, HE.out.2.1]; exact e.2)), HK.out]
                  have := DcR.of 5 t.text t.ind (HR4.out.own.toSl (ok' := fun b => bo ≤ b) (fun b _ hb => by omega) (fun b hb => by omega))
                  rw [HXX.out] at this
                  simpa [Dc.nrms] using this
                case' true =>
                  have HQ2 := Lib.hid (show q ≤ 20 by simp at hq20; omega)
                  have HSX2 := Lib.hid (HX4.out.parts.2.2.2)
                  have cR2 := R2.cell
                  have fR2 := R2.frozen
                  have lR2 := R2.lt
                  have cB2 := B2.cell
                  have fB2 := B2.frozen
                  have lB2 := B2.lt
                  have cBX := BX.cell
                  have fBX := BX.frozen
                  have lBX := BX.lt
                  go_wp2_with fail
                  refine bodyPost_ret (v := dcVal (5, ⟨#[]⟩, q, xA, xn, xc)) (by simp [results, Try.results25, go_sem, dcVal, cR2]) rfl (NrmP.fin (5, ⟨#[]⟩, q, xA, xn, xc) HB.out HBW4.out hWl ?_)
                  rw [HN.out, nestD, if_neg HH.out, if_pos ⟨by rw [← HE.out.1]; exact HX5.out, by rw [← HE.out.2.1, ← HQ.out]; exact HQ2.out⟩, ← HE.out.2.1, ← HQ.out]
                  exact DcR.of 5 _ q (HSX2.out.mono fun b _ hb => by omega)
        · generalize wr = wq at *
          have hb5 : ((t.kind : Int) == 5) = false := by simp; omega
          have hb4 : ((t.kind : Int) == 4) = true := by simp; omega
          have HK := Lib.hid hk0
          clear hk0
          have HN := Lib.hid (nrm_4 HK.out)
          have hkl : (Dc.nrms t.args).length = k := HR.out.own.len
          have hsk : Dc.sizes (Dc.nrms t.args) ≤ 100000 := by have := Dc.nrms_size t.args; have := t.size_eq; omega
          have hkz : k ≤ 100000 := by have := Dc.len_sizes (Dc.nrms t.args); omega
          have HNO := Lib.hid (show ∀ x ∈ Dc.nrms t.args, x.Ok from Dc.nrms_ok _ HO.out.arg)
          obtain ⟨KS, hKS⟩ : ∃ KS, KS = Dc.nrms t.args := ⟨_, rfl⟩
          rw [← hKS] at HR HN hkl hsk HNO
          have HKS := Lib.hid hKS
          clear hKS
          have HSO := Lib.hid ((HR.out.own.toSl (ok' := fun b => bo + 1 ≤ b) (fun b _ hb => by omega) (fun b hb => by omega)).mono (ok' := fun b => bo + 1 ≤ b ∧ b < wq.heap.size) fun b hb hk => ⟨hk, hb⟩)
          have HSP := Lib.hid (show ∀ j y, KS[j]? = some y → spliceD (KS.take (j + 1)) = spliceD (KS.take j) ++ if y.kind = 4 then y.args else [y] from fun j y => spliceD_take)
          have HSZ := Lib.hid (show ∀ j, (spliceD (KS.take j)).length ≤ 100000 from fun j => by
            have h1 := Dc.len_sizes (spliceD (KS.take j))
            have h2 := spliceD_size (KS.take j)
            have h3 := Dc.sizes_take_le KS j
            omega)
          have cB0 := B0.cell
          have fB0 := B0.frozen
          have lB0 := B0.lt
          have cBo := Bo.cell
          have fBo := Bo.frozen
          have lBo := Bo.lt
          go_upto_region 16 with fail
          go_wp2_with fail
          clear cB0 fB0 lB0 cBo fBo lBo
          clear B0 Bo R1
          go_loopw [77, 7] (fun i o wr => ∃ (j : Nat) (Al : Option Addr) (q cl : Nat), i = .int .i64 j ∧ j ≤ k ∧ o = .slice Al q cl ∧ Hid (Own DcE 30 (fun b => bo + 1 ≤ b ∧ b < wq.heap.size) wr wq.heap.size (.slice Al q cl) q (spliceD (KS.take j))) ∧ Hid (Below wq.heap.size wq wr)) (fun i _ _ => k - (intOf i).toNat)
          case atStart => exact ⟨0, none, 0, 0, rfl, Nat.zero_le _, rfl, Lib.hid (by simpa [spliceD] using Own.nil wq wq.heap.size), Lib.hid (Below.refl _ _)⟩
          case round =>
            obtain ⟨j, Al, q, cl, rfl, hj, rfl, HOW, HBX⟩ := hrel
            have hzx := HBX.out.size
            by_cases hjk : j < k
            · as_aux_lemma =>
              obtain ⟨b1, o1, ⟨xk, xs, xi, xA, xn, xc⟩, y, rfl, -, hb1, hy, hxy, hc⟩ := (HSO.out.via HBX.out).at_ hjk
              have hxy' : DcR (fun b => bo + 1 ≤ b ∧ b < wq.heap.size) wr (xk, xs, xi, xA, xn, xc) y := hxy
              obtain ⟨e1, e2, e3, e4⟩ := hxy'.parts
              simp only at e1 e2 e3 e4
              have c0 := hc 0 _ rfl
              have c1 := hc 1 _ rfl
              have c2 := hc 2 _ rfl
              have c3 := hc 3 _ rfl
              simp only [DcE, Nat.add_zero] at c0 c1 c2 c3
              have i0 : (0 : Int) ≤ (j : Int) := by omega
              have i1 : (j : Int) < (k : Int) := by omega
              have hq := HOW.out.len
              have hz1 := HSZ.out (j + 1)
              rw [HSP.out j y hy, List.length_append, hq] at hz1
              have HF := Lib.hid (HSP.out j y hy)
              have hBx := (Below.refl wr.heap.size wr).al (.cells #[.int .i64 (xk : Int), .string xs, .int .i64 (xi : Int), .slice xA xn xc] 30)
              have BX := Blk.new wr 30 #[.int .i64 (xk : Int), .string xs, .int .i64 (xi : Int), .slice xA xn xc]
              have HOW2 := Lib.hid (HOW.out.via hBx)
              have HBX2 := Lib.hid (HBX.out.trans (hBx.mono hzx))
              have hsz2 : wq.heap.size ≤ (wr.alloc (.cells #[.int .i64 (xk : Int), .string xs, .int .i64 (xi : Int), .slice xA xn xc] 30)).heap.size := by simp; omega
              have HX := Lib.hid (hxy'.via hBx)
              have hoo : ∀ b, (bo + 1 ≤ b ∧ b < wq.heap.size) → (bo + 1 ≤ b ∧ b < wq.heap.size) ∧ some b ≠ (Value.slice Al q cl).ownBlock := fun b hb => ⟨hb, fun e => by have := (HOW.out.lt b e.symm).1; omega⟩
              have HOO := Lib.hid hoo
              have HE := Lib.hid (show xk = y.kind from e1)
              have hxl := e4.len
              clear hc hxy hxy' hy hb1 hBx HOW HBX hoo e1 e2 e3 e4
              go_upto_region 19 with fail
              clear c0 c1 c2 c3
              generalize hgx : wr.alloc (.cells #[.int .i64 (xk : Int), .string xs, .int .i64 (xi : Int), .slice xA xn xc] 30) = wy at *
              clear hgx
              cases hx4 : ((xk : Int) == 4)
              case' true =>
                have hx4' : y.kind = 4 := by rw [← HE.out]; simp at hx4; omega
                rw [if_pos hx4'] at hz1 HF
                have cBX := BX.cell
                have fBX := BX.frozen
                have lBX := BX.lt
                go_wp2_with (at_builtin; refine wpList_append_many _ rfl (.tmp 84) (.tmp 86) rfl (fun b => bo + 1 ≤ b ∧ b < wq.heap.size) wq.heap.size (.slice Al q cl) q (spliceD (KS.take j)) rfl HOW2.out xA xn xc y.args rfl (HX.out.parts.2.2.2.mono fun b _ hb => HOO.out b hb) (by omega) hsz2 ?_; intro A1 c1 w1 ho1 hg1 hn1)
                exact ⟨⟨j + 1, A1, q + xn, c1, by go_num, by omega, rfl, Lib.hid (by rw [HF.out]; exact ho1), Lib.hid (HBX2.out.grown hg1 hsz2 (fun b e => (HOW2.out.lt b e).1))⟩, by simp [intOf]; omega⟩
              case' false =>
                have hx4' : ¬ y.kind = 4 := by rw [← HE.out]; simp at hx4; omega
                rw [if_neg hx4'] at hz1 HF
                simp only [List.length_singleton] at hz1
                have hBy := (Below.refl wy.heap.size wy).al (.cells #[.int .i64 (xk : Int), .string xs, .int .i64 (xi : Int), .slice xA xn xc] 30)
                have BY := Blk.new wy 30 #[.int .i64 (xk : Int), .string xs, .int .i64 (xi : Int), .slice xA xn xc]
                have HOW3 := Lib.hid (HOW2.out.via hBy)
                have HBX3 := Lib.hid (HBX2.out.trans (hBy.mono hsz2))
                have HXX := Lib.hid (HX.out.via hBy)
                have hsz3 := Nat.le_trans hsz2 hBy.size
                clear hBy
                have cBX := BX.cell
                have fBX := BX.frozen
                have lBX := BX.lt
                go_wp2_with (at_builtin; refine wpList_append_dc _ rfl (.tmp 88) (.tmp 90) rfl (fun b => bo + 1 ≤ b ∧ b < wq.heap.size) wq.heap.size (.slice Al q cl) q (spliceD (KS.take j)) rfl HOW3.out wy.heap.size (xk, xs, xi, xA, xn, xc) y rfl (fun j u hu => by rw [BY.cell]; simpa [dcCells] using hu) (HXX.out.mono fun b _ hb => HOO.out b hb) (by omega) hsz3 ?_; intro A1 c1 w1 ho1 hg1 hn1)
                exact ⟨⟨j + 1, A1, q + 1, c1, by go_num, by omega, rfl, Lib.hid (by rw [HF.out]; exact ho1), Lib.hid (HBX3.out.grown hg1 hsz3 (fun b e => (HOW3.out.lt b e).1))⟩, by simp [intOf]; omega⟩
            · obtain rfl : j = k := by omega
              have hq : q ≤ 100000 := by have := HOW.out.len; have := HSZ.out j; omega
              obtain ⟨LS, hLS⟩ : ∃ LS, LS = spliceD KS := ⟨_, rfl⟩
              have hLE : spliceD (KS.take j) = LS := by rw [List.take_of_length_le (by omega), hLS]
              have HNL := Lib.hid (show ∀ x ∈ LS, x.Ok by rw [hLS]; exact spliceD_ok HNO.out)
              rw [hLE] at HOW
              rw [← hLS] at HN
              have HLO := Lib.hid ((HOW.out.toSl (ok' := fun b => bo < b) (fun b _ hb => by omega) (fun b hb => by omega)).mono (ok' := fun b => bo < b ∧ b < wr.heap.size) fun b hb hk => ⟨hk, hb⟩)
              have hll : LS.length = q := HOW.out.len
              have HR3 := Lib.hid (HR.out.below HBX.out)
              have B0 := HB0.out.via (by rw [HBO.out]; exact HR3.out.bel)
              have Bo := HR3.out.blk
              have HR1 := Lib.hid HR3.out.bel
              have hNS : NS W bo wr.heap.size (fun b => bo < b ∧ b < wr.heap.size) (.int .i64 (t.kind : Int)) (.string t.text) (.int .i64 (t.ind : Int)) 0 (.slice none 0 0) (pushL (LS.take 0)) (wr.setCell ⟨bo, 3, none⟩ (.slice none 0 0)) :=
                ⟨by simpa [pushL] using Own.nil _ wr.heap.size, by have := Bo.set_ 3 (.slice none 0 0); simpa using this, HR3.out.bel.setCell (Nat.le_refl _) _, by omega, by simp, fun b hb => hb.1⟩
              have HN3 := Lib.hid hNS
              have HL3 := Lib.hid (HLO.out.agr (w' := wr.setCell ⟨bo, 3, none⟩ (.slice none 0 0)) (Agr.setCell _ fun b hb e => by simp only at e; omega))
              have HZ3 := Lib.hid (show ∀ j, (pushL (LS.take j)).length ≤ 100000 from fun j => by
                have h1 := pushL_len LS j
                have h2 := spliceD_size KS
                rw [← hLS] at h2
                omega)
              have hq3 := HL3.out.le
              clear hNS HR3 HLO HOW hLE HBX HSO hLS HSP HSZ
              have cB0 := B0.cell
              have fB0 := B0.frozen
              have lB0 := B0.lt
              have cBo := Bo.cell
              have fBo := Bo.frozen
              have lBo := Bo.lt
              go_upto_region 24 with fail
              go_wp2_with fail
              clear cB0 fB0 lB0 cBo fBo lBo
              clear B0 Bo
              have hg3 : wr.heap.size = (wr.setCell ⟨bo, 3, none⟩ (.slice none 0 0)).heap.size := by simp
              generalize wr.setCell ⟨bo, 3, none⟩ (.slice none 0 0) = w3 at *
              have HG3 := Lib.hid hg3
              have hb3 : bo < wr.heap.size := by omega
              clear hg3
              generalize wr.heap.size = b3 at *
              go_loopw [96] (fun i wx => ∃ (j p : Nat) (Ap : Option Addr) (cp : Nat), i = .int .i64 j ∧ j ≤ q ∧ Hid (NS W bo b3 (fun b => bo < b ∧ b < b3) (.int .i64 (t.kind : Int)) (.string t.text) (.int .i64 (t.ind : Int)) p (.slice Ap p cp) (pushL (LS.take j)) wx) ∧ Hid (Agr (fun b => bo < b ∧ b < b3) w3 wx)) (fun i _ => q - (intOf i).toNat)
              case atStart => exact ⟨0, 0, none, 0, rfl, Nat.zero_le _, HN3, Lib.hid Agr.refl⟩
              case round =>
                obtain ⟨j, p, Ap, cp, rfl, hj, HRR, HAG⟩ := hrel
                have hpl := HRR.out.own.len
                have hpz := HZ3.out j
                have hsz := HRR.out.size
                by_cases hjq : j < q
                · as_aux_lemma =>
                  obtain ⟨b1, o1, ⟨xk, xs, xi, xA, xn, xc⟩, y, rfl, -, hb1, hy, hxy, hc⟩ := (HL3.out.agr HAG.out).at_ hjq
                  have hxy' : DcR (fun b => bo < b ∧ b < b3) wr (xk, xs, xi, xA, xn, xc) y := hxy
                  obtain ⟨e1, e2, e3, e4⟩ := hxy'.parts
                  simp only at e1 e2 e3 e4
                  have c0 := hc 0 _ rfl
                  have c1 := hc 1 _ rfl
                  have c2 := hc 2 _ rfl
                  have c3 := hc 3 _ rfl
                  simp only [DcE, Nat.add_zero] at c0 c1 c2 c3
                  have i0 : (0 : Int) ≤ (j : Int) := by omega
                  have i1 : (j : Int) < (q : Int) := by omega
                  have hBx := (Below.refl wr.heap.size wr).al (.cells #[.int .i64 (xk : Int), .string xs, .int .i64 (xi : Int), .slice xA xn xc] 30)
                  have BX := Blk.new wr 30 #[.int .i64 (xk : Int), .string xs, .int .i64 (xi : Int), .slice xA xn xc]
                  have HX := Lib.hid (hxy'.via hBx)
                  have HRX := Lib.hid (HRR.out.below hBx)
                  have HAX := Lib.hid (HAG.out.trans (Agr.below hBx))
                  have hym := List.mem_of_getElem? hy
                  have HOY := Lib.hid (HNL.out y hym)
                  have HF := Lib.hid (pushL_take hy)
                  have HE := Lib.hid (And.intro e1 e2)
                  have HPO := Lib.hid (pushL_ok HNL.out j)
                  obtain ⟨PL, hPL⟩ : ∃ PL, PL = pushL (LS.take j) := ⟨_, rfl⟩
                  rw [← hPL] at HF HRX hpl hpz HPO
                  have Bo := HRX.out.blk
                  have hsx := HRX.out.size
                  clear hc hxy hxy' hy hb1 hBx HRR HAG hPL e1 e2 e3 e4 hym
                  go_upto_region 27 with fail
                  clear c0 c1 c2 c3
                  generalize hgx : wr.alloc (.cells #[.int .i64 (xk : Int), .string xs, .int .i64 (xi : Int), .slice xA xn xc] 30) = wx at *
                  clear hgx
                  have cBo := Bo.cell
                  have fBo := Bo.frozen
                  have lBo := Bo.lt
                  have cBX := BX.cell
                  have fBX := BX.frozen
                  have lBX := BX.lt
                  go_upto_region 29 with fail
                  cases hx0 : ((xk : Int) == 0)
                  case false =>
                    as_aux_lemma =>
                    have HPU := Lib.hid (show pushD PL y = PL ++ [y] from pushD_kind (by rw [← HE.out.1]; simp at hx0; omega))
                    go_upto_region 30 with fail
                    go_quiet (fail)
                    have hDN := below_drewN (Below.refl wx.heap.size wx) nq
                    replace HRX := Lib.hid (HRX.out.below hDN)
                    replace HAX := Lib.hid (HAX.out.trans (Agr.below hDN))
                    replace HX := Lib.hid (HX.out.via hDN)
                    replace BX := BX.via hDN
                    replace Bo := Bo.via hDN
                    clear hDN cBo fBo lBo cBX fBX lBX
                    generalize wx.drewN nq = wd at *
                    have cBo := Bo.cell
                    have fBo := Bo.frozen
                    have lBo := Bo.lt
                    have cBX := BX.cell
                    have fBX := BX.frozen
                    have lBX := BX.lt
                    have hBy := (Below.refl wd.heap.size wd).al (.cells #[.int .i64 (xk : Int), .string xs, .int .i64 (xi : Int), .slice xA xn xc] 30)
                    have BY := Blk.new wd 30 #[.int .i64 (xk : Int), .string xs, .int .i64 (xi : Int), .slice xA xn xc]
                    have HRY := Lib.hid (HRX.out.below hBy)
                    have HAY := Lib.hid (HAX.out.trans (Agr.below hBy))
                    have HXY := Lib.hid (HX.out.via hBy)
                    clear hBy
                    go_wp2_with (at_builtin; refine wpList_append_dc _ rfl (.tmp 105) (.tmp 107) rfl (fun b => bo < b ∧ b < b3) b3 (.slice Ap p cp) p PL rfl HRY.out.own wd.heap.size (xk, xs, xi, xA, xn, xc) y rfl (fun j u hu => by rw [BY.cell]; simpa [dcCells] using hu) (HXY.out.mono fun b _ hb => ⟨hb, fun e => by have := (HRY.out.own.lt b e.symm).1; omega⟩) (by omega) (by have := HRY.out.size; exact this) ?_; intro A1 c1 w1 ho1 hg1 hn1; have B2g := HRY.out.blk.grown hg1 (fun e => by have := (HRY.out.own.lt _ e.symm).1; omega); have c2g := B2g.cell; have f2g := B2g.frozen)
                    exact ⟨⟨j + 1, p + 1, A1, c1, by go_num, by omega, Lib.hid (by rw [HF.out, HPU.out]; exact HRY.out.push ho1 hg1), Lib.hid ((HAY.out.trans (Agr.grown hg1 fun b hb e => by have := (HRY.out.own.lt b e.symm).1; omega)).trans (Agr.setCell _ fun b hb e => by simp only at e; omega))⟩, by simp [intOf]; omega⟩
                  case true =>
                    have HX0 := Lib.hid (show y.kind = 0 by rw [← HE.out.1]; simp at hx0; omega)
                    cases hxs : xs.toList.isEmpty
                    case true =>
                      as_aux_lemma =>
                      have HXS := Lib.hid (show y.text.size = 0 by rw [← HE.out.2]; rw [ba_empty] at hxs; simpa using hxs)
                      go_wp2_with fail
                      exact ⟨⟨j + 1, p, Ap, cp, by go_num, by omega, Lib.hid (by rw [HF.out, pushD_skip HX0.out HXS.out]; exact HRX.out), HAX⟩, by simp [intOf]; omega⟩
                    case false =>
                      have HXS := Lib.hid (show y.text.size ≠ 0 by rw [← HE.out.2]; rw [ba_empty] at hxs; simpa using hxs)
                      go_upto_region 30 with fail
                      rcases List.eq_nil_or_concat PL with hPL | ⟨P0, z, hPL⟩
                      · as_aux_lemma =>
                        have hp0 : p = 0 := by rw [hPL] at hpl; simpa using hpl.symm
                        have HPU := Lib.hid (show pushD PL y = PL ++ [y] by rw [hPL]; exact pushD_nil HXS.out)
                        have hd0 : decide ((1 : Int) ≤ (p : Int)) = false := by rw [hp0]; decide
                        clear hp0 hPL
                        go_quiet (fail)
                        have hDN := below_drewN (Below.refl wx.heap.size wx) nq
                        replace HRX := Lib.hid (HRX.out.below hDN)
                        replace HAX := Lib.hid (HAX.out.trans (Agr.below hDN))
                        replace HX := Lib.hid (HX.out.via hDN)
                        replace BX := BX.via hDN
                        replace Bo := Bo.via hDN
                        clear hDN cBo fBo lBo cBX fBX lBX
                        generalize wx.drewN nq = wd at *
                        have cBo := Bo.cell
                        have fBo := Bo.frozen
                        have lBo := Bo.lt
                        have cBX := BX.cell
                        have fBX := BX.frozen
                        have lBX := BX.lt
                        have hBy := (Below.refl wd.heap.size wd).al (.cells #[.int .i64 (xk : Int), .string xs, .int .i64 (xi : Int), .slice xA xn xc] 30)
                        have BY := Blk.new wd 30 #[.int .i64 (xk : Int), .string xs, .int .i64 (xi : Int), .slice xA xn xc]
                        have HRY := Lib.hid (HRX.out.below hBy)
                        have HAY := Lib.hid (HAX.out.trans (Agr.below hBy))
                        have HXY := Lib.hid (HX.out.via hBy)
                        clear hBy
                        go_wp2_with (at_builtin; refine wpList_append_dc _ rfl (.tmp 105) (.tmp 107) rfl (fun b => bo < b ∧ b < b3) b3 (.slice Ap p cp) p PL rfl HRY.out.own wd.heap.size (xk, xs, xi, xA, xn, xc) y rfl (fun j u hu => by rw [BY.cell]; simpa [dcCells] using hu) (HXY.out.mono fun b _ hb => ⟨hb, fun e => by have := (HRY.out.own.lt b e.symm).1; omega⟩) (by omega) (by have := HRY.out.size; exact this) ?_; intro A1 c1 w1 ho1 hg1 hn1; have B2g := HRY.out.blk.grown hg1 (fun e => by have := (HRY.out.own.lt _ e.symm).1; omega); have c2g := B2g.cell; have f2g := B2g.frozen)
                        exact ⟨⟨j + 1, p + 1, A1, c1, by go_num, by omega, Lib.hid (by rw [HF.out, HPU.out]; exact HRY.out.push ho1 hg1), Lib.hid ((HAY.out.trans (Agr.grown hg1 fun b hb e => by have := (HRY.out.own.lt b e.symm).1; omega)).trans (Agr.setCell _ fun b hb e => by simp only at e; omega))⟩, by simp [intOf]; omega⟩
                      · rw [List.concat_eq_append] at hPL
                        obtain ⟨p0, hp0⟩ : ∃ p0, p0 = P0.length := ⟨_, rfl⟩
                        obtain rfl : p = p0 + 1 := by rw [hPL] at hpl; simpa [hp0] using hpl.symm
                        have HRP := Lib.hid (show Own DcE 30 (fun b => bo < b ∧ b < b3) wx b3 (.slice Ap (p0 + 1) cp) (p0 + 1) (P0 ++ [z]) by rw [← hPL]; exact HRX.out.own)
                        obtain ⟨g, ⟨zk, zs, zi, zA, zn, zc⟩, rfl, hbg, hgl, hfz, hzr, hzc⟩ := HRP.out.last
                        obtain ⟨z1, z2, z3, z4⟩ := hzr.parts
                        simp only at z1 z2 z3 z4
                        have HZE := Lib.hid (And.intro z1 z2)
                        have HZ60 := (HPO.out z (by rw [hPL]; simp)).text_le
                        have HX60 := HOY.out.text_le
                        rw [← z2] at HZ60
                        rw [← HE.out.2] at HX60
                        have d0 := hzc 0 _ rfl
                        have d1 := hzc 1 _ rfl
                        simp only [Nat.add_zero] at d0 d1
                        have hn12 : ((p0 + 1 : Nat) : Int) - 1 = (p0 : Int) := by omega
                        have j0 : (0 : Int) ≤ (p0 : Int) := by omega
                        have j1 : (p0 : Int) < ((p0 + 1 : Nat) : Int) := by omega
                        have HPLx := Lib.hid hPL
                        clear hzr hzc z1 z2 z3 z4 hPL
                        rw [hn12]
                        clear hn12
                        have j1 : (p0 : Int) < (p0 : Int) + 1 := by omega
                        obtain ⟨S, hSS⟩ : ∃ S, S = zs.size + xs.size := ⟨_, rfl⟩
                        have hwS : IntKind.i64.wrap ((zs.size : Int) + (xs.size : Int)) = (S : Int) := (IntWalk.i64_in _ (by omega)).trans (by omega)
                        have HSS := Lib.hid hSS
                        have HP0 := Lib.hid hp0
                        clear hSS hp0
                        cases hz0 : ((zk : Int) == 0)
                        case false =>
                          as_aux_lemma =>
                          have HPU := Lib.hid (show pushD PL y = PL ++ [y] by rw [HPLx.out]; exact pushD_far HXS.out fun e => by have := HZE.out.1; simp at hz0; omega)
                          go_quiet (fail)
                          have hDN := below_drewN (Below.refl wx.heap.size wx) nq
                          replace HRX := Lib.hid (HRX.out.below hDN)
                          replace HAX := Lib.hid (HAX.out.trans (Agr.below hDN))
                          replace HX := Lib.hid (HX.out.via hDN)
                          replace BX := BX.via hDN
                          replace Bo := Bo.via hDN
                          clear hDN cBo fBo lBo cBX fBX lBX
                          generalize wx.drewN nq = wd at *
                          have cBo := Bo.cell
                          have fBo := Bo.frozen
                          have lBo := Bo.lt
                          have cBX := BX.cell
                          have fBX := BX.frozen
                          have lBX := BX.lt
                          have hBy := (Below.refl wd.heap.size wd).al (.cells #[.int .i64 (xk : Int), .string xs, .int .i64 (xi : Int), .slice xA xn xc] 30)
                          have BY := Blk.new wd 30 #[.int .i64 (xk : Int), .string xs, .int .i64 (xi : Int), .slice xA xn xc]
                          have HRY := Lib.hid (HRX.out.below hBy)
                          have HAY := Lib.hid (HAX.out.trans (Agr.below hBy))
                          have HXY := Lib.hid (HX.out.via hBy)
                          clear hBy
                          go_wp2_with (at_builtin; refine wpList_append_dc _ rfl (.tmp 105) (.tmp 107) rfl (fun b => bo < b ∧ b < b3) b3 (.slice (some ⟨g, 0, none⟩) (p0+1) cp) (p0+1) PL rfl HRY.out.own wd.heap.size (xk, xs, xi, xA, xn, xc) y rfl (fun j u hu => by rw [BY.cell]; simpa [dcCells] using hu) (HXY.out.mono fun b _ hb => ⟨hb, fun e => by have := (HRY.out.own.lt b e.symm).1; omega⟩) (by omega) (by have := HRY.out.size; exact this) ?_; intro A1 c1 w1 ho1 hg1 hn1; have B2g := HRY.out.blk.grown hg1 (fun e => by have := (HRY.out.own.lt _ e.symm).1; omega); have c2g := B2g.cell; have f2g := B2g.frozen)
                          exact ⟨⟨j + 1, (p0+1) + 1, A1, c1, by go_num, by omega, Lib.hid (by rw [HF.out, HPU.out]; exact HRY.out.push ho1 hg1), Lib.hid ((HAY.out.trans (Agr.grown hg1 fun b hb e => by have := (HRY.out.own.lt b e.symm).1; omega)).trans (Agr.setCell _ fun b hb e => by simp only at e; omega))⟩, by simp [intOf]; omega⟩
                        case true =>
                          cases hS60 : decide ((S : Int) ≤ 60)
                          case false =>
                            as_aux_lemma =>
                            have HPU := Lib.hid (show pushD PL y = PL ++ [y] by rw [HPLx.out]; exact pushD_far HXS.out fun e => by have h1 := HZE.out.2; have h2 := HE.out.2; have h3 := HSS.out; rw [← h1, ← h2] at e; simp at hS60; omega)
                            go_quiet (fail)
                            have hDN := below_drewN (Below.refl wx.heap.size wx) nq
                            replace HRX := Lib.hid (HRX.out.below hDN)
                            replace HAX := Lib.hid (HAX.out.trans (Agr.below hDN))
                            replace HX := Lib.hid (HX.out.via hDN)
                            replace BX := BX.via hDN
                            replace Bo := Bo.via hDN
                            clear hDN cBo fBo lBo cBX fBX lBX
                            generalize wx.drewN nq = wd at *
                            have cBo := Bo.cell
                            have fBo := Bo.frozen
                            have lBo := Bo.lt
                            have cBX := BX.cell
                            have fBX := BX.frozen
                            have lBX := BX.lt
                            have hBy := (Below.refl wd.heap.size wd).al (.cells #[.int .i64 (xk : Int), .string xs, .int .i64 (xi : Int), .slice xA xn xc] 30)
                            have BY := Blk.new wd 30 #[.int .i64 (xk : Int), .string xs, .int .i64 (xi : Int), .slice xA xn xc]
                            have HRY := Lib.hid (HRX.out.below hBy)
                            have HAY := Lib.hid (HAX.out.trans (Agr.below hBy))
                            have HXY := Lib.hid (HX.out.via hBy)
                            clear hBy
                            go_wp2_with (at_builtin; refine wpList_append_dc _ rfl (.tmp 105) (.tmp 107) rfl (fun b => bo < b ∧ b < b3) b3 (.slice (some ⟨g, 0, none⟩) (p0+1) cp) (p0+1) PL rfl HRY.out.own wd.heap.size (xk, xs, xi, xA, xn, xc) y rfl (fun j u hu => by rw [BY.cell]; simpa [dcCells] using hu) (HXY.out.mono fun b _ hb => ⟨hb, fun e => by have := (HRY.out.own.lt b e.symm).1; omega⟩) (by omega) (by have := HRY.out.size; exact this) ?_; intro A1 c1 w1 ho1 hg1 hn1; have B2g := HRY.out.blk.grown hg1 (fun e => by have := (HRY.out.own.lt _ e.symm).1; omega); have c2g := B2g.cell; have f2g := B2g.frozen)
                            exact ⟨⟨j + 1, (p0+1) + 1, A1, c1, by go_num, by omega, Lib.hid (by rw [HF.out, HPU.out]; exact HRY.out.push ho1 hg1), Lib.hid ((HAY.out.trans (Agr.grown hg1 fun b hb e => by have := (HRY.out.own.lt b e.symm).1; omega)).trans (Agr.setCell _ fun b hb e => by simp only at e; omega))⟩, by simp [intOf]; omega⟩
                          case true =>
                            as_aux_lemma =>
                            have HPU := Lib.hid (show pushD PL y = P0 ++ [.node z.kind (z.text ++ y.text) z.ind z.args] by rw [HPLx.out]; exact pushD_fit HXS.out HX0.out ⟨by rw [← HZE.out.1]; simp at hz0; omega, by rw [← HZE.out.2, ← HE.out.2, ← HSS.out]; simp at hS60; omega⟩)
                            go_quiet (fail)
                            replace d0 : (wx.drewN nq).cell? ⟨g, p0 * 4, none⟩ = _ := d0
                            replace d1 : (wx.drewN nq).cell? ⟨g, p0 * 4 + 1, none⟩ = _ := d1
                            replace hfz : (wx.drewN nq).frozen? ⟨g, p0 * 4 + 1, none⟩ = _ := hfz
                            replace HRP := Lib.hid (HRP.out.via (below_drewN (Below.refl wx.heap.size wx) nq))
                            have hDN := below_drewN (Below.refl wx.heap.size wx) nq
                            replace HRX := Lib.hid (HRX.out.below hDN)
                            replace HAX := Lib.hid (HAX.out.trans (Agr.below hDN))
                            replace HX := Lib.hid (HX.out.via hDN)
                            replace BX := BX.via hDN
                            replace Bo := Bo.via hDN
                            clear hDN cBo fBo lBo cBX fBX lBX
                            generalize wx.drewN nq = wd at *
                            have cBo := Bo.cell
                            have fBo := Bo.frozen
                            have lBo := Bo.lt
                            have cBX := BX.cell
                            have fBX := BX.frozen
                            have lBX := BX.lt
                            rw [HPLx.out] at HRX
                            go_wp2_with fail
                            go_region
                            have HT := HRX.out.text hbg (zs ++ xs)
                            have HTA := Agr.setCell (ok := fun b => bo < b ∧ b < b3) (w := wd) (p := ⟨g, p0 * 4 + 1, none⟩) (.string (zs ++ xs)) (fun b hb e => by simp only at e; omega)
                            generalize wd.setCell ⟨g, p0 * 4 + 1, none⟩ (.string (zs ++ xs)) = we at *
                            have HTD := Lib.hid (HT.below ((Below.refl we.heap.size we).drew))
                            have HTB := Lib.hid ((HAX.out.trans HTA).trans (Agr.below ((Below.refl we.heap.size we).drew)))
                            rw [HZE.out.2, HE.out.2, ← HPU.out, ← HF.out] at HTD
                            clear HT HTA
                            go_wp2_with fail
                            exact ⟨⟨j + 1, p0 + 1, some ⟨g, 0, none⟩, cp, by go_num, by omega, HTD, HTB⟩, by simp [intOf]; omega⟩
                · obtain rfl : j = q := by omega
                  have HLL := Lib.hid (show pushL (LS.take j) = mergeD LS by rw [List.take_of_length_le (by omega)]; rfl)
                  rw [HLL.out] at HRR hpl hpz
                  obtain ⟨ML, hML⟩ : ∃ ML, ML = mergeD LS := ⟨_, rfl⟩
                  rw [← hML] at HRR hpl hpz HN
                  have Bo := HRR.out.blk
                  have R1 := HR0.out.via (by rw [HBO.out]; exact HRR.out.bel)
                  have HM0 := Lib.hid (HRR.out.own.toSl (ok' := fun b => bo ≤ b) (fun b _ hb => by omega) (fun b hb => by omega))
                  clear HLL hML
                  by_cases hp1 : p = 1
                  · subst hp1
                    obtain ⟨b1, o1, ⟨xk, xs, xi, xA, xn, xc⟩, y, rfl, -, hb1, hy, hxy, hc⟩ := HM0.out.at_ (i := 0) (by omega)
                    have hxy' : DcR (fun b => bo ≤ b) wr (xk, xs, xi, xA, xn, xc) y := hxy
                    have c0 := hc 0 _ rfl
                    have c1 := hc 1 _ rfl
                    have c2 := hc 2 _ rfl
                    have c3 := hc 3 _ rfl
                    simp only [DcE, Nat.add_zero, Nat.zero_mul] at c0 c1 c2 c3
                    have HX := Lib.hid hxy'
                    have HC := Lib.hid (show ML = [y] by
                      match ML, hpl, hy with
                      | [a], _, hy => simpa using hy)
                    clear hxy hxy' hc hb1 hy
                    have cR1 := R1.cell
                    have fR1 := R1.frozen
                    have lR1 := R1.lt
                    have cBo := Bo.cell
                    have fBo := Bo.frozen
                    have lBo := Bo.lt
                    go_wp2_with fail
                    refine bodyPost_ret (v := dcVal (xk, xs, xi, xA, xn, xc)) (by simp [results, Try.results25, go_sem, dcVal, cR1]) rfl (NrmP.fin (xk, xs, xi, xA, xn, xc) HB.out HRR.out.bel hWl ?_)
                    rw [HN.out, HC.out]
                    exact HX.out
                  · have hp2 : ((p : Int) == 1) = false := by simp; omega
                    have HP1 := Lib.hid hp1
                    clear hp1
                    have cR1 := R1.cell
                    have fR1 := R1.frozen
                    have lR1 := R1.lt
                    have cBo := Bo.cell
                    have fBo := Bo.frozen
                    have lBo := Bo.lt
                    go_wp2_with fail
                    refine bodyPost_ret (v := dcVal (t.kind, t.text, t.ind, Ap, p, cp)) (by simp [results, Try.results25, go_sem, dcVal, cR1]) rfl (NrmP.fin (t.kind, t.text, t.ind, Ap, p, cp) HB.out HRR.out.bel hWl ?_)
                    rw [HN.out, HK.out]
                    have e : catD t.text t.ind ML = .node 4 t.text t.ind ML := by
                      unfold catD
                      split
                      · exact absurd hpl.symm HP1.out
                      · rfl
                    rw [e]
                    exact DcR.of 4 t.text t.ind HM0.out
end Go.Proofs.Ytbhenicldddlfaa

