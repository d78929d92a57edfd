/- Trees: kids, CopyTree, Clone. -/
import Derived.Test.YtghnkgbingcbcaaRF
namespace Go.Proofs.Ytghnkgbingcbcaa
open Go.RowKit
theorem tree_info : (Try.prog.info? 36).map (fun i => (i.zero, i.size, i.bytes)) = some (some (.agg #[.int .i64 0, .int .i64 0, .slice none 0 0]), 3, 40) := by kernel_rfl

def Tr.rl : Tr → Int
  | .leaf _ => -1
  | .node r _ => r
def Tr.tm : Tr → Int
  | .leaf k => k
  | .node _ _ => 0
theorem TreeR.parts {ok : Nat → Prop} {w : World} {v : TrV} {t : Tr} (h : TreeR ok w v t) : v.1 = t.rl ∧ v.2.1 = t.tm ∧ Sl TrE ok w v.2.2.1 v.2.2.2.1 v.2.2.2.2 t.kids := by
  cases t with
  | leaf k => cases h; exact ⟨rfl, rfl, rfl, Nat.zero_le _, [], rfl, Cel.nil, fun i r x hx => by simp at hx⟩
  | node r ks =>
    obtain ⟨a, b, A, n, c⟩ := v
    obtain ⟨rfl, rfl, h3⟩ := h.kids
    exact ⟨rfl, rfl, h3⟩
theorem TreeR.of {ok : Nat → Prop} {w : World} {t : Tr} {A : Option Addr} {n c : Nat} (h : Sl TrE ok w A n c t.kids) : TreeR ok w (t.rl, t.tm, A, n, c) t := by
  cases t with
  | leaf k =>
    have hn : n = 0 := h.len.symm
    subst hn
    exact .leaf k A c
  | node r ks => exact TreeR.mk r h
theorem Tr.rl_leaf {t : Tr} (h : t.rl = -1) : ∃ k, t = .leaf k := by
  cases t with
  | leaf k => exact ⟨k, rfl⟩
  | node r ks => exact absurd h (by show (r : Int) ≠ -1; omega)
theorem Tr.rl_node {t : Tr} (h : t.rl ≠ -1) : ∃ r ks, t = .node r ks := by
  cases t with
  | leaf k => exact absurd rfl h
  | node r ks => exact ⟨r, ks, rfl⟩
theorem Tr.size_kid {t x : Tr} (h : x ∈ t.kids) : x.size < t.size := by
  cases t with
  | leaf k => simp [Tr.kids] at h
  | node r ks => have := Tr.size_mem (ks := ks) h; simp only [Tr.size]; omega
theorem Tr.kids_len (t : Tr) : t.kids.length < t.size := by
  cases t with
  | leaf k => simp [Tr.kids, Tr.size]
  | node r ks =>
    simp only [Tr.kids, Tr.size]
    have : ∀ l : List Tr, l.length ≤ Tr.sizes l := by
      intro l
      induction l with
      | nil => simp
      | cons a l ih => have := a.size_pos; simp only [List.length_cons, Tr.sizes]; omega
    have := this ks
    omega

/-! ### appending a tree -/
theorem step_append_tr {ops : Array Oper} {o : Oper} {a : Act} {K : Act → World → Prop} {Q : Exit → Act → World → Prop} {F : Prop} (w : World) (hgd : o.guard = none) (s y : Operand)
    (ho : o.op = .call { callee := .builtin .append, args := #[s, y], argTypes := #[34, 34] })
    (ok : Nat → Prop) (base : Nat) (v : Value) (n : Nat) (l : List Tr) (hv : a.eval s = v) (hown : Own TrE 36 ok w base v n l)
    (b : Nat) (r : TrV) (x : Tr) (hy : a.eval y = .slice (some ⟨b, 0, none⟩) 1 1) (hcell : Blk w b 36 #[.int .i64 r.1, .int .i64 r.2.1, .slice r.2.2.1 r.2.2.2.1 r.2.2.2.2]) (hrel : TreeR (fun b => ok b ∧ some b ≠ v.ownBlock) w r x)
    (h63 : n + 1 ≤ 1000000) (hbase : base ≤ w.heap.size)
    (h : ∀ A' c' w', Own TrE 36 ok w' base (.slice A' (n + 1) c') (n + 1) (l ++ [x]) → w.grownBy w' v.ownBlock → ((Value.slice A' (n + 1) c').ownBlock = v.ownBlock ∨ (Value.slice A' (n + 1) c').ownBlock = some w.heap.size) → K (a.put o.dst (.slice A' (n + 1) c')) w') :
    if Region.wanted o (yielded ops a.tmps) = true then Oper.wp Try.prog o a w K Q else F := by
  obtain ⟨i, hi, hz⟩ := Option.map_eq_some_iff.1 tree_info
  simp only [Prod.mk.injEq] at hz
  refine step_append_E (E := TrE) w hgd s y 34 36 ho i (.agg #[.int .i64 0, .int .i64 0, .slice none 0 0]) 40 (by kernel_rfl) hi hz.1 hz.2.1 hz.2.2 rfl ok base v n l hv hown b r x hy (fun j u hu => ?_) hrel (by simp [maxLen]; omega) (by omega) hbase h
  rw [hcell.cell j]
  rw [List.getElem?_toArray]; exact hu
theorem wpList_append_tr {ops : Array Oper} {rest : List Oper} {o : Oper} {a : Act} {Q : Exit → Act → World → Prop} (w : World) (hgd : o.guard = none) (s y : Operand)
    (ho : o.op = .call { callee := .builtin .append, args := #[s, y], argTypes := #[34, 34] })
    (ok : Nat → Prop) (base : Nat) (v : Value) (n : Nat) (l : List Tr) (hv : a.eval s = v) (hown : Own TrE 36 ok w base v n l)
    (b : Nat) (r : TrV) (x : Tr) (hy : a.eval y = .slice (some ⟨b, 0, none⟩) 1 1) (hcell : Blk w b 36 #[.int .i64 r.1, .int .i64 r.2.1, .slice r.2.2.1 r.2.2.2.1 r.2.2.2.2]) (hrel : TreeR (fun b => ok b ∧ some b ≠ v.ownBlock) w r x)
    (h63 : n + 1 ≤ 1000000) (hbase : base ≤ w.heap.size)
    (h : ∀ A' c' w', Own TrE 36 ok w' base (.slice A' (n + 1) c') (n + 1) (l ++ [x]) → w.grownBy w' v.ownBlock → ((Value.slice A' (n + 1) c').ownBlock = v.ownBlock ∨ (Value.slice A' (n + 1) c').ownBlock = some w.heap.size) → wpList Try.prog ops Q rest (a.put o.dst (.slice A' (n + 1) c')) w') : wpList Try.prog ops Q (o :: rest) a w := by
  obtain ⟨i, hi, hz⟩ := Option.map_eq_some_iff.1 tree_info
  simp only [Prod.mk.injEq] at hz
  refine wpList_append_E (E := TrE) w hgd s y 34 36 ho i (.agg #[.int .i64 0, .int .i64 0, .slice none 0 0]) 40 (by kernel_rfl) hi hz.1 hz.2.1 hz.2.2 rfl ok base v n l hv hown b r x hy (fun j u hu => ?_) hrel (by simp [maxLen]; omega) (by omega) hbase h
  rw [hcell.cell j]
  rw [List.getElem?_toArray]; exact hu

/-! ### kids -/
def KidsP (ok : Nat → Prop) (w : World) (t : Tr) (e : Ending) (w' : World) : Prop :=
  ∃ A n c, e = .returned (.slice A n c) ∧ Sl TrE ok w A n c t.kids ∧ Below w.heap.size w w'
set_option maxHeartbeats 1000000 in
theorem kids_c (ok : Nat → Prop) (v : TrV) (t : Tr) (w : World) (h : TreeR ok w v t) :
    Calls Try.prog 44 #[trVal v] w (KidsP ok w t) := by
  obtain ⟨a, b, A, n, c⟩ := v
  obtain ⟨h1, h2, h3⟩ := h.parts
  simp only at h1 h2 h3
  subst h1 h2
  simp only [trVal]
  have H3 := Lib.hid h3
  clear h h3
  by_cases hl : t.rl = -1
  · obtain ⟨k, rfl⟩ := Tr.rl_leaf hl
    clear hl
    simp only [Tr.rl]
    go_enter Try.func44, Try.ntmps44
    go_wp2_with fail
    go_ret
    exact ⟨none, 0, 0, rfl, Sl.nil 0, (Below.refl _ _).al _⟩
  · have e1 : (t.rl == -1) = false := by simpa using hl
    clear hl
    go_enter Try.func44, Try.ntmps44
    go_wp2_with fail
    go_ret
    exact ⟨A, n, c, rfl, H3.out, (Below.refl _ _).al _⟩

/-! ### CopyTree -/
def CopyP (w : World) (t : Tr) (e : Ending) (w' : World) : Prop := ∃ v, e = .returned (trVal v) ∧ TreeR (fun b => w.heap.size ≤ b) w' v t ∧ Below w.heap.size w w'
structure CpRel (w : World) (t : Tr) (k : Nat) (v : Value) (wr : World) : Prop where
  b1 : Blk wr (w.heap.size + 1) 36 #[.int .i64 0, .int .i64 0, .slice none 0 0]
  b2 : Blk wr (w.heap.size + 1 + 1) 36 #[.int .i64 t.rl, .int .i64 t.tm, v]
  own : Own TrE 36 (fun b => w.heap.size + 3 ≤ b) wr (w.heap.size + 3) v k (t.kids.take k)
  bel : Below w.heap.size w wr
  size : w.heap.size + 3 ≤ wr.heap.size

theorem CpRel.via {w wr wa : World} {t : Tr} {k : Nat} {v : Value} (h : CpRel w t k v wr) (hb : Below wr.heap.size wr wa) : CpRel w t k v wa :=
  ⟨h.b1.via hb, h.b2.via hb, h.own.via hb, h.bel.via hb, Nat.le_trans h.size hb.size⟩
theorem CpRel.push {w wr w1 : World} {t y : Tr} {k : Nat} {v v' : Value} (h : CpRel w t k v wr) (hy : t.kids[k]? = some y) (ho : Own TrE 36 (fun b => w.heap.size + 3 ≤ b) w1 (w.heap.size + 3) v' (k + 1) (t.kids.take k ++ [y])) (hg : wr.grownBy w1 v.ownBlock) :
    CpRel w t (k + 1) v' (w1.setCell ⟨w.heap.size + 1 + 1, 2, none⟩ v') := by
  have hne : ∀ j, j < w.heap.size + 3 → some j ≠ v.ownBlock := fun j hj e => by have := (h.own.lt j e.symm).1; omega
  have hsz := h.size
  refine ⟨?_, ?_, ?_, ?_, ?_⟩
  · exact (h.b1.grown hg (hne _ (by omega))).far (by simp) _
  · have := (h.b2.grown hg (hne _ (by omega))).set_ 2 v'; simpa using this
  · have e : t.kids.take (k + 1) = t.kids.take k ++ [y] := by
      have hl := (List.getElem?_eq_some_iff.1 hy)
      rw [List.take_succ_eq_append_getElem hl.1, hl.2]
    rw [e]
    exact ho.setCell _ (fun b hb => by show b ≠ w.heap.size + 1 + 1; omega) (by show w.heap.size + 1 + 1 < _; omega)
  · exact (h.bel.grown hg (by omega) fun j hj => by have := (h.own.lt j hj).1; omega).setCell (by simp; omega) _
  · have := hg.size; simp; omega

set_option maxRecDepth 100000 in
set_option maxHeartbeats 4000000 in
theorem copy_n (N : Nat) : ∀ (ok : Nat → Prop) (v : TrV) (t : Tr) (w : World), TreeR ok w v t → t.size ≤ N → t.size ≤ 1000000 →
    Calls Try.prog 67 #[trVal v] w (CopyP w t) := by
  induction N with
  | zero => intro ok v t w _ h; have := t.size_pos; omega
  | succ N ih =>
    intro ok v t w h hN hM
    obtain ⟨a, b, A, n, c⟩ := v
    obtain ⟨h1, h2, h3⟩ := h.parts
    simp only at h1 h2 h3
    subst h1 h2
    simp only [trVal]
    have H3 := Lib.hid h3
    have hlen := t.kids_len
    rw [h3.len] at hlen
    clear h h3
    go_enter Try.func67, Try.ntmps67
    go_wp2_with fail
    go_loopw [14] (fun i wr => ∃ (k : Nat) (v : Value), i = .int .i64 k ∧ k ≤ n ∧ CpRel w t k v wr) (fun i _ => n - (intOf i).toNat)
    case atStart =>
      refine ⟨0, _, rfl, Nat.zero_le _, ?_, ?_, Own.nil _ _, ?_, ?_⟩
      · have := (Blk.new (w.alloc (.cells #[.int .i64 t.rl, .int .i64 t.tm, .slice A n c] 36)) 36 #[.int .i64 0, .int .i64 0, .slice none 0 0]).al (.cells #[.int .i64 t.rl, .int .i64 t.tm, .slice none 0 0] 36)
        simpa using this
      · have := (Blk.new ((w.alloc (.cells #[.int .i64 t.rl, .int .i64 t.tm, .slice A n c] 36)).alloc (.cells #[.int .i64 0, .int .i64 0, .slice none 0 0] 36)) 36 #[.int .i64 t.rl, .int .i64 t.tm, .slice none 0 0])
        simpa using this
      · exact (((Below.refl _ _).al _).al _).al _
      · simp
    case round =>
      obtain ⟨k, v, rfl, hk, hr⟩ := hrel
      obtain ⟨Av, cv, rfl, -⟩ := hr.own.form
      by_cases hlt : k < n
      · obtain ⟨b, off, x, y, rfl, -, hb, hy, hxy, hc⟩ := H3.out.at_ hlt
        have hxy' : TreeR ok w x y := hxy
        have c0 := (hr.bel.cell (p := ⟨b, off + k * 3, none⟩) hb).trans (hc 0 _ rfl)
        have c1 := (hr.bel.cell (p := ⟨b, off + k * 3 + 1, none⟩) hb).trans (hc 1 _ rfl)
        have c2 := (hr.bel.cell (p := ⟨b, off + k * 3 + 2, none⟩) hb).trans (hc 2 _ rfl)
        have i0 : (0 : Int) ≤ (k : Int) := by omega
        have i1 : (k : Int) < (n : Int) := by omega
        have hsy : y.size ≤ N := by have := Tr.size_kid (List.mem_of_getElem? hy); omega
        have hsy2 : y.size ≤ 1000000 := by have := Tr.size_kid (List.mem_of_getElem? hy); omega
        have HY := Lib.hid hy
        obtain ⟨xa, xb, xA, xn, xc⟩ := x
        simp only at c0 c1 c2
        have hT := (hxy'.agr (Agr.below hr.bel)).al (.cells #[.int .i64 xa, .int .i64 xb, .slice xA xn xc] 36)
        have HT := Lib.hid hT
        have HR := Lib.hid hr
        have Bk := Blk.new wr 36 #[.int .i64 xa, .int .i64 xb, .slice xA xn xc]
        have Bo := hr.b2.al (.cells #[.int .i64 xa, .int .i64 xb, .slice xA xn xc] 36)
        have hsz := hr.size
        have HR := Lib.hid (hr.via ((Below.refl wr.heap.size wr).alloc (Nat.le_refl _) (.cells #[.int .i64 xa, .int .i64 xb, .slice xA xn xc] 36)))
        clear hc hy hxy hxy' hr hT hb
        go_wp2_with fail
        clear c0 c1 c2
        generalize wr.alloc (.cells #[.int .i64 xa, .int .i64 xb, .slice xA xn xc] 36) = W at *
        generalize wr.heap.size = bk at *
        have cBk := Bk.cell
        have fBk := Bk.frozen
        have lBk := Bk.lt
        have cBo := Bo.cell
        have fBo := Bo.frozen
        have lBo := Bo.lt
        go_region_law (first
          | (go_simp; go_at_call 67; refine (ih ok (xa, xb, xA, xn, xc) y W.drew HT.out.dr hsy hsy2).mono ?_; rintro e w' ⟨v2, rfl, hT2, hb2⟩; have cP := (Bo.dr.via hb2).cell; have lP := (Bo.dr.via hb2).lt; dsimp only [trVal])
          | (have HA := (HR.out.via ((Below.refl W.heap.size W).drew)).via hb2
             have HB := HA.via ((Below.refl w'.heap.size w').alloc (Nat.le_refl _) (.cells #[.int .i64 v2.1, .int .i64 v2.2.1, .slice v2.2.2.1 v2.2.2.2.1 v2.2.2.2.2] 36))
             refine step_append_tr _ rfl (.tmp 19) (.tmp 22) rfl (fun b => w.heap.size + 3 ≤ b) (w.heap.size + 3) (.slice Av k cv) k (t.kids.take k) rfl HB.own w'.heap.size v2 y rfl (Blk.new w' 36 #[.int .i64 v2.1, .int .i64 v2.2.1, .slice v2.2.2.1 v2.2.2.2.1 v2.2.2.2.2]) ((hT2.al _).mono fun b _ hb => ⟨Nat.le_trans HR.out.size hb, fun e => Nat.lt_irrefl b (Nat.lt_of_lt_of_le (HR.out.own.lt b e.symm).2 hb)⟩) (by omega) HB.size ?_
             intro Av1 cv1 w1 ho1 hg1 hat1
             have B2g := HB.b2.grown hg1 (fun e => by have := (HB.own.lt _ e.symm).1; omega)
             have c2g := B2g.cell
             have f2g := B2g.frozen))
        all_goals
          have HP := Lib.hid (CpRel.push HB HY.out ho1 hg1)
          clear HA HB
          go_wp2_with fail
          exact ⟨⟨k + 1, _, by go_num, by omega, HP.out⟩, by simp [intOf]; omega⟩
      · have hk' : k = n := by omega
        subst hk'
        have B1 := hr.b1
        have B2 := hr.b2
        have HR := Lib.hid hr
        clear hr
        have cB1 := B1.cell
        have fB1 := B1.frozen
        have lB1 := B1.lt
        have cB2 := B2.cell
        have fB2 := B2.frozen
        have lB2 := B2.lt
        go_wp2_with fail
        refine bodyPost_ret (v := trVal (t.rl, t.tm, Av, k, cv)) (by simp [results, Try.results67, go_sem, trVal, cB1]) rfl ⟨_, rfl, ?_, ?_⟩
        · have ho := ((HR.out.own.setCell (p := ⟨w.heap.size + 1, 0, none⟩) (.int .i64 t.rl) (fun b hb => by show b ≠ w.heap.size + 1; omega) (by show w.heap.size + 1 < _; omega)).setCell (p := ⟨w.heap.size + 1, 1, none⟩) (.int .i64 t.tm) (fun b hb => by show b ≠ w.heap.size + 1; omega) (by show w.heap.size + 1 < _; omega)).setCell (p := ⟨w.heap.size + 1, 2, none⟩) (.slice Av k cv) (fun b hb => by show b ≠ w.heap.size + 1; omega) (by show w.heap.size + 1 < _; omega)
          have hs := ho.toSl (ok' := fun b => w.heap.size ≤ b) (fun b _ hb => by omega) (fun b hb => by omega)
          rw [List.take_of_length_le (by rw [H3.out.len]; omega)] at hs
          exact TreeR.of hs
        · exact ((HR.out.bel.setCell (by simp) _).setCell (by simp) _).setCell (by simp) _

/-! ### Clone -/
set_option maxHeartbeats 1000000 in
theorem clonet_c (ok : Nat → Prop) (v : TrV) (t : Tr) (w : World) (h : TreeR ok w v t) (hM : t.size ≤ 1000000) :
    Calls Try.prog 45 #[trVal v] w (CopyP w t) := by
  obtain ⟨a, b, A, n, c⟩ := v
  simp only [trVal]
  have HT := Lib.hid ((h.al (.cells #[.int .i64 a, .int .i64 b, .slice A n c] 36)).al (.cells #[.int .i64 0, .int .i64 0, .slice none 0 0] 36))
  clear h
  go_enter Try.func45, Try.ntmps45
  go_wp2_with fail
  have B1 := Blk.new (w.alloc (.cells #[.int .i64 a, .int .i64 b, .slice A n c] 36)) 36 #[.int .i64 0, .int .i64 0, .slice none 0 0]
  rw [World.size_alloc] at B1
  have hB := ((Below.refl w.heap.size w).al (.cells #[.int .i64 a, .int .i64 b, .slice A n c] 36)).al (.cells #[.int .i64 0, .int .i64 0, .slice none 0 0] 36)
  have hsz : ((w.alloc (.cells #[.int .i64 a, .int .i64 b, .slice A n c] 36)).alloc (.cells #[.int .i64 0, .int .i64 0, .slice none 0 0] 36)).heap.size = w.heap.size + 2 := by simp
  generalize (w.alloc (.cells #[.int .i64 a, .int .i64 b, .slice A n c] 36)).alloc (.cells #[.int .i64 0, .int .i64 0, .slice none 0 0] 36) = W at *
  refine (copy_n t.size ok (a, b, A, n, c) t W HT.out (Nat.le_refl _) hM).mono ?_
  rintro e w' ⟨v2, rfl, hT2, hb2⟩
  replace B1 := B1.via hb2
  replace hB := hB.via hb2
  dsimp only [trVal]
  have H2 := Lib.hid hT2
  clear hT2 hb2
  have cB1 := B1.cell
  have fB1 := B1.frozen
  have lB1 := B1.lt
  go_wp2_with fail
  obtain ⟨a2, b2, A2, n2, c2⟩ := v2
  refine bodyPost_ret (v := trVal (a2, b2, A2, n2, c2)) (by simp [results, Try.results45, go_sem, trVal, cB1]) rfl ⟨_, rfl, ?_, ?_⟩
  · refine ((H2.out.mono (ok' := fun b => w.heap.size + 2 ≤ b) (fun b _ hb => by omega)).agr ?_).mono (fun b _ hb => by omega)
    exact ((Agr.setCell _ fun b hb => by show b ≠ w.heap.size + 1; omega).trans (Agr.setCell _ fun b hb => by show b ≠ w.heap.size + 1; omega)).trans (Agr.setCell _ fun b hb => by show b ≠ w.heap.size + 1; omega)
  · exact ((hB.setCell (by simp) _).setCell (by simp) _).setCell (by simp) _
end Go.Proofs.Ytghnkgbingcbcaa
