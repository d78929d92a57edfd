/- Texts RD, RF, RS, RT, RU, RB, RC, RV, RW, laid together. -/
import Derived.Test.YtghnkgbingcbcaaC1
import Derived.Lib.AppendZerosOnto
import Derived.Lib.AppendZeros


namespace Go.Proofs.Ytghnkgbingcbcaa
open Go.RowKit

def wordI (t : Int) (q : Nat) (ls : List Int) : List Int := (ls.take q).map (belowI · t)
theorem wordI_len (t : Int) (q : Nat) (ls : List Int) : (wordI t q ls).length ≤ q := by simp [wordI]; omega
theorem wordI_mem (t : Int) (q : Nat) (ls : List Int) (ht : 1 ≤ t) : ∀ x ∈ wordI t q ls, 0 ≤ x ∧ x < t := by
  intro x hx
  obtain ⟨y, _, rfl⟩ := List.mem_map.1 hx
  exact ⟨belowI_lo y t ht, belowI_hi y t ht⟩
theorem take_snoc {α : Type} (l : List α) (d : α) (k : Nat) (h : k < l.length) : l.take (k + 1) = l.take k ++ [l.getD k d] := by
  rw [List.take_succ_eq_append_getElem h]; simp [List.getD_eq_getElem?_getD, h]

/-- after k rounds -/
def WordRel (w : World) (t : Int) (n q : Nat) (ls : List Int) (k : Nat) (v : Value) (wr : World) : Prop :=
  k ≤ n ∧ k ≤ q ∧ OwnI wr w.heap.size v k ((ls.take k).map (belowI · t)) ∧ Below w.heap.size w wr
def WordPost (w : World) (t : Int) (q : Nat) (ls : List Int) (e : Ending) (w' : World) : Prop :=
  ∃ v k, e = .returned v ∧ OwnI w' w.heap.size v k (wordI t q ls) ∧ Below w.heap.size w w'
theorem WordRel.done {w : World} {t : Int} {n q : Nat} {ls : List Int} {k : Nat} {v : Value} {wr : World} (h : WordRel w t n q ls k v wr) (hl : ls.length = n) (hk : k = q ∨ k = n) : WordPost w t q ls (.returned v) wr := by
  obtain ⟨h1, h2, h3, h4⟩ := h
  refine ⟨v, k, rfl, ?_, h4⟩
  have : wordI t q ls = (ls.take k).map (belowI · t) := by
    unfold wordI
    rcases hk with rfl | rfl
    · rfl
    · rw [List.take_of_length_le (by omega), List.take_of_length_le (by omega)]
  rw [this]; exact h3

set_option maxHeartbeats 1000000 in
theorem word_c (t : Int) (q : Nat) (A : Option Addr) (n c : Nat) (ls : List Int) (w : World) (h : Ints w A n c ls) (ht : 1 ≤ t) (ht2 : t ≤ 1000000) (hq : q ≤ 1000000) :
    Calls Try.prog 9 #[.int .i64 t, .int .i64 (q : Int), .slice A n c] w (WordPost w t q ls) := by
  have HL := Lib.hid h.len
  go_enter Try.func9, Try.ntmps9
  go_wp2
  go_loopw [7, 12] (fun v i wr => ∃ k : Nat, i = .int .i64 k ∧ WordRel w t n q ls k v wr) (fun _ i _ => n - (intOf i).toNat)
  case atStart => exact ⟨0, rfl, Nat.zero_le _, Nat.zero_le _, OwnI.nil _ _, Below.refl _ _⟩
  case round =>
    obtain ⟨k, rfl, hr⟩ := hrel
    obtain ⟨A1, c1, rfl, hI1⟩ := hr.2.2.1.form
    have hkn := hr.1
    have hkq := hr.2.1
    by_cases hlt : k < n
    · obtain ⟨b, off, hA, hb, hx⟩ := h.at_ hlt
      have hx' : wr.cell? ⟨b, off + k, none⟩ = some (.int .i64 (ls.getD k 0)) := (hr.2.2.2.cell (p := ⟨b, off + k, none⟩) hb).trans hx
      have hsn := take_snoc ls 0 k (by rw [h.len]; exact hlt)
      have HS := Lib.hid hsn
      have HR := Lib.hid hr
      subst hA
      generalize ls.getD k 0 = x at *
      by_cases hkq' : k = q
      · subst hkq'
        clear hsn hr hx h hI1
        have HE := Lib.hid (HR.out.done HL.out (Or.inl rfl))
        clear HR
        go_wp2_with fail
        go_ret
        exact HE.out
      · have k1 : ((k : Int) == (q : Int)) = false := by simp; omega
        have hown := hr.2.2.1
        have hsz := hr.2.2.2.size
        clear hsn hr hx h hI1
        go_wp2_with (first | (go_at_call 17; refine (below_c x t _ (by omega) (by omega)).mono ?_; rintro e w' ⟨rfl, rfl⟩) | (at_builtin; refine wpList_append_ints _ rfl (.tmp 20) (.tmp 24) rfl w.heap.size (.slice A1 k c1) k _ rfl (hown.alloc _) (some ⟨wr.heap.size, 0, none⟩) 1 1 [belowI x t] rfl (Ints.one _ _ _) (by omega) (by simp; omega) ?_; intro Av1 cv1 w1 hown1 hg1 hat1))
        go_roundw
        case rel =>
          refine ⟨k + 1, by go_num, by omega, by omega, ?_, ?_⟩
          · rw [HS.out, List.map_append]; exact hown1
          · exact (HR.out.2.2.1.alloc _).grown (HR.out.2.2.2.alloc hsz _) hg1 (Nat.le_refl _) (by simp; omega)
        case measure => simp [intOf]; omega
    · clear h hI1
      have HE := Lib.hid (hr.done HL.out (Or.inr (by omega)))
      clear hr
      go_wp2_with fail
      go_ret
      exact HE.out
end Go.Proofs.Ytghnkgbingcbcaa





namespace Go.Proofs.Ytghnkgbingcbcaa
open Go.RowKit

set_option maxRecDepth 100000 in
set_option maxHeartbeats 1000000 in
theorem grow_c (n : Nat) (q : Int) (w : World) (hq : q = (n : Int)) (hn : n ≤ 17592186044416) :
    Calls Try.prog 86 #[.slice none 0 0, .int .i64 q] w fun e w' => ∃ A c, e = .returned (.slice A 0 c) ∧ OwnI w' w.heap.size (.slice A 0 c) 0 [] ∧ Below w.heap.size w w' := by
  subst hq
  obtain ⟨i, hi, hz, hs, hby⟩ := info_parts int_info
  rcases Nat.eq_zero_or_pos n with h0 | h0
  · subst h0
    go_enter Try.func86, Try.ntmps86
    go_wp2
    go_ret
    exact ⟨none, 0, rfl, OwnI.nil _ _, Below.refl _ _⟩
  · have hold : (Builtin.firstCells i.size 0 (.slice none 0 0)).run Try.prog w.drew = .ok #[] w.drew := run_firstCells_none w.drew i.size 0 0 0
    have hrz : ∀ ty, (Builtin.append_ #[22, 3] ty #[.slice none 0 0, .int .i64 (n : Int)]).run Try.prog w =
        .ok (.slice (some ⟨w.heap.size, 0, none⟩) n (grownCap w n 0 3)) (w.drew.alloc (.cells (#[] ++ Builtin.zeroCells (Value.int .i64 0).cells n ++ Builtin.zeroCells (Value.int .i64 0).cells (grownCap w n 0 3 - n)) 3)) := fun ty => by
      have h := Lib.run_append_grow_zeros w 22 3 ty 3 i (.int .i64 0) .i64 .i64 Try.underlying22 Try.underlying3 hi hz none 0 0 [] hold n (by omega) (by omega) (by omega) (by omega) (by rw [hby]; omega) (by rw [Nat.zero_add]; exact growslice_fits (by omega) (by rw [hby]; omega))
      rw [Nat.zero_add] at h
      exact h
    have hGn : n ≤ grownCap w n 0 3 := grownCap_ge w _ _ _
    have hGm := grownCap_le_maxLen w n 0 3 (by unfold maxLen; omega)
    have hown : OwnI (w.drew.alloc (.cells (#[] ++ Builtin.zeroCells (Value.int .i64 0).cells n ++ Builtin.zeroCells (Value.int .i64 0).cells (grownCap w n 0 3 - n)) 3)) w.heap.size (.slice (some ⟨w.heap.size, 0, none⟩) 0 (grownCap w n 0 3)) 0 [] :=
      World.ownsRow_made w.drew _ _ (Nat.le_refl _) hGm (by simp [size_zeroCells, Value.cells]; omega)
    have HO := Lib.hid hown
    obtain ⟨G, hG⟩ : ∃ G, G = grownCap w n 0 3 := ⟨_, rfl⟩
    rw [← hG] at hrz hGn HO hGm
    have hGm' : G ≤ 9223372036854775807 := by unfold maxLen at hGm; omega
    have hn1 : (0 : Int) < n := by omega
    clear hold hG hown hGm
    go_enter Try.func86, Try.ntmps86
    go_wp2_with (at_builtin; refine Lib.wpList_append_run _ rfl _ _ _ _ rfl _ _ rfl rfl _ _ (hrz _) ?_)
    go_ret
    exact ⟨_, _, rfl, by simpa [go_sem, Value.cells] using HO.out, (Below.refl _ _).drew.alloc (Nat.le_refl _) _⟩

theorem cellSlice {w : World} {b : Nat} {t : TypeId} {cs : Array Value} (h : Blk w b t cs) (i : Nat) (v : Value) (hv : cs[i]? = some v) : w.cell? ⟨b, i, none⟩ = some v := (h.cell i).trans hv

set_option maxRecDepth 100000 in
set_option maxHeartbeats 2000000 in
theorem concat_c (b : Nat) (A1 A2 A3 : Option Addr) (n1 c1 n2 c2 n3 c3 : Nat) (xs ys zs : List Int) (w : World) (h1 : Ints w A1 n1 c1 xs) (h2 : Ints w A2 n2 c2 ys) (h3 : Ints w A3 n3 c3 zs)
    (hb : Blk w b 22 #[.slice A1 n1 c1, .slice A2 n2 c2, .slice A3 n3 c3]) (k1 : n1 ≤ 1000000) (k2 : n2 ≤ 1000000) (k3 : n3 ≤ 1000000) :
    Calls Try.prog 75 #[.slice (some ⟨b, 0, none⟩) 3 3] w fun e w' => ∃ A c, e = .returned (.slice A (n1 + n2 + n3) c) ∧ Ints w' A (n1 + n2 + n3) c (xs ++ ys ++ zs) ∧ Below w.heap.size w w' := by
  have q1 := cellSlice hb 0 _ rfl
  have q2 := cellSlice hb 1 _ rfl
  have q3 := cellSlice hb 2 _ rfl
  go_enter Try.func75, Try.ntmps75
  go_wp2_with fail
  refine wp_loop_rounds 4 ?_
  rw [rounds_succ]
  go_wp2_with fail
  rw [rounds_succ]
  go_wp2_with fail
  rw [rounds_succ]
  go_wp2_with fail
  rw [rounds_succ]
  go_wp2_with fail
  refine (grow_c (n1 + n2 + n3) _ w (by omega) (by omega)).mono ?_
  rintro e w1 ⟨A, c, rfl, ho1, hb1⟩
  have hlt := hb.lt
  have p1 := (hb1.cell (p := ⟨b, 0, none⟩) hlt).trans q1
  have p2 := (hb1.cell (p := ⟨b, 1, none⟩) hlt).trans q2
  have p3 := (hb1.cell (p := ⟨b, 2, none⟩) hlt).trans q3
  go_wp2_with fail
  refine wp_loop_rounds 4 ?_
  rw [rounds_succ]
  go_wp2_with (at_builtin; refine wpList_append_ints _ rfl (.tmp 31) (.tmp 32) rfl w.heap.size _ _ _ rfl ho1 _ _ _ _ rfl (h1.keep hb1 (Nat.le_refl _)) (by omega) hb1.size ?_; intro B2 d2 w2 ho2 hg2 _; simp only [Nat.zero_add, List.nil_append] at ho2)
  have hb2 := ho1.grown hb1 hg2 (Nat.le_refl _) hb1.size
  clear p1 p2 p3
  have p2 := (hb2.cell (p := ⟨b, 1, none⟩) hlt).trans q2
  have p3 := (hb2.cell (p := ⟨b, 2, none⟩) hlt).trans q3
  rw [rounds_succ]
  go_wp2_with (at_builtin; refine wpList_append_ints _ rfl (.tmp 31) (.tmp 32) rfl w.heap.size _ _ _ rfl ho2 _ _ _ _ rfl (h2.keep hb2 (Nat.le_refl _)) (by omega) hb2.size ?_; intro B3 d3 w3 ho3 hg3 _)
  have hb3 := ho2.grown hb2 hg3 (Nat.le_refl _) hb2.size
  clear p2 p3
  have p3 := (hb3.cell (p := ⟨b, 2, none⟩) hlt).trans q3
  rw [rounds_succ]
  go_wp2_with (at_builtin; refine wpList_append_ints _ rfl (.tmp 31) (.tmp 32) rfl w.heap.size _ _ _ rfl ho3 _ _ _ _ rfl (h3.keep hb3 (Nat.le_refl _)) (by omega) hb3.size ?_; intro B4 d4 w4 ho4 hg4 _)
  have hb4 := ho3.grown hb3 hg4 (Nat.le_refl _) hb3.size
  clear p3
  rw [rounds_succ]
  go_wp2_with fail
  go_ret
  exact ⟨_, _, rfl, ho4.toInts, hb4⟩
end Go.Proofs.Ytghnkgbingcbcaa



namespace Go.Proofs.Ytghnkgbingcbcaa
open Go.RowKit
theorem tree_info : (Try.prog.info? 36).map (fun i => (i.zero, i.size, i.bytes)) = some (some (.agg #[.int .i64 0, .int .i64 0, .slice none 0 0]), 3, 40) := by kernel_rfl

def Tr.rl : Tr → Int
  | .leaf _ => -1
  | .node r _ => r
def Tr.tm : Tr → Int
  | .leaf k => k
  | .node _ _ => 0
theorem TreeR.parts {ok : Nat → Prop} {w : World} {v : TrV} {t : Tr} (h : TreeR ok w v t) : v.1 = t.rl ∧ v.2.1 = t.tm ∧ Sl TrE ok w v.2.2.1 v.2.2.2.1 v.2.2.2.2 t.kids := by
  cases t with
  | leaf k => cases h; exact ⟨rfl, rfl, rfl, Nat.zero_le _, [], rfl, Cel.nil, fun i r x hx => by simp at hx⟩
  | node r ks =>
    obtain ⟨a, b, A, n, c⟩ := v
    obtain ⟨rfl, rfl, h3⟩ := h.kids
    exact ⟨rfl, rfl, h3⟩
theorem TreeR.of {ok : Nat → Prop} {w : World} {t : Tr} {A : Option Addr} {n c : Nat} (h : Sl TrE ok w A n c t.kids) : TreeR ok w (t.rl, t.tm, A, n, c) t := by
  cases t with
  | leaf k =>
    have hn : n = 0 := h.len.symm
    subst hn
    exact .leaf k A c
  | node r ks => exact TreeR.mk r h
theorem Tr.rl_leaf {t : Tr} (h : t.rl = -1) : ∃ k, t = .leaf k := by
  cases t with
  | leaf k => exact ⟨k, rfl⟩
  | node r ks => exact absurd h (by show (r : Int) ≠ -1; omega)
theorem Tr.rl_node {t : Tr} (h : t.rl ≠ -1) : ∃ r ks, t = .node r ks := by
  cases t with
  | leaf k => exact absurd rfl h
  | node r ks => exact ⟨r, ks, rfl⟩
theorem Tr.size_kid {t x : Tr} (h : x ∈ t.kids) : x.size < t.size := by
  cases t with
  | leaf k => simp [Tr.kids] at h
  | node r ks => have := Tr.size_mem (ks := ks) h; simp only [Tr.size]; omega
theorem Tr.kids_len (t : Tr) : t.kids.length < t.size := by
  cases t with
  | leaf k => simp [Tr.kids, Tr.size]
  | node r ks =>
    simp only [Tr.kids, Tr.size]
    have : ∀ l : List Tr, l.length ≤ Tr.sizes l := by
      intro l
      induction l with
      | nil => simp
      | cons a l ih => have := a.size_pos; simp only [List.length_cons, Tr.sizes]; omega
    have := this ks
    omega

/-! ### appending a tree -/
theorem step_append_tr {ops : Array Oper} {o : Oper} {a : Act} {K : Act → World → Prop} {Q : Exit → Act → World → Prop} {F : Prop} (w : World) (hgd : o.guard = none) (s y : Operand)
    (ho : o.op = .call { callee := .builtin .append, args := #[s, y], argTypes := #[34, 34] })
    (ok : Nat → Prop) (base : Nat) (v : Value) (n : Nat) (l : List Tr) (hv : a.eval s = v) (hown : Own TrE 36 ok w base v n l)
    (b : Nat) (r : TrV) (x : Tr) (hy : a.eval y = .slice (some ⟨b, 0, none⟩) 1 1) (hcell : Blk w b 36 #[.int .i64 r.1, .int .i64 r.2.1, .slice r.2.2.1 r.2.2.2.1 r.2.2.2.2]) (hrel : TreeR (fun b => ok b ∧ some b ≠ v.ownBlock) w r x)
    (h63 : n + 1 ≤ 1000000) (hbase : base ≤ w.heap.size)
    (h : ∀ A' c' w', Own TrE 36 ok w' base (.slice A' (n + 1) c') (n + 1) (l ++ [x]) → w.grownBy w' v.ownBlock → ((Value.slice A' (n + 1) c').ownBlock = v.ownBlock ∨ (Value.slice A' (n + 1) c').ownBlock = some w.heap.size) → K (a.put o.dst (.slice A' (n + 1) c')) w') :
    if Region.wanted o (yielded ops a.tmps) = true then Oper.wp Try.prog o a w K Q else F := by
  obtain ⟨i, hi, hz⟩ := Option.map_eq_some_iff.1 tree_info
  simp only [Prod.mk.injEq] at hz
  refine step_append_E (E := TrE) w hgd s y 34 36 ho i (.agg #[.int .i64 0, .int .i64 0, .slice none 0 0]) 40 (by kernel_rfl) hi hz.1 hz.2.1 hz.2.2 rfl ok base v n l hv hown b r x hy (fun j u hu => ?_) hrel (by simp [maxLen]; omega) (by omega) hbase h
  rw [hcell.cell j]
  rw [List.getElem?_toArray]; exact hu
theorem wpList_append_tr {ops : Array Oper} {rest : List Oper} {o : Oper} {a : Act} {Q : Exit → Act → World → Prop} (w : World) (hgd : o.guard = none) (s y : Operand)
    (ho : o.op = .call { callee := .builtin .append, args := #[s, y], argTypes := #[34, 34] })
    (ok : Nat → Prop) (base : Nat) (v : Value) (n : Nat) (l : List Tr) (hv : a.eval s = v) (hown : Own TrE 36 ok w base v n l)
    (b : Nat) (r : TrV) (x : Tr) (hy : a.eval y = .slice (some ⟨b, 0, none⟩) 1 1) (hcell : Blk w b 36 #[.int .i64 r.1, .int .i64 r.2.1, .slice r.2.2.1 r.2.2.2.1 r.2.2.2.2]) (hrel : TreeR (fun b => ok b ∧ some b ≠ v.ownBlock) w r x)
    (h63 : n + 1 ≤ 1000000) (hbase : base ≤ w.heap.size)
    (h : ∀ A' c' w', Own TrE 36 ok w' base (.slice A' (n + 1) c') (n + 1) (l ++ [x]) → w.grownBy w' v.ownBlock → ((Value.slice A' (n + 1) c').ownBlock = v.ownBlock ∨ (Value.slice A' (n + 1) c').ownBlock = some w.heap.size) → wpList Try.prog ops Q rest (a.put o.dst (.slice A' (n + 1) c')) w') : wpList Try.prog ops Q (o :: rest) a w := by
  obtain ⟨i, hi, hz⟩ := Option.map_eq_some_iff.1 tree_info
  simp only [Prod.mk.injEq] at hz
  refine wpList_append_E (E := TrE) w hgd s y 34 36 ho i (.agg #[.int .i64 0, .int .i64 0, .slice none 0 0]) 40 (by kernel_rfl) hi hz.1 hz.2.1 hz.2.2 rfl ok base v n l hv hown b r x hy (fun j u hu => ?_) hrel (by simp [maxLen]; omega) (by omega) hbase h
  rw [hcell.cell j]
  rw [List.getElem?_toArray]; exact hu

/-! ### kids -/
def KidsP (ok : Nat → Prop) (w : World) (t : Tr) (e : Ending) (w' : World) : Prop :=
  ∃ A n c, e = .returned (.slice A n c) ∧ Sl TrE ok w A n c t.kids ∧ Below w.heap.size w w'
set_option maxHeartbeats 1000000 in
theorem kids_c (ok : Nat → Prop) (v : TrV) (t : Tr) (w : World) (h : TreeR ok w v t) :
    Calls Try.prog 44 #[trVal v] w (KidsP ok w t) := by
  obtain ⟨a, b, A, n, c⟩ := v
  obtain ⟨h1, h2, h3⟩ := h.parts
  simp only at h1 h2 h3
  subst h1 h2
  simp only [trVal]
  have H3 := Lib.hid h3
  clear h h3
  by_cases hl : t.rl = -1
  · obtain ⟨k, rfl⟩ := Tr.rl_leaf hl
    clear hl
    simp only [Tr.rl]
    go_enter Try.func44, Try.ntmps44
    go_wp2_with fail
    go_ret
    exact ⟨none, 0, 0, rfl, Sl.nil 0, (Below.refl _ _).al _⟩
  · have e1 : (t.rl == -1) = false := by simpa using hl
    clear hl
    go_enter Try.func44, Try.ntmps44
    go_wp2_with fail
    go_ret
    exact ⟨A, n, c, rfl, H3.out, (Below.refl _ _).al _⟩

/-! ### CopyTree -/
def CopyP (w : World) (t : Tr) (e : Ending) (w' : World) : Prop := ∃ v, e = .returned (trVal v) ∧ TreeR (fun b => w.heap.size ≤ b) w' v t ∧ Below w.heap.size w w'
structure CpRel (w : World) (t : Tr) (k : Nat) (v : Value) (wr : World) : Prop where
  b1 : Blk wr (w.heap.size + 1) 36 #[.int .i64 0, .int .i64 0, .slice none 0 0]
  b2 : Blk wr (w.heap.size + 1 + 1) 36 #[.int .i64 t.rl, .int .i64 t.tm, v]
  own : Own TrE 36 (fun b => w.heap.size + 3 ≤ b) wr (w.heap.size + 3) v k (t.kids.take k)
  bel : Below w.heap.size w wr
  size : w.heap.size + 3 ≤ wr.heap.size

theorem CpRel.via {w wr wa : World} {t : Tr} {k : Nat} {v : Value} (h : CpRel w t k v wr) (hb : Below wr.heap.size wr wa) : CpRel w t k v wa :=
  ⟨h.b1.via hb, h.b2.via hb, h.own.via hb, h.bel.via hb, Nat.le_trans h.size hb.size⟩
theorem CpRel.push {w wr w1 : World} {t y : Tr} {k : Nat} {v v' : Value} (h : CpRel w t k v wr) (hy : t.kids[k]? = some y) (ho : Own TrE 36 (fun b => w.heap.size + 3 ≤ b) w1 (w.heap.size + 3) v' (k + 1) (t.kids.take k ++ [y])) (hg : wr.grownBy w1 v.ownBlock) :
    CpRel w t (k + 1) v' (w1.setCell ⟨w.heap.size + 1 + 1, 2, none⟩ v') := by
  have hne : ∀ j, j < w.heap.size + 3 → some j ≠ v.ownBlock := fun j hj e => by have := (h.own.lt j e.symm).1; omega
  have hsz := h.size
  refine ⟨?_, ?_, ?_, ?_, ?_⟩
  · exact (h.b1.grown hg (hne _ (by omega))).far (by simp) _
  · have := (h.b2.grown hg (hne _ (by omega))).set_ 2 v'; simpa using this
  · have e : t.kids.take (k + 1) = t.kids.take k ++ [y] := by
      have hl := (List.getElem?_eq_some_iff.1 hy)
      rw [List.take_succ_eq_append_getElem hl.1, hl.2]
    rw [e]
    exact ho.setCell _ (fun b hb => by show b ≠ w.heap.size + 1 + 1; omega) (by show w.heap.size + 1 + 1 < _; omega)
  · exact (h.bel.grown hg (by omega) fun j hj => by have := (h.own.lt j hj).1; omega).setCell (by simp; omega) _
  · have := hg.size; simp; omega

set_option maxRecDepth 100000 in
set_option maxHeartbeats 4000000 in
theorem copy_n (N : Nat) : ∀ (ok : Nat → Prop) (v : TrV) (t : Tr) (w : World), TreeR ok w v t → t.size ≤ N → t.size ≤ 1000000 →
    Calls Try.prog 67 #[trVal v] w (CopyP w t) := by
  induction N with
  | zero => intro ok v t w _ h; have := t.size_pos; omega
  | succ N ih =>
    intro ok v t w h hN hM
    obtain ⟨a, b, A, n, c⟩ := v
    obtain ⟨h1, h2, h3⟩ := h.parts
    simp only at h1 h2 h3
    subst h1 h2
    simp only [trVal]
    have H3 := Lib.hid h3
    have hlen := t.kids_len
    rw [h3.len] at hlen
    clear h h3
    go_enter Try.func67, Try.ntmps67
    go_wp2_with fail
    go_loopw [14] (fun i wr => ∃ (k : Nat) (v : Value), i = .int .i64 k ∧ k ≤ n ∧ CpRel w t k v wr) (fun i _ => n - (intOf i).toNat)
    case atStart =>
      refine ⟨0, _, rfl, Nat.zero_le _, ?_, ?_, Own.nil _ _, ?_, ?_⟩
      · have := (Blk.new (w.alloc (.cells #[.int .i64 t.rl, .int .i64 t.tm, .slice A n c] 36)) 36 #[.int .i64 0, .int .i64 0, .slice none 0 0]).al (.cells #[.int .i64 t.rl, .int .i64 t.tm, .slice none 0 0] 36)
        simpa using this
      · have := (Blk.new ((w.alloc (.cells #[.int .i64 t.rl, .int .i64 t.tm, .slice A n c] 36)).alloc (.cells #[.int .i64 0, .int .i64 0, .slice none 0 0] 36)) 36 #[.int .i64 t.rl, .int .i64 t.tm, .slice none 0 0])
        simpa using this
      · exact (((Below.refl _ _).al _).al _).al _
      · simp
    case round =>
      obtain ⟨k, v, rfl, hk, hr⟩ := hrel
      obtain ⟨Av, cv, rfl, -⟩ := hr.own.form
      by_cases hlt : k < n
      · obtain ⟨b, off, x, y, rfl, -, hb, hy, hxy, hc⟩ := H3.out.at_ hlt
        have hxy' : TreeR ok w x y := hxy
        have c0 := (hr.bel.cell (p := ⟨b, off + k * 3, none⟩) hb).trans (hc 0 _ rfl)
        have c1 := (hr.bel.cell (p := ⟨b, off + k * 3 + 1, none⟩) hb).trans (hc 1 _ rfl)
        have c2 := (hr.bel.cell (p := ⟨b, off + k * 3 + 2, none⟩) hb).trans (hc 2 _ rfl)
        have i0 : (0 : Int) ≤ (k : Int) := by omega
        have i1 : (k : Int) < (n : Int) := by omega
        have hsy : y.size ≤ N := by have := Tr.size_kid (List.mem_of_getElem? hy); omega
        have hsy2 : y.size ≤ 1000000 := by have := Tr.size_kid (List.mem_of_getElem? hy); omega
        have HY := Lib.hid hy
        obtain ⟨xa, xb, xA, xn, xc⟩ := x
        simp only at c0 c1 c2
        have hT := (hxy'.agr (Agr.below hr.bel)).al (.cells #[.int .i64 xa, .int .i64 xb, .slice xA xn xc] 36)
        have HT := Lib.hid hT
        have HR := Lib.hid hr
        have Bk := Blk.new wr 36 #[.int .i64 xa, .int .i64 xb, .slice xA xn xc]
        have Bo := hr.b2.al (.cells #[.int .i64 xa, .int .i64 xb, .slice xA xn xc] 36)
        have hsz := hr.size
        have HR := Lib.hid (hr.via ((Below.refl wr.heap.size wr).alloc (Nat.le_refl _) (.cells #[.int .i64 xa, .int .i64 xb, .slice xA xn xc] 36)))
        clear hc hy hxy hxy' hr hT hb
        go_wp2_with fail
        clear c0 c1 c2
        generalize wr.alloc (.cells #[.int .i64 xa, .int .i64 xb, .slice xA xn xc] 36) = W at *
        generalize wr.heap.size = bk at *
        have cBk := Bk.cell
        have fBk := Bk.frozen
        have lBk := Bk.lt
        have cBo := Bo.cell
        have fBo := Bo.frozen
        have lBo := Bo.lt
        go_region_law (first
          | (go_simp; go_at_call 67; refine (ih ok (xa, xb, xA, xn, xc) y W.drew HT.out.dr hsy hsy2).mono ?_; rintro e w' ⟨v2, rfl, hT2, hb2⟩; have cP := (Bo.dr.via hb2).cell; have lP := (Bo.dr.via hb2).lt; dsimp only [trVal])
          | (have HA := (HR.out.via ((Below.refl W.heap.size W).drew)).via hb2
             have HB := HA.via ((Below.refl w'.heap.size w').alloc (Nat.le_refl _) (.cells #[.int .i64 v2.1, .int .i64 v2.2.1, .slice v2.2.2.1 v2.2.2.2.1 v2.2.2.2.2] 36))
             refine step_append_tr _ rfl (.tmp 19) (.tmp 22) rfl (fun b => w.heap.size + 3 ≤ b) (w.heap.size + 3) (.slice Av k cv) k (t.kids.take k) rfl HB.own w'.heap.size v2 y rfl (Blk.new w' 36 #[.int .i64 v2.1, .int .i64 v2.2.1, .slice v2.2.2.1 v2.2.2.2.1 v2.2.2.2.2]) ((hT2.al _).mono fun b _ hb => ⟨Nat.le_trans HR.out.size hb, fun e => Nat.lt_irrefl b (Nat.lt_of_lt_of_le (HR.out.own.lt b e.symm).2 hb)⟩) (by omega) HB.size ?_
             intro Av1 cv1 w1 ho1 hg1 hat1
             have B2g := HB.b2.grown hg1 (fun e => by have := (HB.own.lt _ e.symm).1; omega)
             have c2g := B2g.cell
             have f2g := B2g.frozen))
        all_goals
          have HP := Lib.hid (CpRel.push HB HY.out ho1 hg1)
          clear HA HB
          go_wp2_with fail
          exact ⟨⟨k + 1, _, by go_num, by omega, HP.out⟩, by simp [intOf]; omega⟩
      · have hk' : k = n := by omega
        subst hk'
        have B1 := hr.b1
        have B2 := hr.b2
        have HR := Lib.hid hr
        clear hr
        have cB1 := B1.cell
        have fB1 := B1.frozen
        have lB1 := B1.lt
        have cB2 := B2.cell
        have fB2 := B2.frozen
        have lB2 := B2.lt
        go_wp2_with fail
        refine bodyPost_ret (v := trVal (t.rl, t.tm, Av, k, cv)) (by simp [results, Try.results67, go_sem, trVal, cB1]) rfl ⟨_, rfl, ?_, ?_⟩
        · have ho := ((HR.out.own.setCell (p := ⟨w.heap.size + 1, 0, none⟩) (.int .i64 t.rl) (fun b hb => by show b ≠ w.heap.size + 1; omega) (by show w.heap.size + 1 < _; omega)).setCell (p := ⟨w.heap.size + 1, 1, none⟩) (.int .i64 t.tm) (fun b hb => by show b ≠ w.heap.size + 1; omega) (by show w.heap.size + 1 < _; omega)).setCell (p := ⟨w.heap.size + 1, 2, none⟩) (.slice Av k cv) (fun b hb => by show b ≠ w.heap.size + 1; omega) (by show w.heap.size + 1 < _; omega)
          have hs := ho.toSl (ok' := fun b => w.heap.size ≤ b) (fun b _ hb => by omega) (fun b hb => by omega)
          rw [List.take_of_length_le (by rw [H3.out.len]; omega)] at hs
          exact TreeR.of hs
        · exact ((HR.out.bel.setCell (by simp) _).setCell (by simp) _).setCell (by simp) _

/-! ### Clone -/
set_option maxHeartbeats 1000000 in
theorem clonet_c (ok : Nat → Prop) (v : TrV) (t : Tr) (w : World) (h : TreeR ok w v t) (hM : t.size ≤ 1000000) :
    Calls Try.prog 45 #[trVal v] w (CopyP w t) := by
  obtain ⟨a, b, A, n, c⟩ := v
  simp only [trVal]
  have HT := Lib.hid ((h.al (.cells #[.int .i64 a, .int .i64 b, .slice A n c] 36)).al (.cells #[.int .i64 0, .int .i64 0, .slice none 0 0] 36))
  clear h
  go_enter Try.func45, Try.ntmps45
  go_wp2_with fail
  have B1 := Blk.new (w.alloc (.cells #[.int .i64 a, .int .i64 b, .slice A n c] 36)) 36 #[.int .i64 0, .int .i64 0, .slice none 0 0]
  rw [World.size_alloc] at B1
  have hB := ((Below.refl w.heap.size w).al (.cells #[.int .i64 a, .int .i64 b, .slice A n c] 36)).al (.cells #[.int .i64 0, .int .i64 0, .slice none 0 0] 36)
  have hsz : ((w.alloc (.cells #[.int .i64 a, .int .i64 b, .slice A n c] 36)).alloc (.cells #[.int .i64 0, .int .i64 0, .slice none 0 0] 36)).heap.size = w.heap.size + 2 := by simp
  generalize (w.alloc (.cells #[.int .i64 a, .int .i64 b, .slice A n c] 36)).alloc (.cells #[.int .i64 0, .int .i64 0, .slice none 0 0] 36) = W at *
  refine (copy_n t.size ok (a, b, A, n, c) t W HT.out (Nat.le_refl _) hM).mono ?_
  rintro e w' ⟨v2, rfl, hT2, hb2⟩
  replace B1 := B1.via hb2
  replace hB := hB.via hb2
  dsimp only [trVal]
  have H2 := Lib.hid hT2
  clear hT2 hb2
  have cB1 := B1.cell
  have fB1 := B1.frozen
  have lB1 := B1.lt
  go_wp2_with fail
  obtain ⟨a2, b2, A2, n2, c2⟩ := v2
  refine bodyPost_ret (v := trVal (a2, b2, A2, n2, c2)) (by simp [results, Try.results45, go_sem, trVal, cB1]) rfl ⟨_, rfl, ?_, ?_⟩
  · refine ((H2.out.mono (ok' := fun b => w.heap.size + 2 ≤ b) (fun b _ hb => by omega)).agr ?_).mono (fun b _ hb => by omega)
    exact ((Agr.setCell _ fun b hb => by show b ≠ w.heap.size + 1; omega).trans (Agr.setCell _ fun b hb => by show b ≠ w.heap.size + 1; omega)).trans (Agr.setCell _ fun b hb => by show b ≠ w.heap.size + 1; omega)
  · exact ((hB.setCell (by simp) _).setCell (by simp) _).setCell (by simp) _
end Go.Proofs.Ytghnkgbingcbcaa



namespace Go.Proofs.Ytghnkgbingcbcaa
open Go.RowKit

/-- a tree of the grammar with the given symbol at its top -/
inductive Der (g : Gr) : Sy → Tr → Prop
  | leaf (t : Nat) : Der g (true, t) (.leaf t)
  | node (r N : Nat) (rhs : List Sy) (ks : List Tr) (hr : g.rules[r]? = some (N, rhs)) (hl : ks.length = rhs.length) (hk : ∀ (j : Nat) (s : Sy) (t : Tr), rhs[j]? = some s → ks[j]? = some t → Der g s t) : Der g (false, N) (.node r ks)

/-- the stream and the count of nodes that are left -/
structure St (w0 w : World) (bs bl : Nat) (left : Int) : Prop where
  str : ∃ A m c ls, Blk w bs 83 #[.slice A m c] ∧ Ints w0 A m c ls
  cnt : Blk w bl 3 #[.int .i64 left]
  bel : Below w0.heap.size w0 w
  ne : bs ≠ bl
  lo1 : w0.heap.size ≤ bs
  lo2 : w0.heap.size ≤ bl
theorem St.via {w0 w w' : World} {bs bl : Nat} {left : Int} (h : St w0 w bs bl left) (hb : Below w.heap.size w w') : St w0 w' bs bl left := by
  obtain ⟨A, m, c, ls, h1, h2⟩ := h.str
  exact ⟨⟨A, m, c, ls, h1.via hb, h2⟩, h.cnt.via hb, h.bel.via hb, h.ne, h.lo1, h.lo2⟩
theorem St.al {w0 w : World} {bs bl : Nat} {left : Int} (h : St w0 w bs bl left) (o : Obj) : St w0 (w.alloc o) bs bl left := h.via ((Below.refl _ _).alloc (Nat.le_refl _) o)
theorem St.far {w0 w : World} {bs bl : Nat} {left : Int} (h : St w0 w bs bl left) {p : Addr} (h1 : p.block ≠ bs) (h2 : p.block ≠ bl) (h3 : w0.heap.size ≤ p.block) (u : Value) : St w0 (w.setCell p u) bs bl left := by
  obtain ⟨A, m, c, ls, k1, k2⟩ := h.str
  exact ⟨⟨A, m, c, ls, k1.far (Ne.symm h1) u, k2⟩, h.cnt.far (Ne.symm h2) u, h.bel.setCell h3 u, h.ne, h.lo1, h.lo2⟩
theorem St.lt1 {w0 w : World} {bs bl : Nat} {left : Int} (h : St w0 w bs bl left) : bs < w.heap.size := by
  obtain ⟨A, m, c, ls, k1, k2⟩ := h.str; exact k1.lt
theorem St.left {w0 w : World} {bs bl : Nat} {left : Int} (h : St w0 w bs bl left) (l' : Int) : St w0 (w.setCell ⟨bl, 0, none⟩ (.int .i64 l')) bs bl l' := by
  obtain ⟨A, m, c, ls, k1, k2⟩ := h.str
  exact ⟨⟨A, m, c, ls, k1.far h.ne _, k2⟩, h.cnt.set1 _, h.bel.setCell h.lo2 _, h.ne, h.lo1, h.lo2⟩
theorem St.next {w0 w : World} {bs bl : Nat} {left : Int} (h : St w0 w bs bl left) {A : Option Addr} {m c : Nat} {ls : List Int} (hi : Ints w0 A m c ls) : St w0 (w.setCell ⟨bs, 0, none⟩ (.slice A m c)) bs bl left := by
  obtain ⟨A', m', c', ls', k1, k2⟩ := h.str
  exact ⟨⟨A, m, c, ls, k1.set1 _, hi⟩, h.cnt.far (Ne.symm h.ne) _, h.bel.setCell h.lo1 _, h.ne, h.lo1, h.lo2⟩
theorem St.grown {w0 w w' : World} {bs bl : Nat} {left : Int} {row : Option Nat} (h : St w0 w bs bl left) (hg : w.grownBy w' row) (hr : ∀ k, row = some k → bs < k ∧ bl < k) : St w0 w' bs bl left := by
  obtain ⟨A, m, c, ls, k1, k2⟩ := h.str
  have h1 : some bs ≠ row := fun e => absurd (hr _ e.symm).1 (Nat.lt_irrefl _)
  have h2 : some bl ≠ row := fun e => absurd (hr _ e.symm).2 (Nat.lt_irrefl _)
  exact ⟨⟨A, m, c, ls, k1.grown hg h1, k2⟩, h.cnt.grown hg h2, h.bel.grown hg h.bel.size fun k e => by have := (hr k e).1; have := h.lo1; omega, h.ne, h.lo1, h.lo2⟩

/-- blocks other than the stream's and the count's are as they were -/
def Nx (bs bl : Nat) (b : Nat) : Prop := b ≠ bs ∧ b ≠ bl
def TreeP (w0 w : World) (bs bl : Nat) (g : Gr) (y : Sy) (left : Nat) (e : Ending) (w' : World) : Prop :=
  ∃ (v : TrV) (b : Bool) (l' : Int), e = .returned (.tuple #[trVal v, .bool b]) ∧ St w0 w' bs bl l' ∧ Agr (Nx bs bl) w w' ∧ w.heap.size ≤ w'.heap.size ∧
    ((b = true → ∃ (t : Tr), TreeR (fun b => w.heap.size ≤ b) w' v t ∧ Der g y t ∧ l' + t.size = left ∧ 0 ≤ l') ∧ (b = false → v = (0, 0, none, 0, 0)))

theorem TreeP.fin {w0 w wr : World} {bs bl : Nat} {g : Gr} {y : Sy} {left : Nat} {l : Int} (v : TrV) (b : Bool) (hs : St w0 wr bs bl l) (ha : Agr (Nx bs bl) w wr) (hz : w.heap.size + 3 ≤ wr.heap.size) (h1 : bs < w.heap.size) (h2 : bl < w.heap.size)
    (hv0 : b = false → v = (0, 0, none, 0, 0)) (ht : b = true → ∃ (t : Tr), TreeR (fun b => w.heap.size + 3 ≤ b) wr v t ∧ Der g y t ∧ l + t.size = left ∧ 0 ≤ l) :
    TreeP w0 w bs bl g y left (.returned (.tuple #[trVal v, .bool b])) (((wr.setCell ⟨w.heap.size + 1 + 1, 0, none⟩ (.int .i64 v.1)).setCell ⟨w.heap.size + 1 + 1, 1, none⟩ (.int .i64 v.2.1)).setCell ⟨w.heap.size + 1 + 1, 2, none⟩ (.slice v.2.2.1 v.2.2.2.1 v.2.2.2.2)) := by
  have hw := hs.bel.size
  have k1 := hs.lo1
  have k2 := hs.lo2
  have hag : ∀ ok : Nat → Prop, (∀ b, ok b → b ≠ w.heap.size + 1 + 1) → Agr ok wr (((wr.setCell ⟨w.heap.size + 1 + 1, 0, none⟩ (.int .i64 v.1)).setCell ⟨w.heap.size + 1 + 1, 1, none⟩ (.int .i64 v.2.1)).setCell ⟨w.heap.size + 1 + 1, 2, none⟩ (.slice v.2.2.1 v.2.2.2.1 v.2.2.2.2)) := fun ok hk =>
    ((Agr.setCell _ hk).trans (Agr.setCell _ hk)).trans (Agr.setCell _ hk)
  refine ⟨v, b, l, rfl, ?_, ?_, ?_, ?_, hv0⟩
  · exact ((hs.far (p := ⟨w.heap.size + 1 + 1, 0, none⟩) (by simp; omega) (by simp; omega) (by simp; omega) _).far (by simp; omega) (by simp; omega) (by simp; omega) _).far (by simp; omega) (by simp; omega) (by simp; omega) _
  · intro b hb hlt
    have e1 := ha b hb hlt
    have e2 := hag (fun b => b ≠ w.heap.size + 1 + 1) (fun _ h => h) b (by show b ≠ w.heap.size + 1 + 1; omega) (by omega)
    exact e2.trans e1
  · simp; omega
  · intro hb
    obtain ⟨t, t1, t2, t3⟩ := ht hb
    exact ⟨t, (t1.agr (hag _ fun b hb => by omega)).mono fun b _ hb => by omega, t2, t3⟩

/-- the rules that fit, behind k rounds -/
structure MineRel (w0 w : World) (bs bl : Nat) (g : Gr) (y : Sy) (l : Int) (k : Nat) (v : Value) (n : Nat) (xs : List Int) (gv : Array Value) (wr : World) : Prop where
  st : St w0 wr bs bl l
  agr : Agr (Nx bs bl) w wr
  own : OwnI wr (w.heap.size + 3) v n xs
  b0 : Blk wr w.heap.size 28 gv
  b1 : Blk wr (w.heap.size + 1) 48 #[.bool y.1, .int .i64 (y.2 : Int)]
  b2 : Blk wr (w.heap.size + 1 + 1) 36 #[.int .i64 0, .int .i64 0, .slice none 0 0]
  size : w.heap.size + 3 ≤ wr.heap.size
  le : n ≤ k
  mem : ∀ x ∈ xs, ∃ (i : Nat) (rhs : List Sy), x = (i : Int) ∧ g.rules[i]? = some (y.2, rhs)

theorem MineRel.via {w0 w wr wa : World} {bs bl : Nat} {g : Gr} {y : Sy} {l : Int} {k : Nat} {v : Value} {n : Nat} {xs : List Int} {gv : Array Value} (h : MineRel w0 w bs bl g y l k v n xs gv wr) (hb : Below wr.heap.size wr wa) : MineRel w0 w bs bl g y l k v n xs gv wa :=
  ⟨h.st.via hb, h.agr.trans (Agr.below hb), OwnI.keep h.own hb (Nat.le_refl _), h.b0.via hb, h.b1.via hb, h.b2.via hb, Nat.le_trans h.size hb.size, h.le, h.mem⟩
theorem MineRel.skip {w0 w wr : World} {bs bl : Nat} {g : Gr} {y : Sy} {l : Int} {k : Nat} {v : Value} {n : Nat} {xs : List Int} {gv : Array Value} (h : MineRel w0 w bs bl g y l k v n xs gv wr) : MineRel w0 w bs bl g y l (k + 1) v n xs gv wr :=
  ⟨h.st, h.agr, h.own, h.b0, h.b1, h.b2, h.size, by have := h.le; omega, h.mem⟩
theorem MineRel.push {w0 w wr w1 : World} {bs bl : Nat} {g : Gr} {y : Sy} {l : Int} {k : Nat} {v v' : Value} {n : Nat} {xs : List Int} {gv : Array Value} {rhs : List Sy} (h : MineRel w0 w bs bl g y l k v n xs gv wr) (hlb1 : bs < w.heap.size) (hlb2 : bl < w.heap.size)
    (ho : OwnI w1 (w.heap.size + 3) v' (n + 1) (xs ++ [(k : Int)])) (hg : wr.grownBy w1 v.ownBlock) (hr : g.rules[k]? = some (y.2, rhs)) : MineRel w0 w bs bl g y l (k + 1) v' (n + 1) (xs ++ [(k : Int)]) gv w1 := by
  have hne : ∀ j, j < w.heap.size + 3 → some j ≠ v.ownBlock := fun j hj e => by have := (h.own.lt j e.symm).1; omega
  refine ⟨h.st.grown hg fun j e => by have := (h.own.lt j e).1; omega, ?_, ho, h.b0.grown hg (hne _ (by omega)), h.b1.grown hg (hne _ (by omega)), h.b2.grown hg (hne _ (by omega)), Nat.le_trans h.size hg.size, by have := h.le; omega, ?_⟩
  · intro b hb hlt
    exact (hg.block b (by have := h.size; omega) (hne _ (by omega))).trans (h.agr b hb hlt)
  · intro x hx
    rcases List.mem_append.1 hx with hx | hx
    · exact h.mem x hx
    · exact ⟨k, rhs, List.mem_singleton.1 hx, hr⟩

/-- behind k kids -/
structure KidRel (w0 w : World) (bs bl : Nat) (g : Gr) (i : Nat) (rhs : List Sy) (bt : Nat) (gv : Array Value) (k : Nat) (v : Value) (ks : List Tr) (l : Int) (wr : World) : Prop where
  st : St w0 wr bs bl l
  agr : Agr (Nx bs bl) w wr
  own : Own TrE 36 (fun b => bt + 1 ≤ b) wr (bt + 1) v k ks
  b0 : Blk wr w.heap.size 28 gv
  b2 : Blk wr (w.heap.size + 1 + 1) 36 #[.int .i64 0, .int .i64 0, .slice none 0 0]
  b3 : Blk wr bt 36 #[.int .i64 (i : Int), .int .i64 0, v]
  size : bt + 1 ≤ wr.heap.size
  hbt : w.heap.size + 3 ≤ bt
  der : ∀ (j : Nat) (s : Sy) (t : Tr), rhs[j]? = some s → ks[j]? = some t → Der g s t

theorem KidRel.call {w0 w wr wa : World} {bs bl : Nat} {g : Gr} {i : Nat} {rhs : List Sy} {bt : Nat} {gv : Array Value} {k : Nat} {v : Value} {ks : List Tr} {l l' : Int} (h : KidRel w0 w bs bl g i rhs bt gv k v ks l wr) (hlb1 : bs < w.heap.size) (hlb2 : bl < w.heap.size)
    (ha : Agr (Nx bs bl) wr wa) (hz : wr.heap.size ≤ wa.heap.size) (hs : St w0 wa bs bl l') : KidRel w0 w bs bl g i rhs bt gv k v ks l' wa := by
  have hbt := h.hbt
  have hsz := h.size
  have hm : ∀ j, w.heap.size ≤ j → Nx bs bl j := fun j hj => ⟨by omega, by omega⟩
  refine ⟨hs, h.agr.trans ha, h.own.agr (ha.mono fun j hj => ?_), (ha _ (hm _ (by omega)) (by omega)).trans h.b0, (ha _ (hm _ (by omega)) (by omega)).trans h.b2, (ha _ (hm _ (by omega)) (by omega)).trans h.b3, Nat.le_trans h.size hz, hbt, h.der⟩
  rcases hj with hj | hj
  · exact hm j (by omega)
  · have := (h.own.lt j hj.symm).1; exact hm j (by omega)
theorem KidRel.al {w0 w wr : World} {bs bl : Nat} {g : Gr} {i : Nat} {rhs : List Sy} {bt : Nat} {gv : Array Value} {k : Nat} {v : Value} {ks : List Tr} {l : Int} (h : KidRel w0 w bs bl g i rhs bt gv k v ks l wr) (hlb1 : bs < w.heap.size) (hlb2 : bl < w.heap.size) (o : Obj) : KidRel w0 w bs bl g i rhs bt gv k v ks l (wr.alloc o) :=
  h.call hlb1 hlb2 (Agr.below ((Below.refl wr.heap.size wr).alloc (Nat.le_refl _) o)) (by simp) (h.st.al o)
theorem KidRel.push {w0 w wr w1 : World} {bs bl : Nat} {g : Gr} {i : Nat} {rhs : List Sy} {bt : Nat} {gv : Array Value} {k : Nat} {v v' : Value} {ks : List Tr} {l : Int} {s : Sy} {t : Tr} (h : KidRel w0 w bs bl g i rhs bt gv k v ks l wr) (hlb1 : bs < w.heap.size) (hlb2 : bl < w.heap.size)
    (ho : Own TrE 36 (fun b => bt + 1 ≤ b) w1 (bt + 1) v' (k + 1) (ks ++ [t])) (hg : wr.grownBy w1 v.ownBlock) (hs : rhs[k]? = some s) (hd : Der g s t) :
    KidRel w0 w bs bl g i rhs bt gv (k + 1) v' (ks ++ [t]) l (w1.setCell ⟨bt, 2, none⟩ v') := by
  have hbt := h.hbt
  have hsz := h.size
  have hw0 := h.st.lo1
  have hne : ∀ j, j ≤ bt → some j ≠ v.ownBlock := fun j hj e => by have := (h.own.lt j e.symm).1; omega
  refine ⟨(h.st.grown hg fun j e => by have := (h.own.lt j e).1; omega).far (by simp; omega) (by simp; omega) (by simp; omega) _, ?_, ?_, (h.b0.grown hg (hne _ (by omega))).far (by simp; omega) _, (h.b2.grown hg (hne _ (by omega))).far (by simp; omega) _, ?_, ?_, hbt, ?_⟩
  · intro b hb hlt
    have e1 := h.agr b hb hlt
    have e2 := hg.block b (by omega) (hne _ (by omega))
    have e3 := Below.heap_setCell w1 ⟨bt, 2, none⟩ v' b (by simp; omega)
    exact e3.trans (e2.trans e1)
  · exact ho.setCell _ (fun b hb => by show b ≠ bt; omega) (by show bt < _; omega)
  · have := (h.b3.grown hg (hne _ (by omega))).set_ 2 v'; simpa using this
  · have := hg.size; simp; omega
  · intro j s' t' hj1 hj2
    have hl := h.own.len
    rcases Nat.lt_or_ge j k with hjk | hjk
    · rw [List.getElem?_append_left (by omega)] at hj2
      exact h.der j s' t' hj1 hj2
    · rw [List.getElem?_append_right (by omega)] at hj2
      have e1 : j = k := by
        have := (List.getElem?_eq_some_iff.1 hj2).1
        simp at this; omega
      subst e1
      rw [hs] at hj1
      cases hj1
      rw [show j - ks.length = 0 by omega] at hj2
      simp at hj2
      subst hj2
      exact hd

set_option maxRecDepth 100000 in
set_option maxHeartbeats 4000000 in
theorem tree_n (w0 : World) (bs bl : Nat) (ok : Nat → Prop) (hok : ∀ b, ok b → Nx bs bl b) (g : Gr) (Ag : Option Addr) (ng cg : Nat) (hng : g.rules.length ≤ 1000) (hrl : ∀ r ∈ g.rules, r.2.length ≤ 1000) (d : Nat) : ∀ (w : World) (y : Sy) (left : Nat), left ≤ 1000 → d ≤ 1000 → Sl RuE ok w Ag ng cg g.rules → St w0 w bs bl left →
    Calls Try.prog 34 #[grVal g Ag ng cg, .agg #[.bool y.1, .int .i64 (y.2 : Int)], .pointer (some ⟨bs, 0, none⟩), .pointer (some ⟨bl, 0, none⟩), .int .i64 ((d : Int) - 1)] w (TreeP w0 w bs bl g y left) := by
  induction d using Nat.strongRecOn with
  | ind d ih =>
    intro w y left hl hd hg hs
    have hlen := hg.len
    have B0 := ((Blk.new w 28 #[.int .i64 (g.terms : Int), .int .i64 (g.nons : Int), .int .i64 (g.start : Int), .slice Ag ng cg]).al (.cells #[.bool y.1, .int .i64 (y.2 : Int)] 48)).al (.cells #[.int .i64 0, .int .i64 0, .slice none 0 0] 36)
    have B1 := (Blk.new (w.alloc (.cells #[.int .i64 (g.terms : Int), .int .i64 (g.nons : Int), .int .i64 (g.start : Int), .slice Ag ng cg] 28)) 48 #[.bool y.1, .int .i64 (y.2 : Int)]).al (.cells #[.int .i64 0, .int .i64 0, .slice none 0 0] 36)
    have B2 := (Blk.new ((w.alloc (.cells #[.int .i64 (g.terms : Int), .int .i64 (g.nons : Int), .int .i64 (g.start : Int), .slice Ag ng cg] 28)).alloc (.cells #[.bool y.1, .int .i64 (y.2 : Int)] 48)) 36 #[.int .i64 0, .int .i64 0, .slice none 0 0])
    simp only [World.size_alloc] at B1 B2
    have hs1 := ((hs.al (.cells #[.int .i64 (g.terms : Int), .int .i64 (g.nons : Int), .int .i64 (g.start : Int), .slice Ag ng cg] 28)).al (.cells #[.bool y.1, .int .i64 (y.2 : Int)] 48)).al (.cells #[.int .i64 0, .int .i64 0, .slice none 0 0] 36)
    have hB := ((((Below.refl w.heap.size w).al (.cells #[.int .i64 (g.terms : Int), .int .i64 (g.nons : Int), .int .i64 (g.start : Int), .slice Ag ng cg] 28)).al (.cells #[.bool y.1, .int .i64 (y.2 : Int)] 48)).al (.cells #[.int .i64 0, .int .i64 0, .slice none 0 0] 36))
    have hsz : (((w.alloc (.cells #[.int .i64 (g.terms : Int), .int .i64 (g.nons : Int), .int .i64 (g.start : Int), .slice Ag ng cg] 28)).alloc (.cells #[.bool y.1, .int .i64 (y.2 : Int)] 48)).alloc (.cells #[.int .i64 0, .int .i64 0, .slice none 0 0] 36)).heap.size = w.heap.size + 3 := by simp
    have hlb1 := hs.lt1
    have hlb2 := hs.cnt.lt
    clear hs
    simp only [grVal]
    have HG := Lib.hid hg
    clear hg
    go_enter Try.func34, Try.ntmps34
    go_upto_region 1 with fail
    generalize (((w.alloc (.cells #[.int .i64 (g.terms : Int), .int .i64 (g.nons : Int), .int .i64 (g.start : Int), .slice Ag ng cg] 28)).alloc (.cells #[.bool y.1, .int .i64 (y.2 : Int)] 48)).alloc (.cells #[.int .i64 0, .int .i64 0, .slice none 0 0] 36)) = W at *
    have Bc := hs1.cnt
    have cBc := Bc.cell
    have fBc := Bc.frozen
    have lBc := Bc.lt
    go_upto_region 2 with fail
    clear cBc fBc lBc
    have hle1 := hs1.lo2
    have hle0 := hs1.bel.size
    replace B0 := B0.far (p := ⟨bl, 0, none⟩) (by simp; omega) (.int .i64 ((left : Int) - 1))
    replace B1 := B1.far (p := ⟨bl, 0, none⟩) (by simp; omega) (.int .i64 ((left : Int) - 1))
    replace B2 := B2.far (p := ⟨bl, 0, none⟩) (by simp; omega) (.int .i64 ((left : Int) - 1))
    replace hs1 := hs1.left ((left : Int) - 1)
    have ha : Agr (Nx bs bl) w (W.setCell ⟨bl, 0, none⟩ (.int .i64 ((left : Int) - 1))) := (Agr.below hB).trans (Agr.setCell _ fun b hb => hb.2)
    replace hsz : (W.setCell ⟨bl, 0, none⟩ (.int .i64 ((left : Int) - 1))).heap.size = w.heap.size + 3 := by simp [hsz]
    generalize W.setCell ⟨bl, 0, none⟩ (.int .i64 ((left : Int) - 1)) = W1 at *
    clear hB Bc
    have Bc := hs1.cnt
    by_cases hl0 : left = 0
    · have hlt : decide ((left : Int) - 1 < 0) = true := by simp; omega
      have cBc := Bc.cell
      have fBc := Bc.frozen
      have lBc := Bc.lt
      have cB2 := B2.cell
      have fB2 := B2.frozen
      have lB2 := B2.lt
      go_wp2_with fail
      refine bodyPost_ret (v := .tuple #[trVal (0, 0, none, 0, 0), .bool false]) (by simp [results, Try.results34, go_sem, trVal, cB2]) rfl ?_
      exact TreeP.fin (0, 0, none, 0, 0) false hs1 ha (by omega) hlb1 hlb2 (fun _ => rfl) (by simp)
    · have hlt : decide ((left : Int) - 1 < 0) = false := by simp; omega
      by_cases hd0 : d = 0
      · have hdt : decide ((d : Int) - 1 < 0) = true := by simp; omega
        have cBc := Bc.cell
        have fBc := Bc.frozen
        have lBc := Bc.lt
        have cB2 := B2.cell
        have fB2 := B2.frozen
        have lB2 := B2.lt
        go_wp2_with fail
        refine bodyPost_ret (v := .tuple #[trVal (0, 0, none, 0, 0), .bool false]) (by simp [results, Try.results34, go_sem, trVal, cB2]) rfl ?_
        exact TreeP.fin (0, 0, none, 0, 0) false hs1 ha (by omega) hlb1 hlb2 (fun _ => rfl) (by simp)
      · have hdt : decide ((d : Int) - 1 < 0) = false := by simp; omega
        obtain ⟨y1, y2⟩ := y
        simp only at B1
        cases y1 with
        | true =>
          have cBc := Bc.cell
          have fBc := Bc.frozen
          have lBc := Bc.lt
          have cB1 := B1.cell
          have fB1 := B1.frozen
          have lB1 := B1.lt
          have cB2 := B2.cell
          have fB2 := B2.frozen
          have lB2 := B2.lt
          go_wp2_with fail
          refine bodyPost_ret (v := .tuple #[trVal (-1, (y2 : Int), none, 0, 0), .bool true]) (by simp [results, Try.results34, go_sem, trVal, cB2]) rfl ?_
          exact TreeP.fin (-1, (y2 : Int), none, 0, 0) true hs1 ha (by omega) hlb1 hlb2 (fun h => by cases h) fun _ => ⟨.leaf y2, .leaf y2 none 0, .leaf y2, by simp [Tr.size], by omega⟩
        | false =>
          have cBc := Bc.cell
          have fBc := Bc.frozen
          have lBc := Bc.lt
          have cB0 := B0.cell
          have fB0 := B0.frozen
          have lB0 := B0.lt
          have cB1 := B1.cell
          have fB1 := B1.frozen
          have lB1 := B1.lt
          have cB2 := B2.cell
          have fB2 := B2.frozen
          have lB2 := B2.lt
          go_wp2_with fail
          clear cBc fBc lBc cB0 fB0 lB0 cB1 fB1 lB1 cB2 fB2 lB2
          go_loopw [12, 42] (fun v i wr => ∃ (k n : Nat) (xs : List Int), i = .int .i64 k ∧ k ≤ ng ∧ MineRel w0 w bs bl g (false, y2) ((left : Int) - 1) k v n xs #[.int .i64 (g.terms : Int), .int .i64 (g.nons : Int), .int .i64 (g.start : Int), .slice Ag ng cg] wr) (fun _ i _ => ng - (intOf i).toNat)
          case atStart => exact ⟨0, 0, [], rfl, Nat.zero_le _, hs1, ha, OwnI.nil _ _, B0, B1, B2, by omega, Nat.le_refl _, fun x hx => by cases hx⟩
          case round =>
            obtain ⟨k, n, xs, rfl, hk, hr⟩ := hrel
            clear hs1 ha B0 B1 B2 Bc hsz
            obtain ⟨Av, cv, rfl, -⟩ := hr.own.form
            by_cases hkl : k < ng
            · obtain ⟨b, off, raw, x, rfl, hob, hb, hx, ⟨hx1, hx2⟩, hc⟩ := HG.out.at_ hkl
              obtain ⟨rl, Ax, nx, cx⟩ := raw
              obtain ⟨x1, x2⟩ := x
              simp only at hx1 hx2
              subst hx1
              have c0 := hr.agr.cell (hok b hob) (hc 0 _ rfl)
              have c1 := hr.agr.cell (hok b hob) (hc 1 _ rfl)
              simp only [RuE, Nat.add_zero] at c0 c1
              have i0 : (0 : Int) ≤ (k : Int) := by omega
              have i1 : (k : Int) < (ng : Int) := by omega
              have hnk := hr.le
              have hszr := hr.size
              have HR := Lib.hid (hr.via ((Below.refl wr.heap.size wr).alloc (Nat.le_refl _) (.cells #[.int .i64 (rl : Int), .slice Ax nx cx] 75)))
              have HX := Lib.hid hx
              have B1 := hr.b1
              clear hc hx hx2 hr hob hb
              by_cases e : rl = y2
              · subst e
                have cB1 := B1.cell
                have fB1 := B1.frozen
                have lB1 := B1.lt
                go_wp2_with (at_builtin; refine wpList_append_ints _ rfl (.tmp 52) (.tmp 54) rfl (w.heap.size + 3) (.slice Av n cv) n xs rfl (HR.out.own.alloc _) (some ⟨wr.heap.size + 1, 0, none⟩) 1 1 [(k : Int)] rfl (by have := Ints.one (wr.alloc (.cells #[.int .i64 (rl : Int), .slice Ax nx cx] 75)) (k : Int) 3; rw [World.size_alloc] at this; exact this) (by omega) (by simp; omega) ?_; intro Av1 cv1 w1 ho1 hg1 hat1)
                go_roundw
                case rel => exact ⟨k + 1, n + 1, xs ++ [(k : Int)], by go_num, by omega, (HR.out.via ((Below.refl _ _).alloc (Nat.le_refl _) _)).push hlb1 hlb2 ho1 hg1 HX.out⟩
                case measure => simp [intOf]; omega
              · have e1 : ((rl : Int) == (y2 : Int)) = false := by rw [beq_eq_false_iff_ne]; omega
                clear e
                have cB1 := B1.cell
                have fB1 := B1.frozen
                have lB1 := B1.lt
                go_wp2_with fail
                exact ⟨⟨k + 1, n, xs, by go_num, by omega, HR.out.skip⟩, by simp [intOf]; omega⟩
            · have hnk := hr.le
              have B2 := hr.b2
              have hszr := hr.size
              by_cases hn0 : n = 0
              · subst hn0
                have HR := Lib.hid hr
                clear hr
                have cB2 := B2.cell
                have fB2 := B2.frozen
                have lB2 := B2.lt
                go_wp2_with fail
                refine bodyPost_ret (v := .tuple #[trVal (0, 0, none, 0, 0), .bool false]) (by simp [results, Try.results34, go_sem, trVal, cB2]) rfl ?_
                exact TreeP.fin (0, 0, none, 0, 0) false HR.out.st HR.out.agr (by omega) hlb1 hlb2 (fun _ => rfl) (by simp)
              · have en : ((n : Int) == 0) = false := by simp; omega
                obtain ⟨As, ms, cs, lss, Bs, hIs⟩ := hr.st.str
                have hbel := hr.st.bel
                have HR := Lib.hid hr
                clear hr
                go_wp2_with fail
                refine (snext_n w0 wr bs n _ rfl As ms cs lss hIs hbel (Bs.cell 0) (Bs.frozen 0) (by omega) (by omega)).mono ?_
                rintro e w' ⟨p, A2, m2, c2, l2, rfl, hp, hm2, rfl, hI2⟩
                have hs2 := HR.out.st.next hI2
                have ha2 : Agr (Nx bs bl) w (wr.setCell ⟨bs, 0, none⟩ (.slice A2 m2 c2)) := HR.out.agr.trans (Agr.setCell _ fun b hb => hb.1)
                have B0 := HR.out.b0.far (p := ⟨bs, 0, none⟩) (by simp; omega) (.slice A2 m2 c2)
                replace B2 := B2.far (p := ⟨bs, 0, none⟩) (by simp; omega) (.slice A2 m2 c2)
                obtain ⟨bm, om, rfl, hbm, hxm⟩ := HR.out.own.toInts.at_ hp
                have hbm3 := (HR.out.own.block _ rfl).1
                have xm := (World.cell?_of_block (w := wr) (a := ⟨bm, om + p, none⟩) (Below.heap_setCell wr ⟨bs, 0, none⟩ (.slice A2 m2 c2) bm (by simp at hbm3 ⊢; omega))).trans hxm
                have hpx : p < xs.length := by rw [HR.out.own.toInts.len]; exact hp
                obtain ⟨i, rhs, hi1, hi2⟩ := HR.out.mem (xs.getD p 0) (by rw [List.getD_eq_getElem?_getD, List.getElem?_eq_getElem hpx]; exact List.getElem_mem hpx)
                rw [hi1] at xm
                have hin : i < ng := by rw [← hlen]; exact (List.getElem?_eq_some_iff.1 hi2).1
                obtain ⟨b, off, raw, x, rfl, hob, hb, hx, ⟨hx1, hx2⟩, hc⟩ := HG.out.at_ hin
                rw [hi2] at hx
                cases hx
                obtain ⟨rl, Ax, nx, cx⟩ := raw
                simp only at hx1 hx2
                subst hx1
                have c1 := ha2.cell (hok b hob) (hc 1 _ rfl)
                simp only [RuE] at c1
                replace hszr : w.heap.size + 3 ≤ (wr.setCell ⟨bs, 0, none⟩ (.slice A2 m2 c2)).heap.size := by simpa using hszr
                have hbm4 : bm < (wr.setCell ⟨bs, 0, none⟩ (.slice A2 m2 c2)).heap.size := by simpa using hbm
                have i0 : (0 : Int) ≤ (i : Int) := by omega
                have i1 : (i : Int) < (ng : Int) := by omega
                have p0 : (0 : Int) ≤ (p : Int) := by omega
                have p1 : (p : Int) < (n : Int) := by omega
                have hb2 : b < (wr.setCell ⟨bs, 0, none⟩ (.slice A2 m2 c2)).heap.size := by omega
                have hnx : nx ≤ 1000 := by rw [← hx2.len]; exact hrl _ (List.mem_of_getElem? hi2)
                have HX := Lib.hid hx2
                have HI := Lib.hid hi2
                generalize wr.setCell ⟨bs, 0, none⟩ (.slice A2 m2 c2) = Wn at *
                clear HR hx2 hi2 hc hI2 hIs hbel Bs hxm hi1 hpx
                have cB0 := B0.cell
                have fB0 := B0.frozen
                have lB0 := B0.lt
                have cB2 := B2.cell
                have fB2 := B2.frozen
                have lB2 := B2.lt
                go_wp2_with fail
                clear cB0 fB0 lB0 cB2 fB2 lB2
                go_loopw [77] (fun i' wr => ∃ (k : Nat) (v : Value) (ks : List Tr) (l : Nat), i' = .int .i64 k ∧ k ≤ nx ∧ (l : Int) + Tr.sizes ks + 1 = left ∧ KidRel w0 w bs bl g i rhs Wn.heap.size #[.int .i64 (g.terms : Int), .int .i64 (g.nons : Int), .int .i64 (g.start : Int), .slice (some ⟨b, off, none⟩) ng cg] k v ks l wr) (fun i' _ => nx - (intOf i').toNat)
                case atStart =>
                  refine ⟨0, _, [], left - 1, rfl, Nat.zero_le _, by simp [Tr.sizes]; omega, ?_, ha2.trans (Agr.below ((Below.refl _ _).alloc (Nat.le_refl _) _)), Own.nil _ _, B0.al _, B2.al _, Blk.new _ _ _, by simp, hszr, fun j s t _ h => by simp at h⟩
                  rw [show ((left - 1 : Nat) : Int) = (left : Int) - 1 by omega]
                  exact hs2.al _
                case round =>
                  obtain ⟨k3, v, ks, l, rfl, hk3, hsum, hr⟩ := hrel
                  obtain ⟨Av, cv, rfl, -⟩ := hr.own.form
                  clear xm B0 B2 c1 hs2 ha2
                  by_cases hkl3 : k3 < nx
                  · obtain ⟨b1, o1, s1, s2, rfl, hob1, hb1, hs1, hs2, hc1⟩ := HX.out.at_ hkl3
                    have hs12 : s1 = s2 := hs2
                    subst hs12
                    have d0 := hr.agr.cell (hok b1 hob1) (hc1 0 _ rfl)
                    have d1 := hr.agr.cell (hok b1 hob1) (hc1 1 _ rfl)
                    obtain ⟨sb, sn⟩ := s1
                    simp only [SyE, Nat.add_zero] at d0 d1
                    have j0 : (0 : Int) ≤ (k3 : Int) := by omega
                    have j1 : (k3 : Int) < (nx : Int) := by omega
                    have B0 := hr.b0
                    have hszk := hr.size
                    have HK := Lib.hid (hr.al hlb1 hlb2 (.cells #[.bool sb, .int .i64 (sn : Int)] 48))
                    have HS := Lib.hid hs1
                    clear hr hc1 hs1 hs2
                    have cB0 := B0.cell
                    have fB0 := B0.frozen
                    have lB0 := B0.lt
                    go_wp2_with fail
                    clear cB0 fB0 lB0
                    clear d0 d1 B0
                    rw [show (d : Int) - 1 - 1 = ((d - 1 : Nat) : Int) - 1 by omega]
                    refine (ih (d - 1) (by omega) _ (sb, sn) l (by omega) (by omega) (HG.out.agr (HK.out.agr.mono hok)) HK.out.st).mono ?_
                    rintro e w' ⟨v2, b2, l', rfl, hs3, ha3, hz3, ht3, -⟩
                    rw [World.size_alloc] at hz3
                    have hK2 := HK.out.call hlb1 hlb2 ha3 (by rw [World.size_alloc]; exact hz3) hs3
                    have hszk2 := hK2.size
                    obtain ⟨va, vb, vA, vn, vc⟩ := v2
                    have hK3 := hK2.al hlb1 hlb2 (.cells #[.int .i64 va, .int .i64 vb, .slice vA vn vc] 36)
                    have HT3 := Lib.hid ht3
                    clear ht3 hs3 ha3
                    dsimp only [trVal]
                    cases b2 with
                    | false =>
                      have HK3 := Lib.hid hK3
                      have B2 := hK3.b2
                      clear hK2 hK3
                      have cB2 := B2.cell
                      have fB2 := B2.frozen
                      have lB2 := B2.lt
                      go_wp2_with fail
                      refine bodyPost_ret (v := .tuple #[trVal (0, 0, none, 0, 0), .bool false]) (by simp [results, Try.results34, go_sem, trVal, cB2]) rfl ?_
                      exact TreeP.fin (0, 0, none, 0, 0) false HK3.out.st HK3.out.agr (by have := HK3.out.size; have := HK3.out.hbt; omega) hlb1 hlb2 (fun _ => rfl) (by simp)
                    | true =>
                      obtain ⟨t3, hT3, hD3, hsum3, hl3⟩ := HT3.out rfl
                      obtain ⟨l3, rfl⟩ := Int.eq_ofNat_of_zero_le hl3
                      have hn3 : k3 + 1 ≤ 1000000 := by omega
                      have hT4 := (hT3.al (.cells #[.int .i64 va, .int .i64 vb, .slice vA vn vc] 36)).al (.cells #[.int .i64 va, .int .i64 vb, .slice vA vn vc] 36)
                      have hK4 := hK3.al hlb1 hlb2 (.cells #[.int .i64 va, .int .i64 vb, .slice vA vn vc] 36)
                      have hT5 := hT4.mono (ok' := fun b => (Wn.heap.size + 1 ≤ b) ∧ some b ≠ Value.ownBlock (.slice Av k3 cv)) fun b _ hb => by
                        rw [World.size_alloc] at hb
                        refine ⟨by omega, fun e => ?_⟩
                        have := (HK.out.own.lt b e.symm).2
                        rw [World.size_alloc] at this
                        exact absurd (Nat.lt_of_lt_of_le this hb) (Nat.lt_irrefl _)
                      have HT5 := Lib.hid hT5
                      have HK4 := Lib.hid hK4
                      have HD3 := Lib.hid hD3
                      have B3 := hK3.b3
                      have Bk := Blk.new w' 36 #[.int .i64 va, .int .i64 vb, .slice vA vn vc]
                      clear hT3 hT4 hT5 hK2 hK3 hK4 hD3 HT3
                      have cB3 := B3.cell
                      have fB3 := B3.frozen
                      have lB3 := B3.lt
                      go_wp2_with (at_builtin; refine wpList_append_tr _ rfl (.tmp 95) (.tmp 97) rfl (fun b => Wn.heap.size + 1 ≤ b) (Wn.heap.size + 1) (.slice Av k3 cv) k3 ks rfl HK4.out.own (w'.heap.size + 1) (va, vb, vA, vn, vc) t3 rfl (by have := Blk.new (w'.alloc (.cells #[.int .i64 va, .int .i64 vb, .slice vA vn vc] 36)) 36 #[.int .i64 va, .int .i64 vb, .slice vA vn vc]; rw [World.size_alloc] at this; exact this) HT5.out hn3 HK4.out.size ?_; intro Av1 cv1 w1 ho1 hg1 hat1; have B3g := HK4.out.b3.grown hg1 (fun e => by have := (HK4.out.own.lt _ e.symm).1; omega); have c3g := B3g.cell; have f3g := B3g.frozen)
                      exact ⟨⟨k3 + 1, _, ks ++ [t3], l3, by go_num, by omega, by rw [Tr.sizes_append]; simp [Tr.sizes]; omega, HK4.out.push hlb1 hlb2 ho1 hg1 HS.out HD3.out⟩, by simp [intOf]; omega⟩
                  · have HKE := Lib.hid (show k3 = nx by omega)
                    have B2 := hr.b2
                    have B3 := hr.b3
                    have HK := Lib.hid hr
                    clear hr
                    have cB2 := B2.cell
                    have fB2 := B2.frozen
                    have lB2 := B2.lt
                    have cB3 := B3.cell
                    have fB3 := B3.frozen
                    have lB3 := B3.lt
                    go_wp2_with fail
                    refine bodyPost_ret (v := .tuple #[trVal ((i : Int), 0, Av, k3, cv), .bool true]) (by simp [results, Try.results34, go_sem, trVal, cB2]) rfl ?_
                    refine TreeP.fin ((i : Int), 0, Av, k3, cv) true HK.out.st HK.out.agr (by have := HK.out.size; have := HK.out.hbt; omega) hlb1 hlb2 (fun h => by cases h) fun _ => ⟨.node i ks, ?_, ?_, ?_, by omega⟩
                    · have hs := HK.out.own.toSl (ok' := fun b => w.heap.size + 3 ≤ b) (fun b _ hb => by omega) (fun b hb => by omega)
                      exact TreeR.mk i hs
                    · exact .node i rl rhs ks HI.out (by rw [HK.out.own.len, HX.out.len, HKE.out]) HK.out.der
                    · simp only [Tr.size]; omega

theorem TreeR.set3 {ok : Nat → Prop} {w : World} {v : TrV} {t : Tr} (h : TreeR ok w v t) {r : Nat} (hk : ∀ b, ok b → b ≠ r) (x y z : Value) : TreeR ok (((w.setCell ⟨r, 0, none⟩ x).setCell ⟨r, 1, none⟩ y).setCell ⟨r, 2, none⟩ z) v t :=
  h.agr (((Agr.setCell _ hk).trans (Agr.setCell _ hk)).trans (Agr.setCell _ hk))
theorem below_set3 {B : Nat} {w0 w : World} (h : Below B w0 w) {r : Nat} (hr : B ≤ r) (x y z : Value) : Below B w0 (((w.setCell ⟨r, 0, none⟩ x).setCell ⟨r, 1, none⟩ y).setCell ⟨r, 2, none⟩ z) :=
  ((h.setCell hr _).setCell hr _).setCell hr _

/-! ### Tree -/
def MakeZ (w : World) (g : Gr) (e : Ending) (w' : World) : Prop :=
  ∃ (v : TrV) (b : Bool), e = .returned (.tuple #[trVal v, .bool b]) ∧ Below w.heap.size w w' ∧ ((b = true → ∃ t, TreeR (fun b => w.heap.size ≤ b) w' v t ∧ Der g (false, g.start) t ∧ t.size ≤ 60) ∧ (b = false → v = (0, 0, none, 0, 0)))
def MakeP (w : World) (g : Gr) (e : Ending) (w' : World) : Prop :=
  ∃ (v : TrV) (b : Bool), e = .returned (.tuple #[trVal v, .bool b]) ∧ Below w.heap.size w w' ∧ (b = true → ∃ t, TreeR (fun b => w.heap.size ≤ b) w' v t ∧ Der g (false, g.start) t ∧ t.size ≤ 60)

set_option maxRecDepth 100000 in
set_option maxHeartbeats 4000000 in
theorem make_z (ok : Nat → Prop) (g : Gr) (Ag : Option Addr) (ng cg : Nat) (hng : g.rules.length ≤ 1000) (hrl : ∀ r ∈ g.rules, r.2.length ≤ 1000) (A : Option Addr) (m c : Nat) (ls : List Int) (w : World) (hg : Sl RuE ok w Ag ng cg g.rules) (hI : Ints w A m c ls) :
    Calls Try.prog 11 #[grVal g Ag ng cg, .slice A m c] w (MakeZ w g) := by
  simp only [grVal]
  have B0 := ((((Blk.new w 28 #[.int .i64 (g.terms : Int), .int .i64 (g.nons : Int), .int .i64 (g.start : Int), .slice Ag ng cg]).al (.cells #[.int .i64 0, .int .i64 0, .slice none 0 0] 36)).al (.cells #[.int .i64 60] 3)).al (.cells #[.slice A m c] 83))
  have B1 := ((Blk.new (w.alloc (.cells #[.int .i64 (g.terms : Int), .int .i64 (g.nons : Int), .int .i64 (g.start : Int), .slice Ag ng cg] 28)) 36 #[.int .i64 0, .int .i64 0, .slice none 0 0]).al (.cells #[.int .i64 60] 3)).al (.cells #[.slice A m c] 83)
  have B2 := (Blk.new ((w.alloc (.cells #[.int .i64 (g.terms : Int), .int .i64 (g.nons : Int), .int .i64 (g.start : Int), .slice Ag ng cg] 28)).alloc (.cells #[.int .i64 0, .int .i64 0, .slice none 0 0] 36)) 3 #[.int .i64 60]).al (.cells #[.slice A m c] 83)
  have B3 := Blk.new (((w.alloc (.cells #[.int .i64 (g.terms : Int), .int .i64 (g.nons : Int), .int .i64 (g.start : Int), .slice Ag ng cg] 28)).alloc (.cells #[.int .i64 0, .int .i64 0, .slice none 0 0] 36)).alloc (.cells #[.int .i64 60] 3)) 83 #[.slice A m c]
  have hB := ((((Below.refl w.heap.size w).al (.cells #[.int .i64 (g.terms : Int), .int .i64 (g.nons : Int), .int .i64 (g.start : Int), .slice Ag ng cg] 28)).al (.cells #[.int .i64 0, .int .i64 0, .slice none 0 0] 36)).al (.cells #[.int .i64 60] 3)).al (.cells #[.slice A m c] 83)
  have hsz : ((((w.alloc (.cells #[.int .i64 (g.terms : Int), .int .i64 (g.nons : Int), .int .i64 (g.start : Int), .slice Ag ng cg] 28)).alloc (.cells #[.int .i64 0, .int .i64 0, .slice none 0 0] 36)).alloc (.cells #[.int .i64 60] 3)).alloc (.cells #[.slice A m c] 83)).heap.size = w.heap.size + 4 := by simp
  simp only [World.size_alloc] at B1 B2 B3
  have hg1 := (hg.mono (ok' := fun b => b < w.heap.size) fun b hb _ => hb).agr (Agr.below hB)
  have HI := Lib.hid hI
  clear hg hI
  go_enter Try.func11, Try.ntmps11
  go_wp2_with fail
  generalize (((w.alloc (.cells #[.int .i64 (g.terms : Int), .int .i64 (g.nons : Int), .int .i64 (g.start : Int), .slice Ag ng cg] 28)).alloc (.cells #[.int .i64 0, .int .i64 0, .slice none 0 0] 36)).alloc (.cells #[.int .i64 60] 3)).alloc (.cells #[.slice A m c] 83) = W at *
  refine (tree_n w (w.heap.size + 1 + 1 + 1) (w.heap.size + 1 + 1) (fun b => b < w.heap.size) (fun b hb => ⟨by omega, by omega⟩) g Ag ng cg hng hrl 13 W (false, g.start) 60 (by omega) (by omega) hg1 ⟨⟨A, m, c, ls, B3, HI.out⟩, B2, hB, by omega, by omega, by omega⟩).mono ?_
  rintro e w' ⟨v, b, l', rfl, hs, ha, hz, ht, ht0⟩
  have HT := Lib.hid ht
  have HT0 := Lib.hid ht0
  have HS := Lib.hid hs
  have HA := Lib.hid ha
  have B1' : Blk w' (w.heap.size + 1) 36 #[.int .i64 0, .int .i64 0, .slice none 0 0] := (ha (w.heap.size + 1) ⟨by omega, by omega⟩ (by omega)).trans B1
  clear hs ha ht ht0 B0 B1 B2 B3 hg1
  obtain ⟨va, vb, vA, vn, vc⟩ := v
  dsimp only [trVal]
  have B1 := B1'
  clear B1'
  have cB1 := B1.cell
  have fB1 := B1.frozen
  have lB1 := B1.lt
  go_wp2_with fail
  refine bodyPost_ret (v := .tuple #[trVal (va, vb, vA, vn, vc), .bool b]) (by simp [results, Try.results11, go_sem, trVal, cB1]) rfl ⟨_, b, rfl, ?_, ?_, HT0.out⟩
  · exact below_set3 HS.out.bel (by omega) _ _ _
  · intro hb
    obtain ⟨t, h1, h2, h3, h4⟩ := HT.out hb
    exact ⟨t, (h1.set3 (fun b hb => by omega) _ _ _).mono (fun b _ hb => by omega), h2, by omega⟩
theorem make_c (ok : Nat → Prop) (g : Gr) (Ag : Option Addr) (ng cg : Nat) (hng : g.rules.length ≤ 1000) (hrl : ∀ r ∈ g.rules, r.2.length ≤ 1000) (A : Option Addr) (m c : Nat) (ls : List Int) (w : World) (hg : Sl RuE ok w Ag ng cg g.rules) (hI : Ints w A m c ls) :
    Calls Try.prog 11 #[grVal g Ag ng cg, .slice A m c] w (MakeP w g) :=
  (make_z ok g Ag ng cg hng hrl A m c ls w hg hI).mono fun _ _ ⟨v, b, h1, h2, h3, _⟩ => ⟨v, b, h1, h2, h3⟩
end Go.Proofs.Ytghnkgbingcbcaa



namespace Go.Proofs.Ytghnkgbingcbcaa
open Go.RowKit

mutual
def Tr.pre : Tr → List Tr
  | .leaf k => [.leaf k]
  | .node r ks => .node r ks :: Tr.pres ks
def Tr.pres : List Tr → List Tr
  | [] => []
  | t :: ts => t.pre ++ Tr.pres ts
end
theorem Tr.pre_eq (t : Tr) : t.pre = t :: Tr.pres t.kids := by cases t <;> simp [Tr.pre, Tr.kids, Tr.pres]
theorem Tr.pres_append (a b : List Tr) : Tr.pres (a ++ b) = Tr.pres a ++ Tr.pres b := by
  induction a with
  | nil => simp [Tr.pres]
  | cons t ts ih => simp only [List.cons_append, Tr.pres, ih, List.append_assoc]
theorem Tr.pres_take {ks : List Tr} {k : Nat} {t : Tr} (h : ks[k]? = some t) : Tr.pres (ks.take (k + 1)) = Tr.pres (ks.take k) ++ t.pre := by
  have hl := List.getElem?_eq_some_iff.1 h
  rw [List.take_succ_eq_append_getElem hl.1, hl.2, Tr.pres_append]
  simp [Tr.pres]

mutual
theorem Tr.pre_len (t : Tr) : t.pre.length = t.size := by
  cases t with
  | leaf k => simp [Tr.pre, Tr.size]
  | node r ks => simp only [Tr.pre, Tr.size, List.length_cons]; rw [Tr.pres_len ks]
theorem Tr.pres_len (ks : List Tr) : (Tr.pres ks).length = Tr.sizes ks := by
  cases ks with
  | nil => simp [Tr.pres, Tr.sizes]
  | cons t ts => simp only [Tr.pres, Tr.sizes, List.length_append]; rw [Tr.pre_len t, Tr.pres_len ts]
end
theorem Tr.size_eq (t : Tr) : t.size = Tr.sizes t.kids + 1 := by cases t <;> simp [Tr.size, Tr.kids, Tr.sizes]
theorem Tr.sizes_take {ks : List Tr} {k : Nat} {y : Tr} (h : ks[k]? = some y) : Tr.sizes (ks.take k) + y.size ≤ Tr.sizes ks := by
  have hl := List.getElem?_eq_some_iff.1 h
  have e : Tr.sizes (ks.take (k + 1)) + Tr.sizes (ks.drop (k + 1)) = Tr.sizes ks := by rw [← Tr.sizes_append, List.take_append_drop]
  rw [List.take_succ_eq_append_getElem hl.1, hl.2, Tr.sizes_append] at e
  simp only [Tr.sizes] at e
  omega
theorem Agr.lo {lo : Nat} {w w' : World} (h : Below lo w w') : Agr (fun b => b < lo) w w' := fun b hb _ => h.block b hb

/-- what a visit leaves -/
def VisitP (lo : Nat) (P : List Tr → (Nat → Prop) → World → Prop) (R : Nat → Prop) (w : World) (l : List Tr) (e : Ending) (w' : World) : Prop :=
  e = .returned (.bool true) ∧ ∃ R', P l R' w' ∧ Below lo w w' ∧ Agr (fun b => ¬ R b) w w' ∧ ∀ b, R' b → R b ∨ w.heap.size ≤ b

structure WalkRel (lo : Nat) (P : List Tr → (Nat → Prop) → World → Prop) (R0 : Nat → Prop) (w : World) (l : List Tr) (R : Nat → Prop) (wr : World) : Prop where
  p : P l R wr
  bel : Below lo w wr
  agr : Agr (fun b => ¬ R0 b) w wr
  row : ∀ b, R b → R0 b ∨ w.heap.size ≤ b

theorem WalkRel.via {lo : Nat} {P : List Tr → (Nat → Prop) → World → Prop} {R0 : Nat → Prop} {w : World} {l : List Tr} {R : Nat → Prop} {wr wa : World} (h : WalkRel lo P R0 w l R wr)
    (hP : ∀ l R w w', P l R w → Below w.heap.size w w' → P l R w') (hlo : lo ≤ w.heap.size) (hb : Below wr.heap.size wr wa) : WalkRel lo P R0 w l R wa :=
  ⟨hP _ _ _ _ h.p hb, h.bel.trans (hb.mono (Nat.le_trans hlo h.bel.size)), h.agr.trans (Agr.below hb), h.row⟩
theorem WalkRel.step {lo : Nat} {P : List Tr → (Nat → Prop) → World → Prop} {R0 : Nat → Prop} {w : World} {l l' : List Tr} {R R' : Nat → Prop} {wr wa : World} (h : WalkRel lo P R0 w l R wr)
    (h1 : P l' R' wa) (h2 : Below lo wr wa) (h3 : Agr (fun b => ¬ R b) wr wa) (h4 : ∀ b, R' b → R b ∨ wr.heap.size ≤ b) : WalkRel lo P R0 w l' R' wa := by
  refine ⟨h1, h.bel.trans h2, ?_, ?_⟩
  · intro b hb hlt
    have hlt' : b < wr.heap.size := Nat.lt_of_lt_of_le hlt h.bel.size
    exact (h3 b (fun hR => (h.row b hR).elim hb fun h => by omega) hlt').trans (h.agr b hb hlt)
  · intro b hb
    rcases h4 b hb with h5 | h5
    · exact h.row b h5
    · exact Or.inr (Nat.le_trans h.bel.size h5)

set_option maxRecDepth 100000 in
set_option maxHeartbeats 4000000 in
theorem walk_n (fid : Nat) (he : ∀ (args : Array Value) (w : World), (callFunc fid args).run Try.prog w = .ok (.enter fid args) w) (cap : Value) (lo : Nat) (P : List Tr → (Nat → Prop) → World → Prop)
    (hP : ∀ l R w w', P l R w → Below w.heap.size w w' → P l R w') (hR : ∀ l R w, P l R w → lo ≤ w.heap.size ∧ ∀ b, R b → lo ≤ b ∧ b < w.heap.size) (M : Nat)
    (hf : ∀ l R w v x, l.length < M → P l R w → TreeR (fun b => b < lo) w v x → Calls Try.prog fid #[trVal v, cap] w (VisitP lo P R w (l ++ [x]))) (N : Nat) :
    ∀ (v : TrV) (t : Tr) (w : World) (l : List Tr) (R : Nat → Prop), TreeR (fun b => b < lo) w v t → P l R w → t.size ≤ N → l.length + t.size ≤ M → M ≤ 1000000 →
    Calls Try.prog 37 #[trVal v, .func (.func fid) #[] #[cap]] w (VisitP lo P R w (l ++ t.pre)) := by
  induction N with
  | zero => intro v t w l R _ _ h; have := t.size_pos; omega
  | succ N ih =>
    intro v t w l R hT hp hN hl hM
    obtain ⟨a, b, A, n, c⟩ := v
    simp only [trVal]
    have B0 := Blk.new w 36 #[.int .i64 a, .int .i64 b, .slice A n c]
    have hT1 := hT.al (.cells #[.int .i64 a, .int .i64 b, .slice A n c] 36)
    have hp1 := hP _ _ _ _ hp ((Below.refl w.heap.size w).alloc (Nat.le_refl _) (.cells #[.int .i64 a, .int .i64 b, .slice A n c] 36))
    have hlo := (hR _ _ _ hp).1
    have hw : WalkRel lo P R w l R (w.alloc (.cells #[.int .i64 a, .int .i64 b, .slice A n c] 36)) := ⟨hp1, (Below.refl lo w).alloc hlo _, Agr.below ((Below.refl w.heap.size w).alloc (Nat.le_refl _) _), fun b hb => Or.inl hb⟩
    have hnR : ¬ R w.heap.size := fun h => Nat.lt_irrefl _ ((hR _ _ _ hp).2 _ h).2
    have HT := Lib.hid hT1
    have HP := Lib.hid hw
    have HNR := Lib.hid hnR
    have hps := t.size_pos
    clear hT hT1 hp hp1 hw hnR
    go_enter Try.func37, Try.ntmps37
    go_wp2_with fail
    refine (hf l R _ (a, b, A, n, c) t (by omega) HP.out.p HT.out).mono ?_
    rintro e w' ⟨rfl, R1, h1, h2, h3, h4⟩
    have hw1 := HP.out.step h1 h2 h3 h4
    have B1 : Blk w' w.heap.size 36 #[.int .i64 a, .int .i64 b, .slice A n c] := (h3 _ HNR.out B0.lt).trans B0
    have hT1 := HT.out.agr (Agr.lo h2)
    have HT1 := Lib.hid hT1
    have HW := Lib.hid hw1
    clear h1 h2 h3 h4 hT1 hw1 HP HT B0
    have cB1 := B1.cell
    have fB1 := B1.frozen
    have lB1 := B1.lt
    go_wp2_with fail
    clear cB1 fB1 lB1
    refine (kids_c _ (a, b, A, n, c) t w' HT1.out).mono ?_
    rintro e w2 ⟨A2, n2, c2, rfl, hS, hb2⟩
    have hw2 := HW.out.via hP hlo hb2
    have hS2 := hS.via hb2
    have HS := Lib.hid hS2
    have hws := hw2.bel.size
    have hln : n2 < t.size := by rw [← hS.len]; exact t.kids_len
    clear hS hS2 hb2 HW HT1 B1
    go_wp2_with fail
    go_loopw [14] (fun i wr => ∃ (k : Nat) (R2 : Nat → Prop), i = .int .i64 k ∧ k ≤ n2 ∧ WalkRel lo P R w (l ++ [t] ++ Tr.pres (t.kids.take k)) R2 wr ∧ Below lo w2 wr) (fun i _ => n2 - (intOf i).toNat)
    case atStart => exact ⟨0, R1, rfl, Nat.zero_le _, by simpa [Tr.pres] using hw2, Below.refl _ _⟩
    case round =>
      obtain ⟨k, R2, rfl, hk, hr, hbr⟩ := hrel
      clear hw2
      by_cases hlt : k < n2
      · obtain ⟨b1, o1, x, y, rfl, hob, hb1, hy, hxy, hc⟩ := HS.out.at_ hlt
        have hxy' : TreeR (fun b => b < lo) w2 x y := hxy
        have c0 := (Agr.lo hbr).cell hob (hc 0 _ rfl)
        have c1 := (Agr.lo hbr).cell hob (hc 1 _ rfl)
        have c2 := (Agr.lo hbr).cell hob (hc 2 _ rfl)
        obtain ⟨xa, xb, xA, xn, xc⟩ := x
        simp only [TrE, Nat.add_zero] at c0 c1 c2
        have i0 : (0 : Int) ≤ (k : Int) := by omega
        have i1 : (k : Int) < (n2 : Int) := by omega
        have HR := Lib.hid (hr.via hP hlo ((Below.refl wr.heap.size wr).alloc (Nat.le_refl _) (.cells #[.int .i64 xa, .int .i64 xb, .slice xA xn xc] 36)))
        have HX := Lib.hid ((hxy'.agr (Agr.lo hbr)).al (.cells #[.int .i64 xa, .int .i64 xb, .slice xA xn xc] 36))
        have HY := Lib.hid hy
        have HB := Lib.hid (hbr.alloc (Nat.le_trans hlo (Nat.le_trans hws hbr.size)) (.cells #[.int .i64 xa, .int .i64 xb, .slice xA xn xc] 36))
        clear hr hxy hxy' hc hy hb1 hbr
        have hsz := Tr.sizes_take HY.out
        have hsz2 := t.size_eq
        have hpl := Tr.pres_len (t.kids.take k)
        go_wp2_with fail
        clear c0 c1 c2
        refine (ih (xa, xb, xA, xn, xc) y _ _ R2 HX.out HR.out.p (by omega) (by simp only [List.length_append, List.length_singleton]; omega) hM).mono ?_
        rintro e w3 ⟨rfl, R3, h1, h2, h3, h4⟩
        have hb3 := HB.out.trans h2
        have hr3 := HR.out.step h1 h2 h3 h4
        rw [List.append_assoc, ← Tr.pres_take HY.out] at hr3
        have HR3 := Lib.hid hr3
        have HB3 := Lib.hid hb3
        clear hr3 hb3 h1 h2 h3 h4
        go_wp2_with fail
        exact ⟨⟨k + 1, R3, by go_num, by omega, HR3.out, HB3.out⟩, by simp [intOf]; omega⟩
      · have HR := Lib.hid hr
        have HKE := Lib.hid (show k = n2 by omega)
        clear hr
        go_wp2_with fail
        go_ret
        refine ⟨rfl, R2, ?_, HR.out.bel, HR.out.agr, HR.out.row⟩
        have := HR.out.p
        rw [List.take_of_length_le (by rw [HS.out.len, HKE.out]; exact Nat.le_refl _), List.append_assoc] at this
        rw [Tr.pre_eq]
        exact this

theorem enters_c {P : Program} {f : FuncId} {fn : Func} {c : Code} (hf : P.funcs[f]? = some fn) (hname : (fn.name == "runtime.NumGoroutine") = false) (hb : fn.body = some c) : ∀ (args : Array Value) (w : World), (callFunc f args).run P w = .ok (.enter f args) w := by
  intro args w
  have h1 : fn.name ≠ "runtime.NumGoroutine" := by simpa using hname
  simp [callFunc, hf, h1, hb, mark]

/-! ### Size -/
def SizeInv (lo bn : Nat) (l : List Tr) (R : Nat → Prop) (w : World) : Prop := (∀ b, R b ↔ b = bn) ∧ Blk w bn 3 #[.int .i64 (l.length : Int)] ∧ lo ≤ bn
set_option maxHeartbeats 1000000 in
theorem size1_c (lo bn : Nat) (l : List Tr) (R : Nat → Prop) (w : World) (v : TrV) (x : Tr) (hl : l.length < 1000000) (h : SizeInv lo bn l R w) :
    Calls Try.prog 81 #[trVal v, .pointer (some ⟨bn, 0, none⟩)] w (VisitP lo (SizeInv lo bn) R w (l ++ [x])) := by
  obtain ⟨hR, hB, hlo⟩ := h
  have hlt := hB.lt
  have B1 := hB.al (.cells #[.int .i64 v.1, .int .i64 v.2.1, .slice v.2.2.1 v.2.2.2.1 v.2.2.2.2] 36)
  simp only [trVal]
  have HR := Lib.hid hR
  have HB0 := Lib.hid hB
  clear hR hB
  have cB1 := B1.cell
  have fB1 := B1.frozen
  have lB1 := B1.lt
  go_enter Try.func81, Try.ntmps81
  go_wp2_with fail
  go_ret
  refine ⟨rfl, R, ⟨HR.out, ?_, hlo⟩, ((Below.refl lo w).setCell (p := ⟨bn, 0, none⟩) hlo _).alloc (by simp; omega) _, ?_, fun b hb => Or.inl hb⟩
  · have := (HB0.out.set1 (.int .i64 ((l.length : Int) + 1))).al (.cells #[.int .i64 v.1, .int .i64 v.2.1, .slice v.2.2.1 v.2.2.2.1 v.2.2.2.2] 36)
    simpa using this
  · exact (Agr.setCell (p := ⟨bn, 0, none⟩) _ fun b hb e => hb ((HR.out b).2 e)).trans (Agr.below ((Below.refl _ _).alloc (Nat.le_refl _) _))

def IntB (w : World) (n : Nat) (e : Ending) (w' : World) : Prop := e = .returned (.int .i64 (n : Int)) ∧ Below w.heap.size w w'
set_option maxHeartbeats 1000000 in
theorem size_c (ok : Nat → Prop) (v : TrV) (t : Tr) (w : World) (h : TreeR ok w v t) (hM : t.size ≤ 1000000) :
    Calls Try.prog 68 #[trVal v] w (IntB w t.size) := by
  obtain ⟨a, b, A, n, c⟩ := v
  have hT := ((h.mono (ok' := fun b => b < w.heap.size) fun b hb _ => hb).al (.cells #[.int .i64 a, .int .i64 b, .slice A n c] 36)).al (.cells #[.int .i64 0] 3)
  have HT := Lib.hid hT
  clear h hT
  simp only [trVal]
  have B1 := Blk.new (w.alloc (.cells #[.int .i64 a, .int .i64 b, .slice A n c] 36)) 3 #[.int .i64 0]
  rw [World.size_alloc] at B1
  have hB := ((Below.refl w.heap.size w).al (.cells #[.int .i64 a, .int .i64 b, .slice A n c] 36)).al (.cells #[.int .i64 0] 3)
  go_enter Try.func68, Try.ntmps68
  go_wp2_with fail
  generalize (w.alloc (.cells #[.int .i64 a, .int .i64 b, .slice A n c] 36)).alloc (.cells #[.int .i64 0] 3) = W at *
  refine (walk_n 81 (enters_c (c := _) (fn := Try.f81) rfl (by kernel_rfl) rfl) (.pointer (some ⟨w.heap.size + 1, 0, none⟩)) w.heap.size (SizeInv w.heap.size (w.heap.size + 1)) ?_ ?_ 1000000 (fun l R w v x hl hp _ => size1_c _ _ l R w v x hl hp) t.size (a, b, A, n, c) t W [] (fun b => b = w.heap.size + 1) HT.out ⟨fun b => Iff.rfl, B1, by omega⟩ (Nat.le_refl _) (by simpa using hM) (Nat.le_refl _)).mono ?_
  · intro l R w1 w2 h1 h2
    exact ⟨h1.1, h1.2.1.via h2, h1.2.2⟩
  · intro l R w1 h1
    exact ⟨Nat.le_of_lt (Nat.lt_of_le_of_lt h1.2.2 h1.2.1.lt), fun b hb => by rw [(h1.1 b).1 hb]; exact ⟨h1.2.2, h1.2.1.lt⟩⟩
  · rintro e w' ⟨rfl, R', ⟨h1, h2, h3⟩, h4, h5, h6⟩
    rw [List.nil_append, Tr.pre_len] at h2
    have H4 := Lib.hid h4
    have B2 := h2
    clear h1 h2 h3 h4 h5 h6 B1
    have cB2 := B2.cell
    have fB2 := B2.frozen
    have lB2 := B2.lt
    go_wp2_with fail
    go_ret
    exact ⟨rfl, hB.trans H4.out⟩
end Go.Proofs.Ytghnkgbingcbcaa



namespace Go.Proofs.Ytghnkgbingcbcaa
open Go.RowKit

theorem flatMap_one {α β : Type} (f : α → β) (l : List α) : (l.flatMap fun t => [f t]) = l.map f := by induction l <;> simp_all
/-- what a node gives to the word -/
def Tr.term : Tr → List Int
  | .leaf k => [(k : Int)]
  | .node _ _ => []
theorem Tr.terms_len (l : List Tr) : (l.flatMap Tr.term).length ≤ l.length := by
  induction l with
  | nil => simp
  | cons t l ih =>
    have : t.term.length ≤ 1 := by cases t <;> simp [Tr.term]
    simp only [List.flatMap_cons, List.length_append, List.length_cons]; omega
mutual
theorem Tr.pre_word (t : Tr) : t.pre.flatMap Tr.term = t.word.map fun i : Nat => (i : Int) := by
  cases t with
  | leaf k => simp [Tr.pre, Tr.term, Tr.word]
  | node r ks => simp only [Tr.pre, List.flatMap_cons, Tr.term, List.nil_append, Tr.word]; exact Tr.pres_word ks
theorem Tr.pres_word (ks : List Tr) : (Tr.pres ks).flatMap Tr.term = (Tr.words ks).map fun i : Nat => (i : Int) := by
  cases ks with
  | nil => simp [Tr.pres, Tr.words]
  | cons t ts => simp only [Tr.pres, Tr.words, List.flatMap_append, List.map_append]; rw [Tr.pre_word t, Tr.pres_word ts]
end

structure ListInv (f : Tr → List Int) (lo bn : Nat) (l : List Tr) (R : Nat → Prop) (v : Value) (n : Nat) (w : World) : Prop where
  b : Blk w bn 22 #[v]
  own : OwnI w (bn + 1) v n (l.flatMap f)
  lo : lo ≤ bn
  row : ∀ b, R b ↔ b = bn ∨ some b = v.ownBlock
def ListI (f : Tr → List Int) (lo bn : Nat) (l : List Tr) (R : Nat → Prop) (w : World) : Prop := ∃ v n, ListInv f lo bn l R v n w
theorem ListI.via {f : Tr → List Int} {lo bn : Nat} {l : List Tr} {R : Nat → Prop} {w w' : World} (h : ListI f lo bn l R w) (hb : Below w.heap.size w w') : ListI f lo bn l R w' := by
  obtain ⟨v, n, h⟩ := h
  exact ⟨v, n, h.b.via hb, OwnI.keep h.own hb (Nat.le_refl _), h.lo, h.row⟩
theorem ListI.bound {f : Tr → List Int} {lo bn : Nat} {l : List Tr} {R : Nat → Prop} {w : World} (h : ListI f lo bn l R w) : lo ≤ w.heap.size ∧ ∀ b, R b → lo ≤ b ∧ b < w.heap.size := by
  obtain ⟨v, n, h⟩ := h
  refine ⟨Nat.le_of_lt (Nat.lt_of_le_of_lt h.lo h.b.lt), fun b hb => ?_⟩
  rcases (h.row b).1 hb with rfl | e
  · exact ⟨h.lo, h.b.lt⟩
  · have := h.own.lt b e.symm
    exact ⟨by have := h.lo; omega, this.2⟩

/-- an append in the closure -/
theorem ListInv.push {f : Tr → List Int} {lo bn : Nat} {l : List Tr} {x : Tr} {R : Nat → Prop} {v : Value} {n : Nat} {w wa w1 : World} {A' : Option Addr} {c' k : Nat} (h : ListInv f lo bn l R v n w) (hb : Below w.heap.size w wa)
    (ho : OwnI w1 (bn + 1) (.slice A' k c') k (l.flatMap f ++ f x)) (hg : wa.grownBy w1 v.ownBlock) (ha : (Value.slice A' k c').ownBlock = v.ownBlock ∨ (Value.slice A' k c').ownBlock = some wa.heap.size) :
    VisitP lo (ListI f lo bn) R w (l ++ [x]) (.returned (.bool true)) (w1.setCell ⟨bn, 0, none⟩ (.slice A' k c')) := by
  have hlt := h.b.lt
  have hne : some bn ≠ v.ownBlock := fun e => by have := (h.own.lt bn e.symm).1; omega
  refine ⟨rfl, fun b => b = bn ∨ some b = (Value.slice A' k c').ownBlock, ⟨_, k, ((h.b.via hb).grown hg hne).set1 _, ?_, h.lo, fun b => Iff.rfl⟩, ?_, ?_, ?_⟩
  · rw [List.flatMap_append, List.flatMap_singleton]
    exact OwnI.setCell ho (by show bn < bn + 1; omega) _
  · refine ((hb.mono (by have := h.lo; omega)).grown hg (by have := hb.size; have := h.lo; omega) fun j hj => ?_).setCell h.lo _
    have := (h.own.lt j hj).1; have := h.lo; omega
  · intro b hb' hlt'
    have k1 : b ≠ bn := fun e => hb' ((h.row b).2 (Or.inl e))
    have k2 : some b ≠ v.ownBlock := fun e => hb' ((h.row b).2 (Or.inr e))
    exact (Below.heap_setCell w1 ⟨bn, 0, none⟩ _ b k1).trans ((hg.block b (Nat.lt_of_lt_of_le hlt' hb.size) k2).trans (hb.block b hlt'))
  · intro b hb'
    rcases hb' with rfl | e
    · exact Or.inl ((h.row b).2 (Or.inl rfl))
    · rcases ha with e2 | e2
      · exact Or.inl ((h.row b).2 (Or.inr (e.trans e2)))
      · rw [e2] at e
        right
        have : b = wa.heap.size := Option.some.inj e
        rw [this]; exact hb.size

set_option maxRecDepth 100000 in
set_option maxHeartbeats 2000000 in
theorem word1_c (lo bn : Nat) (l : List Tr) (R : Nat → Prop) (w : World) (ok : Nat → Prop) (v : TrV) (x : Tr) (hl : l.length < 1000000) (h : ListI Tr.term lo bn l R w) (hx : TreeR ok w v x) :
    Calls Try.prog 38 #[trVal v, .pointer (some ⟨bn, 0, none⟩)] w (VisitP lo (ListI Tr.term lo bn) R w (l ++ [x])) := by
  obtain ⟨u, n, h⟩ := h
  obtain ⟨Au, cu, rfl, -⟩ := h.own.form
  obtain ⟨a, b, A, m, c⟩ := v
  obtain ⟨e1, e2, -⟩ := hx.parts
  simp only at e1 e2
  subst e1 e2
  clear hx
  have hn : n ≤ l.length := by have h1 := h.own.toInts.len; have h2 := Tr.terms_len l; omega
  have hB := (Below.refl w.heap.size w).al (.cells #[.int .i64 x.rl, .int .i64 x.tm, .slice A m c] 36)
  have hB2 := (Below.refl lo w).alloc (Nat.le_of_lt (Nat.lt_of_le_of_lt h.lo h.b.lt)) (.cells #[.int .i64 x.rl, .int .i64 x.tm, .slice A m c] 36)
  have B1 := h.b.via hB
  have H := Lib.hid h
  have hlt := h.b.lt
  have hne : some bn ≠ Value.ownBlock (.slice Au n cu) := fun e => by have := (h.own.lt bn e.symm).1; omega
  have hk : n + 1 ≤ 17592186044416 := by omega
  simp only [trVal]
  clear h hn
  cases x with
  | node r ks =>
    have hr : ((Tr.node r ks).rl == -1) = false := by show ((r : Int) == -1) = false; rw [beq_eq_false_iff_ne]; omega
    go_enter Try.func38, Try.ntmps38
    go_wp2_with fail
    go_ret
    refine ⟨rfl, R, ⟨_, n, H.out.b.via hB, ?_, H.out.lo, H.out.row⟩, hB2, Agr.below hB, fun b hb => Or.inl hb⟩
    rw [List.flatMap_append, List.flatMap_singleton]
    simp only [Tr.term, List.append_nil]
    exact OwnI.keep H.out.own hB (Nat.le_refl _)
  | leaf k =>
    simp only [Tr.rl, Tr.tm] at B1 hB hB2 ⊢
    have cB1 := B1.cell
    have fB1 := B1.frozen
    have lB1 := B1.lt
    go_enter Try.func38, Try.ntmps38
    go_wp2_with (at_builtin; refine wpList_append_ints _ rfl (.tmp 7) (.tmp 10) rfl (bn + 1) (.slice Au n cu) n _ rfl ((OwnI.keep H.out.own hB (Nat.le_refl _)).alloc _) (some ⟨w.heap.size + 1, 0, none⟩) 1 1 [(k : Int)] rfl (by have := Ints.one (w.alloc (.cells #[.int .i64 (-1), .int .i64 (k : Int), .slice A m c] 36)) (k : Int) 3; rw [World.size_alloc] at this; exact this) hk (by simp; omega) ?_; intro Av1 cv1 w1 ho1 hg1 hat1; have B1g := (B1.al _).grown hg1 hne; have c1g := B1g.cell; have f1g := B1g.frozen)
    go_ret
    exact ListInv.push (x := .leaf k) H.out (hB.alloc hB.size _) ho1 hg1 hat1

def ListP (w : World) (xs : List Int) (e : Ending) (w' : World) : Prop := ∃ A n c, e = .returned (.slice A n c) ∧ OwnI w' w.heap.size (.slice A n c) n xs ∧ Below w.heap.size w w'
theorem OwnI.mono {w : World} {base b' n : Nat} {v : Value} {xs : List Int} (h : OwnI w base v n xs) (hb : b' ≤ base) : OwnI w b' v n xs := by
  refine ⟨h.1, ?_⟩
  rcases h.2 with h0 | ⟨g, cap, cur, h1, h2, h3⟩
  · exact Or.inl h0
  · exact Or.inr ⟨g, cap, cur, h1, Nat.le_trans hb h2, h3⟩

set_option maxRecDepth 100000 in
set_option maxHeartbeats 2000000 in
theorem word_t (ok : Nat → Prop) (v : TrV) (t : Tr) (w : World) (h : TreeR ok w v t) (hM : t.size ≤ 1000000) :
    Calls Try.prog 13 #[trVal v] w (ListP w (t.pre.flatMap Tr.term)) := by
  obtain ⟨a, b, A, n, c⟩ := v
  have hT := ((h.mono (ok' := fun b => b < w.heap.size) fun b hb _ => hb).al (.cells #[.int .i64 a, .int .i64 b, .slice A n c] 36)).al (.cells #[.slice none 0 0] 22)
  have HT := Lib.hid hT
  clear h hT
  simp only [trVal]
  have B1 := Blk.new (w.alloc (.cells #[.int .i64 a, .int .i64 b, .slice A n c] 36)) 22 #[.slice none 0 0]
  rw [World.size_alloc] at B1
  have hB := ((Below.refl w.heap.size w).al (.cells #[.int .i64 a, .int .i64 b, .slice A n c] 36)).al (.cells #[.slice none 0 0] 22)
  go_enter Try.func13, Try.ntmps13
  go_wp2_with fail
  generalize (w.alloc (.cells #[.int .i64 a, .int .i64 b, .slice A n c] 36)).alloc (.cells #[.slice none 0 0] 22) = W at *
  refine (walk_n 38 (enters_c (c := _) (fn := Try.f38) rfl (by kernel_rfl) rfl) (.pointer (some ⟨w.heap.size + 1, 0, none⟩)) w.heap.size (ListI Tr.term w.heap.size (w.heap.size + 1)) ?_ ?_ 1000000 (fun l R w v x hl hp hx => word1_c _ _ l R w _ v x hl hp hx) t.size (a, b, A, n, c) t W [] (fun b => b = w.heap.size + 1) HT.out ⟨_, 0, B1, OwnI.nil _ _, by omega, fun b => by simp [Value.ownBlock]⟩ (Nat.le_refl _) (by simpa using hM) (Nat.le_refl _)).mono ?_
  · intro l R w1 w2 h1 h2
    exact h1.via h2
  · intro l R w1 h1
    exact h1.bound
  · rintro e w' ⟨rfl, R', ⟨u, k, h1⟩, h4, h5, h6⟩
    have H4 := Lib.hid h4
    obtain ⟨Au, cu, rfl, -⟩ := h1.own.form
    have H1 := Lib.hid h1
    have B2 := h1.b
    clear h1 h4 h5 h6 B1
    have cB2 := B2.cell
    have fB2 := B2.frozen
    have lB2 := B2.lt
    go_wp2_with fail
    go_ret
    refine ⟨Au, k, cu, rfl, ?_, hB.trans H4.out⟩
    have ho := H1.out.own
    rw [List.nil_append] at ho
    exact ho.mono (by omega)
end Go.Proofs.Ytghnkgbingcbcaa



namespace Go.Proofs.Ytghnkgbingcbcaa
open Go.RowKit

def cmpI (x y : Int) : Int := if x < y then -1 else if y < x then 1 else 0
def cmpL : List Int → List Int → Int
  | [], [] => 0
  | [], _ :: _ => -1
  | _ :: _, [] => 1
  | x :: xs, y :: ys => if cmpI x y = 0 then cmpL xs ys else cmpI x y
def IntS (w : World) (x : Int) (e : Ending) (w' : World) : Prop := e = .returned (.int .i64 x) ∧ w' = w

set_option maxHeartbeats 1000000 in
theorem nan_c (x : Int) (w : World) : Calls Try.prog 76 #[.int .i64 x] w fun e w' => e = .returned (.bool false) ∧ w' = w := by
  go_enter Try.func76, Try.ntmps76
  go_wp2_with fail
  go_ret
  exact ⟨rfl, rfl⟩
set_option maxHeartbeats 1000000 in
theorem cmp_c (x y : Int) (w : World) : Calls Try.prog 60 #[.int .i64 x, .int .i64 y] w (IntS w (cmpI x y)) := by
  by_cases h1 : x < y
  · have hv : cmpI x y = -1 := by simp [cmpI, h1]
    rw [hv]
    clear hv
    go_enter Try.func60, Try.ntmps60
    go_wp2_with (go_at_call 76; refine (nan_c _ _).mono ?_; rintro e w' ⟨rfl, rfl⟩)
    go_ret
    exact ⟨rfl, rfl⟩
  · by_cases h2 : y < x
    · have hv : cmpI x y = 1 := by simp [cmpI, h1, h2]
      rw [hv]
      clear hv
      go_enter Try.func60, Try.ntmps60
      go_wp2_with (go_at_call 76; refine (nan_c _ _).mono ?_; rintro e w' ⟨rfl, rfl⟩)
      go_ret
      exact ⟨rfl, rfl⟩
    · have hv : cmpI x y = 0 := by simp [cmpI, h1, h2]
      rw [hv]
      clear hv
      go_enter Try.func60, Try.ntmps60
      go_wp2_with (go_at_call 76; refine (nan_c _ _).mono ?_; rintro e w' ⟨rfl, rfl⟩)
      go_ret
      exact ⟨rfl, rfl⟩

theorem cmpL_step {xs ys : List Int} {k : Nat} (hx : k < xs.length) (hy : k < ys.length) (h : cmpI (xs.getD k 0) (ys.getD k 0) = 0) : cmpL (xs.drop k) (ys.drop k) = cmpL (xs.drop (k + 1)) (ys.drop (k + 1)) := by
  rw [List.drop_eq_getElem_cons hx, List.drop_eq_getElem_cons hy, cmpL, if_pos]
  simpa [List.getD_eq_getElem?_getD, hx, hy] using h
theorem cmpL_stop {xs ys : List Int} {k : Nat} (hx : k < xs.length) (hy : k < ys.length) (h : cmpI (xs.getD k 0) (ys.getD k 0) ≠ 0) : cmpL (xs.drop k) (ys.drop k) = cmpI (xs.getD k 0) (ys.getD k 0) := by
  rw [List.drop_eq_getElem_cons hx, List.drop_eq_getElem_cons hy, cmpL, if_neg]
  · simp [List.getD_eq_getElem?_getD, hx, hy]
  · simpa [List.getD_eq_getElem?_getD, hx, hy] using h

set_option maxRecDepth 100000 in
set_option maxHeartbeats 4000000 in
theorem cmpL_c (A B : Option Addr) (n c m d : Nat) (xs ys : List Int) (w : World) (h1 : Ints w A n c xs) (h2 : Ints w B m d ys) (hn : n ≤ 1000000) :
    Calls Try.prog 61 #[.slice A n c, .slice B m d] w (IntS w (cmpL xs ys)) := by
  have H1 := Lib.hid h1
  have H2 := Lib.hid h2
  have L1 := Lib.hid h1.len
  have L2 := Lib.hid h2.len
  clear h1 h2
  go_enter Try.func61, Try.ntmps61
  go_wp2_with fail
  go_loopw [11] (fun i wr => ∃ k : Nat, i = .int .i64 k ∧ k ≤ n ∧ k ≤ m ∧ Hid (cmpL xs ys = cmpL (xs.drop k) (ys.drop k)) ∧ wr = w) (fun i _ => n - (intOf i).toNat)
  case atStart => exact ⟨0, rfl, Nat.zero_le _, Nat.zero_le _, Lib.hid rfl, rfl⟩
  case round =>
    obtain ⟨k, rfl, hk, hkm, HC, rfl⟩ := hrel
    by_cases hkn : k < n
    · obtain ⟨b1, o1, rfl, hb1, hx⟩ := H1.out.at_ hkn
      by_cases hk2 : k < m
      · obtain ⟨b2, o2, rfl, hb2, hy⟩ := H2.out.at_ hk2
        have HS := Lib.hid (fun h => cmpL_step (xs := xs) (ys := ys) (k := k) (by rw [L1.out]; exact hkn) (by rw [L2.out]; exact hk2) h)
        have HT := Lib.hid (fun h => cmpL_stop (xs := xs) (ys := ys) (k := k) (by rw [L1.out]; exact hkn) (by rw [L2.out]; exact hk2) h)
        generalize xs.getD k 0 = x at *
        generalize ys.getD k 0 = y at *
        have i0 : (0 : Int) ≤ (k : Int) := by omega
        have i1 : (k : Int) < (n : Int) := by omega
        have i2 : (k : Int) < (m : Int) := by omega
        by_cases hc : cmpI x y = 0
        · have HE := Lib.hid (HC.out.trans (HS.out hc))
          have hc' := hc
          clear HS HT
          go_wp2_with (go_at_call 60; refine (cmp_c _ _ _).mono ?_; rintro e w' ⟨rfl, rfl⟩; rw [hc'])
          exact ⟨⟨k + 1, by go_num, by omega, by omega, HE, by trivial⟩, by simp [intOf]; omega⟩
        · have HE := Lib.hid (HC.out.trans (HT.out hc))
          clear HS HT HC
          have hc2 : (cmpI x y != 0) = true := by simpa using hc
          go_wp2_with (go_at_call 60; refine (cmp_c _ _ _).mono ?_; rintro e w' ⟨rfl, rfl⟩)
          go_ret
          exact ⟨by rw [HE.out]; rfl, rfl⟩
      · have hv : cmpL xs ys = 1 := by
          rw [HC.out, List.drop_of_length_le (l := ys) (by rw [L2.out]; omega), List.drop_eq_getElem_cons (by rw [L1.out]; exact hkn)]; rfl
        have HV := Lib.hid hv
        clear hv
        go_wp2_with fail
        go_ret
        exact ⟨by rw [HV.out]; rfl, rfl⟩
    · by_cases hnm : n < m
      · have hv : cmpL xs ys = -1 := by
          rw [HC.out, List.drop_of_length_le (by rw [L1.out]; omega), List.drop_eq_getElem_cons (by rw [L2.out]; omega)]; rfl
        have HV := Lib.hid hv
        clear hv
        go_wp2_with fail
        go_ret
        exact ⟨by rw [HV.out]; rfl, rfl⟩
      · have hv : cmpL xs ys = 0 := by
          rw [HC.out, List.drop_of_length_le (by rw [L1.out]; omega), List.drop_of_length_le (by rw [L2.out]; omega)]; rfl
        have HV := Lib.hid hv
        clear hv
        go_wp2_with fail
        go_ret
        exact ⟨by rw [HV.out]; rfl, rfl⟩

/-- the first that is not 0 -/
def orL : List Int → Int
  | [] => 0
  | x :: xs => if x = 0 then orL xs else x
theorem orL_step {xs : List Int} {k : Nat} (hx : k < xs.length) (h : xs.getD k 0 = 0) : orL (xs.drop k) = orL (xs.drop (k + 1)) := by
  rw [List.drop_eq_getElem_cons hx, orL, if_pos]
  simpa [List.getD_eq_getElem?_getD, hx] using h
theorem orL_stop {xs : List Int} {k : Nat} (hx : k < xs.length) (h : xs.getD k 0 ≠ 0) : orL (xs.drop k) = xs.getD k 0 := by
  rw [List.drop_eq_getElem_cons hx, orL, if_neg]
  · simp [List.getD_eq_getElem?_getD, hx]
  · simpa [List.getD_eq_getElem?_getD, hx] using h
set_option maxRecDepth 100000 in
set_option maxHeartbeats 4000000 in
theorem or_c (A : Option Addr) (n c : Nat) (xs : List Int) (w : World) (h1 : Ints w A n c xs) (hn : n ≤ 1000000) :
    Calls Try.prog 59 #[.slice A n c] w (IntS w (orL xs)) := by
  have H1 := Lib.hid h1
  have L1 := Lib.hid h1.len
  clear h1
  go_enter Try.func59, Try.ntmps59
  go_wp2_with fail
  go_loopw [8] (fun i wr => ∃ k : Nat, i = .int .i64 k ∧ k ≤ n ∧ Hid (orL xs = orL (xs.drop k)) ∧ wr = w) (fun i _ => n - (intOf i).toNat)
  case atStart => exact ⟨0, rfl, Nat.zero_le _, Lib.hid rfl, rfl⟩
  case round =>
    obtain ⟨k, rfl, hk, HC, rfl⟩ := hrel
    by_cases hkn : k < n
    · obtain ⟨b1, o1, rfl, hb1, hx⟩ := H1.out.at_ hkn
      have HS := Lib.hid (fun h => orL_step (xs := xs) (k := k) (by rw [L1.out]; exact hkn) h)
      have HT := Lib.hid (fun h => orL_stop (xs := xs) (k := k) (by rw [L1.out]; exact hkn) h)
      generalize xs.getD k 0 = x at *
      have i0 : (0 : Int) ≤ (k : Int) := by omega
      have i1 : (k : Int) < (n : Int) := by omega
      by_cases hc : x = 0
      · have HE := Lib.hid (HC.out.trans (HS.out hc))
        subst hc
        clear HS HT
        go_wp2_with fail
        exact ⟨⟨k + 1, by go_num, by omega, HE, by trivial⟩, by simp [intOf]; omega⟩
      · have HE := Lib.hid (HC.out.trans (HT.out hc))
        clear HS HT HC
        have hc2 : (x != 0) = true := by simpa using hc
        go_wp2_with fail
        go_ret
        exact ⟨by rw [HE.out]; rfl, rfl⟩
    · have hv : orL xs = 0 := by
        rw [HC.out, List.drop_of_length_le (by rw [L1.out]; omega)]; rfl
      have HV := Lib.hid hv
      clear hv
      go_wp2_with fail
      go_ret
      exact ⟨by rw [HV.out]; rfl, rfl⟩
end Go.Proofs.Ytghnkgbingcbcaa



namespace Go.Proofs.Ytghnkgbingcbcaa
open Go.RowKit

/-- the subtree at a path -/
def Tr.at? (t : Tr) : List Nat → Option Tr
  | [] => some t
  | i :: p => match t.kids[i]? with | some k => Tr.at? k p | none => none
theorem Tr.at_append (t : Tr) (p q : List Nat) : t.at? (p ++ q) = (t.at? p).bind (fun x => x.at? q) := by
  induction p generalizing t with
  | nil => simp [Tr.at?]
  | cons i p ih =>
    simp only [List.cons_append, Tr.at?]
    cases t.kids[i]? with
    | none => simp
    | some k => simpa using ih k
theorem Tr.at_one (t : Tr) (i : Nat) : t.at? [i] = t.kids[i]? := by
  simp only [Tr.at?]; cases t.kids[i]? <;> rfl
theorem Tr.at_size {t x : Tr} {p : List Nat} (h : t.at? p = some x) : x.size + p.length ≤ t.size := by
  induction p generalizing t with
  | nil => simp [Tr.at?] at h; subst h; simp
  | cons i p ih =>
    simp only [Tr.at?] at h
    cases hk : t.kids[i]? with
    | none => rw [hk] at h; cases h
    | some k =>
      rw [hk] at h
      have := ih h
      have h2 := Tr.size_kid (List.mem_of_getElem? hk)
      simp only [List.length_cons]; omega

def lenOf : Value → Nat
  | .slice _ n _ => n
  | _ => 0

/-! ### Path -/
def PathP (w : World) (t : Tr) (e : Ending) (w' : World) : Prop :=
  ∃ A n c q x, e = .returned (.slice A n c) ∧ Ints w' A n c (q.map fun i : Nat => (i : Int)) ∧ t.at? q = some x ∧ Below w.heap.size w w'
structure PathRel (w : World) (t : Tr) (q : List Nat) (n : Nat) (v : Value) (x : Tr) (raw : TrV) (A : Option Addr) (m c : Nat) (ls : List Int) (wr : World) : Prop where
  b0 : Blk wr w.heap.size 36 #[.int .i64 raw.1, .int .i64 raw.2.1, .slice raw.2.2.1 raw.2.2.2.1 raw.2.2.2.2]
  b1 : Blk wr (w.heap.size + 1) 88 #[.slice A m c]
  ints : Ints w A m c ls
  own : OwnI wr (w.heap.size + 2) v n (q.map fun i : Nat => (i : Int))
  tree : TreeR (fun b => b < w.heap.size) wr raw x
  bel : Below w.heap.size w wr
  size : w.heap.size + 2 ≤ wr.heap.size
  path : t.at? q = some x
  len : q.length = n
  sum : x.size + n ≤ t.size

theorem PathRel.next {w wr : World} {t x : Tr} {q : List Nat} {n : Nat} {v : Value} {raw : TrV} {A A' : Option Addr} {m c m' c' : Nat} {ls ls' : List Int} (h : PathRel w t q n v x raw A m c ls wr) (hI : Ints w A' m' c' ls') :
    PathRel w t q n v x raw A' m' c' ls' (wr.setCell ⟨w.heap.size + 1, 0, none⟩ (.slice A' m' c')) :=
  ⟨h.b0.far (by simp) _, h.b1.set1 _, hI, h.own.setCell (by simp) _, h.tree.agr (Agr.setCell _ fun b hb => by show b ≠ w.heap.size + 1; omega), h.bel.setCell (by simp) _, by simpa using h.size, h.path, h.len, h.sum⟩

theorem PathRel.via {w wr wa : World} {t x : Tr} {q : List Nat} {n : Nat} {v : Value} {raw : TrV} {A : Option Addr} {m c : Nat} {ls : List Int} (h : PathRel w t q n v x raw A m c ls wr) (hb : Below wr.heap.size wr wa) : PathRel w t q n v x raw A m c ls wa :=
  ⟨h.b0.via hb, h.b1.via hb, h.ints, OwnI.keep h.own hb (Nat.le_refl _), h.tree.via hb, h.bel.via hb, Nat.le_trans h.size hb.size, h.path, h.len, h.sum⟩
theorem PathRel.push {w wr w1 : World} {t x y : Tr} {q : List Nat} {n g : Nat} {v v' : Value} {raw r2 : TrV} {A : Option Addr} {m c : Nat} {ls : List Int} (h : PathRel w t q n v x raw A m c ls wr)
    (ho : OwnI w1 (w.heap.size + 2) v' (n + 1) (q.map (fun i : Nat => (i : Int)) ++ [(g : Int)])) (hg : wr.grownBy w1 v.ownBlock) (hy : x.kids[g]? = some y) (hty : TreeR (fun b => b < w.heap.size) wr r2 y) :
    PathRel w t (q ++ [g]) (n + 1) v' y r2 A m c ls (((w1.setCell ⟨w.heap.size, 0, none⟩ (.int .i64 r2.1)).setCell ⟨w.heap.size, 1, none⟩ (.int .i64 r2.2.1)).setCell ⟨w.heap.size, 2, none⟩ (.slice r2.2.2.1 r2.2.2.2.1 r2.2.2.2.2)) := by
  have hne : ∀ j, j < w.heap.size + 2 → some j ≠ v.ownBlock := fun j hj e => by have := (h.own.lt j e.symm).1; omega
  have hsz := h.size
  refine ⟨?_, (((h.b1.grown hg (hne _ (by omega))).far (by simp) _).far (by simp) _).far (by simp) _, h.ints, ?_, ?_, ?_, ?_, ?_, ?_, ?_⟩
  · have := (((h.b0.grown hg (hne _ (by omega))).set_ 0 (.int .i64 r2.1)).set_ 1 (.int .i64 r2.2.1)).set_ 2 (.slice r2.2.2.1 r2.2.2.2.1 r2.2.2.2.2)
    simpa using this
  · rw [List.map_append]
    exact ((OwnI.setCell ho (by simp) _).setCell (by simp) _).setCell (by simp) _
  · refine (hty.agr (Agr.grown hg fun b hb => hne b (by omega))).set3 (fun b hb => by omega) _ _ _
  · exact below_set3 (h.bel.grown hg h.bel.size fun k hk => by have := (h.own.lt k hk).1; omega) (Nat.le_refl _) _ _ _
  · have := hg.size; simp; omega
  · rw [Tr.at_append, h.path, Option.bind_some, Tr.at_one]; exact hy
  · simp [h.len]
  · have h1 := Tr.size_kid (List.mem_of_getElem? hy)
    have h2 := h.sum
    omega

set_option maxRecDepth 100000 in
set_option maxHeartbeats 4000000 in
theorem path_c (ok : Nat → Prop) (v : TrV) (t : Tr) (w : World) (h : TreeR ok w v t) (hM : t.size ≤ 1000000) (A : Option Addr) (m c : Nat) (ls : List Int) (hI : Ints w A m c ls) :
    Calls Try.prog 20 #[trVal v, .slice A m c] w (PathP w t) := by
  obtain ⟨ra, rb, rA, rn, rc⟩ := v
  have hT := ((h.mono (ok' := fun b => b < w.heap.size) fun b hb _ => hb).al (.cells #[.int .i64 ra, .int .i64 rb, .slice rA rn rc] 36)).al (.cells #[.slice A m c] 88)
  have B0 := (Blk.new w 36 #[.int .i64 ra, .int .i64 rb, .slice rA rn rc]).al (.cells #[.slice A m c] 88)
  have B1 := Blk.new (w.alloc (.cells #[.int .i64 ra, .int .i64 rb, .slice rA rn rc] 36)) 88 #[.slice A m c]
  rw [World.size_alloc] at B1
  have hB := ((Below.refl w.heap.size w).al (.cells #[.int .i64 ra, .int .i64 rb, .slice rA rn rc] 36)).al (.cells #[.slice A m c] 88)
  have hR : PathRel w t [] 0 (.slice none 0 0) t (ra, rb, rA, rn, rc) A m c ls _ := ⟨B0, B1, hI, OwnI.nil _ _, hT, hB, by simp, rfl, rfl, by omega⟩
  have HR := Lib.hid hR
  clear h hT B0 B1 hB hR hI
  simp only [trVal]
  go_enter Try.func20, Try.ntmps20
  go_wp2_with fail
  go_loopw [6] (fun v wr => ∃ (q : List Nat) (n : Nat) (x : Tr) (raw : TrV) (A : Option Addr) (m c : Nat) (ls : List Int), PathRel w t q n v x raw A m c ls wr) (fun v _ => t.size - lenOf v)
  case atStart => exact ⟨_, _, _, _, _, _, _, _, HR.out⟩
  case round =>
    obtain ⟨q, n, x, raw, A2, m2, c2, l2, hr⟩ := hrel
    clear HR
    obtain ⟨Av, cv, rfl, -⟩ := hr.own.form
    obtain ⟨ra2, rb2, rA2, rn2, rc2⟩ := raw
    obtain ⟨t1, t2, t3⟩ := hr.tree.parts
    simp only at t1 t2 t3
    have hlen := t3.len
    have hsum := hr.sum
    have hszr := hr.size
    have B0 := hr.b0
    have B1 := hr.b1
    simp only at B0
    have HR := Lib.hid hr
    have HS := Lib.hid t3
    clear hr t3
    cases x with
    | leaf k =>
      have e1 : ra2 = -1 := t1
      subst e1
      clear t1 t2
      have cB0 := B0.cell
      have fB0 := B0.frozen
      have lB0 := B0.lt
      have cB1 := B1.cell
      have fB1 := B1.frozen
      have lB1 := B1.lt
      go_wp2_with fail
      go_ret
      exact ⟨Av, n, cv, q, _, rfl, HR.out.own.toInts, HR.out.path, HR.out.bel⟩
    | node r ks =>
      have e1 : ra2 = (r : Int) := t1
      subst e1
      have d1 : decide ((r : Int) ≥ 0) = true := by simp
      clear t1 t2
      by_cases hz : rn2 = 0
      · subst hz
        have cB0 := B0.cell
        have fB0 := B0.frozen
        have lB0 := B0.lt
        have cB1 := B1.cell
        have fB1 := B1.frozen
        have lB1 := B1.lt
        go_wp2_with fail
        go_ret
        exact ⟨Av, n, cv, q, _, rfl, HR.out.own.toInts, HR.out.path, HR.out.bel⟩
      · have d2 : 0 < rn2 := by omega
        clear hz
        have cB0 := B0.cell
        have fB0 := B0.frozen
        have lB0 := B0.lt
        have cB1 := B1.cell
        have fB1 := B1.frozen
        have lB1 := B1.lt
        go_wp2_with fail
        clear cB0 fB0 lB0 cB1 fB1 lB1
        refine (rnext_n w wr (w.heap.size + 1) 4 _ rfl A2 m2 c2 l2 HR.out.ints HR.out.bel (B1.cell 0) (B1.frozen 0) (by omega) (by omega)).mono ?_
        rintro e w' ⟨g1, A3, m3, c3, l3, rfl, hg1, hm3, rfl, hI3⟩
        have hr3 := HR.out.next hI3
        generalize wr.setCell ⟨w.heap.size + 1, 0, none⟩ (.slice A3 m3 c3) = w3 at *
        clear B0 B1 HS HR hI3
        have B0 := hr3.b0
        have B1 := hr3.b1
        simp only at B0
        have HR := Lib.hid hr3
        clear hr3
        by_cases hg0 : g1 = 0
        · subst hg0
          have cB0 := B0.cell
          have fB0 := B0.frozen
          have lB0 := B0.lt
          have cB1 := B1.cell
          have fB1 := B1.frozen
          have lB1 := B1.lt
          go_wp2_with fail
          go_ret
          exact ⟨Av, n, cv, q, _, rfl, HR.out.own.toInts, HR.out.path, HR.out.bel⟩
        · have d3 : 0 < g1 := by omega
          clear hg0
          have cB0 := B0.cell
          have fB0 := B0.frozen
          have lB0 := B0.lt
          have cB1 := B1.cell
          have fB1 := B1.frozen
          have lB1 := B1.lt
          go_wp2_with fail
          clear cB0 fB0 lB0 cB1 fB1 lB1
          have hkl := Tr.kids_len (.node r ks)
          refine (rnext_n w w3 (w.heap.size + 1) rn2 _ rfl A3 m3 c3 l3 HR.out.ints HR.out.bel (B1.cell 0) (B1.frozen 0) (by omega) (by omega)).mono ?_
          rintro e w' ⟨g2, A4, m4, c4, l4, rfl, hg2, hm4, rfl, hI4⟩
          have hr4 := HR.out.next hI4
          generalize w3.setCell ⟨w.heap.size + 1, 0, none⟩ (.slice A4 m4 c4) = w4 at *
          clear B0 B1 HR hI4
          have B0 := hr4.b0
          simp only at B0
          obtain ⟨bk, ok2, xk, y, rfl, hob, hbk, hy, hxy, hc⟩ := hr4.tree.kids.2.2.at_ hg2
          have hxy' : TreeR (fun b => b < w.heap.size) w4 xk y := hxy
          have c0 := hc 0 _ rfl
          have c1 := hc 1 _ rfl
          have c2 := hc 2 _ rfl
          obtain ⟨xa, xb, xA, xn, xc⟩ := xk
          simp only [TrE, Nat.add_zero] at c0 c1 c2
          have j0 : (0 : Int) ≤ (g2 : Int) := by omega
          have j1 : (g2 : Int) < (rn2 : Int) := by omega
          have HR := Lib.hid hr4
          have HX := Lib.hid hxy'
          have HY := Lib.hid hy
          have hsz4 := hr4.size
          clear hr4 hxy hxy' hc hy
          have hnk : n ≤ 1000000 := by omega
          have cB0 := B0.cell
          have fB0 := B0.frozen
          have lB0 := B0.lt
          go_wp2_with fail
          go_region_law (refine step_append_ints _ rfl (.tmp 30) (.tmp 32) rfl (w.heap.size + 2) (.slice Av n cv) n (q.map fun i : Nat => (i : Int)) rfl (HR.out.via (((Below.refl w4.heap.size w4).drew).alloc (Nat.le_refl _) (.cells #[.int .i64 (g2 : Int)] 3))).own (some ⟨w4.heap.size, 0, none⟩) 1 1 [(g2 : Int)] rfl (Ints.one w4.drew (g2 : Int) 3) (Nat.le_trans (Nat.succ_le_succ hnk) (by decide)) (HR.out.via (((Below.refl w4.heap.size w4).drew).alloc (Nat.le_refl _) (.cells #[.int .i64 (g2 : Int)] 3))).size ?_
                         intro Av1 cv1 w1 ho1 hg1 hat1
                         have hA := HR.out.via (((Below.refl w4.heap.size w4).drew).alloc (Nat.le_refl _) (.cells #[.int .i64 (g2 : Int)] 3))
                         have hne1 : ∀ j, j < w.heap.size + 2 → some j ≠ Value.ownBlock (.slice Av n cv) := fun j hj e => by have := (HR.out.own.lt j e.symm).1; omega
                         have B0g := hA.b0.grown hg1 (hne1 _ (by omega))
                         have c0g := B0g.cell
                         have f0g := B0g.frozen
                         have hAg : Agr (fun b => b < w.heap.size) w4 w1 := (Agr.below (((Below.refl w4.heap.size w4).drew).alloc (Nat.le_refl _) (.cells #[.int .i64 (g2 : Int)] 3))).trans (Agr.grown hg1 fun b hb => hne1 b (Nat.lt_of_lt_of_le hb (Nat.le_add_right _ _)))
                         have k0 := hAg.cell hob c0
                         have k1 := hAg.cell hob c1
                         have k2 := hAg.cell hob c2)
          all_goals
            have HQ := Lib.hid (PathRel.push (r2 := (xa, xb, xA, xn, xc)) hA ho1 hg1 HY.out (HX.out.via (((Below.refl w4.heap.size w4).drew).alloc (Nat.le_refl _) (.cells #[.int .i64 (g2 : Int)] 3))))
            clear hA
            go_wp2_with fail
            exact ⟨⟨_, _, _, _, _, _, _, _, HQ.out⟩, by simp only [lenOf]; omega⟩
end Go.Proofs.Ytghnkgbingcbcaa



namespace Go.Proofs.Ytghnkgbingcbcaa
open Go.RowKit

def AtP (w : World) (x : Tr) (e : Ending) (w' : World) : Prop :=
  ∃ v, e = .returned (.tuple #[trVal v, .int .i64 0]) ∧ TreeR (fun b => w.heap.size ≤ b) w' v x ∧ Below w.heap.size w w'
structure AtRel (w : World) (t : Tr) (q : List Nat) (k : Nat) (x : Tr) (raw : TrV) (wr : World) : Prop where
  b0 : Blk wr w.heap.size 36 #[.int .i64 raw.1, .int .i64 raw.2.1, .slice raw.2.2.1 raw.2.2.2.1 raw.2.2.2.2]
  b1 : Blk wr (w.heap.size + 1) 36 #[.int .i64 0, .int .i64 0, .slice none 0 0]
  tree : TreeR (fun b => b < w.heap.size) wr raw x
  bel : Below w.heap.size w wr
  size : w.heap.size + 2 ≤ wr.heap.size
  path : t.at? (q.take k) = some x
theorem AtRel.via {w wr wa : World} {t x : Tr} {q : List Nat} {k : Nat} {raw : TrV} (h : AtRel w t q k x raw wr) (hb : Below wr.heap.size wr wa) : AtRel w t q k x raw wa :=
  ⟨h.b0.via hb, h.b1.via hb, h.tree.via hb, h.bel.via hb, Nat.le_trans h.size hb.size, h.path⟩
theorem AtRel.step {w wr : World} {t x y : Tr} {q : List Nat} {k i : Nat} {raw r2 : TrV} (h : AtRel w t q k x raw wr) (hi : q[k]? = some i) (hy : x.kids[i]? = some y) (hty : TreeR (fun b => b < w.heap.size) wr r2 y) :
    AtRel w t q (k + 1) y r2 (((wr.setCell ⟨w.heap.size, 0, none⟩ (.int .i64 r2.1)).setCell ⟨w.heap.size, 1, none⟩ (.int .i64 r2.2.1)).setCell ⟨w.heap.size, 2, none⟩ (.slice r2.2.2.1 r2.2.2.2.1 r2.2.2.2.2)) := by
  refine ⟨?_, ((h.b1.far (by simp) _).far (by simp) _).far (by simp) _, hty.set3 (fun b hb => by omega) _ _ _, below_set3 h.bel (Nat.le_refl _) _ _ _, by simpa using h.size, ?_⟩
  · have := ((h.b0.set_ 0 (.int .i64 r2.1)).set_ 1 (.int .i64 r2.2.1)).set_ 2 (.slice r2.2.2.1 r2.2.2.2.1 r2.2.2.2.2)
    simpa using this
  · have hl := List.getElem?_eq_some_iff.1 hi
    rw [List.take_succ_eq_append_getElem hl.1, hl.2, Tr.at_append, h.path, Option.bind_some, Tr.at_one]
    exact hy
theorem Tr.at_step {t z x : Tr} {q : List Nat} {k i : Nat} (h : t.at? q = some z) (hx : t.at? (q.take k) = some x) (hi : q[k]? = some i) : ∃ y, x.kids[i]? = some y := by
  have hl := List.getElem?_eq_some_iff.1 hi
  have e : q = q.take k ++ (i :: q.drop (k + 1)) := by
    have := (List.take_append_drop k q).symm
    rw [List.drop_eq_getElem_cons hl.1, hl.2] at this
    exact this
  rw [e, Tr.at_append, hx, Option.bind_some] at h
  simp only [Tr.at?] at h
  cases hk : x.kids[i]? with
  | none => rw [hk] at h; cases h
  | some y => exact ⟨y, rfl⟩

set_option maxRecDepth 100000 in
set_option maxHeartbeats 4000000 in
theorem at_c (ok : Nat → Prop) (v : TrV) (t : Tr) (w : World) (h : TreeR ok w v t) (hM : t.size ≤ 1000000) (A : Option Addr) (n c : Nat) (q : List Nat) (hI : Ints w A n c (q.map fun i : Nat => (i : Int))) (z : Tr) (hz : t.at? q = some z) :
    Calls Try.prog 21 #[trVal v, .slice A n c] w (AtP w z) := by
  obtain ⟨ra, rb, rA, rn, rc⟩ := v
  have hT := ((h.mono (ok' := fun b => b < w.heap.size) fun b hb _ => hb).al (.cells #[.int .i64 ra, .int .i64 rb, .slice rA rn rc] 36)).al (.cells #[.int .i64 0, .int .i64 0, .slice none 0 0] 36)
  have B0 := (Blk.new w 36 #[.int .i64 ra, .int .i64 rb, .slice rA rn rc]).al (.cells #[.int .i64 0, .int .i64 0, .slice none 0 0] 36)
  have B1 := Blk.new (w.alloc (.cells #[.int .i64 ra, .int .i64 rb, .slice rA rn rc] 36)) 36 #[.int .i64 0, .int .i64 0, .slice none 0 0]
  rw [World.size_alloc] at B1
  have hB := ((Below.refl w.heap.size w).al (.cells #[.int .i64 ra, .int .i64 rb, .slice rA rn rc] 36)).al (.cells #[.int .i64 0, .int .i64 0, .slice none 0 0] 36)
  have hR : AtRel w t q 0 t (ra, rb, rA, rn, rc) _ := ⟨B0, B1, hT, hB, by simp, rfl⟩
  have hql : q.length = n := by have := hI.len; simpa using this
  have hqs : q.length ≤ t.size := by have := Tr.at_size hz; omega
  have HR := Lib.hid hR
  have HI := Lib.hid hI
  have HZ := Lib.hid hz
  clear h hT B0 B1 hB hR hI hz
  simp only [trVal]
  go_enter Try.func21, Try.ntmps21
  go_wp2_with fail
  go_loopw [11] (fun i wr => ∃ (k : Nat) (x : Tr) (raw : TrV), i = .int .i64 k ∧ k ≤ n ∧ AtRel w t q k x raw wr) (fun i _ => n - (intOf i).toNat)
  case atStart => exact ⟨0, _, _, rfl, Nat.zero_le _, HR.out⟩
  case round =>
    obtain ⟨k, x, raw, rfl, hk, hr⟩ := hrel
    clear HR
    obtain ⟨xa, xb, xA, xn, xc⟩ := raw
    have B0 := hr.b0
    have B1 := hr.b1
    simp only at B0
    by_cases hkl : k < n
    · obtain ⟨bq, oq, rfl, hbq, hxq⟩ := HI.out.at_ hkl
      have hqk : q[k]? = some q[k] := List.getElem?_eq_getElem (by omega)
      obtain ⟨y, hy⟩ := Tr.at_step HZ.out hr.path hqk
      have hgd : (q.map fun i : Nat => (i : Int)).getD k 0 = ((q[k] : Nat) : Int) := by
        rw [List.getD_eq_getElem?_getD, List.getElem?_map, hqk]; rfl
      rw [hgd] at hxq
      have HY := Lib.hid hy
      have HQ := Lib.hid hqk
      generalize q[k] = i at *
      have xq := (hr.bel.cell (p := ⟨bq, oq + k, none⟩) hbq).trans hxq
      have HR := Lib.hid hr
      have HK := Lib.hid hr.tree
      have i0 : (0 : Int) ≤ (k : Int) := by omega
      have i1 : (k : Int) < (n : Int) := by omega
      clear hr hgd hxq hqk hy
      have cB0 := B0.cell
      have fB0 := B0.frozen
      have lB0 := B0.lt
      have cB1 := B1.cell
      have fB1 := B1.frozen
      have lB1 := B1.lt
      go_wp2_with fail
      clear cB0 fB0 lB0 cB1 fB1 lB1
      refine (kids_c _ (xa, xb, xA, xn, xc) x wr HK.out).mono ?_
      rintro e w2 ⟨A2, n2, c2, rfl, hS, hb2⟩
      have hr2 := HR.out.via hb2
      have hS2 := hS.via hb2
      have hin : i < n2 := by rw [← hS.len]; exact (List.getElem?_eq_some_iff.1 HY.out).1
      obtain ⟨bk, ok2, xk, y', rfl, hob, hbk, hy', hxy, hc⟩ := hS2.at_ hin
      have hyy : y' = y := by have h1 := HY.out; rw [hy'] at h1; exact Option.some.inj h1
      subst hyy
      have hxy' : TreeR (fun b => b < w.heap.size) w2 xk y' := hxy
      have c0 := hc 0 _ rfl
      have c1 := hc 1 _ rfl
      have c2 := hc 2 _ rfl
      obtain ⟨ya, yb, yA, yn, yc⟩ := xk
      simp only [TrE, Nat.add_zero] at c0 c1 c2
      have j0 : (0 : Int) ≤ (i : Int) := by omega
      have j1 : (i : Int) < (n2 : Int) := by omega
      have HQ2 := Lib.hid (AtRel.step (r2 := (ya, yb, yA, yn, yc)) hr2 HQ.out HY.out hxy')
      have B0 := hr2.b0
      simp only at B0
      clear hS hS2 hb2 hr2 hxy hxy' hc hy' B1 HK HR xq
      have cB0 := B0.cell
      have fB0 := B0.frozen
      have lB0 := B0.lt
      go_wp2_with fail
      exact ⟨⟨k + 1, _, _, by go_num, by omega, HQ2.out⟩, by simp [intOf]; omega⟩
    · have HKE := Lib.hid (show k = n by omega)
      have HR := Lib.hid hr
      clear hr
      have cB0 := B0.cell
      have fB0 := B0.frozen
      have lB0 := B0.lt
      have cB1 := B1.cell
      have fB1 := B1.frozen
      have lB1 := B1.lt
      go_wp2_with fail
      clear cB0 fB0 lB0 cB1 fB1 lB1
      have hxz : x = z := by
        have h1 := HR.out.path
        rw [List.take_of_length_le (by rw [HKE.out, hql]; exact Nat.le_refl _), HZ.out] at h1
        exact (Option.some.inj h1).symm
      subst hxz
      have hxs := Tr.at_size HZ.out
      refine (clonet_c _ (xa, xb, xA, xn, xc) x wr HR.out.tree (by omega)).mono ?_
      rintro e w2 ⟨v2, rfl, hT2, hb2⟩
      have hr2 := HR.out.via hb2
      have HT2 := Lib.hid hT2
      have HR2 := Lib.hid hr2
      have hsz := HR.out.size
      have B1 := hr2.b1
      clear hT2 hb2 hr2 HR B0
      obtain ⟨va, vb, vA, vn, vc⟩ := v2
      dsimp only [trVal]
      have cB1 := B1.cell
      have fB1 := B1.frozen
      have lB1 := B1.lt
      go_wp2_with fail
      refine bodyPost_ret (v := .tuple #[trVal (va, vb, vA, vn, vc), .int .i64 0]) (by simp [results, Try.results21, go_sem, trVal, cB1]) rfl ⟨_, rfl, ?_, ?_⟩
      · exact (HT2.out.set3 (fun b hb => by omega) _ _ _).mono fun b _ hb => by omega
      · exact below_set3 HR2.out.bel (by omega) _ _ _
end Go.Proofs.Ytghnkgbingcbcaa

