/- Texts RD, RF, RS, RT, RU, RB, RC, RL, RM, ZA, ZB, ZC, RN, ZD, laid together. -/
import Derived.Test.YtfmnmgnhanogmaaDoorQ3
import Derived.Lib.AppendZerosOnto
import Derived.Lib.AppendZeros


namespace Go.Proofs.YtfmnmgnhanogmaaDoor
open Go.RowKit

def wordI (t : Int) (q : Nat) (ls : List Int) : List Int := (ls.take q).map (belowI · t)
theorem wordI_len (t : Int) (q : Nat) (ls : List Int) : (wordI t q ls).length ≤ q := by simp [wordI]; omega
theorem wordI_mem (t : Int) (q : Nat) (ls : List Int) (ht : 1 ≤ t) : ∀ x ∈ wordI t q ls, 0 ≤ x ∧ x < t := by
  intro x hx
  obtain ⟨y, _, rfl⟩ := List.mem_map.1 hx
  exact ⟨belowI_lo y t ht, belowI_hi y t ht⟩
theorem take_snoc {α : Type} (l : List α) (d : α) (k : Nat) (h : k < l.length) : l.take (k + 1) = l.take k ++ [l.getD k d] := by
  rw [List.take_succ_eq_append_getElem h]; simp [List.getD_eq_getElem?_getD, h]

/-- after k rounds -/
def WordRel (w : World) (t : Int) (n q : Nat) (ls : List Int) (k : Nat) (v : Value) (wr : World) : Prop :=
  k ≤ n ∧ k ≤ q ∧ OwnI wr w.heap.size v k ((ls.take k).map (belowI · t)) ∧ Below w.heap.size w wr
def WordPost (w : World) (t : Int) (q : Nat) (ls : List Int) (e : Ending) (w' : World) : Prop :=
  ∃ v k, e = .returned v ∧ OwnI w' w.heap.size v k (wordI t q ls) ∧ Below w.heap.size w w'
theorem WordRel.done {w : World} {t : Int} {n q : Nat} {ls : List Int} {k : Nat} {v : Value} {wr : World} (h : WordRel w t n q ls k v wr) (hl : ls.length = n) (hk : k = q ∨ k = n) : WordPost w t q ls (.returned v) wr := by
  obtain ⟨h1, h2, h3, h4⟩ := h
  refine ⟨v, k, rfl, ?_, h4⟩
  have : wordI t q ls = (ls.take k).map (belowI · t) := by
    unfold wordI
    rcases hk with rfl | rfl
    · rfl
    · rw [List.take_of_length_le (by omega), List.take_of_length_le (by omega)]
  rw [this]; exact h3

set_option maxHeartbeats 1000000 in
theorem word_c (t : Int) (q : Nat) (A : Option Addr) (n c : Nat) (ls : List Int) (w : World) (h : Ints w A n c ls) (ht : 1 ≤ t) (ht2 : t ≤ 1000000) (hq : q ≤ 1000000) :
    Calls Tryd.prog 21 #[.int .i64 t, .int .i64 (q : Int), .slice A n c] w (WordPost w t q ls) := by
  have HL := Lib.hid h.len
  go_enter Tryd.func21, Tryd.ntmps21
  go_wp2
  go_loopw [7, 12] (fun v i wr => ∃ k : Nat, i = .int .i64 k ∧ WordRel w t n q ls k v wr) (fun _ i _ => n - (intOf i).toNat)
  case atStart => exact ⟨0, rfl, Nat.zero_le _, Nat.zero_le _, OwnI.nil _ _, Below.refl _ _⟩
  case round =>
    obtain ⟨k, rfl, hr⟩ := hrel
    obtain ⟨A1, c1, rfl, hI1⟩ := hr.2.2.1.form
    have hkn := hr.1
    have hkq := hr.2.1
    by_cases hlt : k < n
    · obtain ⟨b, off, hA, hb, hx⟩ := h.at_ hlt
      have hx' : wr.cell? ⟨b, off + k, none⟩ = some (.int .i64 (ls.getD k 0)) := (hr.2.2.2.cell (p := ⟨b, off + k, none⟩) hb).trans hx
      have hsn := take_snoc ls 0 k (by rw [h.len]; exact hlt)
      have HS := Lib.hid hsn
      have HR := Lib.hid hr
      subst hA
      generalize ls.getD k 0 = x at *
      by_cases hkq' : k = q
      · subst hkq'
        clear hsn hr hx h hI1
        have HE := Lib.hid (HR.out.done HL.out (Or.inl rfl))
        clear HR
        go_wp2_with fail
        go_ret
        exact HE.out
      · have k1 : ((k : Int) == (q : Int)) = false := by simp; omega
        have hown := hr.2.2.1
        have hsz := hr.2.2.2.size
        clear hsn hr hx h hI1
        go_wp2_with (first | (go_at_call 49; refine (below_c x t _ (by omega) (by omega)).mono ?_; rintro e w' ⟨rfl, rfl⟩) | (at_builtin; refine wpList_append_ints _ rfl (.tmp 20) (.tmp 24) rfl w.heap.size (.slice A1 k c1) k _ rfl (hown.alloc _) (some ⟨wr.heap.size, 0, none⟩) 1 1 [belowI x t] rfl (Ints.one _ _ _) (by omega) (by simp; omega) ?_; intro Av1 cv1 w1 hown1 hg1 hat1))
        go_roundw
        case rel =>
          refine ⟨k + 1, by go_num, by omega, by omega, ?_, ?_⟩
          · rw [HS.out, List.map_append]; exact hown1
          · exact (HR.out.2.2.1.alloc _).grown (HR.out.2.2.2.alloc hsz _) hg1 (Nat.le_refl _) (by simp; omega)
        case measure => simp [intOf]; omega
    · clear h hI1
      have HE := Lib.hid (hr.done HL.out (Or.inr (by omega)))
      clear hr
      go_wp2_with fail
      go_ret
      exact HE.out
end Go.Proofs.YtfmnmgnhanogmaaDoor



namespace Go.Proofs.YtfmnmgnhanogmaaDoor
open Go.RowKit
theorem tree_info : (Tryd.prog.info? 34).map (fun i => (i.zero, i.size, i.bytes)) = some (some (.agg #[.int .i64 0, .int .i64 0, .slice none 0 0]), 3, 40) := by kernel_rfl

def Tr.rl : Tr → Int
  | .leaf _ => -1
  | .node r _ => r
def Tr.tm : Tr → Int
  | .leaf k => k
  | .node _ _ => 0
theorem TreeR.parts {ok : Nat → Prop} {w : World} {v : TrV} {t : Tr} (h : TreeR ok w v t) : v.1 = t.rl ∧ v.2.1 = t.tm ∧ Sl TrE ok w v.2.2.1 v.2.2.2.1 v.2.2.2.2 t.kids := by
  cases t with
  | leaf k => cases h; exact ⟨rfl, rfl, rfl, Nat.zero_le _, [], rfl, Cel.nil, fun i r x hx => by simp at hx⟩
  | node r ks =>
    obtain ⟨a, b, A, n, c⟩ := v
    obtain ⟨rfl, rfl, h3⟩ := h.kids
    exact ⟨rfl, rfl, h3⟩
theorem TreeR.of {ok : Nat → Prop} {w : World} {t : Tr} {A : Option Addr} {n c : Nat} (h : Sl TrE ok w A n c t.kids) : TreeR ok w (t.rl, t.tm, A, n, c) t := by
  cases t with
  | leaf k =>
    have hn : n = 0 := h.len.symm
    subst hn
    exact .leaf k A c
  | node r ks => exact TreeR.mk r h
theorem Tr.size_kid {t x : Tr} (h : x ∈ t.kids) : x.size < t.size := by
  cases t with
  | leaf k => simp [Tr.kids] at h
  | node r ks => have := Tr.size_mem (ks := ks) h; simp only [Tr.size]; omega
theorem Tr.kids_len (t : Tr) : t.kids.length < t.size := by
  cases t with
  | leaf k => simp [Tr.kids, Tr.size]
  | node r ks =>
    simp only [Tr.kids, Tr.size]
    have : ∀ l : List Tr, l.length ≤ Tr.sizes l := by
      intro l
      induction l with
      | nil => simp
      | cons a l ih => have := a.size_pos; simp only [List.length_cons, Tr.sizes]; omega
    have := this ks
    omega

/-! ### appending a tree -/
theorem step_append_tr {ops : Array Oper} {o : Oper} {a : Act} {K : Act → World → Prop} {Q : Exit → Act → World → Prop} {F : Prop} (w : World) (hgd : o.guard = none) (s y : Operand)
    (ho : o.op = .call { callee := .builtin .append, args := #[s, y], argTypes := #[32, 32] })
    (ok : Nat → Prop) (base : Nat) (v : Value) (n : Nat) (l : List Tr) (hv : a.eval s = v) (hown : Own TrE 34 ok w base v n l)
    (b : Nat) (r : TrV) (x : Tr) (hy : a.eval y = .slice (some ⟨b, 0, none⟩) 1 1) (hcell : Blk w b 34 #[.int .i64 r.1, .int .i64 r.2.1, .slice r.2.2.1 r.2.2.2.1 r.2.2.2.2]) (hrel : TreeR (fun b => ok b ∧ some b ≠ v.ownBlock) w r x)
    (h63 : n + 1 ≤ 1000000) (hbase : base ≤ w.heap.size)
    (h : ∀ A' c' w', Own TrE 34 ok w' base (.slice A' (n + 1) c') (n + 1) (l ++ [x]) → w.grownBy w' v.ownBlock → ((Value.slice A' (n + 1) c').ownBlock = v.ownBlock ∨ (Value.slice A' (n + 1) c').ownBlock = some w.heap.size) → K (a.put o.dst (.slice A' (n + 1) c')) w') :
    if Region.wanted o (yielded ops a.tmps) = true then Oper.wp Tryd.prog o a w K Q else F := by
  obtain ⟨i, hi, hz⟩ := Option.map_eq_some_iff.1 tree_info
  simp only [Prod.mk.injEq] at hz
  refine step_append_E (E := TrE) w hgd s y 32 34 ho i (.agg #[.int .i64 0, .int .i64 0, .slice none 0 0]) 40 (by kernel_rfl) hi hz.1 hz.2.1 hz.2.2 rfl ok base v n l hv hown b r x hy (fun j u hu => ?_) hrel (by simp [maxLen]; omega) (by omega) hbase h
  rw [hcell.cell j]
  rw [List.getElem?_toArray]; exact hu
theorem wpList_append_tr {ops : Array Oper} {rest : List Oper} {o : Oper} {a : Act} {Q : Exit → Act → World → Prop} (w : World) (hgd : o.guard = none) (s y : Operand)
    (ho : o.op = .call { callee := .builtin .append, args := #[s, y], argTypes := #[32, 32] })
    (ok : Nat → Prop) (base : Nat) (v : Value) (n : Nat) (l : List Tr) (hv : a.eval s = v) (hown : Own TrE 34 ok w base v n l)
    (b : Nat) (r : TrV) (x : Tr) (hy : a.eval y = .slice (some ⟨b, 0, none⟩) 1 1) (hcell : Blk w b 34 #[.int .i64 r.1, .int .i64 r.2.1, .slice r.2.2.1 r.2.2.2.1 r.2.2.2.2]) (hrel : TreeR (fun b => ok b ∧ some b ≠ v.ownBlock) w r x)
    (h63 : n + 1 ≤ 1000000) (hbase : base ≤ w.heap.size)
    (h : ∀ A' c' w', Own TrE 34 ok w' base (.slice A' (n + 1) c') (n + 1) (l ++ [x]) → w.grownBy w' v.ownBlock → ((Value.slice A' (n + 1) c').ownBlock = v.ownBlock ∨ (Value.slice A' (n + 1) c').ownBlock = some w.heap.size) → wpList Tryd.prog ops Q rest (a.put o.dst (.slice A' (n + 1) c')) w') : wpList Tryd.prog ops Q (o :: rest) a w := by
  obtain ⟨i, hi, hz⟩ := Option.map_eq_some_iff.1 tree_info
  simp only [Prod.mk.injEq] at hz
  refine wpList_append_E (E := TrE) w hgd s y 32 34 ho i (.agg #[.int .i64 0, .int .i64 0, .slice none 0 0]) 40 (by kernel_rfl) hi hz.1 hz.2.1 hz.2.2 rfl ok base v n l hv hown b r x hy (fun j u hu => ?_) hrel (by simp [maxLen]; omega) (by omega) hbase h
  rw [hcell.cell j]
  rw [List.getElem?_toArray]; exact hu

/-! ### kids -/
/-! ### CopyTree -/
def CopyP (w : World) (t : Tr) (e : Ending) (w' : World) : Prop := ∃ v, e = .returned (trVal v) ∧ TreeR (fun b => w.heap.size ≤ b) w' v t ∧ Below w.heap.size w w'
structure CpRel (w : World) (t : Tr) (k : Nat) (v : Value) (wr : World) : Prop where
  b1 : Blk wr (w.heap.size + 1) 34 #[.int .i64 0, .int .i64 0, .slice none 0 0]
  b2 : Blk wr (w.heap.size + 1 + 1) 34 #[.int .i64 t.rl, .int .i64 t.tm, v]
  own : Own TrE 34 (fun b => w.heap.size + 3 ≤ b) wr (w.heap.size + 3) v k (t.kids.take k)
  bel : Below w.heap.size w wr
  size : w.heap.size + 3 ≤ wr.heap.size

theorem CpRel.via {w wr wa : World} {t : Tr} {k : Nat} {v : Value} (h : CpRel w t k v wr) (hb : Below wr.heap.size wr wa) : CpRel w t k v wa :=
  ⟨h.b1.via hb, h.b2.via hb, h.own.via hb, h.bel.via hb, Nat.le_trans h.size hb.size⟩
theorem CpRel.push {w wr w1 : World} {t y : Tr} {k : Nat} {v v' : Value} (h : CpRel w t k v wr) (hy : t.kids[k]? = some y) (ho : Own TrE 34 (fun b => w.heap.size + 3 ≤ b) w1 (w.heap.size + 3) v' (k + 1) (t.kids.take k ++ [y])) (hg : wr.grownBy w1 v.ownBlock) :
    CpRel w t (k + 1) v' (w1.setCell ⟨w.heap.size + 1 + 1, 2, none⟩ v') := by
  have hne : ∀ j, j < w.heap.size + 3 → some j ≠ v.ownBlock := fun j hj e => by have := (h.own.lt j e.symm).1; omega
  have hsz := h.size
  refine ⟨?_, ?_, ?_, ?_, ?_⟩
  · exact (h.b1.grown hg (hne _ (by omega))).far (by simp) _
  · have := (h.b2.grown hg (hne _ (by omega))).set_ 2 v'; simpa using this
  · have e : t.kids.take (k + 1) = t.kids.take k ++ [y] := by
      have hl := (List.getElem?_eq_some_iff.1 hy)
      rw [List.take_succ_eq_append_getElem hl.1, hl.2]
    rw [e]
    exact ho.setCell _ (fun b hb => by show b ≠ w.heap.size + 1 + 1; omega) (by show w.heap.size + 1 + 1 < _; omega)
  · exact (h.bel.grown hg (by omega) fun j hj => by have := (h.own.lt j hj).1; omega).setCell (by simp; omega) _
  · have := hg.size; simp; omega

/-! ### Clone -/
end Go.Proofs.YtfmnmgnhanogmaaDoor



namespace Go.Proofs.YtfmnmgnhanogmaaDoor
open Go.RowKit

theorem TreeR.set3 {ok : Nat → Prop} {w : World} {v : TrV} {t : Tr} (h : TreeR ok w v t) {r : Nat} (hk : ∀ b, ok b → b ≠ r) (x y z : Value) : TreeR ok (((w.setCell ⟨r, 0, none⟩ x).setCell ⟨r, 1, none⟩ y).setCell ⟨r, 2, none⟩ z) v t :=
  h.agr (((Agr.setCell _ hk).trans (Agr.setCell _ hk)).trans (Agr.setCell _ hk))
/-! ### Tree -/
end Go.Proofs.YtfmnmgnhanogmaaDoor



namespace Go.Proofs.YtfmnmgnhanogmaaDoor
open Go.RowKit

theorem Agr.lo {lo : Nat} {w w' : World} (h : Below lo w w') : Agr (fun b => b < lo) w w' := fun b hb _ => h.block b hb

theorem enters_c {P : Program} {f : FuncId} {fn : Func} {c : Code} (hf : P.funcs[f]? = some fn) (hname : (fn.name == "runtime.NumGoroutine") = false) (hb : fn.body = some c) : ∀ (args : Array Value) (w : World), (callFunc f args).run P w = .ok (.enter f args) w := by
  intro args w
  have h1 : fn.name ≠ "runtime.NumGoroutine" := by simpa using hname
  simp [callFunc, hf, h1, hb, mark]

/-! ### Size -/
end Go.Proofs.YtfmnmgnhanogmaaDoor



namespace Go.Proofs.YtfmnmgnhanogmaaDoor
open Go.RowKit

/-- what a node gives to the word -/
def Tr.term : Tr → List Int
  | .leaf k => [(k : Int)]
  | .node _ _ => []

theorem OwnI.mono {w : World} {base b' n : Nat} {v : Value} {xs : List Int} (h : OwnI w base v n xs) (hb : b' ≤ base) : OwnI w b' v n xs := by
  refine ⟨h.1, ?_⟩
  rcases h.2 with h0 | ⟨g, cap, cur, h1, h2, h3⟩
  · exact Or.inl h0
  · exact Or.inr ⟨g, cap, cur, h1, Nat.le_trans hb h2, h3⟩

end Go.Proofs.YtfmnmgnhanogmaaDoor



namespace Go.Proofs.YtfmnmgnhanogmaaDoor
open Go.RowKit

def cmpI (x y : Int) : Int := if x < y then -1 else if y < x then 1 else 0
def cmpL : List Int → List Int → Int
  | [], [] => 0
  | [], _ :: _ => -1
  | _ :: _, [] => 1
  | x :: xs, y :: ys => if cmpI x y = 0 then cmpL xs ys else cmpI x y
def IntS (w : World) (x : Int) (e : Ending) (w' : World) : Prop := e = .returned (.int .i64 x) ∧ w' = w

set_option maxHeartbeats 1000000 in
theorem nan_c (x : Int) (w : World) : Calls Tryd.prog 78 #[.int .i64 x] w fun e w' => e = .returned (.bool false) ∧ w' = w := by
  go_enter Tryd.func78, Tryd.ntmps78
  go_wp2_with fail
  go_ret
  exact ⟨rfl, rfl⟩
set_option maxHeartbeats 1000000 in
theorem cmp_c (x y : Int) (w : World) : Calls Tryd.prog 70 #[.int .i64 x, .int .i64 y] w (IntS w (cmpI x y)) := by
  by_cases h1 : x < y
  · have hv : cmpI x y = -1 := by simp [cmpI, h1]
    rw [hv]
    clear hv
    go_enter Tryd.func70, Tryd.ntmps70
    go_wp2_with (go_at_call 78; refine (nan_c _ _).mono ?_; rintro e w' ⟨rfl, rfl⟩)
    go_ret
    exact ⟨rfl, rfl⟩
  · by_cases h2 : y < x
    · have hv : cmpI x y = 1 := by simp [cmpI, h1, h2]
      rw [hv]
      clear hv
      go_enter Tryd.func70, Tryd.ntmps70
      go_wp2_with (go_at_call 78; refine (nan_c _ _).mono ?_; rintro e w' ⟨rfl, rfl⟩)
      go_ret
      exact ⟨rfl, rfl⟩
    · have hv : cmpI x y = 0 := by simp [cmpI, h1, h2]
      rw [hv]
      clear hv
      go_enter Tryd.func70, Tryd.ntmps70
      go_wp2_with (go_at_call 78; refine (nan_c _ _).mono ?_; rintro e w' ⟨rfl, rfl⟩)
      go_ret
      exact ⟨rfl, rfl⟩

/-- the first that is not 0 -/
def orL : List Int → Int
  | [] => 0
  | x :: xs => if x = 0 then orL xs else x
theorem orL_step {xs : List Int} {k : Nat} (hx : k < xs.length) (h : xs.getD k 0 = 0) : orL (xs.drop k) = orL (xs.drop (k + 1)) := by
  rw [List.drop_eq_getElem_cons hx, orL, if_pos]
  simpa [List.getD_eq_getElem?_getD, hx] using h
theorem orL_stop {xs : List Int} {k : Nat} (hx : k < xs.length) (h : xs.getD k 0 ≠ 0) : orL (xs.drop k) = xs.getD k 0 := by
  rw [List.drop_eq_getElem_cons hx, orL, if_neg]
  · simp [List.getD_eq_getElem?_getD, hx]
  · simpa [List.getD_eq_getElem?_getD, hx] using h
set_option maxRecDepth 100000 in
set_option maxHeartbeats 4000000 in
theorem or_c (A : Option Addr) (n c : Nat) (xs : List Int) (w : World) (h1 : Ints w A n c xs) (hn : n ≤ 1000000) :
    Calls Tryd.prog 69 #[.slice A n c] w (IntS w (orL xs)) := by
  have H1 := Lib.hid h1
  have L1 := Lib.hid h1.len
  clear h1
  go_enter Tryd.func69, Tryd.ntmps69
  go_wp2_with fail
  go_loopw [8] (fun i wr => ∃ k : Nat, i = .int .i64 k ∧ k ≤ n ∧ Hid (orL xs = orL (xs.drop k)) ∧ wr = w) (fun i _ => n - (intOf i).toNat)
  case atStart => exact ⟨0, rfl, Nat.zero_le _, Lib.hid rfl, rfl⟩
  case round =>
    obtain ⟨k, rfl, hk, HC, rfl⟩ := hrel
    by_cases hkn : k < n
    · obtain ⟨b1, o1, rfl, hb1, hx⟩ := H1.out.at_ hkn
      have HS := Lib.hid (fun h => orL_step (xs := xs) (k := k) (by rw [L1.out]; exact hkn) h)
      have HT := Lib.hid (fun h => orL_stop (xs := xs) (k := k) (by rw [L1.out]; exact hkn) h)
      generalize xs.getD k 0 = x at *
      have i0 : (0 : Int) ≤ (k : Int) := by omega
      have i1 : (k : Int) < (n : Int) := by omega
      by_cases hc : x = 0
      · have HE := Lib.hid (HC.out.trans (HS.out hc))
        subst hc
        clear HS HT
        go_wp2_with fail
        exact ⟨⟨k + 1, by go_num, by omega, HE, by trivial⟩, by simp [intOf]; omega⟩
      · have HE := Lib.hid (HC.out.trans (HT.out hc))
        clear HS HT HC
        have hc2 : (x != 0) = true := by simpa using hc
        go_wp2_with fail
        go_ret
        exact ⟨by rw [HE.out]; rfl, rfl⟩
    · have hv : orL xs = 0 := by
        rw [HC.out, List.drop_of_length_le (by rw [L1.out]; omega)]; rfl
      have HV := Lib.hid hv
      clear hv
      go_wp2_with fail
      go_ret
      exact ⟨by rw [HV.out]; rfl, rfl⟩
end Go.Proofs.YtfmnmgnhanogmaaDoor



namespace Go.Proofs.YtfmnmgnhanogmaaDoor
open Go.RowKit

section
variable {c0 c1 : Int} {g : Int → Int → Int → Int}
variable {xs ys : List Int}
end

/-- a counter on its way down -/
def down : Nat → Int
  | 0 => -1
  | k + 1 => (k : Int)
/-! ### make -/
def mkCells (z : Value) (n : Nat) : Array Value := madeCells #[z] n
theorem mkCells_size (z : Value) (n : Nat) : (mkCells z n).size = n := size_madeCells _ _
/-! ### a table in memory: the rows from i on are filled -/
section
variable {w w' : World} {bd n m i lo : Nat} {rb : Nat → Nat} {V : Nat → Nat → Int}
end
section
variable {w : World} {bd m k b j : Nat} {V : Nat → Int}
end
end Go.Proofs.YtfmnmgnhanogmaaDoor



namespace Go.Proofs.YtfmnmgnhanogmaaDoor
open Go.RowKit

/-! ### alignments: w is turned into v at cost k (c0: insert, c1: delete, c2: replace) -/
section
variable {c0 c1 c2 : Int}
/-! ### one letter -/
def mn (a b : Int) : Int := if b < a then b else a
/-- the least cost of turning a part into one letter -/
def oneC (c0 c1 c2 t : Int) (p : List Int) : Int :=
  if t ∈ p then mn (mn (c0 + (p.length : Int) * c1) (c2 + ((p.length : Int) - 1) * c1)) (((p.length : Int) - 1) * c1)
  else if p = [] then c0 + (p.length : Int) * c1 else mn (c0 + (p.length : Int) * c1) (c2 + ((p.length : Int) - 1) * c1)
end
/-! ### words of lists of symbols -/
inductive Dv (rules : List Ru) : List Sy → List Int → Prop
  | nil : Dv rules [] []
  | term (t : Nat) {l : List Sy} {v : List Int} (h : Dv rules l v) : Dv rules ((true, t) :: l) ((t : Int) :: v)
  | non (N : Nat) {rhs l : List Sy} {u v : List Int} (hr : (N, rhs) ∈ rules) (h1 : Dv rules rhs u) (h2 : Dv rules l v) : Dv rules ((false, N) :: l) (u ++ v)
section
variable {rules : List Ru}
theorem Dv.append {a b : List Sy} {u v : List Int} (h : Dv rules a u) (k : Dv rules b v) : Dv rules (a ++ b) (u ++ v) := by
  induction h with
  | nil => simpa using k
  | term t _ ih => exact .term t ih
  | non N hr h1 _ _ ih => rw [List.append_assoc]; exact .non N hr h1 ih
theorem Dv.one {s : Nat} {rhs : List Sy} {v : List Int} (hr : (s, rhs) ∈ rules) (h : Dv rules rhs v) : Dv rules [(false, s)] v := by
  have := Dv.non s hr h (Dv.nil (rules := rules))
  simpa using this
theorem Dv.letter (t : Nat) : Dv rules [(true, t)] [(t : Int)] := .term t .nil
end

/-! ### ways -/
structure Way where
  cost : Int
  size : Int
  w : List Int
  ok : Bool
def Way.no : Way := ⟨0, 0, [], false⟩
def wcmp (a b : Way) : Int := orL [cmpI a.cost b.cost, cmpI a.size b.size, cmpL a.w b.w]
def lessW (a b : Way) : Bool := if !b.ok || !a.ok then a.ok else decide (wcmp a b < 0)
def thenW (a b : Way) : Way := ⟨a.cost + b.cost, a.size + b.size, if (a.ok && b.ok) && decide (a.size + b.size ≤ 2000) then a.w ++ b.w else [], a.ok && b.ok⟩
def hopeW (a b t : Way) : Bool := if !a.ok || !b.ok then true else t.ok && decide (orL [cmpI (a.cost + b.cost) t.cost, cmpI (a.size + b.size) t.size] > 0)
theorem cmpI_zero {x y : Int} : cmpI x y = 0 ↔ x = y := by unfold cmpI; split <;> (try split) <;> omega
/-! ### rows of ways -/
def upd (f : Nat → Way) (j : Nat) (y : Way) : Nat → Way := fun i => if i = j then y else f i
/-- one step: a, then the way x of the next symbol, at place j -/
def goJ (a x : Way) (next : Nat → Way) (j : Nat) : Nat → Way :=
  if hopeW a x (next j) then next else if lessW (thenW a x) (next j) then upd next j (thenW a x) else next
/-- m steps from place k on -/
def rowJ (a : Way) (sym : Nat → Way) (k : Nat) (next : Nat → Way) : Nat → Nat → Way
  | 0 => next
  | m + 1 => goJ a (sym (k + m)) (rowJ a sym k next m) (k + m)
/-- from m places on, the first one i; the last place is n -/
def rowK (at_ : Nat → Way) (sym : Nat → Nat → Way) (n i : Nat) : Nat → Nat → Way
  | 0 => fun _ => Way.no
  | m + 1 => if (at_ (i + m)).ok then rowJ (at_ (i + m)) (sym (i + m)) (i + m) (rowK at_ sym n i m) (n + 1 - (i + m)) else rowK at_ sym n i m
def symW (c0 c1 c2 : Int) (w : List Int) (st : Nat → Nat → Nat → Way) (s : Sy) (i j : Nat) : Way :=
  if s.1 then ⟨oneC c0 c1 c2 (s.2 : Int) ((w.take j).drop i), 1, [(s.2 : Int)], true⟩ else st s.2 i j
def ruleAt (c0 c1 c2 : Int) (w : List Int) (st : Nat → Nat → Nat → Way) (n i : Nat) : List Sy → (Nat → Way)
  | l => l.foldl (fun f s => rowK f (symW c0 c1 c2 w st s) n i (n + 1 - i)) (upd (fun _ => Way.no) i ⟨0, 0, [], true⟩)
def ruleW (c0 c1 c2 : Int) (w : List Int) (st : Nat → Nat → Nat → Way) (n i : Nat) (l : List Sy) : Nat → Way :=
  if l = [] then (fun j => if i ≤ j ∧ j ≤ n then ⟨((j : Int) - (i : Int)) * c1, 0, [], true⟩ else Way.no) else ruleAt c0 c1 c2 w st n i l

end Go.Proofs.YtfmnmgnhanogmaaDoor



namespace Go.Proofs.YtfmnmgnhanogmaaDoor
open Go.RowKit

/-! ### the fixed point knows every word: completeness -/
def part (w : List Int) (i j : Nat) : List Int := (w.take j).drop i
theorem part_len {w : List Int} {i j : Nat} (h2 : j ≤ w.length) : (part w i j).length = j - i := by simp [part]; omega
theorem part_split {w p1 p2 : List Int} {i j : Nat} (h1 : i ≤ j) (h2 : j ≤ w.length) (h : part w i j = p1 ++ p2) : ∃ m, i ≤ m ∧ m ≤ j ∧ part w i m = p1 ∧ part w m j = p2 := by
  have hl := part_len (i := i) h2
  rw [h, List.length_append] at hl
  refine ⟨i + p1.length, by omega, by omega, ?_, ?_⟩
  · have e : part w i (i + p1.length) = (part w i j).take p1.length := by
      unfold part
      rw [List.take_drop, List.take_take]
      congr 2; omega
    rw [e, h]; simp
  · have e : part w (i + p1.length) j = (part w i j).drop p1.length := by
      unfold part; rw [List.drop_drop]
    rw [e, h]; simp
theorem part_all (w : List Int) : part w 0 w.length = w := by simp [part]
theorem part_same (w : List Int) (i : Nat) : part w i i = [] := by simp [part]
theorem part_append {w : List Int} {i m j : Nat} (h1 : i ≤ m) (h2 : m ≤ j) : part w i m ++ part w m j = part w i j := by
  have e : (w.take j).drop i = ((w.take j).drop i).take (m - i) ++ ((w.take j).drop i).drop (m - i) := (List.take_append_drop _ _).symm
  unfold part
  rw [e, List.drop_drop, List.take_drop, List.take_take]
  congr 2 <;> (congr 1; omega)

section
variable {c0 c1 c2 : Int} {w : List Int} {st : Nat → Nat → Nat → Way} {n i : Nat}
theorem snoc_induction {α : Type} {P : List α → Prop} (h0 : P []) (hs : ∀ l a, P l → P (l ++ [a])) (l : List α) : P l := by
  have : ∀ (k : Nat) (l : List α), l.length = k → P l := by
    intro k
    induction k with
    | zero => intro l h; rw [List.length_eq_zero_iff.1 h]; exact h0
    | succ k ih =>
      intro l h
      rcases List.eq_nil_or_concat l with rfl | ⟨a, b, rfl⟩
      · exact h0
      · rw [List.concat_eq_append]
        exact hs a b (ih a (by simp at h; exact h))
  exact this _ l rfl
end
section
variable {c0 c1 c2 : Int} {rules : List Ru} {w : List Int} {st : Nat → Nat → Nat → Way}
end

/-! ### what is kept is the way to a word: soundness -/
section
variable {c0 c1 c2 : Int} {rules : List Ru} {w : List Int} {st : Nat → Nat → Nat → Way}
end
/-! ### bounds -/
section
variable {c0 c1 c2 : Int} {w : List Int} {st : Nat → Nat → Nat → Way}
end

/-! ### states: which nonterminals have a way, and what it costs at the most -/
structure Pm where
  c0 : Int
  c1 : Int
  c2 : Int
  nons : Nat
  rules : List Ru
  w : List Int
structure Pm.Ok (p : Pm) : Prop where
  c0 : 1 ≤ p.c0 ∧ p.c0 ≤ 100
  c1 : 1 ≤ p.c1 ∧ p.c1 ≤ 100
  c2 : 1 ≤ p.c2 ∧ p.c2 ≤ 100
  nons : p.nons ≤ 10
  left : ∀ r ∈ p.rules, r.1 < p.nons
  right : ∀ r ∈ p.rules, r.2.length ≤ 4
  lets : ∀ r ∈ p.rules, ∀ s ∈ r.2, s.1 = true → s.2 < 8
  len : p.w.length ≤ 12
abbrev WSt := Nat → Nat → Nat → Way
def Pm.rule (p : Pm) (st : WSt) (i : Nat) (l : List Sy) : Nat → Way := ruleW p.c0 p.c1 p.c2 p.w st p.w.length i l
def Pm.sym (p : Pm) (st : WSt) (s : Sy) (i j : Nat) : Way := symW p.c0 p.c1 p.c2 p.w st s i j
def cnt (nons : Nat) (st : WSt) : Nat := ((List.range nons).filter fun N => (st N 0 0).ok).length
section
variable {p : Pm} {st st1 stI : WSt} {r : Ru} {i j : Nat}
end
end Go.Proofs.YtfmnmgnhanogmaaDoor



namespace Go.Proofs.YtfmnmgnhanogmaaDoor
open Go.RowKit

/-! ### every step makes a state smaller -/
def long : Nat := 2000
def sumTo (f : Nat → Nat) : Nat → Nat
  | 0 => 0
  | n + 1 => sumTo f n + f n
theorem sumTo_le {f g : Nat → Nat} (n : Nat) (h : ∀ k, f k ≤ g k) : sumTo f n ≤ sumTo g n := by
  induction n with
  | zero => exact Nat.le_refl _
  | succ n ih => have := h n; simp only [sumTo]; omega
theorem sumTo_lt {f g : Nat → Nat} {n k : Nat} (h : ∀ k, f k ≤ g k) (hk : k < n) (hl : f k < g k) : sumTo f n < sumTo g n := by
  induction n with
  | zero => omega
  | succ n ih =>
    simp only [sumTo]
    by_cases e : k = n
    · subst e; have := sumTo_le (f := f) (g := g) k h; omega
    · have := ih (by omega); have := h n; omega
/-- the letters of a word -/
theorem Dv.lets {rules : List Ru} {B : Nat} (hr : ∀ r ∈ rules, ∀ s ∈ r.2, s.1 = true → s.2 < B) {l : List Sy} {v : List Int} (h : Dv rules l v) : (∀ s ∈ l, s.1 = true → s.2 < B) → ∀ y ∈ v, 0 ≤ y ∧ y < (B : Int) := by
  induction h with
  | nil => intro _ y hy; cases hy
  | @term t l v h ih =>
    intro hl y hy
    rcases List.mem_cons.1 hy with rfl | hy
    · have := hl (true, t) (List.mem_cons_self ..) rfl
      simp only at this; omega
    · exact ih (fun s hs => hl s (List.mem_cons_of_mem _ hs)) y hy
  | @non N rhs l u v hm h1 h2 ih1 ih2 =>
    intro hl y hy
    rcases List.mem_append.1 hy with hy | hy
    · exact ih1 (hr _ hm) y hy
    · exact ih2 (fun s hs => hl s (List.mem_cons_of_mem _ hs)) y hy
section
variable {p : Pm} {st st1 stI : WSt} {r : Ru} {i j : Nat}
end
end Go.Proofs.YtfmnmgnhanogmaaDoor



namespace Go.Proofs.YtfmnmgnhanogmaaDoor
open Go.RowKit

/-! ### operations: kind, position, terminal -/
theorem take_at {α : Type} {l : List α} {k : Nat} {x : α} (h : l[k]? = some x) : l.take (k + 1) = l.take k ++ [x] := by
  have hl := List.getElem?_eq_some_iff.1 h
  rw [List.take_succ_eq_append_getElem hl.1, hl.2]
theorem Ints.three (w : World) (x y z : Int) (t : TypeId) : Ints (w.alloc (.cells #[.int .i64 x, .int .i64 y, .int .i64 z] t)) (some ⟨w.heap.size, 0, none⟩) 3 3 [x, y, z] :=
  ⟨rfl, Nat.le_refl _, fun _ => ⟨w.heap.size, 0, rfl, fun i hi => by
    rw [Nat.zero_add]
    match i, hi with
    | 0, _ => rw [World.cell?_alloc_new]; rfl
    | 1, _ => rw [World.cell?_alloc_new]; rfl
    | 2, _ => rw [World.cell?_alloc_new]; rfl⟩⟩
theorem Ints.two (w : World) (x y : Int) (t : TypeId) : Ints (w.alloc (.cells #[.int .i64 x, .int .i64 y] t)) (some ⟨w.heap.size, 0, none⟩) 2 2 [x, y] :=
  ⟨rfl, Nat.le_refl _, fun _ => ⟨w.heap.size, 0, rfl, fun i hi => by
    rw [Nat.zero_add]
    match i, hi with
    | 0, _ => rw [World.cell?_alloc_new]; rfl
    | 1, _ => rw [World.cell?_alloc_new]; rfl⟩⟩
end Go.Proofs.YtfmnmgnhanogmaaDoor




namespace Go.Proofs.YtfmnmgnhanogmaaDoor
open Go.RowKit

/-! ### ints as elements; ways: cost, size, word, or none -/
def IntE : Elem Int Int where
  k := 1
  cells s := [.int .i64 s]
  rel _ _ r x := r = x
  pos := by omega
  len _ := rfl
  one r u hu := by simp at hu; subst hu; rfl
  agr h _ := h
  mono h _ := h
theorem Sl.ints {ok : Nat → Prop} {w : World} {A : Option Addr} {n c : Nat} {xs : List Int} (h : Sl IntE ok w A n c xs) : Ints w A n c xs := by
  refine ⟨h.len, h.le, fun hn => ?_⟩
  obtain ⟨b, off, r, x, e, -⟩ := h.at_ hn
  refine ⟨b, off, e, fun i hi => ?_⟩
  obtain ⟨b', off', r', x', e', _, _, hx, hr, hc⟩ := h.at_ hi
  rw [e] at e'
  obtain ⟨rfl, rfl⟩ : b = b' ∧ off = off' := by simpa using e'
  have := hc 0 (.int .i64 r') rfl
  simp only [IntE, Nat.mul_one, Nat.add_zero] at this
  rw [this, show r' = x' from hr, List.getD_eq_getElem?_getD, hx]
  rfl
theorem Ints.sl {ok : Nat → Prop} {w : World} {A : Option Addr} {n c : Nat} {xs : List Int} (h : Ints w A n c xs) (hk : ∀ b off, A = some ⟨b, off, none⟩ → 0 < n → ok b) : Sl IntE ok w A n c xs := by
  obtain ⟨h1, h2, h3⟩ := h
  refine ⟨h1, h2, xs, h1, fun hne => ?_, fun i r x hr hx => by rw [hr] at hx; exact Option.some.inj hx⟩
  have hfl : flat IntE xs = xs.map fun x => Value.int .i64 x := by
    unfold flat; clear h1 h3 hne
    induction xs with
    | nil => rfl
    | cons a l ih => rw [List.flatMap_cons, List.map_cons, ih]; rfl
  rw [hfl] at hne ⊢
  have hn : 0 < n := by
    rcases Nat.eq_zero_or_pos n with e | e
    · exfalso; apply hne; rw [List.length_eq_zero_iff.1 (h1.trans e)]; rfl
    · exact e
  obtain ⟨b, off, e, hc⟩ := h3 hn
  refine ⟨b, off, e, hk b off e hn, fun j u hu => ?_⟩
  have hj : j < xs.length := by have := (List.getElem?_eq_some_iff.1 hu).1; simpa using this
  rw [hc j (by omega), ← hu, List.getElem?_map, List.getD_eq_getElem?_getD, List.getElem?_eq_getElem hj]
  rfl
def TellB (w : World) (b : Bool) (e : Ending) (w' : World) : Prop := e = .returned (.bool b) ∧ Below w.heap.size w w'
end Go.Proofs.YtfmnmgnhanogmaaDoor

