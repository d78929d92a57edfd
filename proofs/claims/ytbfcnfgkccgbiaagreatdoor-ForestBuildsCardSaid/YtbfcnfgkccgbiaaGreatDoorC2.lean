/- Texts RD, RF, RS, RT, RU, RB, RC, laid together. -/
import Derived.Test.YtbfcnfgkccgbiaaGreatDoorC1
import Derived.Lib.AppendZerosOnto
import Derived.Lib.AppendZeros


namespace Go.Proofs.YtbfcnfgkccgbiaaGreatDoor
open Go.RowKit

def wordI (t : Int) (q : Nat) (ls : List Int) : List Int := (ls.take q).map (belowI · t)
theorem wordI_len (t : Int) (q : Nat) (ls : List Int) : (wordI t q ls).length ≤ q := by simp [wordI]; omega
theorem wordI_mem (t : Int) (q : Nat) (ls : List Int) (ht : 1 ≤ t) : ∀ x ∈ wordI t q ls, 0 ≤ x ∧ x < t := by
  intro x hx
  obtain ⟨y, _, rfl⟩ := List.mem_map.1 hx
  exact ⟨belowI_lo y t ht, belowI_hi y t ht⟩
theorem take_snoc {α : Type} (l : List α) (d : α) (k : Nat) (h : k < l.length) : l.take (k + 1) = l.take k ++ [l.getD k d] := by
  rw [List.take_succ_eq_append_getElem h]; simp [List.getD_eq_getElem?_getD, h]

/-- after k rounds -/
def WordRel (w : World) (t : Int) (n q : Nat) (ls : List Int) (k : Nat) (v : Value) (wr : World) : Prop :=
  k ≤ n ∧ k ≤ q ∧ OwnI wr w.heap.size v k ((ls.take k).map (belowI · t)) ∧ Below w.heap.size w wr
def WordPost (w : World) (t : Int) (q : Nat) (ls : List Int) (e : Ending) (w' : World) : Prop :=
  ∃ v k, e = .returned v ∧ OwnI w' w.heap.size v k (wordI t q ls) ∧ Below w.heap.size w w'
theorem WordRel.done {w : World} {t : Int} {n q : Nat} {ls : List Int} {k : Nat} {v : Value} {wr : World} (h : WordRel w t n q ls k v wr) (hl : ls.length = n) (hk : k = q ∨ k = n) : WordPost w t q ls (.returned v) wr := by
  obtain ⟨h1, h2, h3, h4⟩ := h
  refine ⟨v, k, rfl, ?_, h4⟩
  have : wordI t q ls = (ls.take k).map (belowI · t) := by
    unfold wordI
    rcases hk with rfl | rfl
    · rfl
    · rw [List.take_of_length_le (by omega), List.take_of_length_le (by omega)]
  rw [this]; exact h3

set_option maxHeartbeats 1000000 in
theorem word_c (t : Int) (q : Nat) (A : Option Addr) (n c : Nat) (ls : List Int) (w : World) (h : Ints w A n c ls) (ht : 1 ≤ t) (ht2 : t ≤ 1000000) (hq : q ≤ 1000000) :
    Calls Tryz.prog 23 #[.int .i64 t, .int .i64 (q : Int), .slice A n c] w (WordPost w t q ls) := by
  have HL := Lib.hid h.len
  go_enter Tryz.func23, Tryz.ntmps23
  go_wp2
  go_loopw [7, 12] (fun v i wr => ∃ k : Nat, i = .int .i64 k ∧ WordRel w t n q ls k v wr) (fun _ i _ => n - (intOf i).toNat)
  case atStart => exact ⟨0, rfl, Nat.zero_le _, Nat.zero_le _, OwnI.nil _ _, Below.refl _ _⟩
  case round =>
    obtain ⟨k, rfl, hr⟩ := hrel
    obtain ⟨A1, c1, rfl, hI1⟩ := hr.2.2.1.form
    have hkn := hr.1
    have hkq := hr.2.1
    by_cases hlt : k < n
    · obtain ⟨b, off, hA, hb, hx⟩ := h.at_ hlt
      have hx' : wr.cell? ⟨b, off + k, none⟩ = some (.int .i64 (ls.getD k 0)) := (hr.2.2.2.cell (p := ⟨b, off + k, none⟩) hb).trans hx
      have hsn := take_snoc ls 0 k (by rw [h.len]; exact hlt)
      have HS := Lib.hid hsn
      have HR := Lib.hid hr
      subst hA
      generalize ls.getD k 0 = x at *
      by_cases hkq' : k = q
      · subst hkq'
        clear hsn hr hx h hI1
        have HE := Lib.hid (HR.out.done HL.out (Or.inl rfl))
        clear HR
        go_wp2_with fail
        go_ret
        exact HE.out
      · have k1 : ((k : Int) == (q : Int)) = false := by simp; omega
        have hown := hr.2.2.1
        have hsz := hr.2.2.2.size
        clear hsn hr hx h hI1
        go_wp2_with (first | (go_at_call 18; refine (below_c x t _ (by omega) (by omega)).mono ?_; rintro e w' ⟨rfl, rfl⟩) | (at_builtin; refine wpList_append_ints _ rfl (.tmp 20) (.tmp 24) rfl w.heap.size (.slice A1 k c1) k _ rfl (hown.alloc _) (some ⟨wr.heap.size, 0, none⟩) 1 1 [belowI x t] rfl (Ints.one _ _ _) (by omega) (by simp; omega) ?_; intro Av1 cv1 w1 hown1 hg1 hat1))
        go_roundw
        case rel =>
          refine ⟨k + 1, by go_num, by omega, by omega, ?_, ?_⟩
          · rw [HS.out, List.map_append]; exact hown1
          · exact (HR.out.2.2.1.alloc _).grown (HR.out.2.2.2.alloc hsz _) hg1 (Nat.le_refl _) (by simp; omega)
        case measure => simp [intOf]; omega
    · clear h hI1
      have HE := Lib.hid (hr.done HL.out (Or.inr (by omega)))
      clear hr
      go_wp2_with fail
      go_ret
      exact HE.out
end Go.Proofs.YtbfcnfgkccgbiaaGreatDoor





namespace Go.Proofs.YtbfcnfgkccgbiaaGreatDoor
open Go.RowKit

theorem cellSlice {w : World} {b : Nat} {t : TypeId} {cs : Array Value} (h : Blk w b t cs) (i : Nat) (v : Value) (hv : cs[i]? = some v) : w.cell? ⟨b, i, none⟩ = some v := (h.cell i).trans hv

end Go.Proofs.YtbfcnfgkccgbiaaGreatDoor



namespace Go.Proofs.YtbfcnfgkccgbiaaGreatDoor
open Go.RowKit
def Tr.rl : Tr → Int
  | .leaf _ => -1
  | .node r _ => r
def Tr.tm : Tr → Int
  | .leaf k => k
  | .node _ _ => 0
theorem TreeR.parts {ok : Nat → Prop} {w : World} {v : TrV} {t : Tr} (h : TreeR ok w v t) : v.1 = t.rl ∧ v.2.1 = t.tm ∧ Sl TrE ok w v.2.2.1 v.2.2.2.1 v.2.2.2.2 t.kids := by
  cases t with
  | leaf k => cases h; exact ⟨rfl, rfl, rfl, Nat.zero_le _, [], rfl, Cel.nil, fun i r x hx => by simp at hx⟩
  | node r ks =>
    obtain ⟨a, b, A, n, c⟩ := v
    obtain ⟨rfl, rfl, h3⟩ := h.kids
    exact ⟨rfl, rfl, h3⟩
theorem TreeR.of {ok : Nat → Prop} {w : World} {t : Tr} {A : Option Addr} {n c : Nat} (h : Sl TrE ok w A n c t.kids) : TreeR ok w (t.rl, t.tm, A, n, c) t := by
  cases t with
  | leaf k =>
    have hn : n = 0 := h.len.symm
    subst hn
    exact .leaf k A c
  | node r ks => exact TreeR.mk r h
theorem Tr.rl_leaf {t : Tr} (h : t.rl = -1) : ∃ k, t = .leaf k := by
  cases t with
  | leaf k => exact ⟨k, rfl⟩
  | node r ks => exact absurd h (by show (r : Int) ≠ -1; omega)
theorem Tr.rl_node {t : Tr} (h : t.rl ≠ -1) : ∃ r ks, t = .node r ks := by
  cases t with
  | leaf k => exact absurd rfl h
  | node r ks => exact ⟨r, ks, rfl⟩
theorem Tr.size_kid {t x : Tr} (h : x ∈ t.kids) : x.size < t.size := by
  cases t with
  | leaf k => simp [Tr.kids] at h
  | node r ks => have := Tr.size_mem (ks := ks) h; simp only [Tr.size]; omega
theorem Tr.kids_len (t : Tr) : t.kids.length < t.size := by
  cases t with
  | leaf k => simp [Tr.kids, Tr.size]
  | node r ks =>
    simp only [Tr.kids, Tr.size]
    have : ∀ l : List Tr, l.length ≤ Tr.sizes l := by
      intro l
      induction l with
      | nil => simp
      | cons a l ih => have := a.size_pos; simp only [List.length_cons, Tr.sizes]; omega
    have := this ks
    omega

/-! ### appending a tree -/
/-! ### kids -/
def KidsP (ok : Nat → Prop) (w : World) (t : Tr) (e : Ending) (w' : World) : Prop :=
  ∃ A n c, e = .returned (.slice A n c) ∧ Sl TrE ok w A n c t.kids ∧ Below w.heap.size w w'
/-! ### CopyTree -/
def CopyP (w : World) (t : Tr) (e : Ending) (w' : World) : Prop := ∃ v, e = .returned (trVal v) ∧ TreeR (fun b => w.heap.size ≤ b) w' v t ∧ Below w.heap.size w w'
/-! ### Clone -/
end Go.Proofs.YtbfcnfgkccgbiaaGreatDoor



namespace Go.Proofs.YtbfcnfgkccgbiaaGreatDoor
open Go.RowKit

/-- a tree of the grammar with the given symbol at its top -/
inductive Der (g : Gr) : Sy → Tr → Prop
  | leaf (t : Nat) : Der g (true, t) (.leaf t)
  | node (r N : Nat) (rhs : List Sy) (ks : List Tr) (hr : g.rules[r]? = some (N, rhs)) (hl : ks.length = rhs.length) (hk : ∀ (j : Nat) (s : Sy) (t : Tr), rhs[j]? = some s → ks[j]? = some t → Der g s t) : Der g (false, N) (.node r ks)

/-- the stream and the count of nodes that are left -/
structure St (w0 w : World) (bs bl : Nat) (left : Int) : Prop where
  str : ∃ A m c ls, Blk w bs 121 #[.slice A m c] ∧ Ints w0 A m c ls
  cnt : Blk w bl 3 #[.int .i64 left]
  bel : Below w0.heap.size w0 w
  ne : bs ≠ bl
  lo1 : w0.heap.size ≤ bs
  lo2 : w0.heap.size ≤ bl
theorem St.via {w0 w w' : World} {bs bl : Nat} {left : Int} (h : St w0 w bs bl left) (hb : Below w.heap.size w w') : St w0 w' bs bl left := by
  obtain ⟨A, m, c, ls, h1, h2⟩ := h.str
  exact ⟨⟨A, m, c, ls, h1.via hb, h2⟩, h.cnt.via hb, h.bel.via hb, h.ne, h.lo1, h.lo2⟩
theorem St.al {w0 w : World} {bs bl : Nat} {left : Int} (h : St w0 w bs bl left) (o : Obj) : St w0 (w.alloc o) bs bl left := h.via ((Below.refl _ _).alloc (Nat.le_refl _) o)
theorem St.far {w0 w : World} {bs bl : Nat} {left : Int} (h : St w0 w bs bl left) {p : Addr} (h1 : p.block ≠ bs) (h2 : p.block ≠ bl) (h3 : w0.heap.size ≤ p.block) (u : Value) : St w0 (w.setCell p u) bs bl left := by
  obtain ⟨A, m, c, ls, k1, k2⟩ := h.str
  exact ⟨⟨A, m, c, ls, k1.far (Ne.symm h1) u, k2⟩, h.cnt.far (Ne.symm h2) u, h.bel.setCell h3 u, h.ne, h.lo1, h.lo2⟩
theorem St.lt1 {w0 w : World} {bs bl : Nat} {left : Int} (h : St w0 w bs bl left) : bs < w.heap.size := by
  obtain ⟨A, m, c, ls, k1, k2⟩ := h.str; exact k1.lt
theorem St.left {w0 w : World} {bs bl : Nat} {left : Int} (h : St w0 w bs bl left) (l' : Int) : St w0 (w.setCell ⟨bl, 0, none⟩ (.int .i64 l')) bs bl l' := by
  obtain ⟨A, m, c, ls, k1, k2⟩ := h.str
  exact ⟨⟨A, m, c, ls, k1.far h.ne _, k2⟩, h.cnt.set1 _, h.bel.setCell h.lo2 _, h.ne, h.lo1, h.lo2⟩
theorem St.next {w0 w : World} {bs bl : Nat} {left : Int} (h : St w0 w bs bl left) {A : Option Addr} {m c : Nat} {ls : List Int} (hi : Ints w0 A m c ls) : St w0 (w.setCell ⟨bs, 0, none⟩ (.slice A m c)) bs bl left := by
  obtain ⟨A', m', c', ls', k1, k2⟩ := h.str
  exact ⟨⟨A, m, c, ls, k1.set1 _, hi⟩, h.cnt.far (Ne.symm h.ne) _, h.bel.setCell h.lo1 _, h.ne, h.lo1, h.lo2⟩
theorem St.grown {w0 w w' : World} {bs bl : Nat} {left : Int} {row : Option Nat} (h : St w0 w bs bl left) (hg : w.grownBy w' row) (hr : ∀ k, row = some k → bs < k ∧ bl < k) : St w0 w' bs bl left := by
  obtain ⟨A, m, c, ls, k1, k2⟩ := h.str
  have h1 : some bs ≠ row := fun e => absurd (hr _ e.symm).1 (Nat.lt_irrefl _)
  have h2 : some bl ≠ row := fun e => absurd (hr _ e.symm).2 (Nat.lt_irrefl _)
  exact ⟨⟨A, m, c, ls, k1.grown hg h1, k2⟩, h.cnt.grown hg h2, h.bel.grown hg h.bel.size fun k e => by have := (hr k e).1; have := h.lo1; omega, h.ne, h.lo1, h.lo2⟩

/-- blocks other than the stream's and the count's are as they were -/
def Nx (bs bl : Nat) (b : Nat) : Prop := b ≠ bs ∧ b ≠ bl
def TreeP (w0 w : World) (bs bl : Nat) (g : Gr) (y : Sy) (left : Nat) (e : Ending) (w' : World) : Prop :=
  ∃ (v : TrV) (b : Bool) (l' : Int), e = .returned (.tuple #[trVal v, .bool b]) ∧ St w0 w' bs bl l' ∧ Agr (Nx bs bl) w w' ∧ w.heap.size ≤ w'.heap.size ∧
    ((b = true → ∃ (t : Tr), TreeR (fun b => w.heap.size ≤ b) w' v t ∧ Der g y t ∧ l' + t.size = left ∧ 0 ≤ l') ∧ (b = false → v = (0, 0, none, 0, 0)))

theorem TreeP.fin {w0 w wr : World} {bs bl : Nat} {g : Gr} {y : Sy} {left : Nat} {l : Int} (v : TrV) (b : Bool) (hs : St w0 wr bs bl l) (ha : Agr (Nx bs bl) w wr) (hz : w.heap.size + 3 ≤ wr.heap.size) (h1 : bs < w.heap.size) (h2 : bl < w.heap.size)
    (hv0 : b = false → v = (0, 0, none, 0, 0)) (ht : b = true → ∃ (t : Tr), TreeR (fun b => w.heap.size + 3 ≤ b) wr v t ∧ Der g y t ∧ l + t.size = left ∧ 0 ≤ l) :
    TreeP w0 w bs bl g y left (.returned (.tuple #[trVal v, .bool b])) (((wr.setCell ⟨w.heap.size + 1 + 1, 0, none⟩ (.int .i64 v.1)).setCell ⟨w.heap.size + 1 + 1, 1, none⟩ (.int .i64 v.2.1)).setCell ⟨w.heap.size + 1 + 1, 2, none⟩ (.slice v.2.2.1 v.2.2.2.1 v.2.2.2.2)) := by
  have hw := hs.bel.size
  have k1 := hs.lo1
  have k2 := hs.lo2
  have hag : ∀ ok : Nat → Prop, (∀ b, ok b → b ≠ w.heap.size + 1 + 1) → Agr ok wr (((wr.setCell ⟨w.heap.size + 1 + 1, 0, none⟩ (.int .i64 v.1)).setCell ⟨w.heap.size + 1 + 1, 1, none⟩ (.int .i64 v.2.1)).setCell ⟨w.heap.size + 1 + 1, 2, none⟩ (.slice v.2.2.1 v.2.2.2.1 v.2.2.2.2)) := fun ok hk =>
    ((Agr.setCell _ hk).trans (Agr.setCell _ hk)).trans (Agr.setCell _ hk)
  refine ⟨v, b, l, rfl, ?_, ?_, ?_, ?_, hv0⟩
  · exact ((hs.far (p := ⟨w.heap.size + 1 + 1, 0, none⟩) (by simp; omega) (by simp; omega) (by simp; omega) _).far (by simp; omega) (by simp; omega) (by simp; omega) _).far (by simp; omega) (by simp; omega) (by simp; omega) _
  · intro b hb hlt
    have e1 := ha b hb hlt
    have e2 := hag (fun b => b ≠ w.heap.size + 1 + 1) (fun _ h => h) b (by show b ≠ w.heap.size + 1 + 1; omega) (by omega)
    exact e2.trans e1
  · simp; omega
  · intro hb
    obtain ⟨t, t1, t2, t3⟩ := ht hb
    exact ⟨t, (t1.agr (hag _ fun b hb => by omega)).mono fun b _ hb => by omega, t2, t3⟩

theorem TreeR.set3 {ok : Nat → Prop} {w : World} {v : TrV} {t : Tr} (h : TreeR ok w v t) {r : Nat} (hk : ∀ b, ok b → b ≠ r) (x y z : Value) : TreeR ok (((w.setCell ⟨r, 0, none⟩ x).setCell ⟨r, 1, none⟩ y).setCell ⟨r, 2, none⟩ z) v t :=
  h.agr (((Agr.setCell _ hk).trans (Agr.setCell _ hk)).trans (Agr.setCell _ hk))
theorem below_set3 {B : Nat} {w0 w : World} (h : Below B w0 w) {r : Nat} (hr : B ≤ r) (x y z : Value) : Below B w0 (((w.setCell ⟨r, 0, none⟩ x).setCell ⟨r, 1, none⟩ y).setCell ⟨r, 2, none⟩ z) :=
  ((h.setCell hr _).setCell hr _).setCell hr _

/-! ### Tree -/
def MakeZ (w : World) (g : Gr) (e : Ending) (w' : World) : Prop :=
  ∃ (v : TrV) (b : Bool), e = .returned (.tuple #[trVal v, .bool b]) ∧ Below w.heap.size w w' ∧ ((b = true → ∃ t, TreeR (fun b => w.heap.size ≤ b) w' v t ∧ Der g (false, g.start) t ∧ t.size ≤ 60) ∧ (b = false → v = (0, 0, none, 0, 0)))
def MakeP (w : World) (g : Gr) (e : Ending) (w' : World) : Prop :=
  ∃ (v : TrV) (b : Bool), e = .returned (.tuple #[trVal v, .bool b]) ∧ Below w.heap.size w w' ∧ (b = true → ∃ t, TreeR (fun b => w.heap.size ≤ b) w' v t ∧ Der g (false, g.start) t ∧ t.size ≤ 60)

end Go.Proofs.YtbfcnfgkccgbiaaGreatDoor



namespace Go.Proofs.YtbfcnfgkccgbiaaGreatDoor
open Go.RowKit

mutual
def Tr.pre : Tr → List Tr
  | .leaf k => [.leaf k]
  | .node r ks => .node r ks :: Tr.pres ks
def Tr.pres : List Tr → List Tr
  | [] => []
  | t :: ts => t.pre ++ Tr.pres ts
end
theorem Tr.pre_eq (t : Tr) : t.pre = t :: Tr.pres t.kids := by cases t <;> simp [Tr.pre, Tr.kids, Tr.pres]
theorem Tr.pres_append (a b : List Tr) : Tr.pres (a ++ b) = Tr.pres a ++ Tr.pres b := by
  induction a with
  | nil => simp [Tr.pres]
  | cons t ts ih => simp only [List.cons_append, Tr.pres, ih, List.append_assoc]
theorem Tr.pres_take {ks : List Tr} {k : Nat} {t : Tr} (h : ks[k]? = some t) : Tr.pres (ks.take (k + 1)) = Tr.pres (ks.take k) ++ t.pre := by
  have hl := List.getElem?_eq_some_iff.1 h
  rw [List.take_succ_eq_append_getElem hl.1, hl.2, Tr.pres_append]
  simp [Tr.pres]

mutual
theorem Tr.pre_len (t : Tr) : t.pre.length = t.size := by
  cases t with
  | leaf k => simp [Tr.pre, Tr.size]
  | node r ks => simp only [Tr.pre, Tr.size, List.length_cons]; rw [Tr.pres_len ks]
theorem Tr.pres_len (ks : List Tr) : (Tr.pres ks).length = Tr.sizes ks := by
  cases ks with
  | nil => simp [Tr.pres, Tr.sizes]
  | cons t ts => simp only [Tr.pres, Tr.sizes, List.length_append]; rw [Tr.pre_len t, Tr.pres_len ts]
end
theorem Tr.size_eq (t : Tr) : t.size = Tr.sizes t.kids + 1 := by cases t <;> simp [Tr.size, Tr.kids, Tr.sizes]
theorem Tr.sizes_take {ks : List Tr} {k : Nat} {y : Tr} (h : ks[k]? = some y) : Tr.sizes (ks.take k) + y.size ≤ Tr.sizes ks := by
  have hl := List.getElem?_eq_some_iff.1 h
  have e : Tr.sizes (ks.take (k + 1)) + Tr.sizes (ks.drop (k + 1)) = Tr.sizes ks := by rw [← Tr.sizes_append, List.take_append_drop]
  rw [List.take_succ_eq_append_getElem hl.1, hl.2, Tr.sizes_append] at e
  simp only [Tr.sizes] at e
  omega
theorem Agr.lo {lo : Nat} {w w' : World} (h : Below lo w w') : Agr (fun b => b < lo) w w' := fun b hb _ => h.block b hb

/-- what a visit leaves -/
def VisitP (lo : Nat) (P : List Tr → (Nat → Prop) → World → Prop) (R : Nat → Prop) (w : World) (l : List Tr) (e : Ending) (w' : World) : Prop :=
  e = .returned (.bool true) ∧ ∃ R', P l R' w' ∧ Below lo w w' ∧ Agr (fun b => ¬ R b) w w' ∧ ∀ b, R' b → R b ∨ w.heap.size ≤ b

structure WalkRel (lo : Nat) (P : List Tr → (Nat → Prop) → World → Prop) (R0 : Nat → Prop) (w : World) (l : List Tr) (R : Nat → Prop) (wr : World) : Prop where
  p : P l R wr
  bel : Below lo w wr
  agr : Agr (fun b => ¬ R0 b) w wr
  row : ∀ b, R b → R0 b ∨ w.heap.size ≤ b

theorem WalkRel.via {lo : Nat} {P : List Tr → (Nat → Prop) → World → Prop} {R0 : Nat → Prop} {w : World} {l : List Tr} {R : Nat → Prop} {wr wa : World} (h : WalkRel lo P R0 w l R wr)
    (hP : ∀ l R w w', P l R w → Below w.heap.size w w' → P l R w') (hlo : lo ≤ w.heap.size) (hb : Below wr.heap.size wr wa) : WalkRel lo P R0 w l R wa :=
  ⟨hP _ _ _ _ h.p hb, h.bel.trans (hb.mono (Nat.le_trans hlo h.bel.size)), h.agr.trans (Agr.below hb), h.row⟩
theorem WalkRel.step {lo : Nat} {P : List Tr → (Nat → Prop) → World → Prop} {R0 : Nat → Prop} {w : World} {l l' : List Tr} {R R' : Nat → Prop} {wr wa : World} (h : WalkRel lo P R0 w l R wr)
    (h1 : P l' R' wa) (h2 : Below lo wr wa) (h3 : Agr (fun b => ¬ R b) wr wa) (h4 : ∀ b, R' b → R b ∨ wr.heap.size ≤ b) : WalkRel lo P R0 w l' R' wa := by
  refine ⟨h1, h.bel.trans h2, ?_, ?_⟩
  · intro b hb hlt
    have hlt' : b < wr.heap.size := Nat.lt_of_lt_of_le hlt h.bel.size
    exact (h3 b (fun hR => (h.row b hR).elim hb fun h => by omega) hlt').trans (h.agr b hb hlt)
  · intro b hb
    rcases h4 b hb with h5 | h5
    · exact h.row b h5
    · exact Or.inr (Nat.le_trans h.bel.size h5)

theorem enters_c {P : Program} {f : FuncId} {fn : Func} {c : Code} (hf : P.funcs[f]? = some fn) (hname : (fn.name == "runtime.NumGoroutine") = false) (hb : fn.body = some c) : ∀ (args : Array Value) (w : World), (callFunc f args).run P w = .ok (.enter f args) w := by
  intro args w
  have h1 : fn.name ≠ "runtime.NumGoroutine" := by simpa using hname
  simp [callFunc, hf, h1, hb, mark]

/-! ### Size -/
def SizeInv (lo bn : Nat) (l : List Tr) (R : Nat → Prop) (w : World) : Prop := (∀ b, R b ↔ b = bn) ∧ Blk w bn 3 #[.int .i64 (l.length : Int)] ∧ lo ≤ bn
def IntB (w : World) (n : Nat) (e : Ending) (w' : World) : Prop := e = .returned (.int .i64 (n : Int)) ∧ Below w.heap.size w w'
end Go.Proofs.YtbfcnfgkccgbiaaGreatDoor



namespace Go.Proofs.YtbfcnfgkccgbiaaGreatDoor
open Go.RowKit

theorem flatMap_one {α β : Type} (f : α → β) (l : List α) : (l.flatMap fun t => [f t]) = l.map f := by induction l <;> simp_all
/-- what a node gives to the word -/
def Tr.term : Tr → List Int
  | .leaf k => [(k : Int)]
  | .node _ _ => []
theorem Tr.terms_len (l : List Tr) : (l.flatMap Tr.term).length ≤ l.length := by
  induction l with
  | nil => simp
  | cons t l ih =>
    have : t.term.length ≤ 1 := by cases t <;> simp [Tr.term]
    simp only [List.flatMap_cons, List.length_append, List.length_cons]; omega
mutual
theorem Tr.pre_word (t : Tr) : t.pre.flatMap Tr.term = t.word.map fun i : Nat => (i : Int) := by
  cases t with
  | leaf k => simp [Tr.pre, Tr.term, Tr.word]
  | node r ks => simp only [Tr.pre, List.flatMap_cons, Tr.term, List.nil_append, Tr.word]; exact Tr.pres_word ks
theorem Tr.pres_word (ks : List Tr) : (Tr.pres ks).flatMap Tr.term = (Tr.words ks).map fun i : Nat => (i : Int) := by
  cases ks with
  | nil => simp [Tr.pres, Tr.words]
  | cons t ts => simp only [Tr.pres, Tr.words, List.flatMap_append, List.map_append]; rw [Tr.pre_word t, Tr.pres_word ts]
end

structure ListInv (f : Tr → List Int) (lo bn : Nat) (l : List Tr) (R : Nat → Prop) (v : Value) (n : Nat) (w : World) : Prop where
  b : Blk w bn 25 #[v]
  own : OwnI w (bn + 1) v n (l.flatMap f)
  lo : lo ≤ bn
  row : ∀ b, R b ↔ b = bn ∨ some b = v.ownBlock
def ListI (f : Tr → List Int) (lo bn : Nat) (l : List Tr) (R : Nat → Prop) (w : World) : Prop := ∃ v n, ListInv f lo bn l R v n w
theorem ListI.via {f : Tr → List Int} {lo bn : Nat} {l : List Tr} {R : Nat → Prop} {w w' : World} (h : ListI f lo bn l R w) (hb : Below w.heap.size w w') : ListI f lo bn l R w' := by
  obtain ⟨v, n, h⟩ := h
  exact ⟨v, n, h.b.via hb, OwnI.keep h.own hb (Nat.le_refl _), h.lo, h.row⟩
theorem ListI.bound {f : Tr → List Int} {lo bn : Nat} {l : List Tr} {R : Nat → Prop} {w : World} (h : ListI f lo bn l R w) : lo ≤ w.heap.size ∧ ∀ b, R b → lo ≤ b ∧ b < w.heap.size := by
  obtain ⟨v, n, h⟩ := h
  refine ⟨Nat.le_of_lt (Nat.lt_of_le_of_lt h.lo h.b.lt), fun b hb => ?_⟩
  rcases (h.row b).1 hb with rfl | e
  · exact ⟨h.lo, h.b.lt⟩
  · have := h.own.lt b e.symm
    exact ⟨by have := h.lo; omega, this.2⟩

/-- an append in the closure -/
theorem ListInv.push {f : Tr → List Int} {lo bn : Nat} {l : List Tr} {x : Tr} {R : Nat → Prop} {v : Value} {n : Nat} {w wa w1 : World} {A' : Option Addr} {c' k : Nat} (h : ListInv f lo bn l R v n w) (hb : Below w.heap.size w wa)
    (ho : OwnI w1 (bn + 1) (.slice A' k c') k (l.flatMap f ++ f x)) (hg : wa.grownBy w1 v.ownBlock) (ha : (Value.slice A' k c').ownBlock = v.ownBlock ∨ (Value.slice A' k c').ownBlock = some wa.heap.size) :
    VisitP lo (ListI f lo bn) R w (l ++ [x]) (.returned (.bool true)) (w1.setCell ⟨bn, 0, none⟩ (.slice A' k c')) := by
  have hlt := h.b.lt
  have hne : some bn ≠ v.ownBlock := fun e => by have := (h.own.lt bn e.symm).1; omega
  refine ⟨rfl, fun b => b = bn ∨ some b = (Value.slice A' k c').ownBlock, ⟨_, k, ((h.b.via hb).grown hg hne).set1 _, ?_, h.lo, fun b => Iff.rfl⟩, ?_, ?_, ?_⟩
  · rw [List.flatMap_append, List.flatMap_singleton]
    exact OwnI.setCell ho (by show bn < bn + 1; omega) _
  · refine ((hb.mono (by have := h.lo; omega)).grown hg (by have := hb.size; have := h.lo; omega) fun j hj => ?_).setCell h.lo _
    have := (h.own.lt j hj).1; have := h.lo; omega
  · intro b hb' hlt'
    have k1 : b ≠ bn := fun e => hb' ((h.row b).2 (Or.inl e))
    have k2 : some b ≠ v.ownBlock := fun e => hb' ((h.row b).2 (Or.inr e))
    exact (Below.heap_setCell w1 ⟨bn, 0, none⟩ _ b k1).trans ((hg.block b (Nat.lt_of_lt_of_le hlt' hb.size) k2).trans (hb.block b hlt'))
  · intro b hb'
    rcases hb' with rfl | e
    · exact Or.inl ((h.row b).2 (Or.inl rfl))
    · rcases ha with e2 | e2
      · exact Or.inl ((h.row b).2 (Or.inr (e.trans e2)))
      · rw [e2] at e
        right
        have : b = wa.heap.size := Option.some.inj e
        rw [this]; exact hb.size

def ListP (w : World) (xs : List Int) (e : Ending) (w' : World) : Prop := ∃ A n c, e = .returned (.slice A n c) ∧ OwnI w' w.heap.size (.slice A n c) n xs ∧ Below w.heap.size w w'
theorem OwnI.mono {w : World} {base b' n : Nat} {v : Value} {xs : List Int} (h : OwnI w base v n xs) (hb : b' ≤ base) : OwnI w b' v n xs := by
  refine ⟨h.1, ?_⟩
  rcases h.2 with h0 | ⟨g, cap, cur, h1, h2, h3⟩
  · exact Or.inl h0
  · exact Or.inr ⟨g, cap, cur, h1, Nat.le_trans hb h2, h3⟩

end Go.Proofs.YtbfcnfgkccgbiaaGreatDoor



namespace Go.Proofs.YtbfcnfgkccgbiaaGreatDoor
open Go.RowKit

def cmpI (x y : Int) : Int := if x < y then -1 else if y < x then 1 else 0
def cmpL : List Int → List Int → Int
  | [], [] => 0
  | [], _ :: _ => -1
  | _ :: _, [] => 1
  | x :: xs, y :: ys => if cmpI x y = 0 then cmpL xs ys else cmpI x y
def IntS (w : World) (x : Int) (e : Ending) (w' : World) : Prop := e = .returned (.int .i64 x) ∧ w' = w

set_option maxHeartbeats 1000000 in
theorem nan_c (x : Int) (w : World) : Calls Tryz.prog 65 #[.int .i64 x] w fun e w' => e = .returned (.bool false) ∧ w' = w := by
  go_enter Tryz.func65, Tryz.ntmps65
  go_wp2_with fail
  go_ret
  exact ⟨rfl, rfl⟩
set_option maxHeartbeats 1000000 in
theorem cmp_c (x y : Int) (w : World) : Calls Tryz.prog 31 #[.int .i64 x, .int .i64 y] w (IntS w (cmpI x y)) := by
  by_cases h1 : x < y
  · have hv : cmpI x y = -1 := by simp [cmpI, h1]
    rw [hv]
    clear hv
    go_enter Tryz.func31, Tryz.ntmps31
    go_wp2_with (go_at_call 65; refine (nan_c _ _).mono ?_; rintro e w' ⟨rfl, rfl⟩)
    go_ret
    exact ⟨rfl, rfl⟩
  · by_cases h2 : y < x
    · have hv : cmpI x y = 1 := by simp [cmpI, h1, h2]
      rw [hv]
      clear hv
      go_enter Tryz.func31, Tryz.ntmps31
      go_wp2_with (go_at_call 65; refine (nan_c _ _).mono ?_; rintro e w' ⟨rfl, rfl⟩)
      go_ret
      exact ⟨rfl, rfl⟩
    · have hv : cmpI x y = 0 := by simp [cmpI, h1, h2]
      rw [hv]
      clear hv
      go_enter Tryz.func31, Tryz.ntmps31
      go_wp2_with (go_at_call 65; refine (nan_c _ _).mono ?_; rintro e w' ⟨rfl, rfl⟩)
      go_ret
      exact ⟨rfl, rfl⟩

theorem cmpL_step {xs ys : List Int} {k : Nat} (hx : k < xs.length) (hy : k < ys.length) (h : cmpI (xs.getD k 0) (ys.getD k 0) = 0) : cmpL (xs.drop k) (ys.drop k) = cmpL (xs.drop (k + 1)) (ys.drop (k + 1)) := by
  rw [List.drop_eq_getElem_cons hx, List.drop_eq_getElem_cons hy, cmpL, if_pos]
  simpa [List.getD_eq_getElem?_getD, hx, hy] using h
theorem cmpL_stop {xs ys : List Int} {k : Nat} (hx : k < xs.length) (hy : k < ys.length) (h : cmpI (xs.getD k 0) (ys.getD k 0) ≠ 0) : cmpL (xs.drop k) (ys.drop k) = cmpI (xs.getD k 0) (ys.getD k 0) := by
  rw [List.drop_eq_getElem_cons hx, List.drop_eq_getElem_cons hy, cmpL, if_neg]
  · simp [List.getD_eq_getElem?_getD, hx, hy]
  · simpa [List.getD_eq_getElem?_getD, hx, hy] using h

set_option maxRecDepth 100000 in
set_option maxHeartbeats 4000000 in
theorem cmpL_c (A B : Option Addr) (n c m d : Nat) (xs ys : List Int) (w : World) (h1 : Ints w A n c xs) (h2 : Ints w B m d ys) (hn : n ≤ 1000000) :
    Calls Tryz.prog 40 #[.slice A n c, .slice B m d] w (IntS w (cmpL xs ys)) := by
  have H1 := Lib.hid h1
  have H2 := Lib.hid h2
  have L1 := Lib.hid h1.len
  have L2 := Lib.hid h2.len
  clear h1 h2
  go_enter Tryz.func40, Tryz.ntmps40
  go_wp2_with fail
  go_loopw [11] (fun i wr => ∃ k : Nat, i = .int .i64 k ∧ k ≤ n ∧ k ≤ m ∧ Hid (cmpL xs ys = cmpL (xs.drop k) (ys.drop k)) ∧ wr = w) (fun i _ => n - (intOf i).toNat)
  case atStart => exact ⟨0, rfl, Nat.zero_le _, Nat.zero_le _, Lib.hid rfl, rfl⟩
  case round =>
    obtain ⟨k, rfl, hk, hkm, HC, rfl⟩ := hrel
    by_cases hkn : k < n
    · obtain ⟨b1, o1, rfl, hb1, hx⟩ := H1.out.at_ hkn
      by_cases hk2 : k < m
      · obtain ⟨b2, o2, rfl, hb2, hy⟩ := H2.out.at_ hk2
        have HS := Lib.hid (fun h => cmpL_step (xs := xs) (ys := ys) (k := k) (by rw [L1.out]; exact hkn) (by rw [L2.out]; exact hk2) h)
        have HT := Lib.hid (fun h => cmpL_stop (xs := xs) (ys := ys) (k := k) (by rw [L1.out]; exact hkn) (by rw [L2.out]; exact hk2) h)
        generalize xs.getD k 0 = x at *
        generalize ys.getD k 0 = y at *
        have i0 : (0 : Int) ≤ (k : Int) := by omega
        have i1 : (k : Int) < (n : Int) := by omega
        have i2 : (k : Int) < (m : Int) := by omega
        by_cases hc : cmpI x y = 0
        · have HE := Lib.hid (HC.out.trans (HS.out hc))
          have hc' := hc
          clear HS HT
          go_wp2_with (go_at_call 31; refine (cmp_c _ _ _).mono ?_; rintro e w' ⟨rfl, rfl⟩; rw [hc'])
          exact ⟨⟨k + 1, by go_num, by omega, by omega, HE, by trivial⟩, by simp [intOf]; omega⟩
        · have HE := Lib.hid (HC.out.trans (HT.out hc))
          clear HS HT HC
          have hc2 : (cmpI x y != 0) = true := by simpa using hc
          go_wp2_with (go_at_call 31; refine (cmp_c _ _ _).mono ?_; rintro e w' ⟨rfl, rfl⟩)
          go_ret
          exact ⟨by rw [HE.out]; rfl, rfl⟩
      · have hv : cmpL xs ys = 1 := by
          rw [HC.out, List.drop_of_length_le (l := ys) (by rw [L2.out]; omega), List.drop_eq_getElem_cons (by rw [L1.out]; exact hkn)]; rfl
        have HV := Lib.hid hv
        clear hv
        go_wp2_with fail
        go_ret
        exact ⟨by rw [HV.out]; rfl, rfl⟩
    · by_cases hnm : n < m
      · have hv : cmpL xs ys = -1 := by
          rw [HC.out, List.drop_of_length_le (by rw [L1.out]; omega), List.drop_eq_getElem_cons (by rw [L2.out]; omega)]; rfl
        have HV := Lib.hid hv
        clear hv
        go_wp2_with fail
        go_ret
        exact ⟨by rw [HV.out]; rfl, rfl⟩
      · have hv : cmpL xs ys = 0 := by
          rw [HC.out, List.drop_of_length_le (by rw [L1.out]; omega), List.drop_of_length_le (by rw [L2.out]; omega)]; rfl
        have HV := Lib.hid hv
        clear hv
        go_wp2_with fail
        go_ret
        exact ⟨by rw [HV.out]; rfl, rfl⟩

/-- the first that is not 0 -/
def orL : List Int → Int
  | [] => 0
  | x :: xs => if x = 0 then orL xs else x
theorem orL_step {xs : List Int} {k : Nat} (hx : k < xs.length) (h : xs.getD k 0 = 0) : orL (xs.drop k) = orL (xs.drop (k + 1)) := by
  rw [List.drop_eq_getElem_cons hx, orL, if_pos]
  simpa [List.getD_eq_getElem?_getD, hx] using h
theorem orL_stop {xs : List Int} {k : Nat} (hx : k < xs.length) (h : xs.getD k 0 ≠ 0) : orL (xs.drop k) = xs.getD k 0 := by
  rw [List.drop_eq_getElem_cons hx, orL, if_neg]
  · simp [List.getD_eq_getElem?_getD, hx]
  · simpa [List.getD_eq_getElem?_getD, hx] using h
set_option maxRecDepth 100000 in
set_option maxHeartbeats 4000000 in
theorem or_c (A : Option Addr) (n c : Nat) (xs : List Int) (w : World) (h1 : Ints w A n c xs) (hn : n ≤ 1000000) :
    Calls Tryz.prog 30 #[.slice A n c] w (IntS w (orL xs)) := by
  have H1 := Lib.hid h1
  have L1 := Lib.hid h1.len
  clear h1
  go_enter Tryz.func30, Tryz.ntmps30
  go_wp2_with fail
  go_loopw [8] (fun i wr => ∃ k : Nat, i = .int .i64 k ∧ k ≤ n ∧ Hid (orL xs = orL (xs.drop k)) ∧ wr = w) (fun i _ => n - (intOf i).toNat)
  case atStart => exact ⟨0, rfl, Nat.zero_le _, Lib.hid rfl, rfl⟩
  case round =>
    obtain ⟨k, rfl, hk, HC, rfl⟩ := hrel
    by_cases hkn : k < n
    · obtain ⟨b1, o1, rfl, hb1, hx⟩ := H1.out.at_ hkn
      have HS := Lib.hid (fun h => orL_step (xs := xs) (k := k) (by rw [L1.out]; exact hkn) h)
      have HT := Lib.hid (fun h => orL_stop (xs := xs) (k := k) (by rw [L1.out]; exact hkn) h)
      generalize xs.getD k 0 = x at *
      have i0 : (0 : Int) ≤ (k : Int) := by omega
      have i1 : (k : Int) < (n : Int) := by omega
      by_cases hc : x = 0
      · have HE := Lib.hid (HC.out.trans (HS.out hc))
        subst hc
        clear HS HT
        go_wp2_with fail
        exact ⟨⟨k + 1, by go_num, by omega, HE, by trivial⟩, by simp [intOf]; omega⟩
      · have HE := Lib.hid (HC.out.trans (HT.out hc))
        clear HS HT HC
        have hc2 : (x != 0) = true := by simpa using hc
        go_wp2_with fail
        go_ret
        exact ⟨by rw [HE.out]; rfl, rfl⟩
    · have hv : orL xs = 0 := by
        rw [HC.out, List.drop_of_length_le (by rw [L1.out]; omega)]; rfl
      have HV := Lib.hid hv
      clear hv
      go_wp2_with fail
      go_ret
      exact ⟨by rw [HV.out]; rfl, rfl⟩
end Go.Proofs.YtbfcnfgkccgbiaaGreatDoor

