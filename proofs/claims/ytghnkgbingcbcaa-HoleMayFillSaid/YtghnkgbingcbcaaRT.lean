/- parlmake.tree, parlmake.Tree: a derivation tree of the grammar, or none. -/
import Derived.Test.YtghnkgbingcbcaaRS
namespace Go.Proofs.Ytghnkgbingcbcaa
open Go.RowKit

/-- a tree of the grammar with the given symbol at its top -/
inductive Der (g : Gr) : Sy → Tr → Prop
  | leaf (t : Nat) : Der g (true, t) (.leaf t)
  | node (r N : Nat) (rhs : List Sy) (ks : List Tr) (hr : g.rules[r]? = some (N, rhs)) (hl : ks.length = rhs.length) (hk : ∀ (j : Nat) (s : Sy) (t : Tr), rhs[j]? = some s → ks[j]? = some t → Der g s t) : Der g (false, N) (.node r ks)

/-- the stream and the count of nodes that are left -/
structure St (w0 w : World) (bs bl : Nat) (left : Int) : Prop where
  str : ∃ A m c ls, Blk w bs 83 #[.slice A m c] ∧ Ints w0 A m c ls
  cnt : Blk w bl 3 #[.int .i64 left]
  bel : Below w0.heap.size w0 w
  ne : bs ≠ bl
  lo1 : w0.heap.size ≤ bs
  lo2 : w0.heap.size ≤ bl
theorem St.via {w0 w w' : World} {bs bl : Nat} {left : Int} (h : St w0 w bs bl left) (hb : Below w.heap.size w w') : St w0 w' bs bl left := by
  obtain ⟨A, m, c, ls, h1, h2⟩ := h.str
  exact ⟨⟨A, m, c, ls, h1.via hb, h2⟩, h.cnt.via hb, h.bel.via hb, h.ne, h.lo1, h.lo2⟩
theorem St.al {w0 w : World} {bs bl : Nat} {left : Int} (h : St w0 w bs bl left) (o : Obj) : St w0 (w.alloc o) bs bl left := h.via ((Below.refl _ _).alloc (Nat.le_refl _) o)
theorem St.far {w0 w : World} {bs bl : Nat} {left : Int} (h : St w0 w bs bl left) {p : Addr} (h1 : p.block ≠ bs) (h2 : p.block ≠ bl) (h3 : w0.heap.size ≤ p.block) (u : Value) : St w0 (w.setCell p u) bs bl left := by
  obtain ⟨A, m, c, ls, k1, k2⟩ := h.str
  exact ⟨⟨A, m, c, ls, k1.far (Ne.symm h1) u, k2⟩, h.cnt.far (Ne.symm h2) u, h.bel.setCell h3 u, h.ne, h.lo1, h.lo2⟩
theorem St.lt1 {w0 w : World} {bs bl : Nat} {left : Int} (h : St w0 w bs bl left) : bs < w.heap.size := by
  obtain ⟨A, m, c, ls, k1, k2⟩ := h.str; exact k1.lt
theorem St.left {w0 w : World} {bs bl : Nat} {left : Int} (h : St w0 w bs bl left) (l' : Int) : St w0 (w.setCell ⟨bl, 0, none⟩ (.int .i64 l')) bs bl l' := by
  obtain ⟨A, m, c, ls, k1, k2⟩ := h.str
  exact ⟨⟨A, m, c, ls, k1.far h.ne _, k2⟩, h.cnt.set1 _, h.bel.setCell h.lo2 _, h.ne, h.lo1, h.lo2⟩
theorem St.next {w0 w : World} {bs bl : Nat} {left : Int} (h : St w0 w bs bl left) {A : Option Addr} {m c : Nat} {ls : List Int} (hi : Ints w0 A m c ls) : St w0 (w.setCell ⟨bs, 0, none⟩ (.slice A m c)) bs bl left := by
  obtain ⟨A', m', c', ls', k1, k2⟩ := h.str
  exact ⟨⟨A, m, c, ls, k1.set1 _, hi⟩, h.cnt.far (Ne.symm h.ne) _, h.bel.setCell h.lo1 _, h.ne, h.lo1, h.lo2⟩
theorem St.grown {w0 w w' : World} {bs bl : Nat} {left : Int} {row : Option Nat} (h : St w0 w bs bl left) (hg : w.grownBy w' row) (hr : ∀ k, row = some k → bs < k ∧ bl < k) : St w0 w' bs bl left := by
  obtain ⟨A, m, c, ls, k1, k2⟩ := h.str
  have h1 : some bs ≠ row := fun e => absurd (hr _ e.symm).1 (Nat.lt_irrefl _)
  have h2 : some bl ≠ row := fun e => absurd (hr _ e.symm).2 (Nat.lt_irrefl _)
  exact ⟨⟨A, m, c, ls, k1.grown hg h1, k2⟩, h.cnt.grown hg h2, h.bel.grown hg h.bel.size fun k e => by have := (hr k e).1; have := h.lo1; omega, h.ne, h.lo1, h.lo2⟩

/-- blocks other than the stream's and the count's are as they were -/
def Nx (bs bl : Nat) (b : Nat) : Prop := b ≠ bs ∧ b ≠ bl
def TreeP (w0 w : World) (bs bl : Nat) (g : Gr) (y : Sy) (left : Nat) (e : Ending) (w' : World) : Prop :=
  ∃ (v : TrV) (b : Bool) (l' : Int), e = .returned (.tuple #[trVal v, .bool b]) ∧ St w0 w' bs bl l' ∧ Agr (Nx bs bl) w w' ∧ w.heap.size ≤ w'.heap.size ∧
    ((b = true → ∃ (t : Tr), TreeR (fun b => w.heap.size ≤ b) w' v t ∧ Der g y t ∧ l' + t.size = left ∧ 0 ≤ l') ∧ (b = false → v = (0, 0, none, 0, 0)))

theorem TreeP.fin {w0 w wr : World} {bs bl : Nat} {g : Gr} {y : Sy} {left : Nat} {l : Int} (v : TrV) (b : Bool) (hs : St w0 wr bs bl l) (ha : Agr (Nx bs bl) w wr) (hz : w.heap.size + 3 ≤ wr.heap.size) (h1 : bs < w.heap.size) (h2 : bl < w.heap.size)
    (hv0 : b = false → v = (0, 0, none, 0, 0)) (ht : b = true → ∃ (t : Tr), TreeR (fun b => w.heap.size + 3 ≤ b) wr v t ∧ Der g y t ∧ l + t.size = left ∧ 0 ≤ l) :
    TreeP w0 w bs bl g y left (.returned (.tuple #[trVal v, .bool b])) (((wr.setCell ⟨w.heap.size + 1 + 1, 0, none⟩ (.int .i64 v.1)).setCell ⟨w.heap.size + 1 + 1, 1, none⟩ (.int .i64 v.2.1)).setCell ⟨w.heap.size + 1 + 1, 2, none⟩ (.slice v.2.2.1 v.2.2.2.1 v.2.2.2.2)) := by
  have hw := hs.bel.size
  have k1 := hs.lo1
  have k2 := hs.lo2
  have hag : ∀ ok : Nat → Prop, (∀ b, ok b → b ≠ w.heap.size + 1 + 1) → Agr ok wr (((wr.setCell ⟨w.heap.size + 1 + 1, 0, none⟩ (.int .i64 v.1)).setCell ⟨w.heap.size + 1 + 1, 1, none⟩ (.int .i64 v.2.1)).setCell ⟨w.heap.size + 1 + 1, 2, none⟩ (.slice v.2.2.1 v.2.2.2.1 v.2.2.2.2)) := fun ok hk =>
    ((Agr.setCell _ hk).trans (Agr.setCell _ hk)).trans (Agr.setCell _ hk)
  refine ⟨v, b, l, rfl, ?_, ?_, ?_, ?_, hv0⟩
  · exact ((hs.far (p := ⟨w.heap.size + 1 + 1, 0, none⟩) (by simp; omega) (by simp; omega) (by simp; omega) _).far (by simp; omega) (by simp; omega) (by simp; omega) _).far (by simp; omega) (by simp; omega) (by simp; omega) _
  · intro b hb hlt
    have e1 := ha b hb hlt
    have e2 := hag (fun b => b ≠ w.heap.size + 1 + 1) (fun _ h => h) b (by show b ≠ w.heap.size + 1 + 1; omega) (by omega)
    exact e2.trans e1
  · simp; omega
  · intro hb
    obtain ⟨t, t1, t2, t3⟩ := ht hb
    exact ⟨t, (t1.agr (hag _ fun b hb => by omega)).mono fun b _ hb => by omega, t2, t3⟩

/-- the rules that fit, behind k rounds -/
structure MineRel (w0 w : World) (bs bl : Nat) (g : Gr) (y : Sy) (l : Int) (k : Nat) (v : Value) (n : Nat) (xs : List Int) (gv : Array Value) (wr : World) : Prop where
  st : St w0 wr bs bl l
  agr : Agr (Nx bs bl) w wr
  own : OwnI wr (w.heap.size + 3) v n xs
  b0 : Blk wr w.heap.size 28 gv
  b1 : Blk wr (w.heap.size + 1) 48 #[.bool y.1, .int .i64 (y.2 : Int)]
  b2 : Blk wr (w.heap.size + 1 + 1) 36 #[.int .i64 0, .int .i64 0, .slice none 0 0]
  size : w.heap.size + 3 ≤ wr.heap.size
  le : n ≤ k
  mem : ∀ x ∈ xs, ∃ (i : Nat) (rhs : List Sy), x = (i : Int) ∧ g.rules[i]? = some (y.2, rhs)

theorem MineRel.via {w0 w wr wa : World} {bs bl : Nat} {g : Gr} {y : Sy} {l : Int} {k : Nat} {v : Value} {n : Nat} {xs : List Int} {gv : Array Value} (h : MineRel w0 w bs bl g y l k v n xs gv wr) (hb : Below wr.heap.size wr wa) : MineRel w0 w bs bl g y l k v n xs gv wa :=
  ⟨h.st.via hb, h.agr.trans (Agr.below hb), OwnI.keep h.own hb (Nat.le_refl _), h.b0.via hb, h.b1.via hb, h.b2.via hb, Nat.le_trans h.size hb.size, h.le, h.mem⟩
theorem MineRel.skip {w0 w wr : World} {bs bl : Nat} {g : Gr} {y : Sy} {l : Int} {k : Nat} {v : Value} {n : Nat} {xs : List Int} {gv : Array Value} (h : MineRel w0 w bs bl g y l k v n xs gv wr) : MineRel w0 w bs bl g y l (k + 1) v n xs gv wr :=
  ⟨h.st, h.agr, h.own, h.b0, h.b1, h.b2, h.size, by have := h.le; omega, h.mem⟩
theorem MineRel.push {w0 w wr w1 : World} {bs bl : Nat} {g : Gr} {y : Sy} {l : Int} {k : Nat} {v v' : Value} {n : Nat} {xs : List Int} {gv : Array Value} {rhs : List Sy} (h : MineRel w0 w bs bl g y l k v n xs gv wr) (hlb1 : bs < w.heap.size) (hlb2 : bl < w.heap.size)
    (ho : OwnI w1 (w.heap.size + 3) v' (n + 1) (xs ++ [(k : Int)])) (hg : wr.grownBy w1 v.ownBlock) (hr : g.rules[k]? = some (y.2, rhs)) : MineRel w0 w bs bl g y l (k + 1) v' (n + 1) (xs ++ [(k : Int)]) gv w1 := by
  have hne : ∀ j, j < w.heap.size + 3 → some j ≠ v.ownBlock := fun j hj e => by have := (h.own.lt j e.symm).1; omega
  refine ⟨h.st.grown hg fun j e => by have := (h.own.lt j e).1; omega, ?_, ho, h.b0.grown hg (hne _ (by omega)), h.b1.grown hg (hne _ (by omega)), h.b2.grown hg (hne _ (by omega)), Nat.le_trans h.size hg.size, by have := h.le; omega, ?_⟩
  · intro b hb hlt
    exact (hg.block b (by have := h.size; omega) (hne _ (by omega))).trans (h.agr b hb hlt)
  · intro x hx
    rcases List.mem_append.1 hx with hx | hx
    · exact h.mem x hx
    · exact ⟨k, rhs, List.mem_singleton.1 hx, hr⟩

/-- behind k kids -/
structure KidRel (w0 w : World) (bs bl : Nat) (g : Gr) (i : Nat) (rhs : List Sy) (bt : Nat) (gv : Array Value) (k : Nat) (v : Value) (ks : List Tr) (l : Int) (wr : World) : Prop where
  st : St w0 wr bs bl l
  agr : Agr (Nx bs bl) w wr
  own : Own TrE 36 (fun b => bt + 1 ≤ b) wr (bt + 1) v k ks
  b0 : Blk wr w.heap.size 28 gv
  b2 : Blk wr (w.heap.size + 1 + 1) 36 #[.int .i64 0, .int .i64 0, .slice none 0 0]
  b3 : Blk wr bt 36 #[.int .i64 (i : Int), .int .i64 0, v]
  size : bt + 1 ≤ wr.heap.size
  hbt : w.heap.size + 3 ≤ bt
  der : ∀ (j : Nat) (s : Sy) (t : Tr), rhs[j]? = some s → ks[j]? = some t → Der g s t

theorem KidRel.call {w0 w wr wa : World} {bs bl : Nat} {g : Gr} {i : Nat} {rhs : List Sy} {bt : Nat} {gv : Array Value} {k : Nat} {v : Value} {ks : List Tr} {l l' : Int} (h : KidRel w0 w bs bl g i rhs bt gv k v ks l wr) (hlb1 : bs < w.heap.size) (hlb2 : bl < w.heap.size)
    (ha : Agr (Nx bs bl) wr wa) (hz : wr.heap.size ≤ wa.heap.size) (hs : St w0 wa bs bl l') : KidRel w0 w bs bl g i rhs bt gv k v ks l' wa := by
  have hbt := h.hbt
  have hsz := h.size
  have hm : ∀ j, w.heap.size ≤ j → Nx bs bl j := fun j hj => ⟨by omega, by omega⟩
  refine ⟨hs, h.agr.trans ha, h.own.agr (ha.mono fun j hj => ?_), (ha _ (hm _ (by omega)) (by omega)).trans h.b0, (ha _ (hm _ (by omega)) (by omega)).trans h.b2, (ha _ (hm _ (by omega)) (by omega)).trans h.b3, Nat.le_trans h.size hz, hbt, h.der⟩
  rcases hj with hj | hj
  · exact hm j (by omega)
  · have := (h.own.lt j hj.symm).1; exact hm j (by omega)
theorem KidRel.al {w0 w wr : World} {bs bl : Nat} {g : Gr} {i : Nat} {rhs : List Sy} {bt : Nat} {gv : Array Value} {k : Nat} {v : Value} {ks : List Tr} {l : Int} (h : KidRel w0 w bs bl g i rhs bt gv k v ks l wr) (hlb1 : bs < w.heap.size) (hlb2 : bl < w.heap.size) (o : Obj) : KidRel w0 w bs bl g i rhs bt gv k v ks l (wr.alloc o) :=
  h.call hlb1 hlb2 (Agr.below ((Below.refl wr.heap.size wr).alloc (Nat.le_refl _) o)) (by simp) (h.st.al o)
theorem KidRel.push {w0 w wr w1 : World} {bs bl : Nat} {g : Gr} {i : Nat} {rhs : List Sy} {bt : Nat} {gv : Array Value} {k : Nat} {v v' : Value} {ks : List Tr} {l : Int} {s : Sy} {t : Tr} (h : KidRel w0 w bs bl g i rhs bt gv k v ks l wr) (hlb1 : bs < w.heap.size) (hlb2 : bl < w.heap.size)
    (ho : Own TrE 36 (fun b => bt + 1 ≤ b) w1 (bt + 1) v' (k + 1) (ks ++ [t])) (hg : wr.grownBy w1 v.ownBlock) (hs : rhs[k]? = some s) (hd : Der g s t) :
    KidRel w0 w bs bl g i rhs bt gv (k + 1) v' (ks ++ [t]) l (w1.setCell ⟨bt, 2, none⟩ v') := by
  have hbt := h.hbt
  have hsz := h.size
  have hw0 := h.st.lo1
  have hne : ∀ j, j ≤ bt → some j ≠ v.ownBlock := fun j hj e => by have := (h.own.lt j e.symm).1; omega
  refine ⟨(h.st.grown hg fun j e => by have := (h.own.lt j e).1; omega).far (by simp; omega) (by simp; omega) (by simp; omega) _, ?_, ?_, (h.b0.grown hg (hne _ (by omega))).far (by simp; omega) _, (h.b2.grown hg (hne _ (by omega))).far (by simp; omega) _, ?_, ?_, hbt, ?_⟩
  · intro b hb hlt
    have e1 := h.agr b hb hlt
    have e2 := hg.block b (by omega) (hne _ (by omega))
    have e3 := Below.heap_setCell w1 ⟨bt, 2, none⟩ v' b (by simp; omega)
    exact e3.trans (e2.trans e1)
  · exact ho.setCell _ (fun b hb => by show b ≠ bt; omega) (by show bt < _; omega)
  · have := (h.b3.grown hg (hne _ (by omega))).set_ 2 v'; simpa using this
  · have := hg.size; simp; omega
  · intro j s' t' hj1 hj2
    have hl := h.own.len
    rcases Nat.lt_or_ge j k with hjk | hjk
    · rw [List.getElem?_append_left (by omega)] at hj2
      exact h.der j s' t' hj1 hj2
    · rw [List.getElem?_append_right (by omega)] at hj2
      have e1 : j = k := by
        have := (List.getElem?_eq_some_iff.1 hj2).1
        simp at this; omega
      subst e1
      rw [hs] at hj1
      cases hj1
      rw [show j - ks.length = 0 by omega] at hj2
      simp at hj2
      subst hj2
      exact hd

set_option maxRecDepth 100000 in
set_option maxHeartbeats 4000000 in
theorem tree_n (w0 : World) (bs bl : Nat) (ok : Nat → Prop) (hok : ∀ b, ok b → Nx bs bl b) (g : Gr) (Ag : Option Addr) (ng cg : Nat) (hng : g.rules.length ≤ 1000) (hrl : ∀ r ∈ g.rules, r.2.length ≤ 1000) (d : Nat) : ∀ (w : World) (y : Sy) (left : Nat), left ≤ 1000 → d ≤ 1000 → Sl RuE ok w Ag ng cg g.rules → St w0 w bs bl left →
    Calls Try.prog 34 #[grVal g Ag ng cg, .agg #[.bool y.1, .int .i64 (y.2 : Int)], .pointer (some ⟨bs, 0, none⟩), .pointer (some ⟨bl, 0, none⟩), .int .i64 ((d : Int) - 1)] w (TreeP w0 w bs bl g y left) := by
  induction d using Nat.strongRecOn with
  | ind d ih =>
    intro w y left hl hd hg hs
    have hlen := hg.len
    have B0 := ((Blk.new w 28 #[.int .i64 (g.terms : Int), .int .i64 (g.nons : Int), .int .i64 (g.start : Int), .slice Ag ng cg]).al (.cells #[.bool y.1, .int .i64 (y.2 : Int)] 48)).al (.cells #[.int .i64 0, .int .i64 0, .slice none 0 0] 36)
    have B1 := (Blk.new (w.alloc (.cells #[.int .i64 (g.terms : Int), .int .i64 (g.nons : Int), .int .i64 (g.start : Int), .slice Ag ng cg] 28)) 48 #[.bool y.1, .int .i64 (y.2 : Int)]).al (.cells #[.int .i64 0, .int .i64 0, .slice none 0 0] 36)
    have B2 := (Blk.new ((w.alloc (.cells #[.int .i64 (g.terms : Int), .int .i64 (g.nons : Int), .int .i64 (g.start : Int), .slice Ag ng cg] 28)).alloc (.cells #[.bool y.1, .int .i64 (y.2 : Int)] 48)) 36 #[.int .i64 0, .int .i64 0, .slice none 0 0])
    simp only [World.size_alloc] at B1 B2
    have hs1 := ((hs.al (.cells #[.int .i64 (g.terms : Int), .int .i64 (g.nons : Int), .int .i64 (g.start : Int), .slice Ag ng cg] 28)).al (.cells #[.bool y.1, .int .i64 (y.2 : Int)] 48)).al (.cells #[.int .i64 0, .int .i64 0, .slice none 0 0] 36)
    have hB := ((((Below.refl w.heap.size w).al (.cells #[.int .i64 (g.terms : Int), .int .i64 (g.nons : Int), .int .i64 (g.start : Int), .slice Ag ng cg] 28)).al (.cells #[.bool y.1, .int .i64 (y.2 : Int)] 48)).al (.cells #[.int .i64 0, .int .i64 0, .slice none 0 0] 36))
    have hsz : (((w.alloc (.cells #[.int .i64 (g.terms : Int), .int .i64 (g.nons : Int), .int .i64 (g.start : Int), .slice Ag ng cg] 28)).alloc (.cells #[.bool y.1, .int .i64 (y.2 : Int)] 48)).alloc (.cells #[.int .i64 0, .int .i64 0, .slice none 0 0] 36)).heap.size = w.heap.size + 3 := by simp
    have hlb1 := hs.lt1
    have hlb2 := hs.cnt.lt
    clear hs
    simp only [grVal]
    have HG := Lib.hid hg
    clear hg
    go_enter Try.func34, Try.ntmps34
    go_upto_region 1 with fail
    generalize (((w.alloc (.cells #[.int .i64 (g.terms : Int), .int .i64 (g.nons : Int), .int .i64 (g.start : Int), .slice Ag ng cg] 28)).alloc (.cells #[.bool y.1, .int .i64 (y.2 : Int)] 48)).alloc (.cells #[.int .i64 0, .int .i64 0, .slice none 0 0] 36)) = W at *
    have Bc := hs1.cnt
    have cBc := Bc.cell
    have fBc := Bc.frozen
    have lBc := Bc.lt
    go_upto_region 2 with fail
    clear cBc fBc lBc
    have hle1 := hs1.lo2
    have hle0 := hs1.bel.size
    replace B0 := B0.far (p := ⟨bl, 0, none⟩) (by simp; omega) (.int .i64 ((left : Int) - 1))
    replace B1 := B1.far (p := ⟨bl, 0, none⟩) (by simp; omega) (.int .i64 ((left : Int) - 1))
    replace B2 := B2.far (p := ⟨bl, 0, none⟩) (by simp; omega) (.int .i64 ((left : Int) - 1))
    replace hs1 := hs1.left ((left : Int) - 1)
    have ha : Agr (Nx bs bl) w (W.setCell ⟨bl, 0, none⟩ (.int .i64 ((left : Int) - 1))) := (Agr.below hB).trans (Agr.setCell _ fun b hb => hb.2)
    replace hsz : (W.setCell ⟨bl, 0, none⟩ (.int .i64 ((left : Int) - 1))).heap.size = w.heap.size + 3 := by simp [hsz]
    generalize W.setCell ⟨bl, 0, none⟩ (.int .i64 ((left : Int) - 1)) = W1 at *
    clear hB Bc
    have Bc := hs1.cnt
    by_cases hl0 : left = 0
    · have hlt : decide ((left : Int) - 1 < 0) = true := by simp; omega
      have cBc := Bc.cell
      have fBc := Bc.frozen
      have lBc := Bc.lt
      have cB2 := B2.cell
      have fB2 := B2.frozen
      have lB2 := B2.lt
      go_wp2_with fail
      refine bodyPost_ret (v := .tuple #[trVal (0, 0, none, 0, 0), .bool false]) (by simp [results, Try.results34, go_sem, trVal, cB2]) rfl ?_
      exact TreeP.fin (0, 0, none, 0, 0) false hs1 ha (by omega) hlb1 hlb2 (fun _ => rfl) (by simp)
    · have hlt : decide ((left : Int) - 1 < 0) = false := by simp; omega
      by_cases hd0 : d = 0
      · have hdt : decide ((d : Int) - 1 < 0) = true := by simp; omega
        have cBc := Bc.cell
        have fBc := Bc.frozen
        have lBc := Bc.lt
        have cB2 := B2.cell
        have fB2 := B2.frozen
        have lB2 := B2.lt
        go_wp2_with fail
        refine bodyPost_ret (v := .tuple #[trVal (0, 0, none, 0, 0), .bool false]) (by simp [results, Try.results34, go_sem, trVal, cB2]) rfl ?_
        exact TreeP.fin (0, 0, none, 0, 0) false hs1 ha (by omega) hlb1 hlb2 (fun _ => rfl) (by simp)
      · have hdt : decide ((d : Int) - 1 < 0) = false := by simp; omega
        obtain ⟨y1, y2⟩ := y
        simp only at B1
        cases y1 with
        | true =>
          have cBc := Bc.cell
          have fBc := Bc.frozen
          have lBc := Bc.lt
          have cB1 := B1.cell
          have fB1 := B1.frozen
          have lB1 := B1.lt
          have cB2 := B2.cell
          have fB2 := B2.frozen
          have lB2 := B2.lt
          go_wp2_with fail
          refine bodyPost_ret (v := .tuple #[trVal (-1, (y2 : Int), none, 0, 0), .bool true]) (by simp [results, Try.results34, go_sem, trVal, cB2]) rfl ?_
          exact TreeP.fin (-1, (y2 : Int), none, 0, 0) true hs1 ha (by omega) hlb1 hlb2 (fun h => by cases h) fun _ => ⟨.leaf y2, .leaf y2 none 0, .leaf y2, by simp [Tr.size], by omega⟩
        | false =>
          have cBc := Bc.cell
          have fBc := Bc.frozen
          have lBc := Bc.lt
          have cB0 := B0.cell
          have fB0 := B0.frozen
          have lB0 := B0.lt
          have cB1 := B1.cell
          have fB1 := B1.frozen
          have lB1 := B1.lt
          have cB2 := B2.cell
          have fB2 := B2.frozen
          have lB2 := B2.lt
          go_wp2_with fail
          clear cBc fBc lBc cB0 fB0 lB0 cB1 fB1 lB1 cB2 fB2 lB2
          go_loopw [12, 42] (fun v i wr => ∃ (k n : Nat) (xs : List Int), i = .int .i64 k ∧ k ≤ ng ∧ MineRel w0 w bs bl g (false, y2) ((left : Int) - 1) k v n xs #[.int .i64 (g.terms : Int), .int .i64 (g.nons : Int), .int .i64 (g.start : Int), .slice Ag ng cg] wr) (fun _ i _ => ng - (intOf i).toNat)
          case atStart => exact ⟨0, 0, [], rfl, Nat.zero_le _, hs1, ha, OwnI.nil _ _, B0, B1, B2, by omega, Nat.le_refl _, fun x hx => by cases hx⟩
          case round =>
            obtain ⟨k, n, xs, rfl, hk, hr⟩ := hrel
            clear hs1 ha B0 B1 B2 Bc hsz
            obtain ⟨Av, cv, rfl, -⟩ := hr.own.form
            by_cases hkl : k < ng
            · obtain ⟨b, off, raw, x, rfl, hob, hb, hx, ⟨hx1, hx2⟩, hc⟩ := HG.out.at_ hkl
              obtain ⟨rl, Ax, nx, cx⟩ := raw
              obtain ⟨x1, x2⟩ := x
              simp only at hx1 hx2
              subst hx1
              have c0 := hr.agr.cell (hok b hob) (hc 0 _ rfl)
              have c1 := hr.agr.cell (hok b hob) (hc 1 _ rfl)
              simp only [RuE, Nat.add_zero] at c0 c1
              have i0 : (0 : Int) ≤ (k : Int) := by omega
              have i1 : (k : Int) < (ng : Int) := by omega
              have hnk := hr.le
              have hszr := hr.size
              have HR := Lib.hid (hr.via ((Below.refl wr.heap.size wr).alloc (Nat.le_refl _) (.cells #[.int .i64 (rl : Int), .slice Ax nx cx] 75)))
              have HX := Lib.hid hx
              have B1 := hr.b1
              clear hc hx hx2 hr hob hb
              by_cases e : rl = y2
              · subst e
                have cB1 := B1.cell
                have fB1 := B1.frozen
                have lB1 := B1.lt
                go_wp2_with (at_builtin; refine wpList_append_ints _ rfl (.tmp 52) (.tmp 54) rfl (w.heap.size + 3) (.slice Av n cv) n xs rfl (HR.out.own.alloc _) (some ⟨wr.heap.size + 1, 0, none⟩) 1 1 [(k : Int)] rfl (by have := Ints.one (wr.alloc (.cells #[.int .i64 (rl : Int), .slice Ax nx cx] 75)) (k : Int) 3; rw [World.size_alloc] at this; exact this) (by omega) (by simp; omega) ?_; intro Av1 cv1 w1 ho1 hg1 hat1)
                go_roundw
                case rel => exact ⟨k + 1, n + 1, xs ++ [(k : Int)], by go_num, by omega, (HR.out.via ((Below.refl _ _).alloc (Nat.le_refl _) _)).push hlb1 hlb2 ho1 hg1 HX.out⟩
                case measure => simp [intOf]; omega
              · have e1 : ((rl : Int) == (y2 : Int)) = false := by rw [beq_eq_false_iff_ne]; omega
                clear e
                have cB1 := B1.cell
                have fB1 := B1.frozen
                have lB1 := B1.lt
                go_wp2_with fail
                exact ⟨⟨k + 1, n, xs, by go_num, by omega, HR.out.skip⟩, by simp [intOf]; omega⟩
            · have hnk := hr.le
              have B2 := hr.b2
              have hszr := hr.size
              by_cases hn0 : n = 0
              · subst hn0
                have HR := Lib.hid hr
                clear hr
                have cB2 := B2.cell
                have fB2 := B2.frozen
                have lB2 := B2.lt
                go_wp2_with fail
                refine bodyPost_ret (v := .tuple #[trVal (0, 0, none, 0, 0), .bool false]) (by simp [results, Try.results34, go_sem, trVal, cB2]) rfl ?_
                exact TreeP.fin (0, 0, none, 0, 0) false HR.out.st HR.out.agr (by omega) hlb1 hlb2 (fun _ => rfl) (by simp)
              · have en : ((n : Int) == 0) = false := by simp; omega
                obtain ⟨As, ms, cs, lss, Bs, hIs⟩ := hr.st.str
                have hbel := hr.st.bel
                have HR := Lib.hid hr
                clear hr
                go_wp2_with fail
                refine (snext_n w0 wr bs n _ rfl As ms cs lss hIs hbel (Bs.cell 0) (Bs.frozen 0) (by omega) (by omega)).mono ?_
                rintro e w' ⟨p, A2, m2, c2, l2, rfl, hp, hm2, rfl, hI2⟩
                have hs2 := HR.out.st.next hI2
                have ha2 : Agr (Nx bs bl) w (wr.setCell ⟨bs, 0, none⟩ (.slice A2 m2 c2)) := HR.out.agr.trans (Agr.setCell _ fun b hb => hb.1)
                have B0 := HR.out.b0.far (p := ⟨bs, 0, none⟩) (by simp; omega) (.slice A2 m2 c2)
                replace B2 := B2.far (p := ⟨bs, 0, none⟩) (by simp; omega) (.slice A2 m2 c2)
                obtain ⟨bm, om, rfl, hbm, hxm⟩ := HR.out.own.toInts.at_ hp
                have hbm3 := (HR.out.own.block _ rfl).1
                have xm := (World.cell?_of_block (w := wr) (a := ⟨bm, om + p, none⟩) (Below.heap_setCell wr ⟨bs, 0, none⟩ (.slice A2 m2 c2) bm (by simp at hbm3 ⊢; omega))).trans hxm
                have hpx : p < xs.length := by rw [HR.out.own.toInts.len]; exact hp
                obtain ⟨i, rhs, hi1, hi2⟩ := HR.out.mem (xs.getD p 0) (by rw [List.getD_eq_getElem?_getD, List.getElem?_eq_getElem hpx]; exact List.getElem_mem hpx)
                rw [hi1] at xm
                have hin : i < ng := by rw [← hlen]; exact (List.getElem?_eq_some_iff.1 hi2).1
                obtain ⟨b, off, raw, x, rfl, hob, hb, hx, ⟨hx1, hx2⟩, hc⟩ := HG.out.at_ hin
                rw [hi2] at hx
                cases hx
                obtain ⟨rl, Ax, nx, cx⟩ := raw
                simp only at hx1 hx2
                subst hx1
                have c1 := ha2.cell (hok b hob) (hc 1 _ rfl)
                simp only [RuE] at c1
                replace hszr : w.heap.size + 3 ≤ (wr.setCell ⟨bs, 0, none⟩ (.slice A2 m2 c2)).heap.size := by simpa using hszr
                have hbm4 : bm < (wr.setCell ⟨bs, 0, none⟩ (.slice A2 m2 c2)).heap.size := by simpa using hbm
                have i0 : (0 : Int) ≤ (i : Int) := by omega
                have i1 : (i : Int) < (ng : Int) := by omega
                have p0 : (0 : Int) ≤ (p : Int) := by omega
                have p1 : (p : Int) < (n : Int) := by omega
                have hb2 : b < (wr.setCell ⟨bs, 0, none⟩ (.slice A2 m2 c2)).heap.size := by omega
                have hnx : nx ≤ 1000 := by rw [← hx2.len]; exact hrl _ (List.mem_of_getElem? hi2)
                have HX := Lib.hid hx2
                have HI := Lib.hid hi2
                generalize wr.setCell ⟨bs, 0, none⟩ (.slice A2 m2 c2) = Wn at *
                clear HR hx2 hi2 hc hI2 hIs hbel Bs hxm hi1 hpx
                have cB0 := B0.cell
                have fB0 := B0.frozen
                have lB0 := B0.lt
                have cB2 := B2.cell
                have fB2 := B2.frozen
                have lB2 := B2.lt
                go_wp2_with fail
                clear cB0 fB0 lB0 cB2 fB2 lB2
                go_loopw [77] (fun i' wr => ∃ (k : Nat) (v : Value) (ks : List Tr) (l : Nat), i' = .int .i64 k ∧ k ≤ nx ∧ (l : Int) + Tr.sizes ks + 1 = left ∧ KidRel w0 w bs bl g i rhs Wn.heap.size #[.int .i64 (g.terms : Int), .int .i64 (g.nons : Int), .int .i64 (g.start : Int), .slice (some ⟨b, off, none⟩) ng cg] k v ks l wr) (fun i' _ => nx - (intOf i').toNat)
                case atStart =>
                  refine ⟨0, _, [], left - 1, rfl, Nat.zero_le _, by simp [Tr.sizes]; omega, ?_, ha2.trans (Agr.below ((Below.refl _ _).alloc (Nat.le_refl _) _)), Own.nil _ _, B0.al _, B2.al _, Blk.new _ _ _, by simp, hszr, fun j s t _ h => by simp at h⟩
                  rw [show ((left - 1 : Nat) : Int) = (left : Int) - 1 by omega]
                  exact hs2.al _
                case round =>
                  obtain ⟨k3, v, ks, l, rfl, hk3, hsum, hr⟩ := hrel
                  obtain ⟨Av, cv, rfl, -⟩ := hr.own.form
                  clear xm B0 B2 c1 hs2 ha2
                  by_cases hkl3 : k3 < nx
                  · obtain ⟨b1, o1, s1, s2, rfl, hob1, hb1, hs1, hs2, hc1⟩ := HX.out.at_ hkl3
                    have hs12 : s1 = s2 := hs2
                    subst hs12
                    have d0 := hr.agr.cell (hok b1 hob1) (hc1 0 _ rfl)
                    have d1 := hr.agr.cell (hok b1 hob1) (hc1 1 _ rfl)
                    obtain ⟨sb, sn⟩ := s1
                    simp only [SyE, Nat.add_zero] at d0 d1
                    have j0 : (0 : Int) ≤ (k3 : Int) := by omega
                    have j1 : (k3 : Int) < (nx : Int) := by omega
                    have B0 := hr.b0
                    have hszk := hr.size
                    have HK := Lib.hid (hr.al hlb1 hlb2 (.cells #[.bool sb, .int .i64 (sn : Int)] 48))
                    have HS := Lib.hid hs1
                    clear hr hc1 hs1 hs2
                    have cB0 := B0.cell
                    have fB0 := B0.frozen
                    have lB0 := B0.lt
                    go_wp2_with fail
                    clear cB0 fB0 lB0
                    clear d0 d1 B0
                    rw [show (d : Int) - 1 - 1 = ((d - 1 : Nat) : Int) - 1 by omega]
                    refine (ih (d - 1) (by omega) _ (sb, sn) l (by omega) (by omega) (HG.out.agr (HK.out.agr.mono hok)) HK.out.st).mono ?_
                    rintro e w' ⟨v2, b2, l', rfl, hs3, ha3, hz3, ht3, -⟩
                    rw [World.size_alloc] at hz3
                    have hK2 := HK.out.call hlb1 hlb2 ha3 (by rw [World.size_alloc]; exact hz3) hs3
                    have hszk2 := hK2.size
                    obtain ⟨va, vb, vA, vn, vc⟩ := v2
                    have hK3 := hK2.al hlb1 hlb2 (.cells #[.int .i64 va, .int .i64 vb, .slice vA vn vc] 36)
                    have HT3 := Lib.hid ht3
                    clear ht3 hs3 ha3
                    dsimp only [trVal]
                    cases b2 with
                    | false =>
                      have HK3 := Lib.hid hK3
                      have B2 := hK3.b2
                      clear hK2 hK3
                      have cB2 := B2.cell
                      have fB2 := B2.frozen
                      have lB2 := B2.lt
                      go_wp2_with fail
                      refine bodyPost_ret (v := .tuple #[trVal (0, 0, none, 0, 0), .bool false]) (by simp [results, Try.results34, go_sem, trVal, cB2]) rfl ?_
                      exact TreeP.fin (0, 0, none, 0, 0) false HK3.out.st HK3.out.agr (by have := HK3.out.size; have := HK3.out.hbt; omega) hlb1 hlb2 (fun _ => rfl) (by simp)
                    | true =>
                      obtain ⟨t3, hT3, hD3, hsum3, hl3⟩ := HT3.out rfl
                      obtain ⟨l3, rfl⟩ := Int.eq_ofNat_of_zero_le hl3
                      have hn3 : k3 + 1 ≤ 1000000 := by omega
                      have hT4 := (hT3.al (.cells #[.int .i64 va, .int .i64 vb, .slice vA vn vc] 36)).al (.cells #[.int .i64 va, .int .i64 vb, .slice vA vn vc] 36)
                      have hK4 := hK3.al hlb1 hlb2 (.cells #[.int .i64 va, .int .i64 vb, .slice vA vn vc] 36)
                      have hT5 := hT4.mono (ok' := fun b => (Wn.heap.size + 1 ≤ b) ∧ some b ≠ Value.ownBlock (.slice Av k3 cv)) fun b _ hb => by
                        rw [World.size_alloc] at hb
                        refine ⟨by omega, fun e => ?_⟩
                        have := (HK.out.own.lt b e.symm).2
                        rw [World.size_alloc] at this
                        exact absurd (Nat.lt_of_lt_of_le this hb) (Nat.lt_irrefl _)
                      have HT5 := Lib.hid hT5
                      have HK4 := Lib.hid hK4
                      have HD3 := Lib.hid hD3
                      have B3 := hK3.b3
                      have Bk := Blk.new w' 36 #[.int .i64 va, .int .i64 vb, .slice vA vn vc]
                      clear hT3 hT4 hT5 hK2 hK3 hK4 hD3 HT3
                      have cB3 := B3.cell
                      have fB3 := B3.frozen
                      have lB3 := B3.lt
                      go_wp2_with (at_builtin; refine wpList_append_tr _ rfl (.tmp 95) (.tmp 97) rfl (fun b => Wn.heap.size + 1 ≤ b) (Wn.heap.size + 1) (.slice Av k3 cv) k3 ks rfl HK4.out.own (w'.heap.size + 1) (va, vb, vA, vn, vc) t3 rfl (by have := Blk.new (w'.alloc (.cells #[.int .i64 va, .int .i64 vb, .slice vA vn vc] 36)) 36 #[.int .i64 va, .int .i64 vb, .slice vA vn vc]; rw [World.size_alloc] at this; exact this) HT5.out hn3 HK4.out.size ?_; intro Av1 cv1 w1 ho1 hg1 hat1; have B3g := HK4.out.b3.grown hg1 (fun e => by have := (HK4.out.own.lt _ e.symm).1; omega); have c3g := B3g.cell; have f3g := B3g.frozen)
                      exact ⟨⟨k3 + 1, _, ks ++ [t3], l3, by go_num, by omega, by rw [Tr.sizes_append]; simp [Tr.sizes]; omega, HK4.out.push hlb1 hlb2 ho1 hg1 HS.out HD3.out⟩, by simp [intOf]; omega⟩
                  · have HKE := Lib.hid (show k3 = nx by omega)
                    have B2 := hr.b2
                    have B3 := hr.b3
                    have HK := Lib.hid hr
                    clear hr
                    have cB2 := B2.cell
                    have fB2 := B2.frozen
                    have lB2 := B2.lt
                    have cB3 := B3.cell
                    have fB3 := B3.frozen
                    have lB3 := B3.lt
                    go_wp2_with fail
                    refine bodyPost_ret (v := .tuple #[trVal ((i : Int), 0, Av, k3, cv), .bool true]) (by simp [results, Try.results34, go_sem, trVal, cB2]) rfl ?_
                    refine TreeP.fin ((i : Int), 0, Av, k3, cv) true HK.out.st HK.out.agr (by have := HK.out.size; have := HK.out.hbt; omega) hlb1 hlb2 (fun h => by cases h) fun _ => ⟨.node i ks, ?_, ?_, ?_, by omega⟩
                    · have hs := HK.out.own.toSl (ok' := fun b => w.heap.size + 3 ≤ b) (fun b _ hb => by omega) (fun b hb => by omega)
                      exact TreeR.mk i hs
                    · exact .node i rl rhs ks HI.out (by rw [HK.out.own.len, HX.out.len, HKE.out]) HK.out.der
                    · simp only [Tr.size]; omega

theorem TreeR.set3 {ok : Nat → Prop} {w : World} {v : TrV} {t : Tr} (h : TreeR ok w v t) {r : Nat} (hk : ∀ b, ok b → b ≠ r) (x y z : Value) : TreeR ok (((w.setCell ⟨r, 0, none⟩ x).setCell ⟨r, 1, none⟩ y).setCell ⟨r, 2, none⟩ z) v t :=
  h.agr (((Agr.setCell _ hk).trans (Agr.setCell _ hk)).trans (Agr.setCell _ hk))
theorem below_set3 {B : Nat} {w0 w : World} (h : Below B w0 w) {r : Nat} (hr : B ≤ r) (x y z : Value) : Below B w0 (((w.setCell ⟨r, 0, none⟩ x).setCell ⟨r, 1, none⟩ y).setCell ⟨r, 2, none⟩ z) :=
  ((h.setCell hr _).setCell hr _).setCell hr _

/-! ### Tree -/
def MakeZ (w : World) (g : Gr) (e : Ending) (w' : World) : Prop :=
  ∃ (v : TrV) (b : Bool), e = .returned (.tuple #[trVal v, .bool b]) ∧ Below w.heap.size w w' ∧ ((b = true → ∃ t, TreeR (fun b => w.heap.size ≤ b) w' v t ∧ Der g (false, g.start) t ∧ t.size ≤ 60) ∧ (b = false → v = (0, 0, none, 0, 0)))
def MakeP (w : World) (g : Gr) (e : Ending) (w' : World) : Prop :=
  ∃ (v : TrV) (b : Bool), e = .returned (.tuple #[trVal v, .bool b]) ∧ Below w.heap.size w w' ∧ (b = true → ∃ t, TreeR (fun b => w.heap.size ≤ b) w' v t ∧ Der g (false, g.start) t ∧ t.size ≤ 60)

set_option maxRecDepth 100000 in
set_option maxHeartbeats 4000000 in
theorem make_z (ok : Nat → Prop) (g : Gr) (Ag : Option Addr) (ng cg : Nat) (hng : g.rules.length ≤ 1000) (hrl : ∀ r ∈ g.rules, r.2.length ≤ 1000) (A : Option Addr) (m c : Nat) (ls : List Int) (w : World) (hg : Sl RuE ok w Ag ng cg g.rules) (hI : Ints w A m c ls) :
    Calls Try.prog 11 #[grVal g Ag ng cg, .slice A m c] w (MakeZ w g) := by
  simp only [grVal]
  have B0 := ((((Blk.new w 28 #[.int .i64 (g.terms : Int), .int .i64 (g.nons : Int), .int .i64 (g.start : Int), .slice Ag ng cg]).al (.cells #[.int .i64 0, .int .i64 0, .slice none 0 0] 36)).al (.cells #[.int .i64 60] 3)).al (.cells #[.slice A m c] 83))
  have B1 := ((Blk.new (w.alloc (.cells #[.int .i64 (g.terms : Int), .int .i64 (g.nons : Int), .int .i64 (g.start : Int), .slice Ag ng cg] 28)) 36 #[.int .i64 0, .int .i64 0, .slice none 0 0]).al (.cells #[.int .i64 60] 3)).al (.cells #[.slice A m c] 83)
  have B2 := (Blk.new ((w.alloc (.cells #[.int .i64 (g.terms : Int), .int .i64 (g.nons : Int), .int .i64 (g.start : Int), .slice Ag ng cg] 28)).alloc (.cells #[.int .i64 0, .int .i64 0, .slice none 0 0] 36)) 3 #[.int .i64 60]).al (.cells #[.slice A m c] 83)
  have B3 := Blk.new (((w.alloc (.cells #[.int .i64 (g.terms : Int), .int .i64 (g.nons : Int), .int .i64 (g.start : Int), .slice Ag ng cg] 28)).alloc (.cells #[.int .i64 0, .int .i64 0, .slice none 0 0] 36)).alloc (.cells #[.int .i64 60] 3)) 83 #[.slice A m c]
  have hB := ((((Below.refl w.heap.size w).al (.cells #[.int .i64 (g.terms : Int), .int .i64 (g.nons : Int), .int .i64 (g.start : Int), .slice Ag ng cg] 28)).al (.cells #[.int .i64 0, .int .i64 0, .slice none 0 0] 36)).al (.cells #[.int .i64 60] 3)).al (.cells #[.slice A m c] 83)
  have hsz : ((((w.alloc (.cells #[.int .i64 (g.terms : Int), .int .i64 (g.nons : Int), .int .i64 (g.start : Int), .slice Ag ng cg] 28)).alloc (.cells #[.int .i64 0, .int .i64 0, .slice none 0 0] 36)).alloc (.cells #[.int .i64 60] 3)).alloc (.cells #[.slice A m c] 83)).heap.size = w.heap.size + 4 := by simp
  simp only [World.size_alloc] at B1 B2 B3
  have hg1 := (hg.mono (ok' := fun b => b < w.heap.size) fun b hb _ => hb).agr (Agr.below hB)
  have HI := Lib.hid hI
  clear hg hI
  go_enter Try.func11, Try.ntmps11
  go_wp2_with fail
  generalize (((w.alloc (.cells #[.int .i64 (g.terms : Int), .int .i64 (g.nons : Int), .int .i64 (g.start : Int), .slice Ag ng cg] 28)).alloc (.cells #[.int .i64 0, .int .i64 0, .slice none 0 0] 36)).alloc (.cells #[.int .i64 60] 3)).alloc (.cells #[.slice A m c] 83) = W at *
  refine (tree_n w (w.heap.size + 1 + 1 + 1) (w.heap.size + 1 + 1) (fun b => b < w.heap.size) (fun b hb => ⟨by omega, by omega⟩) g Ag ng cg hng hrl 13 W (false, g.start) 60 (by omega) (by omega) hg1 ⟨⟨A, m, c, ls, B3, HI.out⟩, B2, hB, by omega, by omega, by omega⟩).mono ?_
  rintro e w' ⟨v, b, l', rfl, hs, ha, hz, ht, ht0⟩
  have HT := Lib.hid ht
  have HT0 := Lib.hid ht0
  have HS := Lib.hid hs
  have HA := Lib.hid ha
  have B1' : Blk w' (w.heap.size + 1) 36 #[.int .i64 0, .int .i64 0, .slice none 0 0] := (ha (w.heap.size + 1) ⟨by omega, by omega⟩ (by omega)).trans B1
  clear hs ha ht ht0 B0 B1 B2 B3 hg1
  obtain ⟨va, vb, vA, vn, vc⟩ := v
  dsimp only [trVal]
  have B1 := B1'
  clear B1'
  have cB1 := B1.cell
  have fB1 := B1.frozen
  have lB1 := B1.lt
  go_wp2_with fail
  refine bodyPost_ret (v := .tuple #[trVal (va, vb, vA, vn, vc), .bool b]) (by simp [results, Try.results11, go_sem, trVal, cB1]) rfl ⟨_, b, rfl, ?_, ?_, HT0.out⟩
  · exact below_set3 HS.out.bel (by omega) _ _ _
  · intro hb
    obtain ⟨t, h1, h2, h3, h4⟩ := HT.out hb
    exact ⟨t, (h1.set3 (fun b hb => by omega) _ _ _).mono (fun b _ hb => by omega), h2, by omega⟩
theorem make_c (ok : Nat → Prop) (g : Gr) (Ag : Option Addr) (ng cg : Nat) (hng : g.rules.length ≤ 1000) (hrl : ∀ r ∈ g.rules, r.2.length ≤ 1000) (A : Option Addr) (m c : Nat) (ls : List Int) (w : World) (hg : Sl RuE ok w Ag ng cg g.rules) (hI : Ints w A m c ls) :
    Calls Try.prog 11 #[grVal g Ag ng cg, .slice A m c] w (MakeP w g) :=
  (make_z ok g Ag ng cg hng hrl A m c ls w hg hI).mono fun _ _ ⟨v, b, h1, h2, h3, _⟩ => ⟨v, b, h1, h2, h3⟩
end Go.Proofs.Ytghnkgbingcbcaa
