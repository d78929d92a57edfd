/- Texts ZD, ZE, ZF, ZG, ZH, ZI, laid together. -/
import Derived.Test.YtdmecijpioljaaaP1
import Derived.Test.YtdmecijpioljaaaC4



namespace Go.Proofs.Ytdmecijpioljaaa
open Go.RowKit

/-! ### ints as elements; ways: cost, size, word, or none -/
def IntE : Elem Int Int where
  k := 1
  cells s := [.int .i64 s]
  rel _ _ r x := r = x
  pos := by omega
  len _ := rfl
  one r u hu := by simp at hu; subst hu; rfl
  agr h _ := h
  mono h _ := h
theorem Sl.ints {ok : Nat → Prop} {w : World} {A : Option Addr} {n c : Nat} {xs : List Int} (h : Sl IntE ok w A n c xs) : Ints w A n c xs := by
  refine ⟨h.len, h.le, fun hn => ?_⟩
  obtain ⟨b, off, r, x, e, -⟩ := h.at_ hn
  refine ⟨b, off, e, fun i hi => ?_⟩
  obtain ⟨b', off', r', x', e', _, _, hx, hr, hc⟩ := h.at_ hi
  rw [e] at e'
  obtain ⟨rfl, rfl⟩ : b = b' ∧ off = off' := by simpa using e'
  have := hc 0 (.int .i64 r') rfl
  simp only [IntE, Nat.mul_one, Nat.add_zero] at this
  rw [this, show r' = x' from hr, List.getD_eq_getElem?_getD, hx]
  rfl
theorem Ints.sl {ok : Nat → Prop} {w : World} {A : Option Addr} {n c : Nat} {xs : List Int} (h : Ints w A n c xs) (hk : ∀ b off, A = some ⟨b, off, none⟩ → 0 < n → ok b) : Sl IntE ok w A n c xs := by
  obtain ⟨h1, h2, h3⟩ := h
  refine ⟨h1, h2, xs, h1, fun hne => ?_, fun i r x hr hx => by rw [hr] at hx; exact Option.some.inj hx⟩
  have hfl : flat IntE xs = xs.map fun x => Value.int .i64 x := by
    unfold flat; clear h1 h3 hne
    induction xs with
    | nil => rfl
    | cons a l ih => rw [List.flatMap_cons, List.map_cons, ih]; rfl
  rw [hfl] at hne ⊢
  have hn : 0 < n := by
    rcases Nat.eq_zero_or_pos n with e | e
    · exfalso; apply hne; rw [List.length_eq_zero_iff.1 (h1.trans e)]; rfl
    · exact e
  obtain ⟨b, off, e, hc⟩ := h3 hn
  refine ⟨b, off, e, hk b off e hn, fun j u hu => ?_⟩
  have hj : j < xs.length := by have := (List.getElem?_eq_some_iff.1 hu).1; simpa using this
  rw [hc j (by omega), ← hu, List.getElem?_map, List.getD_eq_getElem?_getD, List.getElem?_eq_getElem hj]
  rfl
abbrev WyV := Int × Int × SlV × Bool
def WayE : Elem Way WyV where
  k := 4
  cells v := [.int .i64 v.1, .int .i64 v.2.1, .slice v.2.2.1.1 v.2.2.1.2.1 v.2.2.1.2.2, .bool v.2.2.2]
  rel ok w v x := v.1 = x.cost ∧ v.2.1 = x.size ∧ v.2.2.2 = x.ok ∧ Sl IntE ok w v.2.2.1.1 v.2.2.1.2.1 v.2.2.1.2.2 x.w
  pos := by omega
  len _ := rfl
  one r u hu := by simp at hu; rcases hu with rfl | rfl | rfl | rfl <;> rfl
  agr h k := ⟨h.1, h.2.1, h.2.2.1, h.2.2.2.agr k⟩
  mono h k := ⟨h.1, h.2.1, h.2.2.1, h.2.2.2.mono k⟩
def WayR (ok : Nat → Prop) (w : World) (v : WyV) (x : Way) : Prop := WayE.rel ok w v x
theorem WayR.agr {ok : Nat → Prop} {w w' : World} {v : WyV} {x : Way} (h : WayR ok w v x) (k : Agr ok w w') : WayR ok w' v x := WayE.agr h k
theorem WayR.via {ok : Nat → Prop} {w w' : World} {v : WyV} {x : Way} (h : WayR ok w v x) (k : Below w.heap.size w w') : WayR ok w' v x := WayE.agr h (Agr.below k)
theorem WayR.al {ok : Nat → Prop} {w : World} {v : WyV} {x : Way} (h : WayR ok w v x) (o : Obj) : WayR ok (w.alloc o) v x := h.via ((Below.refl w.heap.size w).alloc (Nat.le_refl _) o)
theorem WayR.dr {ok : Nat → Prop} {w : World} {v : WyV} {x : Way} (h : WayR ok w v x) : WayR ok w.drew v x := h.via ((Below.refl w.heap.size w).drew)
theorem WayR.mono {ok ok' : Nat → Prop} {w : World} {v : WyV} {x : Way} (h : WayR ok w v x) (k : ∀ b, b < w.heap.size → ok b → ok' b) : WayR ok' w v x := WayE.mono h k
def wyVal (v : WyV) : Value := .agg #[.int .i64 v.1, .int .i64 v.2.1, .slice v.2.2.1.1 v.2.2.1.2.1 v.2.2.1.2.2, .bool v.2.2.2]

def TellB (w : World) (b : Bool) (e : Ending) (w' : World) : Prop := e = .returned (.bool b) ∧ Below w.heap.size w w'
end Go.Proofs.Ytdmecijpioljaaa



namespace Go.Proofs.Ytdmecijpioljaaa
open Go.RowKit

set_option maxRecDepth 100000 in
set_option maxHeartbeats 2000000 in
theorem concat2_c (b : Nat) (A1 A2 : Option Addr) (n1 c1 n2 c2 : Nat) (xs ys : List Int) (w : World) (h1 : Ints w A1 n1 c1 xs) (h2 : Ints w A2 n2 c2 ys)
    (hb : Blk w b 22 #[.slice A1 n1 c1, .slice A2 n2 c2]) (k1 : n1 ≤ 400000) (k2 : n2 ≤ 400000) :
    Calls Try.prog 75 #[.slice (some ⟨b, 0, none⟩) 2 2] w fun e w' => ∃ A c, e = .returned (.slice A (n1 + n2) c) ∧ Sl IntE (fun b => w.heap.size ≤ b) w' A (n1 + n2) c (xs ++ ys) ∧ Below w.heap.size w w' := by
  have q1 := cellSlice hb 0 _ rfl
  have q2 := cellSlice hb 1 _ rfl
  go_enter Try.func75, Try.ntmps75
  go_wp2_with fail
  refine wp_loop_rounds 3 ?_
  rw [rounds_succ]
  go_wp2_with fail
  rw [rounds_succ]
  go_wp2_with fail
  rw [rounds_succ]
  go_wp2_with fail
  refine (grow_c (n1 + n2) _ w (by omega) (by omega)).mono ?_
  rintro e w1 ⟨A, c, rfl, ho1, hb1⟩
  have hlt := hb.lt
  have p1 := (hb1.cell (p := ⟨b, 0, none⟩) hlt).trans q1
  have p2 := (hb1.cell (p := ⟨b, 1, none⟩) hlt).trans q2
  go_wp2_with fail
  refine wp_loop_rounds 3 ?_
  rw [rounds_succ]
  go_wp2_with (at_builtin; refine wpList_append_ints _ rfl (.tmp 31) (.tmp 32) rfl w.heap.size _ _ _ rfl ho1 _ _ _ _ rfl (h1.keep hb1 (Nat.le_refl _)) (by omega) hb1.size ?_; intro B2 d2 w2 ho2 hg2 _; simp only [Nat.zero_add, List.nil_append] at ho2)
  have hb2 := ho1.grown hb1 hg2 (Nat.le_refl _) hb1.size
  clear p1 p2
  have p2 := (hb2.cell (p := ⟨b, 1, none⟩) hlt).trans q2
  rw [rounds_succ]
  go_wp2_with (at_builtin; refine wpList_append_ints _ rfl (.tmp 31) (.tmp 32) rfl w.heap.size _ _ _ rfl ho2 _ _ _ _ rfl (h2.keep hb2 (Nat.le_refl _)) (by omega) hb2.size ?_; intro B3 d3 w3 ho3 hg3 _)
  have hb3 := ho2.grown hb2 hg3 (Nat.le_refl _) hb2.size
  clear p2
  rw [rounds_succ]
  go_wp2_with fail
  go_ret
  exact ⟨_, _, rfl, ho3.toInts.sl fun b off e _ => (ho3.lt b (by rw [e]; rfl)).1, hb3⟩

end Go.Proofs.Ytdmecijpioljaaa



namespace Go.Proofs.Ytdmecijpioljaaa
open Go.RowKit

def WayP (w : World) (x : Way) (e : Ending) (w' : World) : Prop := ∃ v, e = .returned (wyVal v) ∧ WayR (fun b => w.heap.size ≤ b) w' v x ∧ Below w.heap.size w w'
def World.set4 (w : World) (r : Nat) (v : WyV) : World :=
  (((w.setCell ⟨r, 0, none⟩ (.int .i64 v.1)).setCell ⟨r, 1, none⟩ (.int .i64 v.2.1)).setCell ⟨r, 2, none⟩ (.slice v.2.2.1.1 v.2.2.1.2.1 v.2.2.1.2.2)).setCell ⟨r, 3, none⟩ (.bool v.2.2.2)
section
variable {ok : Nat → Prop} {w w0 : World} {r : Nat} {v : WyV}
theorem agr_set4 (hk : ∀ b, ok b → b ≠ r) : Agr ok w (World.set4 w r v) :=
  (((Agr.setCell _ hk).trans (Agr.setCell _ hk)).trans (Agr.setCell _ hk)).trans (Agr.setCell _ hk)
theorem below_set4 {B : Nat} (h : Below B w0 w) (hr : B ≤ r) : Below B w0 (World.set4 w r v) :=
  (((h.setCell hr _).setCell hr _).setCell hr _).setCell hr _
theorem size_set4 : (World.set4 w r v).heap.size = w.heap.size := by simp [World.set4]
end
end Go.Proofs.Ytdmecijpioljaaa



namespace Go.Proofs.Ytdmecijpioljaaa
open Go.RowKit

def IdxP (w : World) (xs : List Int) (v : Int) (e : Ending) (w' : World) : Prop := ∃ r : Int, e = .returned (.int .i64 r) ∧ (0 ≤ r ↔ v ∈ xs) ∧ w' = w
/-- the struct corrector -/
structure CorV where
  gt : Nat
  gn : Nat
  gs : Nat
  gA : Option Addr
  gl : Nat
  gc : Nat
  A : Option Addr
  n : Nat
  c : Nat
  c0 : Int
  c1 : Int
  c2 : Int
  bA : Option Addr
  bn : Nat
  bc : Nat
def CorV.cells (v : CorV) : Array Value := #[.int .i64 (v.gt : Int), .int .i64 (v.gn : Int), .int .i64 (v.gs : Int), .slice v.gA v.gl v.gc, .slice v.A v.n v.c, .int .i64 v.c0, .int .i64 v.c1, .int .i64 v.c2, .slice v.bA v.bn v.bc]
end Go.Proofs.Ytdmecijpioljaaa



namespace Go.Proofs.Ytdmecijpioljaaa
open Go.RowKit

/-! ### a row of ways in a block of its own -/
section
variable {ok ok' : Nat → Prop} {w w' : World} {b n : Nat} {f : Nat → Way}
/-- the four cells of a way are written -/
def World.put4 (w : World) (b o : Nat) (v : WyV) : World :=
  (((w.setCell ⟨b, o, none⟩ (.int .i64 v.1)).setCell ⟨b, o + 1, none⟩ (.int .i64 v.2.1)).setCell ⟨b, o + 2, none⟩ (.slice v.2.2.1.1 v.2.2.1.2.1 v.2.2.1.2.2)).setCell ⟨b, o + 3, none⟩ (.bool v.2.2.2)
theorem agr_put4 {o : Nat} {v : WyV} (hk : ∀ x, ok x → x ≠ b) : Agr ok w (World.put4 w b o v) :=
  (((Agr.setCell _ hk).trans (Agr.setCell _ hk)).trans (Agr.setCell _ hk)).trans (Agr.setCell _ hk)
theorem below_put4 {B : Nat} {w0 : World} {o : Nat} {v : WyV} (h : Below B w0 w) (hr : B ≤ b) : Below B w0 (World.put4 w b o v) :=
  (((h.setCell hr _).setCell hr _).setCell hr _).setCell hr _
theorem size_put4 {o : Nat} {v : WyV} : (World.put4 w b o v).heap.size = w.heap.size := by simp [World.put4]
theorem heap_put4 {o : Nat} {v : WyV} {g : Nat} (h : g ≠ b) : (World.put4 w b o v).heap[g]? = w.heap[g]? := by
  unfold World.put4
  rw [Below.heap_setCell _ _ _ _ h, Below.heap_setCell _ _ _ _ h, Below.heap_setCell _ _ _ _ h, Below.heap_setCell _ _ _ _ h]
end
def wayCells (n : Nat) : Array Value := madeCells #[.int .i64 0, .int .i64 0, .slice none 0 0, .bool false] ((n + 1) * 4)
/-! ### a table of ways -/
section
variable {ok ok' : Nat → Prop} {w w' : World} {ob oo N n : Nat} {rb : Nat → Nat} {cb : Nat → Nat → Nat} {st : WSt}
end
def WayK (ok : Nat → Prop) (w : World) (x : Way) (e : Ending) (w' : World) : Prop := ∃ v, e = .returned (wyVal v) ∧ WayR (fun b => ok b ∨ w.heap.size ≤ b) w' v x ∧ Below w.heap.size w w'

end Go.Proofs.Ytdmecijpioljaaa



namespace Go.Proofs.Ytdmecijpioljaaa
open Go.RowKit

def emptyRow (c1 : Int) (i jj : Nat) : Nat → Way := fun q => if i ≤ q ∧ q < jj then ⟨((q : Int) - (i : Int)) * c1, 0, [], true⟩ else Way.no
theorem emptyRow_start (c1 : Int) (i : Nat) : emptyRow c1 i i = fun _ => Way.no := by funext q; unfold emptyRow; rw [if_neg (by omega)]
theorem emptyRow_next (c1 : Int) {i jj : Nat} (h : i ≤ jj) : upd (emptyRow c1 i jj) jj ⟨((jj : Int) - (i : Int)) * c1, 0, [], true⟩ = emptyRow c1 i (jj + 1) := by
  funext q
  by_cases e : q = jj
  · subst e; rw [upd_same, emptyRow, if_pos ⟨h, by omega⟩]
  · rw [upd_ne _ _ e, emptyRow, emptyRow]
    by_cases e2 : i ≤ q ∧ q < jj
    · rw [if_pos e2, if_pos ⟨e2.1, by omega⟩]
    · rw [if_neg e2, if_neg (by omega)]
/-- the words of a row that is being made in block b: old ones that are good, new ones, none in b -/
def Zb (ok : Nat → Prop) (lo b : Nat) : Nat → Prop := fun x => (ok x ∨ lo ≤ x) ∧ x ≠ b
end Go.Proofs.Ytdmecijpioljaaa

