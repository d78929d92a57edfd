/- Texts DX, laid together. -/
import Derived.Test.YtbhenicldddlfaaDoorE9
import Derived.Shelf.SlSortCmp.InsertionK
import Derived.Sort.Statements




namespace Go.Proofs.YtbhenicldddlfaaDoor
open Go.RowKit
open Go.Sort (putCells flatK HoldsK Holds size_flatK get_flatK SWO PermIn SortedIn)
open Go.Proofs (sortWorldK CmpLays ltOf)

theorem Ints.uniq {w : World} {A : Option Addr} {n c : Nat} {xs ys : List Int} (h1 : Ints w A n c xs) (h2 : Ints w A n c ys) : xs = ys := by
  have l1 := h1.len
  have l2 := h2.len
  apply List.ext_getElem (by omega)
  intro i hi hj
  obtain ⟨b, o, e, -, k1⟩ := h1.at_ (k := i) (by omega)
  obtain ⟨b', o', e', -, k2⟩ := h2.at_ (k := i) (by omega)
  rw [e] at e'
  simp only [Option.some.injEq, Addr.mk.injEq] at e'
  obtain ⟨rfl, rfl, -⟩ := e'
  rw [k1] at k2
  simp only [Option.some.injEq, Value.int.injEq, true_and] at k2
  rw [List.getD_eq_getElem?_getD, List.getD_eq_getElem?_getD, List.getElem?_eq_getElem hi, List.getElem?_eq_getElem hj] at k2
  exact k2
def rawOk (w : World) (g : Nat) (r : LzV) : Prop := ∃ xs : List Int, xs.length ≤ 400 ∧ Sl IntE (fun b => some b ≠ some g) w r.2.2.1.1 r.2.2.1.2.1 r.2.2.1.2.2 xs
/-- a layout that can be read in w, its choices elsewhere than in block g -/
abbrev EltS (w : World) (g : Nat) := {r : LzV // rawOk w g r}
instance (w : World) (g : Nat) : Inhabited (EltS w g) := ⟨⟨(0, 0, (none, 0, 0), ⟨#[]⟩), [], by simp, Sl.nil 0⟩⟩
noncomputable def chS {w : World} {g : Nat} (x : EltS w g) : List Int := Classical.choose x.2
theorem chS_len {w : World} {g : Nat} (x : EltS w g) : (chS x).length ≤ 400 := (Classical.choose_spec x.2).1
theorem chS_sl {w : World} {g : Nat} (x : EltS w g) : Sl IntE (fun b => some b ≠ some g) w x.1.2.2.1.1 x.1.2.2.1.2.1 x.1.2.2.1.2.2 (chS x) := (Classical.choose_spec x.2).2
noncomputable def zS {w : World} {g : Nat} (x : EltS w g) : Lz := ⟨x.1.1, x.1.2.1, chS x, x.1.2.2.2⟩
def encS {w : World} {g : Nat} (x : EltS w g) : List Value := LzE.cells x.1
theorem swoS (w : World) (g : Nat) : SWO (ltOf fun x y : EltS w g => lzC (zS x) (zS y)) where
  irrefl x := by
    simp only [ltOf, lzC_key, cmpL_self]; rfl
  trans x y z h1 h2 := by
    simp only [ltOf, lzC_key, decide_eq_true_eq] at *
    exact cmpL_lt_trans h1 h2
  ntrans x y z h1 h2 := by
    simp only [ltOf, lzC_key, decide_eq_false_iff_not] at *
    have a1 := cmpL_anti (zS y).key (zS x).key
    have a2 := cmpL_anti (zS z).key (zS y).key
    have a3 := cmpL_trans (xs := (zS z).key) (ys := (zS y).key) (zs := (zS x).key) (by omega) (by omega)
    have a4 := cmpL_anti (zS z).key (zS x).key
    omega
theorem sw_agr {w : World} {g n : Nat} {dk : Array (EltS w g)} {os : Array Obj} : Agr (fun b => some b ≠ some g) w (sortWorldK encS 4 w g 0 n dk os) := fun b hb hl => sw_other hl (by simpa using hb)
theorem layS (w : World) (g size : Nat) : CmpLays Tryd.prog 15 #[] (encS (w := w) (g := g)) 4 (fun x y => lzC (zS x) (zS y)) g 0 size w := by
  intro m os dk hs x y
  have hx := ((chS_sl x).agr (sw_agr (n := m) (dk := dk) (os := os))).ints
  have hy := ((chS_sl y).agr (sw_agr (n := m) (dk := dk) (os := os))).ints
  have hn : x.1.2.2.1.2.1 ≤ 1000000 := by have h1 := hx.len; have h2 := chS_len x; omega
  exact all2_c x.1.1 x.1.2.1 y.1.1 y.1.2.1 _ _ _ _ _ _ x.1.2.2.2 y.1.2.2.2 (chS x) (chS y) _ hx hy hn
end Go.Proofs.YtbhenicldddlfaaDoor

