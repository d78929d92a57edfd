/- Texts DJ, laid together. -/
import Derived.Test.YtbhenicldddlfaaDoorD4
import Derived.Test.YtbhenicldddlfaaDoorM1
import Derived.Test.YtbhenicldddlfaaDoorQ1




namespace Go.Proofs.YtbhenicldddlfaaDoor
open Go.RowKit

theorem laidOut : laidOutB Tryd.prog = true := by kernel_rfl
theorem spot_keyed : Maps.Keyed Tryd.prog 52 :=
  Maps.Keyed.of_law (deep_law_laid laidOut (m := 2) (by omega) (of_decide_eq_true (by kernel_rfl)) (by kernel_rfl) (by rw [Tryd.underlying52]))
def kk (x : Nat × Nat) : Value := .agg #[.int .i64 (x.1 : Int), .int .i64 (x.2 : Int)]
theorem kk_inj (x y : Nat × Nat) (h : kk x = kk y) : x = y := by
  simp [kk] at h
  exact Prod.ext (by omega) (by omega)
theorem kk_key (x : Nat × Nat) (h1 : x.1 ≤ 1000000000) (h2 : x.2 ≤ 1000000000) : ∃ l, keyOf Tryd.prog 52 (kk x) = some l := by
  have hc : Tryd.prog.cellsOf 52 = 2 := by kernel_rfl
  have hi : Tryd.prog.cellsOf 3 = 1 := by kernel_rfl
  have w1 : (Lit.int .i64 (x.1 : Int)).wf = true := WalkArith.wf_i64 (by omega)
  have w2 : (Lit.int .i64 (x.2 : Int)).wf = true := WalkArith.wf_i64 (by omega)
  have hf : (kk x).formed Tryd.prog 52 = true := by simp [Value.formed, Tryd.underlying52, hc, kk]
  have hk : Tryd.prog.keyLits (Tryd.prog.types.size + 1) 52 [.int .i64 (x.1 : Int), .int .i64 (x.2 : Int)] = some [.int .i64 (x.1 : Int), .int .i64 (x.2 : Int)] := by
    have e : Tryd.prog.types.size + 1 = (Tryd.prog.types.size - 1) + 1 + 1 := by have : 1 ≤ Tryd.prog.types.size := of_decide_eq_true (by kernel_rfl); omega
    rw [e]
    generalize Tryd.prog.types.size - 1 = d
    simp [Program.keyLits, Tryd.underlying52, Tryd.underlying3, hc, hi, w1, w2]
  refine ⟨.string (keyBytes [.int .i64 (x.1 : Int), .int .i64 (x.2 : Int)]), ?_⟩
  unfold keyOf
  rw [Tryd.underlying52]
  simp only [hf, Bool.and_true]
  rw [if_pos (by kernel_rfl)]
  show Option.map _ (Tryd.prog.keyLits _ _ [.int .i64 (x.1 : Int), .int .i64 (x.2 : Int)]) = _
  rw [hk]; rfl

theorem value_zero (w : World) : (zeroValue 66).run Tryd.prog w = .ok (.agg #[.int .i64 0, .int .i64 0, .bool false]) w := by kernel_rfl
def vlVal (v : Vl) : Value := .agg #[.int .i64 (v.ex : Int), .int .i64 (v.ln : Int), .bool v.fl]
/-- what was found is right -/
def Memo (W : Nat) (ops : List Opr) (f : Nat × Nat → Option Value) : Prop := ∀ x v, f x = some v → v = vlVal (findV W ops x.1 x.2) ∧ x.1 < 400 ∧ x.2 ≤ 10000000
/-- the setter's block bs, its operations, its memory bm; all of it lies below B -/
structure FS (W : Nat) (ops : List Opr) (bs bm B : Nat) (A : Option Addr) (c : Nat) (w : World) : Prop where
  str : Blk w bs 47 #[.slice A ops.length c, .int .i64 (W : Int), .map (some bm)]
  sl : Sl OpE (fun b => b < B ∧ b ≠ bm) w A ops.length c ops
  mp : ∃ f, MapK Tryd.prog 52 kk w bm f ∧ Memo W ops f
  ne : bs ≠ bm
  lt : bs < B ∧ bm < B
  le : B ≤ w.heap.size
section
variable {W : Nat} {ops : List Opr} {bs bm B : Nat} {A : Option Addr} {c : Nat} {w w' : World}
theorem FS.via (h : FS W ops bs bm B A c w) (hb : Below w.heap.size w w') : FS W ops bs bm B A c w' := by
  obtain ⟨f, h1, h2⟩ := h.mp
  exact ⟨h.str.via hb, h.sl.via hb, ⟨f, h1.via hb, h2⟩, h.ne, h.lt, Nat.le_trans h.le hb.size⟩
theorem FS.al (h : FS W ops bs bm B A c w) (o : Obj) : FS W ops bs bm B A c (w.alloc o) := h.via ((Below.refl _ _).alloc (Nat.le_refl _) o)
theorem FS.dr (h : FS W ops bs bm B A c w) : FS W ops bs bm B A c w.drew := h.via ((Below.refl _ _).drew)
/-- a store in a block of the call's own -/
theorem FS.far (h : FS W ops bs bm B A c w) {p : Addr} (hp : B ≤ p.block) (u : Value) : FS W ops bs bm B A c (w.setCell p u) := by
  obtain ⟨f, k1, k2⟩ := h.mp
  have hl := h.lt
  exact ⟨h.str.far (by omega) u, h.sl.agr (Agr.setCell u fun b hb => by omega), ⟨f, k1.far (by omega) u, k2⟩, h.ne, h.lt, by simpa using h.le⟩
end
/-- what find leaves -/
def FindP (W : Nat) (ops : List Opr) (bs bm B base : Nat) (A : Option Addr) (c i col : Nat) (w : World) (e : Ending) (w' : World) : Prop :=
  e = .returned (vlVal (findV W ops i col)) ∧ FS W ops bs bm B A c w' ∧ Agr (fun b => b ≠ bm) w w' ∧ w.heap.size ≤ w'.heap.size ∧ Below base w w'

theorem FindP.fin {W : Nat} {ops : List Opr} {bs bm B base : Nat} {A : Option Addr} {c i col : Nat} {w w' : World} {v : Value} (hv : v = vlVal (findV W ops i col)) (h1 : FS W ops bs bm B A c w') (h2 : Agr (fun b => b ≠ bm) w w') (h3 : w.heap.size ≤ w'.heap.size) (h4 : Below base w w') :
    FindP W ops bs bm B base A c i col w (.returned v) w' := ⟨by rw [hv], h1, h2, h3, h4⟩
/-- a value is written -/
def World.setV (w : World) (r : Nat) (v : Vl) : World := ((w.setCell ⟨r, 0, none⟩ (.int .i64 (v.ex : Int))).setCell ⟨r, 1, none⟩ (.int .i64 (v.ln : Int))).setCell ⟨r, 2, none⟩ (.bool v.fl)
theorem size_setV {w : World} {r : Nat} {v : Vl} : (World.setV w r v).heap.size = w.heap.size := by simp [World.setV]
theorem FS.setV {W : Nat} {ops : List Opr} {bs bm B : Nat} {A : Option Addr} {c : Nat} {w : World} (h : FS W ops bs bm B A c w) {r : Nat} (hr : B ≤ r) (v : Vl) : FS W ops bs bm B A c (World.setV w r v) := ((h.far hr _).far hr _).far hr _
theorem Agr.setV {ok : Nat → Prop} {w0 w : World} (h : Agr ok w0 w) {r : Nat} (hr : w0.heap.size ≤ r) (v : Vl) : Agr ok w0 (World.setV w r v) := ((h.newCell hr _).newCell hr _).newCell hr _
theorem below_setV {B : Nat} {w0 w : World} (h : Below B w0 w) {r : Nat} (hr : B ≤ r) (v : Vl) : Below B w0 (World.setV w r v) := ((h.setCell hr _).setCell hr _).setCell hr _
theorem FindP.end {W : Nat} {ops : List Opr} {bs bm B base : Nat} {A : Option Addr} {c i col : Nat} {w w' : World} (h1 : FS W ops bs bm B A c w') (h2 : Agr (fun b => b ≠ bm) w w') (h3 : w.heap.size ≤ w'.heap.size) (h4 : Below base w w') (hb : base ≤ w.heap.size) (hB : B ≤ w.heap.size) (v : Vl) (hv : v = findV W ops i col) :
    FindP W ops bs bm B base A c i col w (.returned (vlVal v)) (World.setV w' (w.heap.size + 1) v) :=
  ⟨by rw [hv], h1.setV (by omega) v, h2.setV (by omega) v, by rw [size_setV]; exact h3, below_setV h4 (by omega) v⟩
theorem FindP.end2 {W : Nat} {ops : List Opr} {bs bm B base : Nat} {A : Option Addr} {c i col : Nat} {w w' : World} (h1 : FS W ops bs bm B A c w') (h2 : Agr (fun b => b ≠ bm) w w') (h3 : w.heap.size ≤ w'.heap.size) (h4 : Below base w w') (hb : base ≤ w.heap.size) (hB : B ≤ w.heap.size) (v : Vl) (hv : v = findV W ops i col) (o : Obj) :
    FindP W ops bs bm B base A c i col w (.returned (vlVal v)) ((World.setV w' (w.heap.size + 1) v).alloc o).drew :=
  ⟨by rw [hv], ((h1.setV (by omega) v).al o).dr, (h2.setV (by omega) v).al_ o, by show w.heap.size ≤ ((World.setV w' (w.heap.size + 1) v).alloc o).heap.size; simp [size_setV]; omega, ((below_setV h4 (by omega) v).alloc (by rw [size_setV]; omega) o).drew⟩
set_option maxHeartbeats 1000000 in
theorem over_c (W : Nat) (bs : Nat) (S M : Value) (x : Nat) (w : World) (h : Blk w bs 47 #[S, .int .i64 (W : Int), M]) (hx : x ≤ 1000000000) (hW : W ≤ 1000000000) :
    Calls Tryd.prog 28 #[.pointer (some ⟨bs, 0, none⟩), .int .i64 (x : Int)] w fun e w' => e = .returned (.int .i64 (ovr W x : Int)) ∧ w = w' := by
  have e1 : IntKind.i64.wrap ((x : Int) - (W : Int)) = (x : Int) - (W : Int) := IntWalk.i64_in _ (by omega)
  have ch := h.cell
  have fh := h.frozen
  have lh := h.lt
  rcases Nat.lt_or_ge W x with hxw | hxw
  rotate_left
  · have HV := Lib.hid (show (ovr W x : Int) = 0 by unfold ovr; omega)
    have k1 : (x : Int) - (W : Int) ≤ 0 := by omega
    clear hxw
    go_enter Tryd.func28, Tryd.ntmps28
    go_wp2_with fail
    go_ret
    exact ⟨by rw [HV.out]; rfl, rfl⟩
  · have HV := Lib.hid (show (ovr W x : Int) = (x : Int) - (W : Int) by unfold ovr; omega)
    have k1 : (0 : Int) < (x : Int) - (W : Int) := by omega
    go_enter Tryd.func28, Tryd.ntmps28
    go_wp2_with fail
    go_ret
    exact ⟨by rw [HV.out]; rfl, rfl⟩
end Go.Proofs.YtbhenicldddlfaaDoor

