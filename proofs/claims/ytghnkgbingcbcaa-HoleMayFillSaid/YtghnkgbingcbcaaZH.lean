/- Rows of ways and tables of ways in memory; repair.corrector.symbol. -/
import Derived.Test.YtghnkgbingcbcaaZG
namespace Go.Proofs.Ytghnkgbingcbcaa
open Go.RowKit

/-! ### a row of ways in a block of its own -/
def WRow (ok : Nat → Prop) (w : World) (b n : Nat) (f : Nat → Way) : Prop :=
  ∃ C : Array Value, Blk w b 78 C ∧ C.size = (n + 1) * 4 ∧ ∀ j, j ≤ n → ∃ v, WayR ok w v (f j) ∧ ∀ q u, (WayE.cells v)[q]? = some u → C[j * 4 + q]? = some u
section
variable {ok ok' : Nat → Prop} {w w' : World} {b n : Nat} {f : Nat → Way}
theorem WRow.lt (h : WRow ok w b n f) : b < w.heap.size := by obtain ⟨C, h1, _⟩ := h; exact h1.lt
theorem WRow.at_ (h : WRow ok w b n f) {j : Nat} (hj : j ≤ n) : ∃ v, WayR ok w v (f j) ∧ w.cell? ⟨b, j * 4, none⟩ = some (.int .i64 v.1) ∧ w.cell? ⟨b, j * 4 + 1, none⟩ = some (.int .i64 v.2.1) ∧ w.cell? ⟨b, j * 4 + 2, none⟩ = some (.slice v.2.2.1.1 v.2.2.1.2.1 v.2.2.1.2.2) ∧ w.cell? ⟨b, j * 4 + 3, none⟩ = some (.bool v.2.2.2) := by
  obtain ⟨C, h1, h2, h3⟩ := h
  obtain ⟨v, hv, hc⟩ := h3 j hj
  exact ⟨v, hv, (h1.cell _).trans (hc 0 _ rfl), (h1.cell _).trans (hc 1 _ rfl), (h1.cell _).trans (hc 2 _ rfl), (h1.cell _).trans (hc 3 _ rfl)⟩
theorem WRow.frozen (h : WRow ok w b n f) (i : Nat) : w.frozen? ⟨b, i, none⟩ = false := by obtain ⟨C, h1, _⟩ := h; exact h1.frozen i
theorem WRow.agr (h : WRow ok w b n f) (hb : w'.heap[b]? = w.heap[b]?) (k : Agr ok w w') : WRow ok w' b n f := by
  obtain ⟨C, h1, h2, h3⟩ := h
  refine ⟨C, hb.trans h1, h2, fun j hj => ?_⟩
  obtain ⟨v, hv, hc⟩ := h3 j hj
  exact ⟨v, hv.agr k, hc⟩
theorem WRow.via (h : WRow ok w b n f) (k : Below w.heap.size w w') : WRow ok w' b n f := h.agr (k.block b h.lt) (Agr.below k)
theorem WRow.al (h : WRow ok w b n f) (o : Obj) : WRow ok (w.alloc o) b n f := h.via ((Below.refl w.heap.size w).alloc (Nat.le_refl _) o)
theorem WRow.dr (h : WRow ok w b n f) : WRow ok w.drew b n f := h.via ((Below.refl w.heap.size w).drew)
theorem WRow.mono (h : WRow ok w b n f) (k : ∀ b, b < w.heap.size → ok b → ok' b) : WRow ok' w b n f := by
  obtain ⟨C, h1, h2, h3⟩ := h
  refine ⟨C, h1, h2, fun j hj => ?_⟩
  obtain ⟨v, hv, hc⟩ := h3 j hj
  exact ⟨v, hv.mono k, hc⟩
/-- the four cells of a way are written -/
def World.put4 (w : World) (b o : Nat) (v : WyV) : World :=
  (((w.setCell ⟨b, o, none⟩ (.int .i64 v.1)).setCell ⟨b, o + 1, none⟩ (.int .i64 v.2.1)).setCell ⟨b, o + 2, none⟩ (.slice v.2.2.1.1 v.2.2.1.2.1 v.2.2.1.2.2)).setCell ⟨b, o + 3, none⟩ (.bool v.2.2.2)
theorem agr_put4 {o : Nat} {v : WyV} (hk : ∀ x, ok x → x ≠ b) : Agr ok w (World.put4 w b o v) :=
  (((Agr.setCell _ hk).trans (Agr.setCell _ hk)).trans (Agr.setCell _ hk)).trans (Agr.setCell _ hk)
theorem below_put4 {B : Nat} {w0 : World} {o : Nat} {v : WyV} (h : Below B w0 w) (hr : B ≤ b) : Below B w0 (World.put4 w b o v) :=
  (((h.setCell hr _).setCell hr _).setCell hr _).setCell hr _
theorem size_put4 {o : Nat} {v : WyV} : (World.put4 w b o v).heap.size = w.heap.size := by simp [World.put4]
theorem heap_put4 {o : Nat} {v : WyV} {g : Nat} (h : g ≠ b) : (World.put4 w b o v).heap[g]? = w.heap[g]? := by
  unfold World.put4
  rw [Below.heap_setCell _ _ _ _ h, Below.heap_setCell _ _ _ _ h, Below.heap_setCell _ _ _ _ h, Below.heap_setCell _ _ _ _ h]
theorem WRow.put (h : WRow ok w b n f) {j : Nat} (hj : j ≤ n) {v : WyV} {y : Way} (hv : WayR ok w v y) (hk : ∀ x, ok x → x ≠ b) : WRow ok (World.put4 w b (j * 4) v) b n (upd f j y) := by
  obtain ⟨C, h1, h2, h3⟩ := h
  have e := (((h1.set_ (j * 4) (.int .i64 v.1)).set_ (j * 4 + 1) (.int .i64 v.2.1)).set_ (j * 4 + 2) (.slice v.2.2.1.1 v.2.2.1.2.1 v.2.2.1.2.2)).set_ (j * 4 + 3) (.bool v.2.2.2)
  refine ⟨_, e, by simp [h2], fun i hi => ?_⟩
  by_cases ei : i = j
  · subst ei
    refine ⟨v, by rw [upd_same]; exact hv.agr (agr_put4 hk), fun q u hu => ?_⟩
    simp only [Array.getElem?_setIfInBounds, Array.size_setIfInBounds]
    match q, hu with
    | 0, hu => simp [WayE] at hu; subst hu; simp; omega
    | 1, hu => simp [WayE] at hu; subst hu; simp; omega
    | 2, hu => simp [WayE] at hu; subst hu; simp; omega
    | 3, hu => simp [WayE] at hu; subst hu; simp; omega
    | q + 4, hu => simp [WayE] at hu
  · obtain ⟨v', hv', hc⟩ := h3 i hi
    refine ⟨v', by rw [upd_ne _ _ ei]; exact hv'.agr (agr_put4 hk), fun q u hu => ?_⟩
    have hq : q < 4 := by have := (List.getElem?_eq_some_iff.1 hu).1; simpa [WayE] using this
    simp only [Array.getElem?_setIfInBounds, Array.size_setIfInBounds]
    rw [if_neg (by omega), if_neg (by omega), if_neg (by omega), if_neg (by omega)]
    exact hc q u hu
end
theorem way_info : (Try.prog.info? 78).map (fun i => (i.zero, i.size, i.bytes)) = some (some (.agg #[.int .i64 0, .int .i64 0, .slice none 0 0, .bool false]), 4, 48) := by kernel_rfl
def wayCells (n : Nat) : Array Value := madeCells #[.int .i64 0, .int .i64 0, .slice none 0 0, .bool false] ((n + 1) * 4)
theorem mk_ways (n : Nat) (hn : n ≤ 1000000) : ∀ w : World, (Instr.makeSlice 73 (.int .i64 ((n : Int) + 1)) (.int .i64 ((n : Int) + 1))).run Try.prog w = .ok (.slice (some ⟨w.heap.size, 0, none⟩) (n + 1) (n + 1)) (w.alloc (.cells (wayCells n) 78)) := by
  intro w
  obtain ⟨i, hi, hz, hs, hb⟩ := info_parts way_info
  have := run_make (P := Try.prog) w 73 78 i _ Try.underlying73 hi hz .i64 .i64 ((n : Int) + 1) ((n : Int) + 1) (by omega) (by omega) (by rw [hb]; omega) (by omega)
  rw [show ((n : Int) + 1).toNat = n + 1 from by omega, hs] at this
  exact this
theorem WRow.made (ok : Nat → Prop) (w : World) (n : Nat) : WRow ok (w.alloc (.cells (wayCells n) 78)) w.heap.size n (fun _ => Way.no) := by
  refine ⟨_, Blk.new w _ _, size_madeCells _ _, fun j hj => ⟨(0, 0, (none, 0, 0), false), ⟨rfl, rfl, rfl, Sl.nil 0⟩, fun q u hu => ?_⟩⟩
  have hq : q < 4 := by have := (List.getElem?_eq_some_iff.1 hu).1; simpa [WayE] using this
  have hlt : j * 4 + q < (n + 1) * 4 := by omega
  unfold wayCells madeCells
  rw [Array.getElem?_map, Array.getElem?_range, if_pos hlt]
  simp only [Option.map_some]
  have e : (j * 4 + q) % 4 = q := by omega
  match q, hu, hq with
  | 0, hu, _ => simp [WayE] at hu; subst hu; simp
  | 1, hu, _ => simp [WayE] at hu; subst hu; simp [e]
  | 2, hu, _ => simp [WayE] at hu; subst hu; simp [e]
  | 3, hu, _ => simp [WayE] at hu; subst hu; simp [e]

/-! ### a table of ways -/
structure BestR (ok : Nat → Prop) (w : World) (ob oo N n : Nat) (rb : Nat → Nat) (cb : Nat → Nat → Nat) (st : WSt) : Prop where
  top : ∀ k, k < N → w.cell? ⟨ob, oo + k, none⟩ = some (.slice (some ⟨rb k, 0, none⟩) (n + 1) (n + 1))
  mid : ∀ k i, k < N → i ≤ n → w.cell? ⟨rb k, i, none⟩ = some (.slice (some ⟨cb k i, 0, none⟩) (n + 1) (n + 1))
  row : ∀ k i, k < N → i ≤ n → WRow ok w (cb k i) n (st k i)
section
variable {ok ok' : Nat → Prop} {w w' : World} {ob oo N n : Nat} {rb : Nat → Nat} {cb : Nat → Nat → Nat} {st : WSt}
theorem BestR.via (h : BestR ok w ob oo N n rb cb st) (k : Below w.heap.size w w') : BestR ok w' ob oo N n rb cb st :=
  ⟨fun i hi => (k.cell (p := ⟨ob, oo + i, none⟩) (World.block_lt_of_cell? w _ (h.top i hi))).trans (h.top i hi), fun a i ha hi => (k.cell (p := ⟨rb a, i, none⟩) (World.block_lt_of_cell? w _ (h.mid a i ha hi))).trans (h.mid a i ha hi), fun a i ha hi => (h.row a i ha hi).via k⟩
theorem BestR.al (h : BestR ok w ob oo N n rb cb st) (o : Obj) : BestR ok (w.alloc o) ob oo N n rb cb st := h.via ((Below.refl w.heap.size w).alloc (Nat.le_refl _) o)
theorem BestR.mono (h : BestR ok w ob oo N n rb cb st) (k : ∀ b, b < w.heap.size → ok b → ok' b) : BestR ok' w ob oo N n rb cb st := ⟨h.top, h.mid, fun a i ha hi => (h.row a i ha hi).mono k⟩
theorem BestR.agr (h : BestR ok w ob oo N n rb cb st) (k : Agr ok w w') (h1 : ∀ g, (g = ob ∨ (∃ a, a < N ∧ g = rb a) ∨ ∃ a i, a < N ∧ i ≤ n ∧ g = cb a i) → w'.heap[g]? = w.heap[g]?) : BestR ok w' ob oo N n rb cb st :=
  ⟨fun i hi => (World.cell?_of_block (w := w) (a := ⟨ob, oo + i, none⟩) (h1 ob (Or.inl rfl))).trans (h.top i hi), fun a i ha hi => (World.cell?_of_block (w := w) (a := ⟨rb a, i, none⟩) (h1 _ (Or.inr (Or.inl ⟨a, ha, rfl⟩)))).trans (h.mid a i ha hi),
    fun a i ha hi => (h.row a i ha hi).agr (h1 _ (Or.inr (Or.inr ⟨a, i, ha, hi, rfl⟩))) k⟩
end
def WayK (ok : Nat → Prop) (w : World) (x : Way) (e : Ending) (w' : World) : Prop := ∃ v, e = .returned (wyVal v) ∧ WayR (fun b => ok b ∨ w.heap.size ≤ b) w' v x ∧ Below w.heap.size w w'

set_option maxRecDepth 100000 in
set_option maxHeartbeats 4000000 in
theorem symbol_c (ok : Nat → Prop) (bc : Nat) (v : CorV) (xs : List Int) (s : Sy) (i j oo : Nat) (ob : Nat) (rb : Nat → Nat) (cb : Nat → Nat → Nat) (st : WSt) (w : World) (hb : Blk w bc 71 v.cells) (hx : Ints w v.A v.n v.c xs)
    (h0 : 1 ≤ v.c0 ∧ v.c0 ≤ 100) (h1 : 1 ≤ v.c1 ∧ v.c1 ≤ 100) (h2 : 1 ≤ v.c2 ∧ v.c2 ≤ 100) (hn : v.n ≤ 12) (hi : i ≤ j) (hj : j ≤ v.n) (hA : v.bA = some ⟨ob, oo, none⟩) (hT : BestR ok w ob oo v.bn v.n rb cb st) (hs : s.1 = false → s.2 < v.bn) :
    Calls Try.prog 56 #[.pointer (some ⟨bc, 0, none⟩), .agg #[.bool s.1, .int .i64 (s.2 : Int)], .int .i64 (i : Int), .int .i64 (j : Int)] w (WayK ok w (symW v.c0 v.c1 v.c2 xs st s i j)) := by
  obtain ⟨sb, sn⟩ := s
  cases sb with
  | true =>
    have HB := Lib.hid ((hb.al (.cells #[.bool true, .int .i64 (sn : Int)] 48)).al (.cells #[.int .i64 0, .int .i64 0, .slice none 0 0, .bool false] 78))
    have HX := Lib.hid ((hx.alloc (.cells #[.bool true, .int .i64 (sn : Int)] 48)).alloc (.cells #[.int .i64 0, .int .i64 0, .slice none 0 0, .bool false] 78))
    have Br := Blk.new (w.alloc (.cells #[.bool true, .int .i64 (sn : Int)] 48)) 78 #[.int .i64 0, .int .i64 0, .slice none 0 0, .bool false]
    rw [World.size_alloc] at Br
    have HBR := Lib.hid Br
    have HW := Lib.hid (((Below.refl w.heap.size w).al (.cells #[.bool true, .int .i64 (sn : Int)] 48)).al (.cells #[.int .i64 0, .int .i64 0, .slice none 0 0, .bool false] 78))
    clear hb hx Br hT hs hA
    go_enter Try.func56, Try.ntmps56
    go_wp2_with fail
    generalize (w.alloc (.cells #[.bool true, .int .i64 (sn : Int)] 48)).alloc (.cells #[.int .i64 0, .int .i64 0, .slice none 0 0, .bool false] 78) = W at *
    refine (one_c bc v xs sn i j W HB.out HX.out h0 h1 h2 hn hi hj).mono ?_
    rintro e w1 ⟨⟨rc, rs, ⟨rA, rn, rcc⟩, ro⟩, rfl, hR, hb1⟩
    have Br := HBR.out.via hb1
    have HF := Lib.hid (HW.out.via hb1)
    have hz := HBR.out.lt
    have HR := Lib.hid hR
    clear hb1 hR
    dsimp only [wyVal]
    have cBr := Br.cell
    have fBr := Br.frozen
    have lBr := Br.lt
    go_wp2_with fail
    refine bodyPost_ret (v := .agg #[.int .i64 rc, .int .i64 rs, .slice rA rn rcc, .bool ro]) (by simp [results, Try.results56, go_sem, cBr]) rfl ⟨(rc, rs, (rA, rn, rcc), ro), rfl, ?_, below_set4 (r := w.heap.size + 1) (v := (rc, rs, (rA, rn, rcc), ro)) HF.out (by omega)⟩
    exact ((show WayR _ w1 (rc, rs, (rA, rn, rcc), ro) (symW v.c0 v.c1 v.c2 xs st (true, sn) i j) from HR.out).agr (agr_set4 (r := w.heap.size + 1) (v := (rc, rs, (rA, rn, rcc), ro)) fun b hb => by omega)).mono fun b _ hb => Or.inr (by omega)
  | false =>
    have hs' : sn < v.bn := hs rfl
    have t1 := hT.top sn hs'
    have t2 := hT.mid sn i hs' (by omega)
    obtain ⟨⟨rc, rs, ⟨rA, rn, rcc⟩, ro⟩, hR, c0, c1, c2, c3⟩ := (hT.row sn i hs' (by omega)).at_ hj
    obtain ⟨gt, gn, gs, gA, gl, gc, A, n, c, k0, k1, k2, bA, bn, bcc⟩ := v
    simp only [CorV.cells] at hb hx hn hj hA hs' t1 t2 c0 c1 c2 c3 hT ⊢
    subst hA
    have l1 := World.block_lt_of_cell? w _ t1
    have l2 := World.block_lt_of_cell? w _ t2
    have l3 := World.block_lt_of_cell? w _ c0
    simp only at l1 l2 l3
    have cb0 := hb.cell
    have lb := hb.lt
    have i0 : (0 : Int) ≤ (sn : Int) := by omega
    have i1 : (sn : Int) < (bn : Int) := by omega
    have i2 : (0 : Int) ≤ (i : Int) := by omega
    have i3 : (i : Int) < (n : Int) + 1 := by omega
    have i4 : (0 : Int) ≤ (j : Int) := by omega
    have i5 : (j : Int) < (n : Int) + 1 := by omega
    have HR := Lib.hid hR
    clear hb hx hT hs hR h0 h1 h2
    go_enter Try.func56, Try.ntmps56
    go_upto_region 3 with fail
    go_region
    clear cb0 t1 t2 c0 c1 c2 c3
    go_wp2_with fail
    refine bodyPost_ret (v := .agg #[.int .i64 rc, .int .i64 rs, .slice rA rn rcc, .bool ro]) (by simp [results, Try.results56, go_sem]) rfl ⟨(rc, rs, (rA, rn, rcc), ro), rfl, ?_, (((Below.refl _ _).al _).al _).drew⟩
    exact ((((show WayR ok w (rc, rs, (rA, rn, rcc), ro) (symW k0 k1 k2 xs st (false, sn) i j) from HR.out).al _).al _).dr).mono fun b _ hb => Or.inl hb
end Go.Proofs.Ytghnkgbingcbcaa
