/- Rows and tables of words of hole in memory. -/
import Derived.Test.YtghnkgbingcbcaaHA
namespace Go.Proofs.Ytghnkgbingcbcaa
open Go.RowKit

/-! ### a row of words of hole in a block of its own -/
def HRow (ok : Nat → Prop) (w : World) (b n : Nat) (f : Nat → Way) : Prop :=
  ∃ C : Array Value, Blk w b 101 C ∧ C.size = (n + 1) * 3 ∧ ∀ j, j ≤ n → ∃ v, HoR ok w v (f j) ∧ ∀ q u, (HoE.cells v)[q]? = some u → C[j * 3 + q]? = some u
section
variable {ok ok' : Nat → Prop} {w w' : World} {b n : Nat} {f : Nat → Way}
theorem HRow.lt (h : HRow ok w b n f) : b < w.heap.size := by obtain ⟨C, h1, _⟩ := h; exact h1.lt
theorem HRow.at_ (h : HRow ok w b n f) {j : Nat} (hj : j ≤ n) : ∃ v, HoR ok w v (f j) ∧ w.cell? ⟨b, j * 3, none⟩ = some (.int .i64 v.1) ∧ w.cell? ⟨b, j * 3 + 1, none⟩ = some (.slice v.2.1.1 v.2.1.2.1 v.2.1.2.2) ∧ w.cell? ⟨b, j * 3 + 2, none⟩ = some (.bool v.2.2) := by
  obtain ⟨C, h1, h2, h3⟩ := h
  obtain ⟨v, hv, hc⟩ := h3 j hj
  exact ⟨v, hv, (h1.cell _).trans (hc 0 _ rfl), (h1.cell _).trans (hc 1 _ rfl), (h1.cell _).trans (hc 2 _ rfl)⟩
theorem HRow.frozen (h : HRow ok w b n f) (i : Nat) : w.frozen? ⟨b, i, none⟩ = false := by obtain ⟨C, h1, _⟩ := h; exact h1.frozen i
theorem HRow.agr (h : HRow ok w b n f) (hb : w'.heap[b]? = w.heap[b]?) (k : Agr ok w w') : HRow ok w' b n f := by
  obtain ⟨C, h1, h2, h3⟩ := h
  refine ⟨C, hb.trans h1, h2, fun j hj => ?_⟩
  obtain ⟨v, hv, hc⟩ := h3 j hj
  exact ⟨v, hv.agr k, hc⟩
theorem HRow.via (h : HRow ok w b n f) (k : Below w.heap.size w w') : HRow ok w' b n f := h.agr (k.block b h.lt) (Agr.below k)
theorem HRow.al (h : HRow ok w b n f) (o : Obj) : HRow ok (w.alloc o) b n f := h.via ((Below.refl w.heap.size w).alloc (Nat.le_refl _) o)
theorem HRow.dr (h : HRow ok w b n f) : HRow ok w.drew b n f := h.via ((Below.refl w.heap.size w).drew)
theorem HRow.mono (h : HRow ok w b n f) (k : ∀ b, b < w.heap.size → ok b → ok' b) : HRow ok' w b n f := by
  obtain ⟨C, h1, h2, h3⟩ := h
  refine ⟨C, h1, h2, fun j hj => ?_⟩
  obtain ⟨v, hv, hc⟩ := h3 j hj
  exact ⟨v, hv.mono k, hc⟩
/-- the four cells of a way are written -/
def World.put3 (w : World) (b o : Nat) (v : HyV) : World :=
  ((w.setCell ⟨b, o, none⟩ (.int .i64 v.1)).setCell ⟨b, o + 1, none⟩ (.slice v.2.1.1 v.2.1.2.1 v.2.1.2.2)).setCell ⟨b, o + 2, none⟩ (.bool v.2.2)
theorem agr_p3 {o : Nat} {v : HyV} (hk : ∀ x, ok x → x ≠ b) : Agr ok w (World.put3 w b o v) :=
  ((Agr.setCell _ hk).trans (Agr.setCell _ hk)).trans (Agr.setCell _ hk)
theorem below_p3 {B : Nat} {w0 : World} {o : Nat} {v : HyV} (h : Below B w0 w) (hr : B ≤ b) : Below B w0 (World.put3 w b o v) :=
  ((h.setCell hr _).setCell hr _).setCell hr _
theorem size_p3 {o : Nat} {v : HyV} : (World.put3 w b o v).heap.size = w.heap.size := by simp [World.put3]
theorem heap_p3 {o : Nat} {v : HyV} {g : Nat} (h : g ≠ b) : (World.put3 w b o v).heap[g]? = w.heap[g]? := by
  unfold World.put3
  rw [Below.heap_setCell _ _ _ _ h, Below.heap_setCell _ _ _ _ h, Below.heap_setCell _ _ _ _ h]
theorem HRow.put (h : HRow ok w b n f) {j : Nat} (hj : j ≤ n) {v : HyV} {y : Way} (hv : HoR ok w v y) (hk : ∀ x, ok x → x ≠ b) : HRow ok (World.put3 w b (j * 3) v) b n (upd f j y) := by
  obtain ⟨C, h1, h2, h3⟩ := h
  have e := ((h1.set_ (j * 3) (.int .i64 v.1)).set_ (j * 3 + 1) (.slice v.2.1.1 v.2.1.2.1 v.2.1.2.2)).set_ (j * 3 + 2) (.bool v.2.2)
  refine ⟨_, e, by simp [h2], fun i hi => ?_⟩
  by_cases ei : i = j
  · subst ei
    refine ⟨v, by rw [upd_same]; exact hv.agr (agr_p3 hk), fun q u hu => ?_⟩
    simp only [Array.getElem?_setIfInBounds, Array.size_setIfInBounds]
    match q, hu with
    | 0, hu => simp [HoE] at hu; subst hu; simp; omega
    | 1, hu => simp [HoE] at hu; subst hu; simp; omega
    | 2, hu => simp [HoE] at hu; subst hu; simp; omega
    | q + 3, hu => simp [HoE] at hu
  · obtain ⟨v', hv', hc⟩ := h3 i hi
    refine ⟨v', by rw [upd_ne _ _ ei]; exact hv'.agr (agr_p3 hk), fun q u hu => ?_⟩
    have hq : q < 3 := by have := (List.getElem?_eq_some_iff.1 hu).1; simpa [HoE] using this
    simp only [Array.getElem?_setIfInBounds, Array.size_setIfInBounds]
    rw [if_neg (by omega), if_neg (by omega), if_neg (by omega)]
    exact hc q u hu
end
theorem hword_info : (Try.prog.info? 101).map (fun i => (i.zero, i.size, i.bytes)) = some (some (.agg #[.int .i64 0, .slice none 0 0, .bool false]), 3, 40) := by kernel_rfl
def hoCells (n : Nat) : Array Value := madeCells #[.int .i64 0, .slice none 0 0, .bool false] ((n + 1) * 3)
theorem mk_hos (n : Nat) (hn : n ≤ 1000000) : ∀ w : World, (Instr.makeSlice 126 (.int .i64 ((n : Int) + 1)) (.int .i64 ((n : Int) + 1))).run Try.prog w = .ok (.slice (some ⟨w.heap.size, 0, none⟩) (n + 1) (n + 1)) (w.alloc (.cells (hoCells n) 101)) := by
  intro w
  obtain ⟨i, hi, hz, hs, hb⟩ := info_parts hword_info
  have := run_make (P := Try.prog) w 126 101 i _ Try.underlying126 hi hz .i64 .i64 ((n : Int) + 1) ((n : Int) + 1) (by omega) (by omega) (by rw [hb]; omega) (by omega)
  rw [show ((n : Int) + 1).toNat = n + 1 from by omega, hs] at this
  exact this
theorem HRow.made (ok : Nat → Prop) (w : World) (n : Nat) : HRow ok (w.alloc (.cells (hoCells n) 101)) w.heap.size n (fun _ => Way.no) := by
  refine ⟨_, Blk.new w _ _, size_madeCells _ _, fun j hj => ⟨(0, (none, 0, 0), false), ⟨rfl, rfl, rfl, Sl.nil 0⟩, fun q u hu => ?_⟩⟩
  have hq : q < 3 := by have := (List.getElem?_eq_some_iff.1 hu).1; simpa [HoE] using this
  have hlt : j * 3 + q < (n + 1) * 3 := by omega
  unfold hoCells madeCells
  rw [Array.getElem?_map, Array.getElem?_range, if_pos hlt]
  simp only [Option.map_some]
  have e : (j * 3 + q) % 3 = q := by omega
  match q, hu, hq with
  | 0, hu, _ => simp [HoE] at hu; subst hu; simp
  | 1, hu, _ => simp [HoE] at hu; subst hu; simp [e]
  | 2, hu, _ => simp [HoE] at hu; subst hu; simp [e]

/-! ### a table of words of hole -/
structure HTab (ok : Nat → Prop) (w : World) (ob oo N n : Nat) (rb : Nat → Nat) (cb : Nat → Nat → Nat) (st : WSt) : Prop where
  top : ∀ k, k < N → w.cell? ⟨ob, oo + k, none⟩ = some (.slice (some ⟨rb k, 0, none⟩) (n + 1) (n + 1))
  mid : ∀ k i, k < N → i ≤ n → w.cell? ⟨rb k, i, none⟩ = some (.slice (some ⟨cb k i, 0, none⟩) (n + 1) (n + 1))
  row : ∀ k i, k < N → i ≤ n → HRow ok w (cb k i) n (st k i)
section
variable {ok ok' : Nat → Prop} {w w' : World} {ob oo N n : Nat} {rb : Nat → Nat} {cb : Nat → Nat → Nat} {st : WSt}
theorem HTab.via (h : HTab ok w ob oo N n rb cb st) (k : Below w.heap.size w w') : HTab ok w' ob oo N n rb cb st :=
  ⟨fun i hi => (k.cell (p := ⟨ob, oo + i, none⟩) (World.block_lt_of_cell? w _ (h.top i hi))).trans (h.top i hi), fun a i ha hi => (k.cell (p := ⟨rb a, i, none⟩) (World.block_lt_of_cell? w _ (h.mid a i ha hi))).trans (h.mid a i ha hi), fun a i ha hi => (h.row a i ha hi).via k⟩
theorem HTab.al (h : HTab ok w ob oo N n rb cb st) (o : Obj) : HTab ok (w.alloc o) ob oo N n rb cb st := h.via ((Below.refl w.heap.size w).alloc (Nat.le_refl _) o)
theorem HTab.mono (h : HTab ok w ob oo N n rb cb st) (k : ∀ b, b < w.heap.size → ok b → ok' b) : HTab ok' w ob oo N n rb cb st := ⟨h.top, h.mid, fun a i ha hi => (h.row a i ha hi).mono k⟩
theorem HTab.agr (h : HTab ok w ob oo N n rb cb st) (k : Agr ok w w') (h1 : ∀ g, (g = ob ∨ (∃ a, a < N ∧ g = rb a) ∨ ∃ a i, a < N ∧ i ≤ n ∧ g = cb a i) → w'.heap[g]? = w.heap[g]?) : HTab ok w' ob oo N n rb cb st :=
  ⟨fun i hi => (World.cell?_of_block (w := w) (a := ⟨ob, oo + i, none⟩) (h1 ob (Or.inl rfl))).trans (h.top i hi), fun a i ha hi => (World.cell?_of_block (w := w) (a := ⟨rb a, i, none⟩) (h1 _ (Or.inr (Or.inl ⟨a, ha, rfl⟩)))).trans (h.mid a i ha hi),
    fun a i ha hi => (h.row a i ha hi).agr (h1 _ (Or.inr (Or.inr ⟨a, i, ha, hi, rfl⟩))) k⟩
end
end Go.Proofs.Ytghnkgbingcbcaa
