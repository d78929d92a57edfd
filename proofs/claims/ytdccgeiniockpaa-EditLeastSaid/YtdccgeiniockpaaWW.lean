/- edit.Run. -/
import Derived.Test.YtdccgeiniockpaaVV
namespace Go.Proofs.Ytdccgeiniockpaa
open Go.RowKit Go.Shelf

attribute [local go_sem] Oper.semAt_some

/-- edits of one word, applied from the last one to the first one -/
def runE (xs : List Int) (l : List EdV) : List Int := l.foldr (fun e acc => applyI acc e.1 e.2.1 e.2.2) xs
def lastTo (l : List EdV) : Nat → Int
  | 0 => -1
  | i + 1 => match l[i]? with | some e => (e.2.1 : Int) | none => -1
/-- edits that Run takes -/
structure EdsOk (xs : List Int) (l : List EdV) : Prop where
  le : ∀ (i : Nat) (e : EdV), l[i]? = some e → e.1 ≤ e.2.1 ∧ e.2.1 ≤ xs.length ∧ e.2.1 ≤ (runE xs (l.drop (i + 1))).length
  up : ∀ (i : Nat) (e : EdV), l[i]? = some e → lastTo l i < (e.1 : Int)
  len : ∀ i, (runE xs (l.drop i)).length ≤ 2000
  new : ∀ (i : Nat) (e : EdV), l[i]? = some e → e.2.2.length ≤ 2000
def RunEP (w : World) (ys : List Int) (e : Ending) (w' : World) : Prop := ∃ A k c, e = .returned (.tuple #[.slice A k c, .int .i64 0]) ∧ Ints w' A k c ys ∧ Below w.heap.size w w'

theorem Ints.box {w : World} {A : Option Addr} {n c b : Nat} {xs : List Int} {t : TypeId} {B : Option Addr} {p q : Nat} (h : Ints w A n c xs) (hb : Blk w b t #[.slice B p q]) (u : Value) : Ints (w.setCell ⟨b, 0, none⟩ u) A n c xs := by
  refine ⟨h.1, h.2.1, fun hn => ?_⟩
  obtain ⟨b', off, e, hc⟩ := h.2.2 hn
  refine ⟨b', off, e, fun i hi => ?_⟩
  by_cases hbb : b' = b
  · subst hbb
    have := hc i hi
    rw [hb.cell] at this
    cases ho : off + i with
    | zero => rw [ho] at this; simp at this
    | succ j => rw [ho] at this; simp at this
  · rw [World.cell?_setCell_other w _ _ u (fun e' => hbb (congrArg Addr.block e').symm)]
    exact hc i hi
theorem Ints.kept {W W' : World} {row : Option Nat} {A : Option Addr} {n c : Nat} {xs : List Int} (h : Ints W A n c xs) (hg : W.grownBy W' row) (hr : ∀ r, row = some r → ∃ o : Obj, W.heap[r]? = some o ∧ o.isCells = false) : Ints W' A n c xs :=
  ⟨h.1, h.2.1, fun hn => by
    obtain ⟨b, off, e, hc⟩ := h.2.2 hn
    exact ⟨b, off, e, fun i hi => cell_kept (hc i hi) hg hr⟩⟩
theorem Blk.kept {W W' : World} {row : Option Nat} {b : Nat} {t : TypeId} {cs : Array Value} (h : Blk W b t cs) (hg : W.grownBy W' row) (hr : ∀ r, row = some r → ∃ o : Obj, W.heap[r]? = some o ∧ o.isCells = false) : Blk W' b t cs := by
  refine h.grown hg fun e => ?_
  obtain ⟨o, ho, hc⟩ := hr b e.symm
  have h2 : W.heap[b]? = some (.cells cs t (0, 0)) := h
  rw [h2] at ho
  cases ho
  cases hc

set_option maxRecDepth 100000 in
set_option maxHeartbeats 8000000 in
theorem runE_c (ok : Nat → Prop) (A B : Option Addr) (n c m d : Nat) (xs : List Int) (l : List EdV) (w : World) (h : Ints w A n c xs) (hl : Sl EdE ok w B m d l) (hok : EdsOk xs l) (hn : n ≤ 2000) (hm : m ≤ 2000) :
    Calls Try.prog 37 #[.slice A n c, .slice B m d] w (RunEP w (runE xs l)) := by
  have HX := Lib.hid h.len
  have HI := Lib.hid h
  have HL := Lib.hid hl
  have HOK := Lib.hid hok
  clear h hl hok
  refine (callsIn_wide (n := 3)).1 ?_
  refine callsIn_of_wp_marks Try.func37 rfl trivial ?_ rfl
  simp only [Try.ntmps37, List.size_toArray, List.length_cons, List.length_nil, Nat.reduceAdd, Nat.reduceSub, Array.replicate_succ, Array.replicate_zero, List.push_toArray, List.append_toArray, List.nil_append, List.cons_append]
  gi_wp2
  gi_loopw [6, 14] (fun la i wr => ∃ k : Nat, i = .int .i64 k ∧ k ≤ m ∧ la = .int .i64 (lastTo l k) ∧ Below w.heap.size w wr) (fun _ i _ => m - (intOf i).toNat)
  case atStart => exact ⟨0, rfl, Nat.zero_le _, rfl, Below.refl _ _⟩
  case round =>
    obtain ⟨k, rfl, hk, rfl, hr⟩ := hrel
    by_cases hlt : k < m
    · obtain ⟨be, oe, raw, e, rfl, -, hbe, he, hrel, hc⟩ := HL.out.at_ hlt
      obtain ⟨f, g, C, p, q⟩ := raw
      obtain ⟨f', g', ns⟩ := e
      obtain ⟨e1, e2, -⟩ := hrel
      simp only at e1 e2
      subst e1 e2
      have z0 := (hr.cell (p := ⟨be, oe + k * 3, none⟩) hbe).trans (hc 0 _ rfl)
      have z1 := (hr.cell (p := ⟨be, oe + k * 3 + 1, none⟩) hbe).trans (hc 1 _ rfl)
      have z2 := (hr.cell (p := ⟨be, oe + k * 3 + 2, none⟩) hbe).trans (hc 2 _ rfl)
      simp only at z0 z1 z2
      obtain ⟨q1, q2, -⟩ := HOK.out.le k _ he
      have q3 := HOK.out.up k _ he
      simp only at q1 q2 q3
      rw [HX.out] at q2
      have hst := Lib.hid (show lastTo l (k + 1) = (g : Int) by simp [lastTo, he])
      have i0 : (0 : Int) ≤ (k : Int) := by omega
      have i1 : (k : Int) < (m : Int) := by omega
      have HR := Lib.hid (hr.al (.cells #[.int .i64 (f : Int), .int .i64 (g : Int), .slice C p q] 24))
      generalize lastTo l k = la at *
      have d1 : decide ((f : Int) ≤ la) = false := by simp; omega
      have d2 : decide (g < f) = false := by simp; omega
      have d3 : decide (n < g) = false := by simp; omega
      clear hc he hr hbe
      gi_wp2
      exact ⟨⟨k + 1, by go_num, by omega, by rw [hst.out], HR.out⟩, by simp [intOf]; omega⟩
    · have hkm : k = m := by omega
      have HR := Lib.hid hr
      clear hr
      subst hkm
      clear hlt
      generalize lastTo l k = la at *
      gi_wp2
      refine ⟨trivial, (callsIn_wide.2 (clone_s A n c xs wr (HI.out.keep HR.out (Nat.le_refl _)) (by omega))).mono ?_⟩
      rintro e w1 ⟨A1, c1, rfl, hO, hb⟩
      have HI1 := Lib.hid hO.toInts
      have HB1 := Lib.hid (HR.out.via hb)
      clear hO hb HR
      gi_wp2
      refine ⟨trivial, (callsIn_wide.2 (back_c B k d _)).mono ?_⟩
      rintro e w2 ⟨rfl, rfl⟩
      gi_wp2
      obtain ⟨hll, hld, raw, hrl, hcel, hrel⟩ := HL.out.mono (ok' := fun b => b < w.heap.size) fun b hb _ => hb
      have HRL := Lib.hid hrl
      have HREL := Lib.hid hrel
      have HCEL := Lib.hid hcel
      have HLL := Lib.hid hll
      have B1 := (Blk.new w1 22 #[.slice A1 n c1]).al (.cells #[.slice B k d] 69)
      have B2 := Blk.new (w1.alloc (.cells #[.slice A1 n c1] 22)) 69 #[.slice B k d]
      rw [World.size_alloc] at B2
      have hB2 := (HB1.out.al (.cells #[.slice A1 n c1] 22)).al (.cells #[.slice B k d] 69)
      have hI2 := (HI1.out.al (.cells #[.slice A1 n c1] 22)).al (.cells #[.slice B k d] 69)
      have hsz : ((w1.alloc (.cells #[.slice A1 n c1] 22)).alloc (.cells #[.slice B k d] 69)).heap.size = w1.heap.size + 2 := by simp
      have hw1 := HB1.out.size
      generalize (w1.alloc (.cells #[.slice A1 n c1] 22)).alloc (.cells #[.slice B k d] 69) = W0 at *
      have hW0 : w1.heap.size + 2 ≤ W0.heap.size := by omega
      clear hll hrl hcel hrel hsz
      refine range_given (F := Fence.wide) (n := 3) rfl (by omega) (gf := 70) (lb := #[.pointer (some ⟨w1.heap.size + 1, 0, none⟩)]) rfl trivial (enters_of Try.func70 (by kernel_rfl) rfl)
        k (backV raw) (fun _ _ => rfl) (fun b => b < w.heap.size ∨ b = w1.heap.size + 1) (fun b hb => by omega)
        (fun lp J W hAg hY h0 => back1_in Fence.wide 2 trivial rfl (by omega) lp (w1.heap.size + 1) B k d raw HRL.out (by omega) hld _ J hY W (hAg.cell (Or.inr rfl) (B2.cell 0)) (Or.inr rfl) ((HCEL.out.agr (Agr.lo hB2)).mono (fun b _ hb => Or.inl hb) |>.agr hAg) h0)
        (fun j W => ∃ A' n' c', Blk W w1.heap.size 22 #[.slice A' n' c'] ∧ Ints W A' n' c' (runE xs (l.drop (k - j))) ∧ Below w.heap.size w W)
        (fun s W W' row hs hg hr => by
          obtain ⟨A', n', c', h1, h2, h3⟩ := hs
          exact ⟨A', n', c', h1.kept hg (fun r e => (hr r e).2), h2.kept hg (fun r e => (hr r e).2), h3.grown hg h3.size (fun q e => by have := (hr q e).1; omega)⟩)
        ⟨A1, n, c1, B1, by rw [Nat.sub_zero, List.drop_of_length_le (by rw [HLL.out]; exact Nat.le_refl _)]; exact hI2, hB2⟩
        (fun j a' W => ∃ Bx, w1.heap.size < Bx ∧ Blk W Bx 24 #[.int .i64 ((raw.getD (raw.length - 1 - j) (0, 0, none, 0, 0)).1 : Int), .int .i64 ((raw.getD (raw.length - 1 - j) (0, 0, none, 0, 0)).2.1 : Int), .slice (raw.getD (raw.length - 1 - j) (0, 0, none, 0, 0)).2.2.1 (raw.getD (raw.length - 1 - j) (0, 0, none, 0, 0)).2.2.2.1 (raw.getD (raw.length - 1 - j) (0, 0, none, 0, 0)).2.2.2.2] ∧
          a' = { tmps := #[.slice A n c, .slice B k d, undef, undef, u4, u5, .int .i64 la, undef, u8, .pointer (some ⟨w1.heap.size, 0, none⟩), undef, .pointer (some ⟨Bx, 0, none⟩), .slice B k d, .int .i64 (k : Int), .int .i64 (k : Int), .bool false, u16, u17, u18, u19, u20, u21, u22, u23, u24, u25, u26, u27, u28, u29, u30, u31, u32, u33, u34, u35, u36, u37, u38, .slice A n c, .slice A1 n c1, .slice B k d, .func (.func 70) #[] #[.pointer (some ⟨w1.heap.size + 1, 0, none⟩)], .int .i64 ((raw.length - 1 - j : Nat) : Int), edVal (raw.getD (raw.length - 1 - j) (0, 0, none, 0, 0)), undef, undef, undef, undef, undef, undef, undef], defers := [] })
        (fun j a' _ W W' row hs hg hr => by obtain ⟨Bx, h1, h2, h3⟩ := hs; exact ⟨Bx, h1, h2.kept hg (fun r e => (hr r e).2), h3⟩)
        ?assign ?body ?done
      case assign =>
        rintro lp j W K hj ⟨A', n', c', hb, hi, hB⟩ hK
        simp only [backV]
        obtain ⟨rj, hrj⟩ : ∃ rj, raw.getD (raw.length - 1 - j) (0, 0, none, 0, 0) = rj := ⟨_, rfl⟩
        rw [hrj] at hK ⊢
        obtain ⟨jj, hjj⟩ : ∃ jj, raw.length - 1 - j = jj := ⟨_, rfl⟩
        rw [hjj] at hK ⊢
        clear hrj hjj
        obtain ⟨f, g, C, p, q⟩ := rj
        simp only [edVal] at hK ⊢
        gi_wp2
        exact hK _ _ ((KeepsOthers.alloc _ _).from _) (Agr.below ((Below.refl W.heap.size W).alloc (Nat.le_refl _) _)) ⟨A', n', c', hb.al _, hi.al _, hB.al _⟩ ⟨W.heap.size, hb.lt, Blk.new _ _ _, rfl⟩
      case body =>
        rintro lp j a' W hj hlp ⟨A', n', c', hb, hi, hB⟩ ⟨Bx, hBx, hbx, rfl⟩
        obtain ⟨jj, hjj⟩ : ∃ jj, raw.length - 1 - j = jj := ⟨_, rfl⟩
        have hjl : jj < k := by have := HRL.out; omega
        obtain ⟨rj, hrj⟩ : ∃ rj, raw[jj]? = some rj := ⟨_, List.getElem?_eq_getElem (by rw [HRL.out]; exact hjl)⟩
        obtain ⟨ej, hej⟩ : ∃ ej, l[jj]? = some ej := ⟨_, List.getElem?_eq_getElem (by rw [HLL.out]; exact hjl)⟩
        have hgd : raw.getD (raw.length - 1 - j) (0, 0, none, 0, 0) = rj := by rw [hjj, List.getD_eq_getElem?_getD, hrj]; rfl
        rw [hgd] at hbx ⊢
        obtain ⟨f, g, C, p, q⟩ := rj
        obtain ⟨f', g', ns⟩ := ej
        obtain ⟨e1, e2, hS⟩ := HREL.out jj _ _ hrj hej
        simp only at e1 e2 hS hbx
        subst e1 e2
        obtain ⟨q1, q2, q3⟩ := HOK.out.le jj _ hej
        have q4 := HOK.out.new jj _ hej
        simp only at q1 q2 q3 q4
        have hkj : k - j = jj + 1 := by have := HRL.out; omega
        rw [hkj] at hi
        have hstep := Lib.hid (show runE xs (l.drop jj) = applyI (runE xs (l.drop (jj + 1))) f g ns by
          have hl := List.getElem?_eq_some_iff.1 hej
          rw [List.drop_eq_getElem_cons hl.1, hl.2]; rfl)
        have hlen := HOK.out.len (jj + 1)
        have hIn : Ints W C p q ns := (hS.agr (Agr.lo hB)).ints
        have HIN := Lib.hid hIn
        have HHI := Lib.hid hi
        have HHB := Lib.hid hB
        have hpl := hIn.len
        have hnl := hi.len
        have hJJ := Lib.hid (show k - (j + 1) = jj by omega)
        have hgn : g ≤ n' := by omega
        have hn6 : n' ≤ 1000000 := by omega
        have hp6 : p ≤ 1000000 := by omega
        have hlt := hb.lt
        have cb := hb.cell
        have cx := hbx.cell
        clear hjj hrj hej hgd hS hIn hi hB hpl hnl hkj q3 q4 hlen
        simp only [edVal]
        gi_wp2
        refine ⟨trivial, (CallsIn.inRound lp (callsIn_wide.2 (apply_in A' C n' c' p q f g _ ns _ HHI.out HIN.out q1 hgn hn6 hp6))).mono ?_⟩
        rintro e W3 ⟨A3, c3, rfl, hI3, hb3⟩
        have hbo := hb.via hb3
        have hB3 := HHB.out.via hb3
        have HI3 := Lib.hid hI3
        have co := hbo.cell
        have fo := hbo.frozen
        have hs3 := hb3.size
        have HKF := Lib.hid (show KeepsFrom W0.heap.size W W3 from ⟨hb3.size, fun q o _ ho _ => (hb3.block q (Array.getElem?_eq_some_iff.1 ho).1).trans ho⟩)
        have HAG := Lib.hid (show Agr (fun b => b < w.heap.size ∨ b = w1.heap.size + 1) W W3 from Agr.below hb3)
        clear hI3 hb3 cb cx
        gi_wp2
        refine ⟨HKF.out.trans ((KeepsOthers.setCell _ _ _).from _), HAG.out.trans (Agr.setCell (p := ⟨w1.heap.size, 0, none⟩) _ fun b hb => by show b ≠ w1.heap.size; omega), A3, _, c3, by have := hbo.set1 (.slice A3 (f + p + (n' - g)) c3); exact this, ?_, hB3.setCell (p := ⟨w1.heap.size, 0, none⟩) (by show w.heap.size ≤ w1.heap.size; omega) _⟩
        rw [hJJ.out, hstep.out]
        exact HI3.out.box hbo _
      case done =>
        rintro D W hD ⟨A', n', c', hb, hi, hB⟩ hK
        rw [Nat.sub_self, List.drop_zero] at hi
        have hlen := HOK.out.len 0
        rw [List.drop_zero, hi.len] at hlen
        have d1 : decide ((2000 : Int) < (n' : Int)) = false := by simp; omega
        have HHI := Lib.hid hi
        have HHB := Lib.hid hB
        have HHK := Lib.hid hK
        have cb := hb.cell
        clear hi hB hK
        gi_wp2
        refine ⟨by simp, .inl ⟨_, _, rfl, run_takeDeferred HHK.out, ?_⟩⟩
        exact ⟨_, results_tmp2 rfl _ _ _, A', n', c', rfl, HHI.out.kept (grownBy_putObj' _ D (.deferred none)) (fun r e => by cases e; exact ⟨_, HHK.out, rfl⟩), HHB.out.grown (grownBy_putObj' _ D (.deferred none)) HHB.out.size (fun q e => by cases e; omega)⟩
end Go.Proofs.Ytdccgeiniockpaa
