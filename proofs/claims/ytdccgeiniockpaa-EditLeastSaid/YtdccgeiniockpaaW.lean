/- At. -/
import Derived.Test.YtdccgeiniockpaaV
namespace Go.Proofs.Ytdccgeiniockpaa
open Go.RowKit

def AtP (w : World) (x : Tr) (e : Ending) (w' : World) : Prop :=
  ∃ v, e = .returned (.tuple #[trVal v, .int .i64 0]) ∧ TreeR (fun b => w.heap.size ≤ b) w' v x ∧ Below w.heap.size w w'
structure AtRel (w : World) (t : Tr) (q : List Nat) (k : Nat) (x : Tr) (raw : TrV) (wr : World) : Prop where
  b0 : Blk wr w.heap.size 36 #[.int .i64 raw.1, .int .i64 raw.2.1, .slice raw.2.2.1 raw.2.2.2.1 raw.2.2.2.2]
  b1 : Blk wr (w.heap.size + 1) 36 #[.int .i64 0, .int .i64 0, .slice none 0 0]
  tree : TreeR (fun b => b < w.heap.size) wr raw x
  bel : Below w.heap.size w wr
  size : w.heap.size + 2 ≤ wr.heap.size
  path : t.at? (q.take k) = some x
theorem AtRel.via {w wr wa : World} {t x : Tr} {q : List Nat} {k : Nat} {raw : TrV} (h : AtRel w t q k x raw wr) (hb : Below wr.heap.size wr wa) : AtRel w t q k x raw wa :=
  ⟨h.b0.via hb, h.b1.via hb, h.tree.via hb, h.bel.via hb, Nat.le_trans h.size hb.size, h.path⟩
theorem AtRel.step {w wr : World} {t x y : Tr} {q : List Nat} {k i : Nat} {raw r2 : TrV} (h : AtRel w t q k x raw wr) (hi : q[k]? = some i) (hy : x.kids[i]? = some y) (hty : TreeR (fun b => b < w.heap.size) wr r2 y) :
    AtRel w t q (k + 1) y r2 (((wr.setCell ⟨w.heap.size, 0, none⟩ (.int .i64 r2.1)).setCell ⟨w.heap.size, 1, none⟩ (.int .i64 r2.2.1)).setCell ⟨w.heap.size, 2, none⟩ (.slice r2.2.2.1 r2.2.2.2.1 r2.2.2.2.2)) := by
  refine ⟨?_, ((h.b1.far (by simp) _).far (by simp) _).far (by simp) _, hty.set3 (fun b hb => by omega) _ _ _, below_set3 h.bel (Nat.le_refl _) _ _ _, by simpa using h.size, ?_⟩
  · have := ((h.b0.set_ 0 (.int .i64 r2.1)).set_ 1 (.int .i64 r2.2.1)).set_ 2 (.slice r2.2.2.1 r2.2.2.2.1 r2.2.2.2.2)
    simpa using this
  · have hl := List.getElem?_eq_some_iff.1 hi
    rw [List.take_succ_eq_append_getElem hl.1, hl.2, Tr.at_append, h.path, Option.bind_some, Tr.at_one]
    exact hy
theorem Tr.at_step {t z x : Tr} {q : List Nat} {k i : Nat} (h : t.at? q = some z) (hx : t.at? (q.take k) = some x) (hi : q[k]? = some i) : ∃ y, x.kids[i]? = some y := by
  have hl := List.getElem?_eq_some_iff.1 hi
  have e : q = q.take k ++ (i :: q.drop (k + 1)) := by
    have := (List.take_append_drop k q).symm
    rw [List.drop_eq_getElem_cons hl.1, hl.2] at this
    exact this
  rw [e, Tr.at_append, hx, Option.bind_some] at h
  simp only [Tr.at?] at h
  cases hk : x.kids[i]? with
  | none => rw [hk] at h; cases h
  | some y => exact ⟨y, rfl⟩

set_option maxRecDepth 100000 in
set_option maxHeartbeats 4000000 in
theorem at_c (ok : Nat → Prop) (v : TrV) (t : Tr) (w : World) (h : TreeR ok w v t) (hM : t.size ≤ 1000000) (A : Option Addr) (n c : Nat) (q : List Nat) (hI : Ints w A n c (q.map fun i : Nat => (i : Int))) (z : Tr) (hz : t.at? q = some z) :
    Calls Try.prog 21 #[trVal v, .slice A n c] w (AtP w z) := by
  obtain ⟨ra, rb, rA, rn, rc⟩ := v
  have hT := ((h.mono (ok' := fun b => b < w.heap.size) fun b hb _ => hb).al (.cells #[.int .i64 ra, .int .i64 rb, .slice rA rn rc] 36)).al (.cells #[.int .i64 0, .int .i64 0, .slice none 0 0] 36)
  have B0 := (Blk.new w 36 #[.int .i64 ra, .int .i64 rb, .slice rA rn rc]).al (.cells #[.int .i64 0, .int .i64 0, .slice none 0 0] 36)
  have B1 := Blk.new (w.alloc (.cells #[.int .i64 ra, .int .i64 rb, .slice rA rn rc] 36)) 36 #[.int .i64 0, .int .i64 0, .slice none 0 0]
  rw [World.size_alloc] at B1
  have hB := ((Below.refl w.heap.size w).al (.cells #[.int .i64 ra, .int .i64 rb, .slice rA rn rc] 36)).al (.cells #[.int .i64 0, .int .i64 0, .slice none 0 0] 36)
  have hR : AtRel w t q 0 t (ra, rb, rA, rn, rc) _ := ⟨B0, B1, hT, hB, by simp, rfl⟩
  have hql : q.length = n := by have := hI.len; simpa using this
  have hqs : q.length ≤ t.size := by have := Tr.at_size hz; omega
  have HR := Lib.hid hR
  have HI := Lib.hid hI
  have HZ := Lib.hid hz
  clear h hT B0 B1 hB hR hI hz
  simp only [trVal]
  go_enter Try.func21, Try.ntmps21
  go_wp2_with fail
  go_loopw [11] (fun i wr => ∃ (k : Nat) (x : Tr) (raw : TrV), i = .int .i64 k ∧ k ≤ n ∧ AtRel w t q k x raw wr) (fun i _ => n - (intOf i).toNat)
  case atStart => exact ⟨0, _, _, rfl, Nat.zero_le _, HR.out⟩
  case round =>
    obtain ⟨k, x, raw, rfl, hk, hr⟩ := hrel
    clear HR
    obtain ⟨xa, xb, xA, xn, xc⟩ := raw
    have B0 := hr.b0
    have B1 := hr.b1
    simp only at B0
    by_cases hkl : k < n
    · obtain ⟨bq, oq, rfl, hbq, hxq⟩ := HI.out.at_ hkl
      have hqk : q[k]? = some q[k] := List.getElem?_eq_getElem (by omega)
      obtain ⟨y, hy⟩ := Tr.at_step HZ.out hr.path hqk
      have hgd : (q.map fun i : Nat => (i : Int)).getD k 0 = ((q[k] : Nat) : Int) := by
        rw [List.getD_eq_getElem?_getD, List.getElem?_map, hqk]; rfl
      rw [hgd] at hxq
      have HY := Lib.hid hy
      have HQ := Lib.hid hqk
      generalize q[k] = i at *
      have xq := (hr.bel.cell (p := ⟨bq, oq + k, none⟩) hbq).trans hxq
      have HR := Lib.hid hr
      have HK := Lib.hid hr.tree
      have i0 : (0 : Int) ≤ (k : Int) := by omega
      have i1 : (k : Int) < (n : Int) := by omega
      clear hr hgd hxq hqk hy
      have cB0 := B0.cell
      have fB0 := B0.frozen
      have lB0 := B0.lt
      have cB1 := B1.cell
      have fB1 := B1.frozen
      have lB1 := B1.lt
      go_wp2_with fail
      clear cB0 fB0 lB0 cB1 fB1 lB1
      refine (kids_c _ (xa, xb, xA, xn, xc) x wr HK.out).mono ?_
      rintro e w2 ⟨A2, n2, c2, rfl, hS, hb2⟩
      have hr2 := HR.out.via hb2
      have hS2 := hS.via hb2
      have hin : i < n2 := by rw [← hS.len]; exact (List.getElem?_eq_some_iff.1 HY.out).1
      obtain ⟨bk, ok2, xk, y', rfl, hob, hbk, hy', hxy, hc⟩ := hS2.at_ hin
      have hyy : y' = y := by have h1 := HY.out; rw [hy'] at h1; exact Option.some.inj h1
      subst hyy
      have hxy' : TreeR (fun b => b < w.heap.size) w2 xk y' := hxy
      have c0 := hc 0 _ rfl
      have c1 := hc 1 _ rfl
      have c2 := hc 2 _ rfl
      obtain ⟨ya, yb, yA, yn, yc⟩ := xk
      simp only [TrE, Nat.add_zero] at c0 c1 c2
      have j0 : (0 : Int) ≤ (i : Int) := by omega
      have j1 : (i : Int) < (n2 : Int) := by omega
      have HQ2 := Lib.hid (AtRel.step (r2 := (ya, yb, yA, yn, yc)) hr2 HQ.out HY.out hxy')
      have B0 := hr2.b0
      simp only at B0
      clear hS hS2 hb2 hr2 hxy hxy' hc hy' B1 HK HR xq
      have cB0 := B0.cell
      have fB0 := B0.frozen
      have lB0 := B0.lt
      go_wp2_with fail
      exact ⟨⟨k + 1, _, _, by go_num, by omega, HQ2.out⟩, by simp [intOf]; omega⟩
    · have HKE := Lib.hid (show k = n by omega)
      have HR := Lib.hid hr
      clear hr
      have cB0 := B0.cell
      have fB0 := B0.frozen
      have lB0 := B0.lt
      have cB1 := B1.cell
      have fB1 := B1.frozen
      have lB1 := B1.lt
      go_wp2_with fail
      clear cB0 fB0 lB0 cB1 fB1 lB1
      have hxz : x = z := by
        have h1 := HR.out.path
        rw [List.take_of_length_le (by rw [HKE.out, hql]; exact Nat.le_refl _), HZ.out] at h1
        exact (Option.some.inj h1).symm
      subst hxz
      have hxs := Tr.at_size HZ.out
      refine (clonet_c _ (xa, xb, xA, xn, xc) x wr HR.out.tree (by omega)).mono ?_
      rintro e w2 ⟨v2, rfl, hT2, hb2⟩
      have hr2 := HR.out.via hb2
      have HT2 := Lib.hid hT2
      have HR2 := Lib.hid hr2
      have hsz := HR.out.size
      have B1 := hr2.b1
      clear hT2 hb2 hr2 HR B0
      obtain ⟨va, vb, vA, vn, vc⟩ := v2
      dsimp only [trVal]
      have cB1 := B1.cell
      have fB1 := B1.frozen
      have lB1 := B1.lt
      go_wp2_with fail
      refine bodyPost_ret (v := .tuple #[trVal (va, vb, vA, vn, vc), .int .i64 0]) (by simp [results, Try.results21, go_sem, trVal, cB1]) rfl ⟨_, rfl, ?_, ?_⟩
      · exact (HT2.out.set3 (fun b hb => by omega) _ _ _).mono fun b _ hb => by omega
      · exact below_set3 HR2.out.bel (by omega) _ _ _
end Go.Proofs.Ytdccgeiniockpaa
