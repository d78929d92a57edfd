/- Path, At. -/
import Derived.Test.YtdccgeiniockpaaU
namespace Go.Proofs.Ytdccgeiniockpaa
open Go.RowKit

/-- the subtree at a path -/
def Tr.at? (t : Tr) : List Nat → Option Tr
  | [] => some t
  | i :: p => match t.kids[i]? with | some k => Tr.at? k p | none => none
theorem Tr.at_append (t : Tr) (p q : List Nat) : t.at? (p ++ q) = (t.at? p).bind (fun x => x.at? q) := by
  induction p generalizing t with
  | nil => simp [Tr.at?]
  | cons i p ih =>
    simp only [List.cons_append, Tr.at?]
    cases t.kids[i]? with
    | none => simp
    | some k => simpa using ih k
theorem Tr.at_one (t : Tr) (i : Nat) : t.at? [i] = t.kids[i]? := by
  simp only [Tr.at?]; cases t.kids[i]? <;> rfl
theorem Tr.at_size {t x : Tr} {p : List Nat} (h : t.at? p = some x) : x.size + p.length ≤ t.size := by
  induction p generalizing t with
  | nil => simp [Tr.at?] at h; subst h; simp
  | cons i p ih =>
    simp only [Tr.at?] at h
    cases hk : t.kids[i]? with
    | none => rw [hk] at h; cases h
    | some k =>
      rw [hk] at h
      have := ih h
      have h2 := Tr.size_kid (List.mem_of_getElem? hk)
      simp only [List.length_cons]; omega

def lenOf : Value → Nat
  | .slice _ n _ => n
  | _ => 0

/-! ### Path -/
def PathP (w : World) (t : Tr) (e : Ending) (w' : World) : Prop :=
  ∃ A n c q x, e = .returned (.slice A n c) ∧ Ints w' A n c (q.map fun i : Nat => (i : Int)) ∧ t.at? q = some x ∧ Below w.heap.size w w'
structure PathRel (w : World) (t : Tr) (q : List Nat) (n : Nat) (v : Value) (x : Tr) (raw : TrV) (A : Option Addr) (m c : Nat) (ls : List Int) (wr : World) : Prop where
  b0 : Blk wr w.heap.size 36 #[.int .i64 raw.1, .int .i64 raw.2.1, .slice raw.2.2.1 raw.2.2.2.1 raw.2.2.2.2]
  b1 : Blk wr (w.heap.size + 1) 78 #[.slice A m c]
  ints : Ints w A m c ls
  own : OwnI wr (w.heap.size + 2) v n (q.map fun i : Nat => (i : Int))
  tree : TreeR (fun b => b < w.heap.size) wr raw x
  bel : Below w.heap.size w wr
  size : w.heap.size + 2 ≤ wr.heap.size
  path : t.at? q = some x
  len : q.length = n
  sum : x.size + n ≤ t.size

theorem PathRel.next {w wr : World} {t x : Tr} {q : List Nat} {n : Nat} {v : Value} {raw : TrV} {A A' : Option Addr} {m c m' c' : Nat} {ls ls' : List Int} (h : PathRel w t q n v x raw A m c ls wr) (hI : Ints w A' m' c' ls') :
    PathRel w t q n v x raw A' m' c' ls' (wr.setCell ⟨w.heap.size + 1, 0, none⟩ (.slice A' m' c')) :=
  ⟨h.b0.far (by simp) _, h.b1.set1 _, hI, h.own.setCell (by simp) _, h.tree.agr (Agr.setCell _ fun b hb => by show b ≠ w.heap.size + 1; omega), h.bel.setCell (by simp) _, by simpa using h.size, h.path, h.len, h.sum⟩

theorem PathRel.via {w wr wa : World} {t x : Tr} {q : List Nat} {n : Nat} {v : Value} {raw : TrV} {A : Option Addr} {m c : Nat} {ls : List Int} (h : PathRel w t q n v x raw A m c ls wr) (hb : Below wr.heap.size wr wa) : PathRel w t q n v x raw A m c ls wa :=
  ⟨h.b0.via hb, h.b1.via hb, h.ints, OwnI.keep h.own hb (Nat.le_refl _), h.tree.via hb, h.bel.via hb, Nat.le_trans h.size hb.size, h.path, h.len, h.sum⟩
theorem PathRel.push {w wr w1 : World} {t x y : Tr} {q : List Nat} {n g : Nat} {v v' : Value} {raw r2 : TrV} {A : Option Addr} {m c : Nat} {ls : List Int} (h : PathRel w t q n v x raw A m c ls wr)
    (ho : OwnI w1 (w.heap.size + 2) v' (n + 1) (q.map (fun i : Nat => (i : Int)) ++ [(g : Int)])) (hg : wr.grownBy w1 v.ownBlock) (hy : x.kids[g]? = some y) (hty : TreeR (fun b => b < w.heap.size) wr r2 y) :
    PathRel w t (q ++ [g]) (n + 1) v' y r2 A m c ls (((w1.setCell ⟨w.heap.size, 0, none⟩ (.int .i64 r2.1)).setCell ⟨w.heap.size, 1, none⟩ (.int .i64 r2.2.1)).setCell ⟨w.heap.size, 2, none⟩ (.slice r2.2.2.1 r2.2.2.2.1 r2.2.2.2.2)) := by
  have hne : ∀ j, j < w.heap.size + 2 → some j ≠ v.ownBlock := fun j hj e => by have := (h.own.lt j e.symm).1; omega
  have hsz := h.size
  refine ⟨?_, (((h.b1.grown hg (hne _ (by omega))).far (by simp) _).far (by simp) _).far (by simp) _, h.ints, ?_, ?_, ?_, ?_, ?_, ?_, ?_⟩
  · have := (((h.b0.grown hg (hne _ (by omega))).set_ 0 (.int .i64 r2.1)).set_ 1 (.int .i64 r2.2.1)).set_ 2 (.slice r2.2.2.1 r2.2.2.2.1 r2.2.2.2.2)
    simpa using this
  · rw [List.map_append]
    exact ((OwnI.setCell ho (by simp) _).setCell (by simp) _).setCell (by simp) _
  · refine (hty.agr (Agr.grown hg fun b hb => hne b (by omega))).set3 (fun b hb => by omega) _ _ _
  · exact below_set3 (h.bel.grown hg h.bel.size fun k hk => by have := (h.own.lt k hk).1; omega) (Nat.le_refl _) _ _ _
  · have := hg.size; simp; omega
  · rw [Tr.at_append, h.path, Option.bind_some, Tr.at_one]; exact hy
  · simp [h.len]
  · have h1 := Tr.size_kid (List.mem_of_getElem? hy)
    have h2 := h.sum
    omega

set_option maxRecDepth 100000 in
set_option maxHeartbeats 4000000 in
theorem path_c (ok : Nat → Prop) (v : TrV) (t : Tr) (w : World) (h : TreeR ok w v t) (hM : t.size ≤ 1000000) (A : Option Addr) (m c : Nat) (ls : List Int) (hI : Ints w A m c ls) :
    Calls Try.prog 20 #[trVal v, .slice A m c] w (PathP w t) := by
  obtain ⟨ra, rb, rA, rn, rc⟩ := v
  have hT := ((h.mono (ok' := fun b => b < w.heap.size) fun b hb _ => hb).al (.cells #[.int .i64 ra, .int .i64 rb, .slice rA rn rc] 36)).al (.cells #[.slice A m c] 78)
  have B0 := (Blk.new w 36 #[.int .i64 ra, .int .i64 rb, .slice rA rn rc]).al (.cells #[.slice A m c] 78)
  have B1 := Blk.new (w.alloc (.cells #[.int .i64 ra, .int .i64 rb, .slice rA rn rc] 36)) 78 #[.slice A m c]
  rw [World.size_alloc] at B1
  have hB := ((Below.refl w.heap.size w).al (.cells #[.int .i64 ra, .int .i64 rb, .slice rA rn rc] 36)).al (.cells #[.slice A m c] 78)
  have hR : PathRel w t [] 0 (.slice none 0 0) t (ra, rb, rA, rn, rc) A m c ls _ := ⟨B0, B1, hI, OwnI.nil _ _, hT, hB, by simp, rfl, rfl, by omega⟩
  have HR := Lib.hid hR
  clear h hT B0 B1 hB hR hI
  simp only [trVal]
  go_enter Try.func20, Try.ntmps20
  go_wp2_with fail
  go_loopw [6] (fun v wr => ∃ (q : List Nat) (n : Nat) (x : Tr) (raw : TrV) (A : Option Addr) (m c : Nat) (ls : List Int), PathRel w t q n v x raw A m c ls wr) (fun v _ => t.size - lenOf v)
  case atStart => exact ⟨_, _, _, _, _, _, _, _, HR.out⟩
  case round =>
    obtain ⟨q, n, x, raw, A2, m2, c2, l2, hr⟩ := hrel
    clear HR
    obtain ⟨Av, cv, rfl, -⟩ := hr.own.form
    obtain ⟨ra2, rb2, rA2, rn2, rc2⟩ := raw
    obtain ⟨t1, t2, t3⟩ := hr.tree.parts
    simp only at t1 t2 t3
    have hlen := t3.len
    have hsum := hr.sum
    have hszr := hr.size
    have B0 := hr.b0
    have B1 := hr.b1
    simp only at B0
    have HR := Lib.hid hr
    have HS := Lib.hid t3
    clear hr t3
    cases x with
    | leaf k =>
      have e1 : ra2 = -1 := t1
      subst e1
      clear t1 t2
      have cB0 := B0.cell
      have fB0 := B0.frozen
      have lB0 := B0.lt
      have cB1 := B1.cell
      have fB1 := B1.frozen
      have lB1 := B1.lt
      go_wp2_with fail
      go_ret
      exact ⟨Av, n, cv, q, _, rfl, HR.out.own.toInts, HR.out.path, HR.out.bel⟩
    | node r ks =>
      have e1 : ra2 = (r : Int) := t1
      subst e1
      have d1 : decide ((r : Int) ≥ 0) = true := by simp
      clear t1 t2
      by_cases hz : rn2 = 0
      · subst hz
        have cB0 := B0.cell
        have fB0 := B0.frozen
        have lB0 := B0.lt
        have cB1 := B1.cell
        have fB1 := B1.frozen
        have lB1 := B1.lt
        go_wp2_with fail
        go_ret
        exact ⟨Av, n, cv, q, _, rfl, HR.out.own.toInts, HR.out.path, HR.out.bel⟩
      · have d2 : 0 < rn2 := by omega
        clear hz
        have cB0 := B0.cell
        have fB0 := B0.frozen
        have lB0 := B0.lt
        have cB1 := B1.cell
        have fB1 := B1.frozen
        have lB1 := B1.lt
        go_wp2_with fail
        clear cB0 fB0 lB0 cB1 fB1 lB1
        refine (rnext_n w wr (w.heap.size + 1) 4 _ rfl A2 m2 c2 l2 HR.out.ints HR.out.bel (B1.cell 0) (B1.frozen 0) (by omega) (by omega)).mono ?_
        rintro e w' ⟨g1, A3, m3, c3, l3, rfl, hg1, hm3, rfl, hI3⟩
        have hr3 := HR.out.next hI3
        generalize wr.setCell ⟨w.heap.size + 1, 0, none⟩ (.slice A3 m3 c3) = w3 at *
        clear B0 B1 HS HR hI3
        have B0 := hr3.b0
        have B1 := hr3.b1
        simp only at B0
        have HR := Lib.hid hr3
        clear hr3
        by_cases hg0 : g1 = 0
        · subst hg0
          have cB0 := B0.cell
          have fB0 := B0.frozen
          have lB0 := B0.lt
          have cB1 := B1.cell
          have fB1 := B1.frozen
          have lB1 := B1.lt
          go_wp2_with fail
          go_ret
          exact ⟨Av, n, cv, q, _, rfl, HR.out.own.toInts, HR.out.path, HR.out.bel⟩
        · have d3 : 0 < g1 := by omega
          clear hg0
          have cB0 := B0.cell
          have fB0 := B0.frozen
          have lB0 := B0.lt
          have cB1 := B1.cell
          have fB1 := B1.frozen
          have lB1 := B1.lt
          go_wp2_with fail
          clear cB0 fB0 lB0 cB1 fB1 lB1
          have hkl := Tr.kids_len (.node r ks)
          refine (rnext_n w w3 (w.heap.size + 1) rn2 _ rfl A3 m3 c3 l3 HR.out.ints HR.out.bel (B1.cell 0) (B1.frozen 0) (by omega) (by omega)).mono ?_
          rintro e w' ⟨g2, A4, m4, c4, l4, rfl, hg2, hm4, rfl, hI4⟩
          have hr4 := HR.out.next hI4
          generalize w3.setCell ⟨w.heap.size + 1, 0, none⟩ (.slice A4 m4 c4) = w4 at *
          clear B0 B1 HR hI4
          have B0 := hr4.b0
          simp only at B0
          obtain ⟨bk, ok2, xk, y, rfl, hob, hbk, hy, hxy, hc⟩ := hr4.tree.kids.2.2.at_ hg2
          have hxy' : TreeR (fun b => b < w.heap.size) w4 xk y := hxy
          have c0 := hc 0 _ rfl
          have c1 := hc 1 _ rfl
          have c2 := hc 2 _ rfl
          obtain ⟨xa, xb, xA, xn, xc⟩ := xk
          simp only [TrE, Nat.add_zero] at c0 c1 c2
          have j0 : (0 : Int) ≤ (g2 : Int) := by omega
          have j1 : (g2 : Int) < (rn2 : Int) := by omega
          have HR := Lib.hid hr4
          have HX := Lib.hid hxy'
          have HY := Lib.hid hy
          have hsz4 := hr4.size
          clear hr4 hxy hxy' hc hy
          have hnk : n ≤ 1000000 := by omega
          have cB0 := B0.cell
          have fB0 := B0.frozen
          have lB0 := B0.lt
          go_wp2_with fail
          go_region_law (refine step_append_ints _ rfl (.tmp 30) (.tmp 32) rfl (w.heap.size + 2) (.slice Av n cv) n (q.map fun i : Nat => (i : Int)) rfl (HR.out.via (((Below.refl w4.heap.size w4).drew).alloc (Nat.le_refl _) (.cells #[.int .i64 (g2 : Int)] 3))).own (some ⟨w4.heap.size, 0, none⟩) 1 1 [(g2 : Int)] rfl (Ints.one w4.drew (g2 : Int) 3) (Nat.le_trans (Nat.succ_le_succ hnk) (by decide)) (HR.out.via (((Below.refl w4.heap.size w4).drew).alloc (Nat.le_refl _) (.cells #[.int .i64 (g2 : Int)] 3))).size ?_
                         intro Av1 cv1 w1 ho1 hg1 hat1
                         have hA := HR.out.via (((Below.refl w4.heap.size w4).drew).alloc (Nat.le_refl _) (.cells #[.int .i64 (g2 : Int)] 3))
                         have hne1 : ∀ j, j < w.heap.size + 2 → some j ≠ Value.ownBlock (.slice Av n cv) := fun j hj e => by have := (HR.out.own.lt j e.symm).1; omega
                         have B0g := hA.b0.grown hg1 (hne1 _ (by omega))
                         have c0g := B0g.cell
                         have f0g := B0g.frozen
                         have hAg : Agr (fun b => b < w.heap.size) w4 w1 := (Agr.below (((Below.refl w4.heap.size w4).drew).alloc (Nat.le_refl _) (.cells #[.int .i64 (g2 : Int)] 3))).trans (Agr.grown hg1 fun b hb => hne1 b (Nat.lt_of_lt_of_le hb (Nat.le_add_right _ _)))
                         have k0 := hAg.cell hob c0
                         have k1 := hAg.cell hob c1
                         have k2 := hAg.cell hob c2)
          all_goals
            have HQ := Lib.hid (PathRel.push (r2 := (xa, xb, xA, xn, xc)) hA ho1 hg1 HY.out (HX.out.via (((Below.refl w4.heap.size w4).drew).alloc (Nat.le_refl _) (.cells #[.int .i64 (g2 : Int)] 3))))
            clear hA
            go_wp2_with fail
            exact ⟨⟨_, _, _, _, _, _, _, _, HQ.out⟩, by simp only [lenOf]; omega⟩
end Go.Proofs.Ytdccgeiniockpaa
