/- parlkeep4.value: an expression that is well formed. -/
import Derived.Test.YtgclibfikdonoaaYR
namespace Go.Proofs.Ytgclibfikdonoaa
open Go.RowKit

/-- the five cells of a struct are written -/
def World.set5 (w : World) (r : Nat) (v : ExV) : World :=
  ((((w.setCell ⟨r, 0, none⟩ (.int .i64 (v.1 : Int))).setCell ⟨r, 1, none⟩ (.int .i64 (v.2.1 : Int))).setCell ⟨r, 2, none⟩ (.int .i64 (v.2.2.1 : Int))).setCell ⟨r, 3, none⟩ (.int .i64 (v.2.2.2.1 : Int))).setCell ⟨r, 4, none⟩ (.slice v.2.2.2.2.1 v.2.2.2.2.2.1 v.2.2.2.2.2.2)
section
variable {w0 w : World} {r : Nat} {v : ExV}
theorem agr_set5 {ok : Nat → Prop} (hk : ∀ b, ok b → b ≠ r) : Agr ok w (World.set5 w r v) :=
  ((((Agr.setCell _ hk).trans (Agr.setCell _ hk)).trans (Agr.setCell _ hk)).trans (Agr.setCell _ hk)).trans (Agr.setCell _ hk)
theorem below_set5 {B : Nat} (h : Below B w0 w) (hr : B ≤ r) : Below B w0 (World.set5 w r v) :=
  ((((h.setCell hr _).setCell hr _).setCell hr _).setCell hr _).setCell hr _
theorem size_set5 : (World.set5 w r v).heap.size = w.heap.size := by simp [World.set5]
theorem Rd.set5 {br : Nat} (h : Rd w0 w br) (h1 : r ≠ br) (h3 : w0.heap.size ≤ r) : Rd w0 (World.set5 w r v) br :=
  ((((h.far h1 h3 _).far h1 h3 _).far h1 h3 _).far h1 h3 _).far h1 h3 _
end

def ValP (w0 w : World) (br d : Nat) (e : Ending) (w' : World) : Prop :=
  ∃ (v : ExV) (t : Ex), e = .returned (exVal v) ∧ ExR (fun b => w.heap.size ≤ b) w' v t ∧ Ex.Ok d t ∧ Rd w0 w' br ∧ Agr (Nr br) w w' ∧ w.heap.size ≤ w'.heap.size
theorem ValP.fin {w0 w wr : World} {br d : Nat} (v : ExV) (t : Ex) (hrd : Rd w0 wr br) (ha : Agr (Nr br) w wr) (hz : w.heap.size + 1 ≤ wr.heap.size) (hb : br < w.heap.size) (ht : ExR (fun b => w.heap.size + 1 ≤ b) wr v t) (hok : Ex.Ok d t) :
    ValP w0 w br d (.returned (exVal v)) (World.set5 wr w.heap.size v) := by
  have hlo := hrd.lo
  refine ⟨v, t, rfl, (ht.agr (agr_set5 fun b hb => by omega)).mono (fun b _ hb => by omega), hok, hrd.set5 (by omega) (by omega), ?_, by rw [size_set5]; omega⟩
  intro b hb hlt
  exact (agr_set5 (ok := fun b => b ≠ w.heap.size) (fun _ h => h) b (by show b ≠ w.heap.size; omega) (by omega)).trans (ha b hb hlt)

/-- behind k arguments -/
structure VRel (w0 w : World) (br d K bt k : Nat) (v : Value) (ks : List Ex) (wr : World) : Prop where
  rd : Rd w0 wr br
  agr : Agr (Nr br) w wr
  own : Own ExE 28 (fun b => bt + 1 ≤ b) wr (bt + 1) v k ks
  b1 : Blk wr w.heap.size 28 #[.int .i64 0, .int .i64 0, .int .i64 0, .int .i64 0, .slice none 0 0]
  b2 : Blk wr bt 28 #[.int .i64 (K : Int), .int .i64 0, .int .i64 0, .int .i64 0, v]
  size : bt + 1 ≤ wr.heap.size
  hbt : w.heap.size + 1 ≤ bt
  oks : ∀ t ∈ ks, Ex.Ok d t
section
variable {w0 w wr wa w1 : World} {br d K bt k : Nat} {v v' : Value} {ks : List Ex}
theorem VRel.call (h : VRel w0 w br d K bt k v ks wr) (hb : br < w.heap.size) (ha : Agr (Nr br) wr wa) (hz : wr.heap.size ≤ wa.heap.size) (hs : Rd w0 wa br) : VRel w0 w br d K bt k v ks wa := by
  have hbt := h.hbt
  have hm : ∀ j, w.heap.size ≤ j → Nr br j := fun j hj => by show j ≠ br; omega
  refine ⟨hs, h.agr.trans ha, h.own.agr (ha.mono fun j hj => ?_), h.b1.agr ha (hm _ (by omega)), h.b2.agr ha (hm _ (by omega)), Nat.le_trans h.size hz, hbt, h.oks⟩
  rcases hj with hj | hj
  · exact hm j (by omega)
  · have := (h.own.lt j hj.symm).1; exact hm j (by omega)
theorem VRel.via (h : VRel w0 w br d K bt k v ks wr) (hb : br < w.heap.size) (ha : Below wr.heap.size wr wa) : VRel w0 w br d K bt k v ks wa :=
  h.call hb (Agr.below ha) ha.size (h.rd.via ha)
theorem VRel.push {t : Ex} (h : VRel w0 w br d K bt k v ks wr) (hb : br < w.heap.size) (ho : Own ExE 28 (fun b => bt + 1 ≤ b) w1 (bt + 1) v' (k + 1) (ks ++ [t])) (hg : wr.grownBy w1 v.ownBlock) (ht : Ex.Ok d t) :
    VRel w0 w br d K bt (k + 1) v' (ks ++ [t]) (w1.setCell ⟨bt, 4, none⟩ v') := by
  have hbt := h.hbt
  have hsz := h.size
  have hw0 := h.rd.lo
  have hne : ∀ j, j ≤ bt → some j ≠ v.ownBlock := fun j hj e => by have := (h.own.lt j e.symm).1; omega
  refine ⟨(h.rd.grown hg fun j e => by have := (h.own.lt j e).1; omega).far (by simp; omega) (by simp; omega) _, ?_, ?_, (h.b1.grown hg (hne _ (by omega))).far (by simp; omega) _, ?_, ?_, hbt, ?_⟩
  · intro b hb' hlt
    have e1 := h.agr b hb' hlt
    have e2 := hg.block b (by omega) (hne _ (by omega))
    have e3 := Below.heap_setCell w1 ⟨bt, 4, none⟩ v' b (by simp; omega)
    exact e3.trans (e2.trans e1)
  · exact ho.setCell _ (fun b hb => by show b ≠ bt; omega) (by show bt < _; omega)
  · have := (h.b2.grown hg (hne _ (by omega))).set_ 4 v'; simpa using this
  · have := hg.size; simp; omega
  · intro x hx
    rcases List.mem_append.1 hx with hx | hx
    · exact h.oks x hx
    · rw [List.mem_singleton.1 hx]; exact ht
end

set_option maxRecDepth 100000 in
set_option maxHeartbeats 4000000 in
theorem value_n (w0 : World) (br : Nat) (okf : Nat → Prop) (hokf : ∀ b, okf b → Nr br b) (A : Option Addr) (n c : Nat) (xs : List Rf) (hn : n ≤ 1000000) (d : Nat) : d ≤ 1000 → ∀ (w : World) (D : Int), D = (d : Int) → Sl RfE okf w A n c xs → Rd w0 w br →
    Calls Try.prog 25 #[.pointer (some ⟨br, 0, none⟩), .slice A n c, .int .i64 D] w (ValP w0 w br d) := by
  induction d using Nat.strongRecOn with
  | ind d ih =>
    intro hd w D hD hx hr
    have hbr := hr.lt
    have B1 := Blk.new w 28 #[.int .i64 0, .int .i64 0, .int .i64 0, .int .i64 0, .slice none 0 0]
    have hB := (Below.refl w.heap.size w).al (.cells #[.int .i64 0, .int .i64 0, .int .i64 0, .int .i64 0, .slice none 0 0] 28)
    have hs : w.heap.size + 1 ≤ (w.alloc (.cells #[.int .i64 0, .int .i64 0, .int .i64 0, .int .i64 0, .slice none 0 0] 28)).heap.size := by simp
    replace hr := hr.al (.cells #[.int .i64 0, .int .i64 0, .int .i64 0, .int .i64 0, .slice none 0 0] 28)
    have HX := Lib.hid hx
    replace hx := hx.al (.cells #[.int .i64 0, .int .i64 0, .int .i64 0, .int .i64 0, .slice none 0 0] 28)
    go_enter Try.func25, Try.ntmps25
    go_wp2_with fail
    generalize w.alloc (.cells #[.int .i64 0, .int .i64 0, .int .i64 0, .int .i64 0, .slice none 0 0] 28) = W at *
    refine (rd_n w0 W br 7 _ rfl hr (by omega) (by omega)).mono ?_
    rintro e W1 ⟨k, rfl, hk, hr1, ha1, hz1, -⟩
    have B2 := B1.agr ha1 (show Nr br w.heap.size by show w.heap.size ≠ br; omega)
    have hA1 : Agr (Nr br) w W1 := (Agr.below hB).trans ha1
    have hs1 : w.heap.size + 1 ≤ W1.heap.size := by omega
    have HX1 := Lib.hid (hx.agr (ha1.mono hokf))
    have HA1 := Lib.hid hA1
    have HR1 := Lib.hid hr1
    have HI := Lib.hid ih
    clear ha1 hr1 hr B1 hA1 hx hB hs hz1 ih
    by_cases hnode : d ≠ 0 ∧ 2 ≤ k
    · obtain ⟨hd0, hk2⟩ := hnode
      obtain ⟨d, rfl⟩ := Nat.exists_eq_succ_of_ne_zero hd0
      clear hd0
      simp only [Nat.succ_eq_add_one] at *
      have hbd : (D == 0) = false := by simp; omega
      have hb0 : ((k : Int) == 0) = false := by simp; omega
      have hb1 : ((k : Int) == 1) = false := by simp; omega
      obtain ⟨D1, hD1⟩ : ∃ D1 : Int, D1 = D - 1 := ⟨_, rfl⟩
      have ed : IntKind.i64.wrap (D - 1) = D1 := (IntWalk.i64_in _ (by omega)).trans hD1.symm
      replace hD1 := Lib.hid (show D1 = (d : Int) by omega)
      clear hD
      go_wp2_with fail
      refine (rd_n w0 W1 br 2 _ rfl HR1.out (by omega) (by omega)).mono ?_
      rintro e W2 ⟨j, rfl, hj, hr2, ha2, hz2, -⟩
      have B3 := B2.agr ha2 (show Nr br w.heap.size by show w.heap.size ≠ br; omega)
      have HR2 := Lib.hid hr2
      have hs2 : w.heap.size + 1 ≤ W2.heap.size := by omega
      have HA2 := Lib.hid (HA1.out.trans ha2)
      clear hr2 ha2 B2 HR1 HA1 hbd hb0 hb1 hz2 hs1
      obtain ⟨Q0, hQ0⟩ : ∃ Q0 : Int, Q0 = (j : Int) + 1 := ⟨_, rfl⟩
      have e1 : IntKind.i64.wrap (1 + (j : Int)) = Q0 := (IntWalk.i64_in _ (by omega)).trans (by omega)
      have j1 : 1 ≤ Q0 := by omega
      have j2 : Q0 ≤ 3 := by omega
      clear hQ0
      cases h5 : ((k : Int) == 5) <;> cases h6 : ((k : Int) == 6)
      all_goals (try (exfalso; simp at h5 h6; omega))
      case' false.false => go_wp2_with fail; generalize hQ : Q0 = Q
      case' false.true => go_wp2_with fail; generalize hQ : (3 : Int) = Q
      case' true.false => go_wp2_with fail; generalize hQ : (2 : Int) = Q
      all_goals
        have q1 : 1 ≤ Q := by omega
        have q2 : Q ≤ 3 := by omega
        have q5 : k = 5 → Q = 2 := by simp at h5 h6; omega
        have q6 : k = 6 → Q = 3 := by simp at h5 h6; omega
        replace q5 := Lib.hid q5
        replace q6 := Lib.hid q6
        clear hQ h5 h6 e1
        go_loopw [51] (fun i wr => ∃ (kk : Nat) (v : Value) (ks : List Ex), i = .int .i64 kk ∧ (kk : Int) ≤ Q ∧ VRel w0 w br d k W2.heap.size kk v ks wr) (fun i _ => Q.toNat - (intOf i).toNat)
        case atStart =>
          exact ⟨0, _, [], rfl, by omega, HR2.out.al _, HA2.out.trans (Agr.below ((Below.refl _ _).alloc (Nat.le_refl _) _)), Own.nil _ _, B3.al _, Blk.new _ _ _, by simp, hs2, fun t h => by simp at h⟩
        case round =>
          obtain ⟨kk, v, ks, rfl, hkk, hr⟩ := hrel
          obtain ⟨Av, cv, rfl, -⟩ := hr.own.form
          by_cases hlt : (kk : Int) < Q
          · have HR := Lib.hid hr
            have Bo := hr.b2
            have hsz := hr.size
            clear hr
            have hbt : Nr br W2.heap.size := by show W2.heap.size ≠ br; omega
            have cBo := Bo.cell
            have fBo := Bo.frozen
            have lBo := Bo.lt
            go_wp2_with fail
            go_region_law (first
              | (go_simp; go_at_call 25; refine (HI.out d (by omega) (by omega) wr.drew D1 hD1.out (HX.out.agr (HR.out.agr.mono hokf)).dr HR.out.rd.dr).mono ?_; rintro e w' ⟨v2, t2, rfl, hT2, hO2, hr3, ha3, hz3⟩; have cP := (Bo.dr.agr ha3 hbt).cell; have lP := (Bo.dr.agr ha3 hbt).lt; dsimp only [exVal])
              | (have HA := (HR.out.via hbr ((Below.refl wr.heap.size wr).drew)).call hbr ha3 hz3 hr3
                 have HB := HA.via hbr ((Below.refl w'.heap.size w').alloc (Nat.le_refl _) (.cells #[.int .i64 (v2.1 : Int), .int .i64 (v2.2.1 : Int), .int .i64 (v2.2.2.1 : Int), .int .i64 (v2.2.2.2.1 : Int), .slice v2.2.2.2.2.1 v2.2.2.2.2.2.1 v2.2.2.2.2.2.2] 28))
                 refine step_append_ex _ rfl (.tmp 54) (.tmp 60) rfl (fun b => W2.heap.size + 1 ≤ b) (W2.heap.size + 1) (.slice Av kk cv) kk ks rfl HB.own w'.heap.size v2 t2 rfl (Blk.new w' 28 #[.int .i64 (v2.1 : Int), .int .i64 (v2.2.1 : Int), .int .i64 (v2.2.2.1 : Int), .int .i64 (v2.2.2.2.1 : Int), .slice v2.2.2.2.2.1 v2.2.2.2.2.2.1 v2.2.2.2.2.2.2]) ((hT2.al _).mono fun b _ hb => ⟨Nat.le_trans HR.out.size hb, fun e => Nat.lt_irrefl b (Nat.lt_of_lt_of_le (HR.out.own.lt b e.symm).2 hb)⟩) (by omega) HB.size ?_
                 intro Av1 cv1 w1 ho1 hg1 hat1
                 have B2g := HB.b2.grown hg1 (fun e => by have := (HB.own.lt _ e.symm).1; omega)
                 have c2g := B2g.cell
                 have f2g := B2g.frozen))
            all_goals
              have HP := Lib.hid (VRel.push HB hbr ho1 hg1 hO2)
              clear HA HB
              go_wp2_with fail
              exact ⟨⟨kk + 1, _, _, by go_num, by omega, HP.out⟩, by simp [intOf]; omega⟩
          · have hk' : (kk : Int) = Q := by omega
            have hlt' : ¬ (kk : Int) < Q := hlt
            have B2 := hr.b2
            have B1 := hr.b1
            have HR := Lib.hid hr
            have HK := Lib.hid hk'
            clear hr hk'
            have cB1 := B1.cell
            have fB1 := B1.frozen
            have lB1 := B1.lt
            have cB2 := B2.cell
            have fB2 := B2.frozen
            have lB2 := B2.lt
            go_wp2_with fail
            refine bodyPost_ret (v := exVal (k, 0, 0, 0, Av, kk, cv)) (by simp [results, Try.results25, go_sem, exVal, cB1]) rfl (ValP.fin (k, 0, 0, 0, Av, kk, cv) (.mk k 0 0 0 ks) HR.out.rd HR.out.agr (by have := HR.out.size; omega) hbr (ExR.of k 0 0 0 ?_) ?_)
            · exact HR.out.own.toSl (fun b _ hb => by omega) (fun b hb => by omega)
            · have hl := HR.out.own.len
              have hk := HK.out
              exact .node d k ks hk2 (by omega) (by omega) (by omega) (fun h => by have := q5.out h; omega) (fun h => by have := q6.out h; omega) HR.out.oks
    have hleaf : d = 0 ∨ k < 2 := by omega
    clear hnode
    by_cases hval : 0 < n ∧ 1 ≤ k
    · obtain ⟨hn0, hk1⟩ := hval
      cases hbd : (D == 0) <;> cases hb0 : ((k : Int) == 0) <;> cases hb1 : ((k : Int) == 1) <;> cases hbn : ((n : Int) == 0)
      all_goals (try (exfalso; simp at hbd hb0 hb1 hbn; omega))
      all_goals
        clear hleaf
        replace hD := Lib.hid hD
        have cB2 := B2.cell
        have fB2 := B2.frozen
        have lB2 := B2.lt
        go_wp2_with fail
        clear cB2 fB2 lB2
        refine (rd_n w0 W1 br n _ rfl HR1.out (by omega) (by omega)).mono ?_
        rintro e W2 ⟨p, rfl, hp, hr2, ha2, hz2, -⟩
        obtain ⟨b, off, x, y, rfl, hob, hb, hy, hxy, hc⟩ := (HX1.out.agr (ha2.mono hokf)).at_ hp
        have c0 := hc 0 _ rfl
        have c1 := hc 1 _ rfl
        simp only [RfE, Nat.add_zero] at c0 c1
        have i0 : (0 : Int) ≤ (p : Int) := by omega
        have i1 : (p : Int) < (n : Int) := by omega
        have B3 := B2.agr ha2 (show Nr br w.heap.size by show w.heap.size ≠ br; omega)
        have HR2 := Lib.hid hr2
        have HA2 := Lib.hid (HA1.out.trans ha2)
        clear hr2 ha2 B2 HR1 HA1 HX HI hc hy hxy
        have cB3 := B3.cell
        have fB3 := B3.frozen
        have lB3 := B3.lt
        go_wp2_with fail
        exact bodyPost_ret (v := exVal (1, 0, x.1, x.2, none, 0, 0)) (by simp [results, Try.results25, go_sem, exVal, cB3]) rfl (ValP.fin (1, 0, x.1, x.2, none, 0, 0) (.mk 1 0 x.1 x.2 []) HR2.out HA2.out (by omega) hbr (ExR.of 1 0 x.1 x.2 (Sl.nil 0)) (.value d x.1 x.2))
    · have hcon : n = 0 ∨ k = 0 := by omega
      clear hval
      cases hbd : (D == 0) <;> cases hb0 : ((k : Int) == 0) <;> cases hb1 : ((k : Int) == 1) <;> cases hbn : ((n : Int) == 0)
      all_goals (try (exfalso; simp at hbd hb0 hb1 hbn; omega))
      all_goals
        clear hleaf hcon
        replace hD := Lib.hid hD
        have cB2 := B2.cell
        have fB2 := B2.frozen
        have lB2 := B2.lt
        go_wp2_with fail
        clear cB2 fB2 lB2
        refine (rd_n w0 W1 br 9 _ rfl HR1.out (by omega) (by omega)).mono ?_
        rintro e W2 ⟨v, rfl, hv, hr2, ha2, hz2, -⟩
        have B3 := B2.agr ha2 (show Nr br w.heap.size by show w.heap.size ≠ br; omega)
        have HR2 := Lib.hid hr2
        have HA2 := Lib.hid (HA1.out.trans ha2)
        clear hr2 ha2 B2 HR1 HA1 HX HI
        have cB3 := B3.cell
        have fB3 := B3.frozen
        have lB3 := B3.lt
        go_wp2_with fail
        exact bodyPost_ret (v := exVal (0, v, 0, 0, none, 0, 0)) (by simp [results, Try.results25, go_sem, exVal, cB3]) rfl (ValP.fin (0, v, 0, 0, none, 0, 0) (.mk 0 v 0 0 []) HR2.out HA2.out (by omega) hbr (ExR.of 0 v 0 0 (Sl.nil 0)) (.const d v (by omega)))
end Go.Proofs.Ytgclibfikdonoaa
