/- Texts SZ, laid together. -/
import Derived.Test.YtpjafhaajcklmaaGreatDoorSY
import Derived.Test.YtpjafhaajcklmaaGreatDoorSD
import Derived.Test.YtpjafhaajcklmaaGreatDoorC2




namespace Go.Proofs.YtpjafhaajcklmaaGreatDoor
open Go.RowKit

def CloneQ {α ρ : Type} (E : Elem α ρ) (e : TypeId) (ok : Nat → Prop) (w : World) (n : Nat) (xs : List α) (ee : Ending) (w' : World) : Prop :=
  ∃ B d, ee = .returned (.slice B n d) ∧ Own E e (fun b => ok b ∧ b < w.heap.size) w' w.heap.size (.slice B n d) n xs ∧ Below w.heap.size w w'
set_option maxHeartbeats 400000 in
theorem cloneNd_c (ok : Nat → Prop) (A : Option Addr) (n c : Nat) (xs : List NdI) (w : World) (h : Sl NdE ok w A n c xs) (hn : n ≤ 1000000) :
    Calls Tryz.prog 62 #[.slice A n c] w (CloneQ NdE 87 ok w n xs) := by
  have he := fun wx => Lib.run_eql_slice_nil (P := Tryz.prog) wx 28 87 A n c 0 0 Tryz.underlying28
  rcases A with _ | ad
  · have hn0 : n = 0 := by
      rcases Nat.eq_zero_or_pos n with h0 | h0
      · exact h0
      · obtain ⟨b, off, r, x, e, _⟩ := h.at_ h0; cases e
    subst hn0
    obtain rfl : xs = [] := List.eq_nil_of_length_eq_zero h.len
    clear h
    go_enter Tryz.func62, Tryz.ntmps62
    go_wp2
    go_ret
    exact ⟨_, _, rfl, Own.nil _ _, Below.refl _ _⟩
  · have H := Lib.hid (h.mono (ok' := fun b => ok b ∧ b < w.heap.size) fun b hb hk => ⟨hk, hb⟩)
    clear h
    obtain ⟨i, hi, hz⟩ := Option.map_eq_some_iff.1 nd_info
    simp only [Prod.mk.injEq] at hz
    obtain ⟨z1, z2, z3⟩ := hz
    have HI := Lib.hid (And.intro hi (And.intro z1 (And.intro z2 z3)))
    clear hi z1 z2 z3
    go_enter Tryz.func62, Tryz.ntmps62
    go_wp2_with (at_builtin; refine wpList_append_manyE (E := NdE) _ rfl (.tmp 5) (.tmp 6) 28 87 rfl i _ 56 (by kernel_rfl) HI.out.1 HI.out.2.1 HI.out.2.2.1 HI.out.2.2.2 rfl (fun b => ok b ∧ b < w.heap.size) w.heap.size (.slice (some ⟨w.heap.size, 0, none⟩) 0 0) 0 [] rfl (Own.empty _ w) (some ad) n c xs rfl ((H.out.al _).mono fun b _ hb => ⟨hb, by have := hb.2; simp [Value.ownBlock]; omega⟩) (by simp [maxLen]; omega) (by omega) (by simp) ?_; intro Av1 cv1 w1 hown1 hg1 hat1)
    go_ret
    exact ⟨Av1, cv1, by simp, by simpa using hown1, ((Below.refl _ _).alloc (Nat.le_refl _) _).grown hg1 (by simp) (by simp [Value.ownBlock])⟩
set_option maxHeartbeats 400000 in
theorem cloneFp_c (ok : Nat → Prop) (A : Option Addr) (n c : Nat) (xs : List PkI) (w : World) (h : Sl FpE ok w A n c xs) (hn : n ≤ 1000000) :
    Calls Tryz.prog 63 #[.slice A n c] w (CloneQ FpE 89 ok w n xs) := by
  have he := fun wx => Lib.run_eql_slice_nil (P := Tryz.prog) wx 85 89 A n c 0 0 Tryz.underlying85
  rcases A with _ | ad
  · have hn0 : n = 0 := by
      rcases Nat.eq_zero_or_pos n with h0 | h0
      · exact h0
      · obtain ⟨b, off, r, x, e, _⟩ := h.at_ h0; cases e
    subst hn0
    obtain rfl : xs = [] := List.eq_nil_of_length_eq_zero h.len
    clear h
    go_enter Tryz.func63, Tryz.ntmps63
    go_wp2
    go_ret
    exact ⟨_, _, rfl, Own.nil _ _, Below.refl _ _⟩
  · have H := Lib.hid (h.mono (ok' := fun b => ok b ∧ b < w.heap.size) fun b hb hk => ⟨hk, hb⟩)
    clear h
    obtain ⟨i, hi, hz⟩ := Option.map_eq_some_iff.1 fp_info
    simp only [Prod.mk.injEq] at hz
    obtain ⟨z1, z2, z3⟩ := hz
    have HI := Lib.hid (And.intro hi (And.intro z1 (And.intro z2 z3)))
    clear hi z1 z2 z3
    go_enter Tryz.func63, Tryz.ntmps63
    go_wp2_with (at_builtin; refine wpList_append_manyE (E := FpE) _ rfl (.tmp 5) (.tmp 6) 85 89 rfl i _ 32 (by kernel_rfl) HI.out.1 HI.out.2.1 HI.out.2.2.1 HI.out.2.2.2 rfl (fun b => ok b ∧ b < w.heap.size) w.heap.size (.slice (some ⟨w.heap.size, 0, none⟩) 0 0) 0 [] rfl (Own.empty _ w) (some ad) n c xs rfl ((H.out.al _).mono fun b _ hb => ⟨hb, by have := hb.2; simp [Value.ownBlock]; omega⟩) (by simp [maxLen]; omega) (by omega) (by simp) ?_; intro Av1 cv1 w1 hown1 hg1 hat1)
    go_ret
    exact ⟨Av1, cv1, by simp, by simpa using hown1, ((Below.refl _ _).alloc (Nat.le_refl _) _).grown hg1 (by simp) (by simp [Value.ownBlock])⟩
def TurnP (ok : Nat → Prop) (w : World) (e : Ending) (w' : World) : Prop :=
  ∃ A n c r nd, e = .returned (.agg #[.slice A n c, .int .i64 r]) ∧ Sl NdE (fun b => ok b ∨ w.heap.size ≤ b) w' A n c nd ∧ Below w.heap.size w w'

theorem flat_set {α ρ : Type} {E : Elem α ρ} (raw : List ρ) (q j : Nat) (u : Value) (r r' : ρ) (hq : raw[q]? = some r) (hj : j < E.k) (hr : E.cells r' = (E.cells r).set j u) : flat E (raw.set q r') = (flat E raw).set (q * E.k + j) u := by
  obtain ⟨hql, he⟩ := List.getElem?_eq_some_iff.1 hq
  have e1 : raw = raw.take q ++ r :: raw.drop (q + 1) := by
    rw [← he, ← List.drop_eq_getElem_cons hql, List.take_append_drop]
  have ht : (raw.take q).length = q := by rw [List.length_take]; omega
  have e2 : raw.set q r' = raw.take q ++ r' :: raw.drop (q + 1) := by
    conv => lhs; rw [e1]
    rw [List.set_append_right _ _ (by omega), ht, Nat.sub_self]; rfl
  have e3 : flat E raw = flat E (raw.take q) ++ (E.cells r ++ flat E (raw.drop (q + 1))) := by
    conv => lhs; rw [e1]
    simp [flat]
  have hl : (flat E (raw.take q)).length = q * E.k := by rw [flat_len, ht]
  rw [e2, e3, List.set_append_right _ _ (by omega), hl, Nat.add_sub_cancel_left, List.set_append_left _ _ (by rw [E.len]; exact hj), ← hr]
  simp [flat]
theorem Own.putRaw {α ρ : Type} {E : Elem α ρ} {e : TypeId} {ok : Nat → Prop} {w : World} {base n c g q : Nat} {l : List α} (h : Own E e ok w base (.slice (some ⟨g, 0, none⟩) n c) n l) (hq : q < n) :
    ∃ r x, l[q]? = some x ∧ E.rel (fun b => ok b ∧ b ≠ g) w r x ∧ (∀ j u, (E.cells r)[j]? = some u → w.cell? ⟨g, q * E.k + j, none⟩ = some u) ∧ base ≤ g ∧ g < w.heap.size ∧ (∀ i, w.frozen? ⟨g, i, none⟩ = false) ∧
      ∀ (w' : World), Below w.heap.size w w' → ∀ (j : Nat) (u : Value) (r' : ρ) (x' : α), j < E.k → E.cells r' = (E.cells r).set j u → E.rel (fun b => ok b ∧ b ≠ g) (w'.setCell ⟨g, q * E.k + j, none⟩ u) r' x' → Own E e ok (w'.setCell ⟨g, q * E.k + j, none⟩ u) base (.slice (some ⟨g, 0, none⟩) n c) n (l.set q x') := by
  obtain ⟨h1, raw, h2, h3, h4⟩ := h
  have hob : ∀ b, some b ≠ (Value.slice (some ⟨g, 0, none⟩) n c).ownBlock ↔ b ≠ g := fun b => ⟨fun hb e => hb (by rw [e]; rfl), fun hb e => hb (Option.some.inj e)⟩
  rcases h3.2 with ⟨h0, _⟩ | ⟨g', cap, cur, hv, hb, hh, hc1, hc2, hc3, htk⟩
  · cases h0
  · cases hv
    have hr : raw[q]? = some raw[q] := List.getElem?_eq_getElem (by omega)
    have hx : l[q]? = some l[q] := List.getElem?_eq_getElem (by omega)
    have hB : Blk w g e cur := hh
    refine ⟨raw[q], l[q], hx, E.mono (h4 q _ _ hr hx) fun b _ hk => ⟨hk.1, (hob b).1 hk.2⟩, fun j u hu => ?_, hb, hB.lt, fun i => hB.frozen i, fun w' hbw j u r' x' hj hcs hrel => ?_⟩
    · have := h3.cells (g := g) rfl (q * E.k + j) u (flat_at (E := E) raw q _ j u hr hu)
      rwa [Addr.add_lit, Nat.zero_add] at this
    · refine ⟨by simpa using h1, raw.set q r', by simpa using h2, ?_, fun i r x hri hxi => ?_⟩
      · refine ⟨by have := h3.1; rw [flat_len] at this ⊢; simpa using this, ?_⟩
        refine Or.inr ⟨g, c, cur.setIfInBounds (q * E.k + j) u, rfl, hb, ?_, hc1, hc2, by simpa using hc3, ?_⟩
        · have hh' : w'.heap[g]? = _ := hB.via hbw
          simp [World.setCell, Array.getElem?_modify, hh']
        · rw [Array.toList_setIfInBounds, List.take_set, htk, flat_set raw q j u raw[q] r' hr hj hcs]
      · by_cases hiq : q = i
        · subst hiq
          rw [List.getElem?_set_self (by omega)] at hri hxi
          cases hri; cases hxi
          exact E.mono hrel fun b _ hk => ⟨hk.1, (hob b).2 hk.2⟩
        · rw [List.getElem?_set_ne hiq] at hri hxi
          exact E.agr (E.agr (h4 i r x hri hxi) (Agr.below hbw)) (Agr.setCell (p := ⟨g, q * E.k + j, none⟩) u fun b hb => (hob b).1 hb.2)
theorem Sl.takeE {α ρ : Type} {E : Elem α ρ} {ok : Nat → Prop} {w : World} {A : Option Addr} {n c : Nat} {l : List α} (h : Sl E ok w A n c l) {m : Nat} (hm : m ≤ n) : Sl E ok w A m c (l.take m) := by
  obtain ⟨h1, h2, raw, h3, h4, h5⟩ := h
  have e1 : flat E raw = flat E (raw.take m) ++ flat E (raw.drop m) := by
    rw [flat, flat, flat, ← List.flatMap_append, List.take_append_drop]
  refine ⟨by rw [List.length_take]; omega, by omega, raw.take m, by rw [List.length_take]; omega, fun hne => ?_, fun i r x hr hx => ?_⟩
  · obtain ⟨b, off, hA, hb, hc⟩ := h4 (fun e => hne (by rw [e1] at e; exact (List.append_eq_nil_iff.1 e).1))
    refine ⟨b, off, hA, hb, fun j u hu => hc j u ?_⟩
    rw [e1, List.getElem?_append_left (List.getElem?_eq_some_iff.1 hu).1]; exact hu
  · have hi : i < m := by
      have := (List.getElem?_eq_some_iff.1 hr).1
      rw [List.length_take] at this; omega
    rw [List.getElem?_take_of_lt hi] at hr hx
    exact h5 i r x hr hx
set_option maxRecDepth 100000 in
set_option maxHeartbeats 8000000 in
theorem turned_c (ok : Nat → Prop) (A : Option Addr) (n c : Nat) (r : Int) (nd : List NdI) (tr : Int) (w : World) (h : Sl NdE ok w A n c nd) (hn : n ≤ 1000000) (hp : ∀ x ∈ nd, x.2.length ≤ 913952) :
    Calls Tryz.prog 27 #[.agg #[.slice A n c, .int .i64 r], .int .i64 tr] w (TurnP ok w) := by
  have hal := ((Below.refl w.heap.size w).al (.cells #[.slice A n c, .int .i64 r] 30)).al (.cells #[.slice none 0 0, .int .i64 0] 30)
  have B0 := (Blk.new w 30 #[.slice A n c, .int .i64 r]).al (.cells #[.slice none 0 0, .int .i64 0] 30)
  have B1 := Blk.newAt (w.alloc (.cells #[.slice A n c, .int .i64 r] 30)) 30 #[.slice none 0 0, .int .i64 0] (w.heap.size + 1) (by simp)
  have HS := Lib.hid ((h.mono (ok' := fun b => b ≠ w.heap.size + 1 ∧ b ≠ w.heap.size ∧ (ok b ∨ w.heap.size ≤ b)) fun b hb hk => ⟨by omega, by omega, Or.inl hk⟩).via hal)
  have HAL := Lib.hid hal
  have HB0 := Lib.hid B0
  have HB1 := Lib.hid B1
  have HP := Lib.hid hp
  have hsz : ((w.alloc (.cells #[.slice A n c, .int .i64 r] 30)).alloc (.cells #[.slice none 0 0, .int .i64 0] 30)).heap.size = w.heap.size + 2 := by simp
  have HSZ := Lib.hid hsz
  clear h hal hp hsz
  go_enter Tryz.func27, Tryz.ntmps27
  go_upto_region 1 with fail
  generalize (w.alloc (.cells #[.slice A n c, .int .i64 r] 30)).alloc (.cells #[.slice none 0 0, .int .i64 0] 30) = W at *
  by_cases ht : tr = 0
  · have e0 : (tr == 0) = true := by simpa using ht
    have cB0 := B0.cell
    have fB0 := B0.frozen
    have lB0 := B0.lt
    have cB1 := B1.cell
    have fB1 := B1.frozen
    have lB1 := B1.lt
    go_wp2_with fail
    have B2 := (HB1.out.set_ 0 (.slice A n c)).set_ 1 (.int .i64 r)
    simp only [List.setIfInBounds_toArray, List.set_cons_zero, List.set_cons_succ] at B2
    have cc2 := B2.cell
    refine bodyPost_ret (v := .agg #[.slice A n c, .int .i64 r]) (by simp [results, Tryz.results27, go_sem, cc2]) rfl ⟨A, n, c, r, nd, rfl, ?_, ?_⟩
    · exact ((HS.out.agr (Agr.setCell (p := ⟨w.heap.size + 1, 0, none⟩) _ fun b hb => hb.1)).agr (Agr.setCell (p := ⟨w.heap.size + 1, 1, none⟩) _ fun b hb => hb.1)).mono fun b _ hb => hb.2.2
    · exact (HAL.out.setCell (p := ⟨w.heap.size + 1, 0, none⟩) (Nat.le_succ _) _).setCell (p := ⟨w.heap.size + 1, 1, none⟩) (Nat.le_succ _) _
  · have e0 : (tr == 0) = false := by simpa using ht
    by_cases hn0 : n = 0
    · subst hn0
      have cB0 := B0.cell
      have fB0 := B0.frozen
      have lB0 := B0.lt
      have cB1 := B1.cell
      have fB1 := B1.frozen
      have lB1 := B1.lt
      go_wp2_with fail
      have B2 := (HB1.out.set_ 0 (.slice A 0 c)).set_ 1 (.int .i64 r)
      simp only [List.setIfInBounds_toArray, List.set_cons_zero, List.set_cons_succ] at B2
      have cc2 := B2.cell
      refine bodyPost_ret (v := .agg #[.slice A 0 c, .int .i64 r]) (by simp [results, Tryz.results27, go_sem, cc2]) rfl ⟨A, 0, c, r, nd, rfl, ?_, ?_⟩
      · exact ((HS.out.agr (Agr.setCell (p := ⟨w.heap.size + 1, 0, none⟩) _ fun b hb => hb.1)).agr (Agr.setCell (p := ⟨w.heap.size + 1, 1, none⟩) _ fun b hb => hb.1)).mono fun b _ hb => hb.2.2
      · exact (HAL.out.setCell (p := ⟨w.heap.size + 1, 0, none⟩) (Nat.le_succ _) _).setCell (p := ⟨w.heap.size + 1, 1, none⟩) (Nat.le_succ _) _
    · have e1 : ((n : Int) == 0) = false := by simp [hn0]
      have HC := Lib.hid (cloneNd_c (fun b => b ≠ w.heap.size + 1 ∧ b ≠ w.heap.size ∧ (ok b ∨ w.heap.size ≤ b)) A n c nd W HS.out hn)
      have cB0 := B0.cell
      have fB0 := B0.frozen
      have lB0 := B0.lt
      go_wp2_with fail
      clear cB0 fB0 lB0
      clear B0 B1 e0 e1
      refine HC.out.mono ?_
      clear HC
      rintro e w2 ⟨B, cq, rfl, ho, hb2⟩
      obtain ⟨Bg, hBg⟩ : ∃ g, B = some ⟨g, 0, none⟩ := by
        rcases ho.2 with ⟨raw, h2, h3, h4⟩
        rcases h3.2 with ⟨h0, h5⟩ | ⟨g, cap, cur, hv, -⟩
        · injection h0 with _ e _
          exact absurd e hn0
        · cases hv; exact ⟨g, rfl⟩
      subst hBg
      have hw2 : w.heap.size + 2 ≤ w2.heap.size := by have := hb2.size; have := HSZ.out; omega
      have hg2 := (ho.lt Bg rfl)
      have HGE := Lib.hid (show w.heap.size + 2 ≤ Bg from by have := HSZ.out; omega)
      have HO2 := Lib.hid ((ho.mono (ok' := fun b => b ≠ w.heap.size + 1 ∧ b ≠ w.heap.size ∧ (ok b ∨ w.heap.size ≤ b)) fun b _ hb => hb.1))
      have HB2 := Lib.hid (HAL.out.via hb2)
      have HBX2 := Lib.hid (HB0.out.via hb2)
      have HBR2 := Lib.hid (HB1.out.via hb2)
      have BX2 := HBX2.out
      clear ho hb2 hg2 hw2 HB0 HB1
      dsimp only
      have cBX2 := BX2.cell
      have fBX2 := BX2.frozen
      have lBX2 := BX2.lt
      go_upto_region 4 with fail
      clear cBX2 fBX2 lBX2
      clear BX2
      have HBX3 := Lib.hid (show Blk (w2.setCell ⟨w.heap.size, 0, none⟩ (.slice (some ⟨Bg, 0, none⟩) n cq)) w.heap.size 30 #[.slice (some ⟨Bg, 0, none⟩) n cq, .int .i64 r] from by
        have := HBX2.out.set_ 0 (.slice (some ⟨Bg, 0, none⟩) n cq); simpa using this)
      have HBR3 := Lib.hid (HBR2.out.far (p := ⟨w.heap.size, 0, none⟩) (by show w.heap.size + 1 ≠ w.heap.size; omega) (.slice (some ⟨Bg, 0, none⟩) n cq))
      have HO3 := Lib.hid (HO2.out.setCell (p := ⟨w.heap.size, 0, none⟩) (.slice (some ⟨Bg, 0, none⟩) n cq) (fun b hb => hb.2.1) (by show w.heap.size < W.heap.size; have := HSZ.out; omega))
      have HB3 := Lib.hid (HB2.out.setCell (p := ⟨w.heap.size, 0, none⟩) (Nat.le_refl _) (.slice (some ⟨Bg, 0, none⟩) n cq))
      clear HO2 HB2 HBX2 HBR2
      generalize w2.setCell ⟨w.heap.size, 0, none⟩ (.slice (some ⟨Bg, 0, none⟩) n cq) = w3 at *
      have hq0 := belowI_lo tr (n : Int) (by omega)
      have hq1 := belowI_hi tr (n : Int) (by omega)
      obtain ⟨q, hq⟩ : ∃ q : Nat, belowI tr (n : Int) = (q : Int) := ⟨(belowI tr (n : Int)).toNat, by omega⟩
      have hqn : q < n := by omega
      have HBL := Lib.hid (show ∀ w', Calls Tryz.prog 30 #[.int .i64 tr, .int .i64 (n : Int)] w' (fun e w'' => e = .returned (.int .i64 (q : Int)) ∧ w' = w'') from fun w' => by rw [← hq]; exact below_c tr n w' (by omega) (by omega))
      clear hq0 hq1 hq
      have q0 : (0 : Int) ≤ (q : Int) := by omega
      have q1 : (q : Int) < (n : Int) := by omega
      have SOF := Lib.hid (show ∀ w', Below w3.heap.size w3 w' → ((∀ x, w'.cell? ⟨w.heap.size, x, none⟩ = #[.slice (some ⟨Bg, 0, none⟩) n cq, .int .i64 r][x]?) ∧ Below w3.heap.size w3 w') from fun w' hb => ⟨(HBX3.out.via hb).cell, hb⟩)
      have hb0 := (Below.refl w3.heap.size w3).drew
      go_region_held3 (fun w' => (∀ x, w'.cell? ⟨w.heap.size, x, none⟩ = #[.slice (some ⟨Bg, 0, none⟩) n cq, .int .i64 r][x]?) ∧ Below w3.heap.size w3 w') (exact SOF.out _ (by assumption)) (first
        | (go_at_call 30; (with_reducible refine (HBL.out _).mono ?_); rintro ee wk ⟨rfl, rfl⟩))
      have hdr := (Below.refl w3.heap.size w3).drew
      have HO4 := Lib.hid (HO3.out.via hdr)
      have HBX4 := Lib.hid (HBX3.out.via hdr)
      have HBR4 := Lib.hid (HBR3.out.via hdr)
      have HB4 := Lib.hid (HB3.out.via hdr)
      clear hb0 hdr SOF HBL HO3 HBX3 HBR3 HB3
      generalize w3.drew = w4 at *
      obtain ⟨⟨⟨xb, xm, xi, xj⟩, PA, pl, pc⟩, ⟨⟨xb', xm', xi', xj'⟩, ps⟩, hxl, ⟨hx1, hx2⟩, hcell, hbg, hglt, hfr, hput⟩ := HO4.out.putRaw hqn
      simp only at hx1 hx2
      obtain ⟨rfl, rfl, rfl, rfl⟩ : xb = xb' ∧ xm = xm' ∧ xi = xi' ∧ xj = xj' := by simpa using hx1
      have c1 := hcell 1 _ rfl
      have c2 := hcell 2 _ rfl
      have c4 := hcell 4 _ rfl
      simp only [NdE] at c1 c2 c4
      have HPU := Lib.hid hput
      have HPS := Lib.hid hx2
      have HPL := Lib.hid (HP.out _ (List.mem_of_getElem? hxl))
      have hpl : pl ≤ 913952 := by have h1 := HPL.out; have h2 := hx2.len; simp only at h1; omega
      have hs0 := belowI_lo tr 5 (by omega)
      have hs1 := belowI_hi tr 5 (by omega)
      have HBL := Lib.hid (below_c tr 5 w4 (by omega) (by omega))
      obtain ⟨z, hz⟩ : ∃ z, IntKind.i64.wrap (xi + 1) = z := ⟨_, rfl⟩
      obtain ⟨y, hy⟩ : ∃ y, IntKind.i64.wrap (xm + 1) = y := ⟨_, rfl⟩
      clear hcell hput hx2 hx1 hxl hbg hglt
      go_wp2_with fail
      refine HBL.out.mono ?_
      clear HBL
      rintro e w5 ⟨rfl, rfl⟩
      generalize belowI tr 5 = s at *
      dsimp only
      have hss : s = 0 ∨ s = 1 ∨ s = 2 ∨ s = 3 ∨ s = 4 := by omega
      clear hs0 hs1
      rcases hss with rfl | rfl | rfl | rfl | rfl
      · go_upto_region 15 with fail
        obtain ⟨nd9, hn9⟩ : ∃ l, nd.set q ((xb, xm, z, xj), ps) = l := ⟨_, rfl⟩
        have HO9 : Hid (Own NdE 87 (fun b => b ≠ w.heap.size + 1 ∧ b ≠ w.heap.size ∧ (ok b ∨ w.heap.size ≤ b)) (w4.setCell ⟨Bg, q * 5 + 2, none⟩ (.int .i64 z)) W.heap.size (.slice (some ⟨Bg, 0, none⟩) n cq) n nd9) := by
          rw [← hn9]
          exact Lib.hid (HPU.out _ (Below.refl _ _) 2 (.int .i64 z) ((xb, xm, z, xj), PA, pl, pc) ((xb, xm, z, xj), ps) (by decide) rfl ⟨rfl, HPS.out.agr (Agr.setCell (p := ⟨Bg, q * 5 + 2, none⟩) _ fun b hb => hb.2)⟩)
        have HBX9 := Lib.hid (HBX4.out.far (p := ⟨Bg, q * 5 + 2, none⟩) (by show w.heap.size ≠ Bg; have := HGE.out; omega) (.int .i64 z))
        have HBR9 := Lib.hid (HBR4.out.far (p := ⟨Bg, q * 5 + 2, none⟩) (by show w.heap.size + 1 ≠ Bg; have := HGE.out; omega) (.int .i64 z))
        have HB9 := Lib.hid (HB4.out.setCell (p := ⟨Bg, q * 5 + 2, none⟩) (by show w.heap.size ≤ Bg; have := HGE.out; omega) (.int .i64 z))
        have hW := HSZ.out
        clear c1 c2 c4 hfr HPU HO4
        generalize w4.setCell ⟨Bg, q * 5 + 2, none⟩ (.int .i64 z) = w9 at *
        have BX9 := HBX9.out
        have BR9 := HBR9.out
        have HOS := Lib.hid (HO9.out.toSl (ok' := fun b => b ≠ w.heap.size + 1 ∧ b ≠ w.heap.size ∧ (ok b ∨ w.heap.size ≤ b)) (fun b _ hb => hb) (fun b hb => ⟨by omega, by omega, Or.inr (by omega)⟩))
        have cBX9 := BX9.cell
        have fBX9 := BX9.frozen
        have lBX9 := BX9.lt
        have cBR9 := BR9.cell
        have fBR9 := BR9.frozen
        have lBR9 := BR9.lt
        go_wp2_with fail
        clear cBX9 fBX9 lBX9 cBR9 fBR9 lBR9
        have B2 := (HBR9.out.set_ 0 (.slice (some ⟨Bg, 0, none⟩) n cq)).set_ 1 (.int .i64 r)
        simp only [List.setIfInBounds_toArray, List.set_cons_zero, List.set_cons_succ] at B2
        have cc2 := B2.cell
        refine bodyPost_ret (v := .agg #[.slice (some ⟨Bg, 0, none⟩) n cq, .int .i64 r]) (by simp [results, Tryz.results27, go_sem, cc2]) rfl ⟨some ⟨Bg, 0, none⟩, n, cq, r, nd9, rfl, ?_, ?_⟩
        · exact ((HOS.out.agr (Agr.setCell (p := ⟨w.heap.size + 1, 0, none⟩) (.slice (some ⟨Bg, 0, none⟩) n cq) fun b hb => hb.1)).agr (Agr.setCell (p := ⟨w.heap.size + 1, 1, none⟩) (.int .i64 r) fun b hb => hb.1)).mono fun b _ hb => hb.2.2
        · exact (HB9.out.setCell (p := ⟨w.heap.size + 1, 0, none⟩) (Nat.le_succ _) _).setCell (p := ⟨w.heap.size + 1, 1, none⟩) (Nat.le_succ _) _
      · go_upto_region 15 with fail
        obtain ⟨nd9, hn9⟩ : ∃ l, nd.set q ((xb, y, xi, xj), ps) = l := ⟨_, rfl⟩
        have HO9 : Hid (Own NdE 87 (fun b => b ≠ w.heap.size + 1 ∧ b ≠ w.heap.size ∧ (ok b ∨ w.heap.size ≤ b)) (w4.setCell ⟨Bg, q * 5 + 1, none⟩ (.int .i64 y)) W.heap.size (.slice (some ⟨Bg, 0, none⟩) n cq) n nd9) := by
          rw [← hn9]
          exact Lib.hid (HPU.out _ (Below.refl _ _) 1 (.int .i64 y) ((xb, y, xi, xj), PA, pl, pc) ((xb, y, xi, xj), ps) (by decide) rfl ⟨rfl, HPS.out.agr (Agr.setCell (p := ⟨Bg, q * 5 + 1, none⟩) _ fun b hb => hb.2)⟩)
        have HBX9 := Lib.hid (HBX4.out.far (p := ⟨Bg, q * 5 + 1, none⟩) (by show w.heap.size ≠ Bg; have := HGE.out; omega) (.int .i64 y))
        have HBR9 := Lib.hid (HBR4.out.far (p := ⟨Bg, q * 5 + 1, none⟩) (by show w.heap.size + 1 ≠ Bg; have := HGE.out; omega) (.int .i64 y))
        have HB9 := Lib.hid (HB4.out.setCell (p := ⟨Bg, q * 5 + 1, none⟩) (by show w.heap.size ≤ Bg; have := HGE.out; omega) (.int .i64 y))
        have hW := HSZ.out
        clear c1 c2 c4 hfr HPU HO4
        generalize w4.setCell ⟨Bg, q * 5 + 1, none⟩ (.int .i64 y) = w9 at *
        have BX9 := HBX9.out
        have BR9 := HBR9.out
        have HOS := Lib.hid (HO9.out.toSl (ok' := fun b => b ≠ w.heap.size + 1 ∧ b ≠ w.heap.size ∧ (ok b ∨ w.heap.size ≤ b)) (fun b _ hb => hb) (fun b hb => ⟨by omega, by omega, Or.inr (by omega)⟩))
        have cBX9 := BX9.cell
        have fBX9 := BX9.frozen
        have lBX9 := BX9.lt
        have cBR9 := BR9.cell
        have fBR9 := BR9.frozen
        have lBR9 := BR9.lt
        go_wp2_with fail
        clear cBX9 fBX9 lBX9 cBR9 fBR9 lBR9
        have B2 := (HBR9.out.set_ 0 (.slice (some ⟨Bg, 0, none⟩) n cq)).set_ 1 (.int .i64 r)
        simp only [List.setIfInBounds_toArray, List.set_cons_zero, List.set_cons_succ] at B2
        have cc2 := B2.cell
        refine bodyPost_ret (v := .agg #[.slice (some ⟨Bg, 0, none⟩) n cq, .int .i64 r]) (by simp [results, Tryz.results27, go_sem, cc2]) rfl ⟨some ⟨Bg, 0, none⟩, n, cq, r, nd9, rfl, ?_, ?_⟩
        · exact ((HOS.out.agr (Agr.setCell (p := ⟨w.heap.size + 1, 0, none⟩) (.slice (some ⟨Bg, 0, none⟩) n cq) fun b hb => hb.1)).agr (Agr.setCell (p := ⟨w.heap.size + 1, 1, none⟩) (.int .i64 r) fun b hb => hb.1)).mono fun b _ hb => hb.2.2
        · exact (HB9.out.setCell (p := ⟨w.heap.size + 1, 0, none⟩) (Nat.le_succ _) _).setCell (p := ⟨w.heap.size + 1, 1, none⟩) (Nat.le_succ _) _
      · go_upto_region 12 with fail
        have hpc := HPS.out.2.1
        obtain ⟨hh, hhh⟩ : ∃ h : Nat, h = pl / 2 := ⟨_, rfl⟩
        have hq3 : IntKind.i64.wrap ((pl : Int) / 2) = (hh : Int) := by rw [IntWalk.i64_in _ (by omega)]; omega
        have hh1 : hh ≤ pl := by omega
        have hh2 : (0 : Int) ≤ (hh : Int) := by omega
        have hh3 : (hh : Int) ≤ (pc : Int) := by omega
        clear hhh
        have hg4 := (HO4.out.lt Bg rfl).2
        have SO := Lib.hid (show ∀ w', Below w4.heap.size w4 w' → w'.cell? ⟨Bg, q * 5 + 4, none⟩ = some (.slice PA pl pc) from fun w' hb => (hb.cell hg4).trans c4)
        have hdr := (Below.refl w4.heap.size w4).drew
        have hHeld := SO.out _ hdr
        refine wp_region_L 14 (fun w' => w'.cell? ⟨Bg, q * 5 + 4, none⟩ = some (.slice PA pl pc)) (by kernel_rfl) ?_
        refine wpAnyL.take (i := 0) (d := some 63) (v := ?_) rfl (by kernel_rfl) (by kernel_rfl) (by kernel_rfl) (by kernel_rfl) rfl (fun _ _ _ h => h) (Or.inl ⟨by rfl, ?_⟩) (by assumption) ?_
        rotate_left
        · intro w hSw; (try dsimp only at hSw); go_simp; try with_reducible rfl
        simp only [Act.put, List.setIfInBounds_toArray, List.set_cons_zero, List.set_cons_succ]
        refine wpAnyL.take (i := 1) (d := some 64) (v := ?_) rfl (by kernel_rfl) (by kernel_rfl) (by kernel_rfl) (by kernel_rfl) rfl (fun _ _ _ h => h) (Or.inl ⟨by rfl, ?_⟩) (by assumption) ?_
        rotate_left
        · intro w hSw; (try dsimp only at hSw); go_simp; try with_reducible rfl
        simp only [Act.put, List.setIfInBounds_toArray, List.set_cons_zero, List.set_cons_succ]
        refine wpAnyL.take (i := 2) (d := some 65) (v := ?_) rfl (by kernel_rfl) (by kernel_rfl) (by kernel_rfl) (by kernel_rfl) rfl (fun _ _ _ h => h) (Or.inl ⟨by rfl, ?_⟩) (by assumption) ?_
        rotate_left
        · intro w hSw; (try dsimp only at hSw); go_simp; try with_reducible rfl
        simp only [Act.put, List.setIfInBounds_toArray, List.set_cons_zero, List.set_cons_succ]
        refine wpAnyL.take (i := 3) (d := some 66) (v := ?_) rfl (by kernel_rfl) (by kernel_rfl) (by kernel_rfl) (by kernel_rfl) rfl (fun _ _ _ h => h) (Or.inl ⟨by rfl, ?_⟩) (by assumption) ?_
        rotate_left
        · intro w hSw; (try dsimp only at hSw); go_simp; try with_reducible rfl
        simp only [Act.put, List.setIfInBounds_toArray, List.set_cons_zero, List.set_cons_succ]
        refine wpAnyL.take (i := 4) (d := some 67) (v := ?_) rfl (by kernel_rfl) (by kernel_rfl) (by kernel_rfl) (by kernel_rfl) rfl (fun _ _ _ h => h) (Or.inl ⟨by rfl, ?_⟩) (by assumption) ?_
        rotate_left
        · intro w hSw; (try dsimp only at hSw); go_simp; try with_reducible rfl
        simp only [Act.put, List.setIfInBounds_toArray, List.set_cons_zero, List.set_cons_succ]
        refine wpAnyL.take (i := 5) (d := some 68) (v := ?_) rfl (by kernel_rfl) (by kernel_rfl) (by kernel_rfl) (by kernel_rfl) rfl (fun _ _ _ h => h) (Or.inl ⟨by rfl, ?_⟩) (by assumption) ?_
        rotate_left
        · intro w hSw; (try dsimp only at hSw); go_simp; try with_reducible rfl
        simp only [Act.put, List.setIfInBounds_toArray, List.set_cons_zero, List.set_cons_succ]
        refine wpAnyL.take (i := 6) (d := some 69) (v := ?_) rfl (by kernel_rfl) (by kernel_rfl) (by kernel_rfl) (by kernel_rfl) rfl (fun _ _ _ h => h) (Or.inl ⟨by rfl, ?_⟩) (by assumption) ?_
        rotate_left
        · intro w hSw; (try dsimp only at hSw); go_simp; try with_reducible rfl
        simp only [Act.put, List.setIfInBounds_toArray, List.set_cons_zero, List.set_cons_succ]
        refine wpAnyL.take (i := 7) (d := some 70) (v := ?_) rfl (by kernel_rfl) (by kernel_rfl) (by kernel_rfl) (by kernel_rfl) rfl (fun _ _ _ h => h) (Or.inl ⟨by rfl, ?_⟩) (by assumption) ?_
        rotate_left
        · intro w hSw; (try dsimp only at hSw); go_simp; try with_reducible rfl
        simp only [Act.put, List.setIfInBounds_toArray, List.set_cons_zero, List.set_cons_succ]
        refine wpAnyL.take (i := 8) (d := some 71) (v := ?_) rfl (by kernel_rfl) (by kernel_rfl) (by kernel_rfl) (by kernel_rfl) rfl (fun _ _ _ h => h) (Or.inl ⟨by rfl, ?_⟩) (by assumption) ?_
        rotate_left
        · intro w hSw; (try dsimp only at hSw); go_simp; try with_reducible rfl
        simp only [Act.put, List.setIfInBounds_toArray, List.set_cons_zero, List.set_cons_succ]
        refine wpAnyL.take (i := 9) (d := some 72) (v := ?_) rfl (by kernel_rfl) (by kernel_rfl) (by kernel_rfl) (by kernel_rfl) rfl (fun _ _ _ h => h) (Or.inl ⟨by rfl, ?_⟩) (by assumption) ?_
        rotate_left
        · intro w hSw; (try dsimp only at hSw); go_simp; try with_reducible rfl
        simp only [Act.put, List.setIfInBounds_toArray, List.set_cons_zero, List.set_cons_succ]
        refine wpAnyL.take (i := 10) (d := some 73) (v := ?_) rfl (by kernel_rfl) (by kernel_rfl) (by kernel_rfl) (by kernel_rfl) rfl (fun _ _ _ h => h) (Or.inl ⟨by rfl, ?_⟩) (by assumption) ?_
        rotate_left
        · intro w hSw; (try dsimp only at hSw); go_simp; try with_reducible rfl
        simp only [Act.put, List.setIfInBounds_toArray, List.set_cons_zero, List.set_cons_succ]
        refine wpAnyL.take (i := 11) (d := some 74) (v := ?_) rfl (by kernel_rfl) (by kernel_rfl) (by kernel_rfl) (by kernel_rfl) rfl (fun _ _ _ h => h) (Or.inl ⟨by rfl, ?_⟩) (by assumption) ?_
        rotate_left
        · intro w hSw; (try dsimp only at hSw); go_simp; try with_reducible rfl
        simp only [Act.put, List.setIfInBounds_toArray, List.set_cons_zero, List.set_cons_succ]
        generalize w4.drew = w5 at *
        refine wpAnyL.ready (rs := [12]) (by kernel_rfl) (by simp) ?_
        refine AllL.cons rfl (fun K hK => ?_) AllL.nil
        go_simp
        refine hK.out _ _ (fun _ => hHeld) ?_
        clear hK K
        try simp only [Act.put, List.setIfInBounds_toArray, List.set_cons_zero, List.set_cons_succ]
        refine wpAnyL.take (i := 13) (d := some 76) (v := ?_) rfl (by kernel_rfl) (by kernel_rfl) (by kernel_rfl) (by kernel_rfl) rfl (fun _ _ _ h => h) (Or.inl ⟨by rfl, ?_⟩) (by assumption) ?_
        rotate_left
        · intro w hSw; (try dsimp only at hSw); go_simp; try with_reducible rfl
        simp only [Act.put, List.setIfInBounds_toArray, List.set_cons_zero, List.set_cons_succ]
        refine wpAnyL.ready (rs := [14]) (by kernel_rfl) (by simp) ?_
        refine AllL.cons rfl (fun K hK => ?_) AllL.nil
        have HO5 := Lib.hid (HO4.out.via hdr)
        have hfr5 : ∀ i, w5.frozen? ⟨Bg, i, none⟩ = false := by obtain ⟨_, _, _, _, _, _, _, h, _⟩ := HO5.out.putRaw hqn; exact h
        clear HO5
        go_simp
        refine hK.out _ _ (fun h => absurd rfl h) ?_
        clear hK K
        refine wpAnyL.done (by kernel_rfl) ?_ _
        try refine NoPanic.normal ?_
        obtain ⟨nd9, hn9⟩ : ∃ l, nd.set q ((xb, xm, xi, xj), ps.take hh) = l := ⟨_, rfl⟩
        have HO9 : Hid (Own NdE 87 (fun b => b ≠ w.heap.size + 1 ∧ b ≠ w.heap.size ∧ (ok b ∨ w.heap.size ≤ b)) (w5.setCell ⟨Bg, q * 5 + 4, none⟩ (.slice PA hh pc)) W.heap.size (.slice (some ⟨Bg, 0, none⟩) n cq) n nd9) := by
          rw [← hn9]
          exact Lib.hid (HPU.out _ hdr 4 (.slice PA hh pc) ((xb, xm, xi, xj), PA, hh, pc) ((xb, xm, xi, xj), ps.take hh) (by decide) rfl ⟨rfl, (((HPS.out.via hdr).takeE hh1).agr (Agr.setCell (p := ⟨Bg, q * 5 + 4, none⟩) _ fun b hb => hb.2))⟩)
        have HBX9 := Lib.hid ((HBX4.out.via hdr).far (p := ⟨Bg, q * 5 + 4, none⟩) (by show w.heap.size ≠ Bg; have := HGE.out; omega) (.slice PA hh pc))
        have HBR9 := Lib.hid ((HBR4.out.via hdr).far (p := ⟨Bg, q * 5 + 4, none⟩) (by show w.heap.size + 1 ≠ Bg; have := HGE.out; omega) (.slice PA hh pc))
        have HB9 := Lib.hid ((HB4.out.via hdr).setCell (p := ⟨Bg, q * 5 + 4, none⟩) (by show w.heap.size ≤ Bg; have := HGE.out; omega) (.slice PA hh pc))
        have hW := HSZ.out
        clear c1 c2 c4 hfr HPU HO4 SO hHeld hfr5
        generalize w5.setCell ⟨Bg, q * 5 + 4, none⟩ (.slice PA hh pc) = w9 at *
        go_upto_region 15 with fail
        have BX9 := HBX9.out
        have BR9 := HBR9.out
        have HOS := Lib.hid (HO9.out.toSl (ok' := fun b => b ≠ w.heap.size + 1 ∧ b ≠ w.heap.size ∧ (ok b ∨ w.heap.size ≤ b)) (fun b _ hb => hb) (fun b hb => ⟨by omega, by omega, Or.inr (by omega)⟩))
        have cBX9 := BX9.cell
        have fBX9 := BX9.frozen
        have lBX9 := BX9.lt
        have cBR9 := BR9.cell
        have fBR9 := BR9.frozen
        have lBR9 := BR9.lt
        go_wp2_with fail
        clear cBX9 fBX9 lBX9 cBR9 fBR9 lBR9
        have B2 := (HBR9.out.set_ 0 (.slice (some ⟨Bg, 0, none⟩) n cq)).set_ 1 (.int .i64 r)
        simp only [List.setIfInBounds_toArray, List.set_cons_zero, List.set_cons_succ] at B2
        have cc2 := B2.cell
        refine bodyPost_ret (v := .agg #[.slice (some ⟨Bg, 0, none⟩) n cq, .int .i64 r]) (by simp [results, Tryz.results27, go_sem, cc2]) rfl ⟨some ⟨Bg, 0, none⟩, n, cq, r, nd9, rfl, ?_, ?_⟩
        · exact ((HOS.out.agr (Agr.setCell (p := ⟨w.heap.size + 1, 0, none⟩) (.slice (some ⟨Bg, 0, none⟩) n cq) fun b hb => hb.1)).agr (Agr.setCell (p := ⟨w.heap.size + 1, 1, none⟩) (.int .i64 r) fun b hb => hb.1)).mono fun b _ hb => hb.2.2
        · exact (HB9.out.setCell (p := ⟨w.heap.size + 1, 0, none⟩) (Nat.le_succ _) _).setCell (p := ⟨w.heap.size + 1, 1, none⟩) (Nat.le_succ _) _
      · have HBN := Lib.hid (below_c tr (n : Int) w4 (by omega) (by omega))
        have BX4 := HBX4.out
        have cBX4 := BX4.cell
        have fBX4 := BX4.frozen
        have lBX4 := BX4.lt
        go_wp2_with fail
        clear cBX4 fBX4 lBX4
        clear BX4
        refine HBN.out.mono ?_
        clear HBN
        rintro e w5 ⟨rfl, rfl⟩
        generalize belowI tr (n : Int) = rv at *
        dsimp only
        have BX4 := HBX4.out
        have cBX4 := BX4.cell
        have fBX4 := BX4.frozen
        have lBX4 := BX4.lt
        go_upto_region 15 with fail
        clear cBX4 fBX4 lBX4
        clear BX4
        obtain ⟨nd9, hn9⟩ : ∃ l, nd = l := ⟨_, rfl⟩
        have HO9 := Lib.hid (hn9 ▸ HO4.out.setCell (p := ⟨w.heap.size, 1, none⟩) (.int .i64 rv) (fun b hb => hb.2.1) (by show w.heap.size < W.heap.size; have := HSZ.out; omega))
        have HBX9 := Lib.hid (show Blk (w4.setCell ⟨w.heap.size, 1, none⟩ (.int .i64 rv)) w.heap.size 30 #[.slice (some ⟨Bg, 0, none⟩) n cq, .int .i64 rv] from by
          have := HBX4.out.set_ 1 (.int .i64 rv); simpa using this)
        have HBR9 := Lib.hid (HBR4.out.far (p := ⟨w.heap.size, 1, none⟩) (by show w.heap.size + 1 ≠ w.heap.size; omega) (.int .i64 rv))
        have HB9 := Lib.hid (HB4.out.setCell (p := ⟨w.heap.size, 1, none⟩) (Nat.le_refl _) (.int .i64 rv))
        have hW := HSZ.out
        clear c1 c2 c4 hfr HPU HO4
        generalize w4.setCell ⟨w.heap.size, 1, none⟩ (.int .i64 rv) = w9 at *
        have BX9 := HBX9.out
        have BR9 := HBR9.out
        have HOS := Lib.hid (HO9.out.toSl (ok' := fun b => b ≠ w.heap.size + 1 ∧ b ≠ w.heap.size ∧ (ok b ∨ w.heap.size ≤ b)) (fun b _ hb => hb) (fun b hb => ⟨by omega, by omega, Or.inr (by omega)⟩))
        have cBX9 := BX9.cell
        have fBX9 := BX9.frozen
        have lBX9 := BX9.lt
        have cBR9 := BR9.cell
        have fBR9 := BR9.frozen
        have lBR9 := BR9.lt
        go_wp2_with fail
        clear cBX9 fBX9 lBX9 cBR9 fBR9 lBR9
        have B2 := (HBR9.out.set_ 0 (.slice (some ⟨Bg, 0, none⟩) n cq)).set_ 1 (.int .i64 rv)
        simp only [List.setIfInBounds_toArray, List.set_cons_zero, List.set_cons_succ] at B2
        have cc2 := B2.cell
        refine bodyPost_ret (v := .agg #[.slice (some ⟨Bg, 0, none⟩) n cq, .int .i64 rv]) (by simp [results, Tryz.results27, go_sem, cc2]) rfl ⟨some ⟨Bg, 0, none⟩, n, cq, rv, nd9, rfl, ?_, ?_⟩
        · exact ((HOS.out.agr (Agr.setCell (p := ⟨w.heap.size + 1, 0, none⟩) (.slice (some ⟨Bg, 0, none⟩) n cq) fun b hb => hb.1)).agr (Agr.setCell (p := ⟨w.heap.size + 1, 1, none⟩) (.int .i64 rv) fun b hb => hb.1)).mono fun b _ hb => hb.2.2
        · exact (HB9.out.setCell (p := ⟨w.heap.size + 1, 0, none⟩) (Nat.le_succ _) _).setCell (p := ⟨w.heap.size + 1, 1, none⟩) (Nat.le_succ _) _
      · have HCF := Lib.hid (cloneFp_c (fun b => (b ≠ w.heap.size + 1 ∧ b ≠ w.heap.size ∧ (ok b ∨ w.heap.size ≤ b)) ∧ b ≠ Bg) PA pl pc ps w4 HPS.out (by omega))
        go_wp2_with fail
        refine HCF.out.mono ?_
        clear HCF
        rintro e w5 ⟨KB, kd, rfl, hoc, hb1⟩
        dsimp only
        have HOC := Lib.hid (hoc.via ((Below.refl w5.heap.size w5).al (.cells #[.int .i64 tr, .slice none 0 0] 89)))
        have HBL := Lib.hid (Blk.new w5 89 #[.int .i64 tr, .slice none 0 0])
        have HKB := Lib.hid (fun k hk => hoc.lt k hk)
        have hgl := (HO4.out.lt Bg rfl).2
        have HB5 := Lib.hid (hb1.al (.cells #[.int .i64 tr, .slice none 0 0] 89))
        have HREL := Lib.hid (show FpE.rel (fun b => (((b ≠ w.heap.size + 1 ∧ b ≠ w.heap.size ∧ (ok b ∨ w.heap.size ≤ b)) ∧ b ≠ Bg) ∧ b < w4.heap.size) ∧ some b ≠ (Value.slice KB pl kd).ownBlock) (w5.alloc (.cells #[.int .i64 tr, .slice none 0 0] 89)) (tr, none, 0, 0) (tr, []) from ⟨rfl, rfl, Nat.le_refl _, [], rfl, fun h => absurd rfl h, fun i r x hr => by simp at hr⟩)
        have hsz5 := hb1.size
        clear hoc
        go_upto_region 15 with (at_builtin; refine wpList_append_fp _ rfl (.tmp 34) (.tmp 37) rfl (fun b => ((b ≠ w.heap.size + 1 ∧ b ≠ w.heap.size ∧ (ok b ∨ w.heap.size ≤ b)) ∧ b ≠ Bg) ∧ b < w4.heap.size) w4.heap.size (.slice KB pl kd) pl ps rfl HOC.out w5.heap.size (tr, none, 0, 0) (tr, []) rfl HBL.out HREL.out (by omega) (by simp; omega) ?_; intro A17 c17 w17 ho17 hg17 hat17; have hbA := HB5.out.grown hg17 (by simp; omega) (fun k hk => (HKB.out k hk).1); have HO17 := Lib.hid (HO4.out.via hbA); have hfr17 : (∀ i, w17.frozen? ⟨Bg, i, none⟩ = false) := (by obtain ⟨_, _, _, _, _, _, _, h, _⟩ := HO17.out.putRaw hqn; exact h); have c417 := (hbA.cell hgl).trans c4)
        obtain ⟨nd9, hn9⟩ : ∃ l, nd.set q ((xb, xm, xi, xj), ps ++ [(tr, [])]) = l := ⟨_, rfl⟩
        have hgE := HGE.out
        have HO9 : Hid (Own NdE 87 (fun b => b ≠ w.heap.size + 1 ∧ b ≠ w.heap.size ∧ (ok b ∨ w.heap.size ≤ b)) (w17.setCell ⟨Bg, q * 5 + 4, none⟩ (.slice A17 (pl + 1) c17)) W.heap.size (.slice (some ⟨Bg, 0, none⟩) n cq) n nd9) := by
          rw [← hn9]
          exact Lib.hid (HPU.out _ hbA 4 (.slice A17 (pl + 1) c17) ((xb, xm, xi, xj), A17, pl + 1, c17) ((xb, xm, xi, xj), ps ++ [(tr, [])]) (by decide) rfl ⟨rfl, ((ho17.toSl (ok' := fun b => (b ≠ w.heap.size + 1 ∧ b ≠ w.heap.size ∧ (ok b ∨ w.heap.size ≤ b)) ∧ b ≠ Bg) (fun b _ hb => hb.1) (fun b hb => ⟨⟨by omega, by omega, Or.inr (by omega)⟩, by omega⟩)).agr (Agr.setCell (p := ⟨Bg, q * 5 + 4, none⟩) _ fun b hb => hb.2))⟩)
        have HBX9 := Lib.hid ((HBX4.out.via hbA).far (p := ⟨Bg, q * 5 + 4, none⟩) (by show w.heap.size ≠ Bg; have := HGE.out; omega) (.slice A17 (pl + 1) c17))
        have HBR9 := Lib.hid ((HBR4.out.via hbA).far (p := ⟨Bg, q * 5 + 4, none⟩) (by show w.heap.size + 1 ≠ Bg; have := HGE.out; omega) (.slice A17 (pl + 1) c17))
        have HB9 := Lib.hid ((HB4.out.via hbA).setCell (p := ⟨Bg, q * 5 + 4, none⟩) (by show w.heap.size ≤ Bg; have := HGE.out; omega) (.slice A17 (pl + 1) c17))
        have hW := HSZ.out
        clear c1 c2 c4 hfr HPU HO4 hfr17 c417 HO17 ho17 hg17 hat17 hbA HOC HBL HKB HB5 HREL
        generalize w17.setCell ⟨Bg, q * 5 + 4, none⟩ (.slice A17 (pl + 1) c17) = w9 at *
        have BX9 := HBX9.out
        have BR9 := HBR9.out
        have HOS := Lib.hid (HO9.out.toSl (ok' := fun b => b ≠ w.heap.size + 1 ∧ b ≠ w.heap.size ∧ (ok b ∨ w.heap.size ≤ b)) (fun b _ hb => hb) (fun b hb => ⟨by omega, by omega, Or.inr (by omega)⟩))
        have cBX9 := BX9.cell
        have fBX9 := BX9.frozen
        have lBX9 := BX9.lt
        have cBR9 := BR9.cell
        have fBR9 := BR9.frozen
        have lBR9 := BR9.lt
        go_wp2_with fail
        clear cBX9 fBX9 lBX9 cBR9 fBR9 lBR9
        have B2 := (HBR9.out.set_ 0 (.slice (some ⟨Bg, 0, none⟩) n cq)).set_ 1 (.int .i64 r)
        simp only [List.setIfInBounds_toArray, List.set_cons_zero, List.set_cons_succ] at B2
        have cc2 := B2.cell
        refine bodyPost_ret (v := .agg #[.slice (some ⟨Bg, 0, none⟩) n cq, .int .i64 r]) (by simp [results, Tryz.results27, go_sem, cc2]) rfl ⟨some ⟨Bg, 0, none⟩, n, cq, r, nd9, rfl, ?_, ?_⟩
        · exact ((HOS.out.agr (Agr.setCell (p := ⟨w.heap.size + 1, 0, none⟩) (.slice (some ⟨Bg, 0, none⟩) n cq) fun b hb => hb.1)).agr (Agr.setCell (p := ⟨w.heap.size + 1, 1, none⟩) (.int .i64 r) fun b hb => hb.1)).mono fun b _ hb => hb.2.2
        · exact (HB9.out.setCell (p := ⟨w.heap.size + 1, 0, none⟩) (Nat.le_succ _) _).setCell (p := ⟨w.heap.size + 1, 1, none⟩) (Nat.le_succ _) _
end Go.Proofs.YtpjafhaajcklmaaGreatDoor

