/- Texts FD, laid together. -/
import Derived.Test.YtdmecijpioljaaaFC


namespace Go.Proofs.Ytdmecijpioljaaa
open Go.RowKit

def termC (x : List Nat) : List Ce := (natI x).map fun t => (true, t)
def HNextP (g : Gr) (x : List Nat) (w : World) (e : Ending) (w' : World) : Prop :=
  ∃ m : List Bool, m.length = g.terms + 1 ∧ (∀ t, t < g.terms → m[t]? = some (mayB (genR g) g.start x x.length t)) ∧
    ((true ∈ m ∧ ∃ b, e = .returned (.tuple #[.slice (some ⟨b, 0, none⟩) (g.terms + 1) (g.terms + 1), .int .i64 0]) ∧ Blk w' b 4 (bVals m)) ∨ (¬ true ∈ m ∧ e = .returned (.tuple #[.slice none 0 0, .int .i64 10]))) ∧ Below w.heap.size w w'
theorem termC_len (x : List Nat) : (termC x).length = x.length := by simp [termC, natI]
theorem termC_get {x : List Nat} {j t : Nat} (h : x[j]? = some t) : (termC x)[j]? = some (true, (t : Int)) := by simp [termC, natI, h]
theorem termC_ok {g : Gr} {x : List Nat} (h : ∀ t ∈ x, t < g.terms) : ∀ y ∈ termC x, okCe g y := by
  intro y hy
  unfold termC natI at hy
  obtain ⟨i, hi, rfl⟩ := List.mem_map.1 hy
  obtain ⟨t, ht, rfl⟩ := List.mem_map.1 hi
  exact ⟨rfl, Or.inl ⟨t, rfl, h t ht⟩⟩
/-- a block of one element is a row of its own -/
theorem Own.oneSl (e : TypeId) (w : World) : Own SlE e (fun _ => False) (w.alloc (.cells #[.slice none 0 0] e)) w.heap.size (.slice (some ⟨w.heap.size, 0, none⟩) 1 1) 1 [(none, 0, 0)] :=
  ⟨rfl, [(none, 0, 0)], rfl, ⟨rfl, Or.inr ⟨w.heap.size, 1, #[.slice none 0 0], rfl, Nat.le_refl _, Blk.new w e #[.slice none 0 0], Nat.le_refl _, by simp [maxLen], rfl, rfl⟩⟩, fun i r x hr hx => by rw [hr] at hx; exact Option.some.inj hx⟩
theorem sets_one {e ti : TypeId} {w : World} {base b : Nat} (h : Own SlE e (fun _ => False) w base (.slice (some ⟨b, 0, none⟩) 1 1) 1 [(none, 0, 0)]) : Sets e ti w base (.slice (some ⟨b, 0, none⟩) 1 1) [(none, 0, 0)] [[]] := by
  have one : ∀ (j : Nat) (q : SlV), ([(none, 0, 0)] : List SlV)[j]? = some q → j = 0 ∧ q = (none, 0, 0) := fun j q hj => by
    cases j with
    | zero => exact ⟨rfl, by simpa using hj.symm⟩
    | succ j => simp at hj
  refine ⟨h, rfl, fun j q l hq hl => ?_, fun j j' q q' b' hne hq hq' => ?_, fun j q b' hq hb => ?_⟩
  · obtain ⟨rfl, rfl⟩ := one j q hq
    obtain rfl : [] = l := by simpa using hl
    exact Own.nil _ _
  · have := (one j q hq).1; have := (one j' q' hq').1; omega
  · obtain ⟨-, rfl⟩ := one j q hq
    cases hb
theorem sets_no_one {b b' : Nat} (h : b' ≠ b) : Sets.no (.slice (some ⟨b, 0, none⟩) 1 1) [(none, 0, 0)] b' :=
  ⟨fun e => h (Option.some.inj e).symm, fun j q hq => by
    cases j with
    | zero =>
      obtain rfl : (none, 0, 0) = q := by simpa using hq
      exact fun e => by cases e
    | succ j => simp at hq⟩
theorem flatBo (m : List Bool) : flat BoE m = m.map Value.bool := by
  induction m with
  | nil => rfl
  | cons x l ih => simp only [flat, List.flatMap_cons, List.map_cons] at ih ⊢; rw [ih]; rfl
theorem Blk.slBo {w : World} {b n : Nat} {m : List Bool} (h : Blk w b 4 (bVals m)) (hn : m.length = n) : Sl BoE (fun _ => True) w (some ⟨b, 0, none⟩) n n m :=
  ⟨hn, Nat.le_refl _, m, hn, fun _ => ⟨b, 0, rfl, trivial, fun j u hu => by
    rw [Nat.zero_add, h.cell, bVals, List.getElem?_toArray, ← flatBo]; exact hu⟩, fun i r x hr hx => by rw [hr] at hx; exact Option.some.inj hx⟩
set_option maxRecDepth 100000 in
set_option maxHeartbeats 4000000 in
theorem Next_c (ok okc : Nat → Prop) (g : Gr) (Ag : Option Addr) (ng cg : Nat) (A : Option Addr) (c : Nat) (xs : List Nat) (w : World) (hg : GrOk g) (hl : Sl RuE ok w Ag ng cg g.rules) (hx : Sl CeE okc w A xs.length c (termC xs)) (hnx : xs.length < 12) (ht : ∀ t ∈ xs, t < g.terms) :
    Calls Try.prog 8 #[grVal g Ag ng cg, .slice A xs.length c] w (HNextP g xs w) := by
  have hng : g.rules.length = ng := hl.len
  have hn32 : g.rules.length ≤ 32 := hg.ok.count
  have h8 := hg.ok.terms.2
  have H4 := Lib.hid (show ∀ u ∈ g.rules, u.2.length ≤ 4 from fun u hu => (hg.ok.right u hu).1)
  have H1000 := Lib.hid (show ∀ u ∈ g.rules, u.2.length ≤ 1000 from fun u hu => Nat.le_trans (H4.out u hu) (by omega))
  have HGO := Lib.hid hg
  have HTT := Lib.hid ht
  have k12 : ((xs.length : Int) == (12 : Int)) = false := by rw [beq_eq_false_iff_ne]; omega
  have hal := (Below.refl w.heap.size w).al (.cells #[.int .i64 (g.terms : Int), .int .i64 (g.nons : Int), .int .i64 (g.start : Int), .slice Ag ng cg] 28)
  have B0 := Blk.new w 28 #[.int .i64 (g.terms : Int), .int .i64 (g.nons : Int), .int .i64 (g.start : Int), .slice Ag ng cg]
  have HL := Lib.hid ((hl.mono (ok' := fun b => b < w.heap.size) fun b hb _ => hb).via hal)
  have HX := Lib.hid ((hx.mono (ok' := fun b => b < w.heap.size) fun b hb _ => hb).via hal)
  have HB := Lib.hid hal
  clear hl hg hx hal ht
  simp only [grVal]
  go_enter Try.func8, Try.ntmps8
  have cB0 := B0.cell
  have fB0 := B0.frozen
  have lB0 := B0.lt
  go_upto_region 1 with fail
  generalize hW : w.alloc (.cells #[.int .i64 (g.terms : Int), .int .i64 (g.nons : Int), .int .i64 (g.start : Int), .slice Ag ng cg] 28) = W at *
  have hwW : w.heap.size < W.heap.size := by rw [← hW]; simp
  clear hW
  go_wp2_with fail
  clear cB0 fB0 lB0
  refine (hcheck_c _ _ g Ag ng cg A xs.length c (termC xs) W HGO.out HL.out HX.out (by omega) (termC_ok HTT.out)).mono ?_
  rintro e w0 ⟨rfl, hb0⟩
  replace B0 := B0.via hb0
  replace HL := Lib.hid (HL.out.via hb0)
  replace HX := Lib.hid (HX.out.via hb0)
  replace HB := Lib.hid (HB.out.trans (hb0.mono (by omega)))
  have hw0 : W.heap.size ≤ w0.heap.size := hb0.size
  clear hb0
  have cB0 := B0.cell
  have fB0 := B0.frozen
  have lB0 := B0.lt
  go_wp2_with fail
  clear cB0 fB0 lB0
  refine (Ends_q _ g Ag ng cg w0 HGO.out (by have := HGO.out.ok.nons; omega) HL.out).mono ?_
  rintro e w1 ⟨Ae, ce, rfl, hE, hb1⟩
  have hal1 := (Below.refl w1.heap.size w1).al (.cells #[.slice Ae g.nons ce] 32)
  have HE := Lib.hid ((hE.mono (ok' := fun b => b < w1.heap.size) fun b hb _ => hb).via hal1)
  have HEB := Lib.hid (Blk.new w1 32 #[.slice Ae g.nons ce])
  have BX1 := (B0.via hb1).via hal1
  have HL1 := Lib.hid ((HL.out.via hb1).via hal1)
  have HX1 := Lib.hid ((HX.out.via hb1).via hal1)
  have hw1 : w0.heap.size ≤ w1.heap.size := hb1.size
  have HB1 := Lib.hid ((HB.out.trans (hb1.mono (by omega))).trans (hal1.mono (by omega)))
  clear hE hb1 hal1 B0 HL HX HB
  go_upto_region 7 with fail
  have hwW1 : w1.heap.size < (w1.alloc (.cells #[.slice Ae g.nons ce] 32)).heap.size := by simp
  generalize w1.alloc (.cells #[.slice Ae g.nons ce] 32) = W1 at *
  have HBX1 := Lib.hid BX1
  have cBX1 := BX1.cell
  have fBX1 := BX1.frozen
  have lBX1 := BX1.lt
  go_wp2_with fail
  clear cBX1 fBX1 lBX1
  clear BX1
  refine (CopyG_a _ g Ag ng cg W1 H1000.out (by omega) HL1.out).mono ?_
  rintro e w2 ⟨A2, c2, rfl, hO, hb2⟩
  have HOL := Lib.hid hO.lt
  have hal2 := ((Below.refl w2.heap.size w2).al (.cells #[.slice none 0 0] 66)).al (.cells #[.int .i64 (g.terms : Int), .int .i64 (g.nons : Int), .int .i64 (g.start : Int), .slice A2 ng c2, .slice (some ⟨w2.heap.size, 0, none⟩) 1 1] 59)
  have hw2 : W1.heap.size ≤ w2.heap.size := hb2.size
  have HRW := Lib.hid ((Own.oneSl 66 w2).al (.cells #[.int .i64 (g.terms : Int), .int .i64 (g.nons : Int), .int .i64 (g.start : Int), .slice A2 ng c2, .slice (some ⟨w2.heap.size, 0, none⟩) 1 1] 59))
  have BF := Blk.newAt (w2.alloc (.cells #[.slice none 0 0] 66)) 59 #[.int .i64 (g.terms : Int), .int .i64 (g.nons : Int), .int .i64 (g.start : Int), .slice A2 ng c2, .slice (some ⟨w2.heap.size, 0, none⟩) 1 1] (w2.heap.size + 1) (by simp)
  have HO := Lib.hid ((hO.mono (ok' := fun b => b < w2.heap.size) fun b hb _ => hb).via hal2)
  have HE2 := Lib.hid ((HE.out.via hb2).via hal2)
  have HEB2 := Lib.hid ((HEB.out.via hb2).via hal2)
  have HBX2 := Lib.hid ((HBX1.out.via hb2).via hal2)
  have HL2 := Lib.hid ((HL1.out.via hb2).via hal2)
  have HX2 := Lib.hid ((HX1.out.via hb2).via hal2)
  have HB2 := Lib.hid ((HB1.out.trans (hb2.mono (by omega))).trans (hal2.mono (by omega)))
  have hwW2 : ((w2.alloc (.cells #[.slice none 0 0] 66)).alloc (.cells #[.int .i64 (g.terms : Int), .int .i64 (g.nons : Int), .int .i64 (g.start : Int), .slice A2 ng c2, .slice (some ⟨w2.heap.size, 0, none⟩) 1 1] 59)).heap.size = w2.heap.size + 2 := by simp
  clear hO hb2 hal2 HE HEB HBX1 HL1 HX1 HB1
  go_upto_region 8 with fail
  generalize (w2.alloc (.cells #[.slice none 0 0] 66)).alloc (.cells #[.int .i64 (g.terms : Int), .int .i64 (g.nons : Int), .int .i64 (g.start : Int), .slice A2 ng c2, .slice (some ⟨w2.heap.size, 0, none⟩) 1 1] 59) = W2 at *
  have HBF := Lib.hid BF
  have cBF := BF.cell
  have fBF := BF.frozen
  have lBF := BF.lt
  go_wp2_with fail
  clear cBF fBF lBF
  clear BF
  refine (delRu_c 20 (enters_c rfl rfl rfl) #[.pointer (some ⟨w1.heap.size, 0, none⟩)] _ A2 W1.heap.size ng c2 g.rules (badR (endsF g)) W2 HO.out (by omega) (by omega) ?_).mono ?_
  · intro gb w' r x hA hk hx hr
    refine nextBad_c _ (fun _ => True) w1.heap.size Ae g.nons ce (endsF g) r x w' ((hk.bel.block _ hwW1).trans HEB2.out) (HE2.out.agr (hk.agr.mono fun b hb e => ?_)) hr (Nat.le_trans (H4.out x hx) (by omega)) (fun s hs hs1 => ?_)
    · have := (HO.out.lt gb (by rw [hA]; rfl)).1; omega
    · have h := (HGO.out.ok.right x hx).2 s hs
      unfold Gr.okSy at h
      rwa [if_neg (by rw [hs1]; simp)] at h
  rintro e w3 ⟨he, hO3, hk3, hk4, hb3⟩
  have he' : e = .returned (.slice A2 (genR g).length c2) := he
  clear he
  subst he'
  have hO3' : Own RuE 47 (fun b => b < w2.heap.size) w3 W1.heap.size (.slice A2 (genR g).length c2) (genR g).length (genR g) := hO3
  have HSR := Lib.hid (hO3'.toSl2 (ok' := fun b => b < w2.heap.size) (fun _ _ h => h) (fun b hb => (HOL.out b (by cases A2 <;> exact hb)).2))
  have HBX3 := Lib.hid (HBX2.out.below hb3 (by omega))
  have hkeep : Agr (fun b => w2.heap.size ≤ b) W2 w3 := by
    rcases A2 with _ | ad
    · exact Agr.below (hk4 rfl)
    · obtain ⟨gb, rfl⟩ : ∃ gb, ad = ⟨gb, 0, none⟩ := by
        obtain ⟨h1, raw, h2, h3, h4⟩ := HO.out
        rcases h3.2 with ⟨e, h0⟩ | ⟨g', cap, cur, hv, _⟩
        · cases e
        · cases hv; exact ⟨g', rfl⟩
      exact (hk3 gb rfl).agr.mono fun b hb e => by have := HOL.out gb rfl; omega
  have BF3 := (hkeep (w2.heap.size + 1) (by omega) HBF.out.lt).trans HBF.out
  have HRW3 := Lib.hid (HRW.out.agr (hkeep.mono fun b hb => hb.elim (fun h => h.elim) (fun h => by have e : b = w2.heap.size := Option.some.inj h; omega)))
  have HL3 := Lib.hid (HL2.out.agr fun b hb _ => hb3.block b (by omega))
  have HX3 := Lib.hid (HX2.out.agr fun b hb _ => hb3.block b (by omega))
  have hs3 : W2.heap.size ≤ w3.heap.size := hb3.size
  have HB3 := Lib.hid (HB2.out.trans (hb3.mono (by omega)))
  have BF3' : Blk w3 (w2.heap.size + 1) 59 #[.int .i64 (g.terms : Int), .int .i64 (g.nons : Int), .int .i64 (g.start : Int), .slice A2 ng c2, .slice (some ⟨w2.heap.size, 0, none⟩) 1 1] := BF3
  clear hO3 hO3' hk3 hk4 hb3 HBX2 HB2 HL2 HX2 HO HOL HE2 HEB2 HBF hkeep BF3 HRW
  have BX3 := HBX3.out
  have cBF3' := BF3'.cell
  have fBF3' := BF3'.frozen
  have lBF3' := BF3'.lt
  have cBX3 := BX3.cell
  have fBX3 := BX3.frozen
  have lBX3 := BX3.lt
  go_wp2_with fail
  clear cBF3' fBF3' lBF3' cBX3 fBX3 lBX3
  have BF4 := BF3'.set_ 3 (.slice A2 (genR g).length c2)
  simp at BF4
  have BX4 := BX3.far (p := ⟨w2.heap.size + 1, 3, none⟩) (show w.heap.size ≠ w2.heap.size + 1 by omega) (.slice A2 (genR g).length c2)
  have HS4 := Lib.hid (HSR.out.agr (Agr.setCell (p := ⟨w2.heap.size + 1, 3, none⟩) (.slice A2 (genR g).length c2) fun b hb e => by have e' : b = w2.heap.size + 1 := e; omega))
  have HL4 := Lib.hid (HL3.out.agr (Agr.setCell (p := ⟨w2.heap.size + 1, 3, none⟩) (.slice A2 (genR g).length c2) fun b hb e => by have e' : b = w2.heap.size + 1 := e; omega))
  have HX4 := Lib.hid (HX3.out.agr (Agr.setCell (p := ⟨w2.heap.size + 1, 3, none⟩) (.slice A2 (genR g).length c2) fun b hb e => by have e' : b = w2.heap.size + 1 := e; omega))
  have HRW4 := Lib.hid (HRW3.out.agr (Agr.setCell (p := ⟨w2.heap.size + 1, 3, none⟩) (.slice A2 (genR g).length c2) fun b hb e => by
    have e' : b = w2.heap.size + 1 := e
    rcases hb with hb | hb
    · exact hb
    · have e2 : b = w2.heap.size := Option.some.inj hb
      omega))
  have HB4 := Lib.hid (HB3.out.setCell (p := ⟨w2.heap.size + 1, 3, none⟩) (show w.heap.size ≤ w2.heap.size + 1 by omega) (.slice A2 (genR g).length c2))
  have hs4 : w2.heap.size + 2 ≤ (w3.setCell ⟨w2.heap.size + 1, 3, none⟩ (.slice A2 (genR g).length c2)).heap.size := by simp; omega
  clear BF3' BX3 HSR HL3 HX3 HRW3 HB3 HBX3
  generalize w3.setCell ⟨w2.heap.size + 1, 3, none⟩ (.slice A2 (genR g).length c2) = w4 at *
  have hr32 : (genR g).length ≤ 32 := Nat.le_trans (genR_len g) hn32
  have HG4 := Lib.hid (show ∀ u ∈ genR g, u.2.length ≤ 4 from fun u hu => H4.out u (genR_mem hu))
  have HF4 := Lib.hid (show FolS w4 w2.heap.size (w2.heap.size + 1) (.int .i64 (g.terms : Int)) (.int .i64 (g.nons : Int)) (.int .i64 (g.start : Int)) A2 (genR g).length c2 (genR g) (.slice (some ⟨w2.heap.size, 0, none⟩) 1 1, [(none, 0, 0)]) [[]] from
    ⟨BF4, HS4.out, sets_one HRW4.out, sets_no_one (by omega), by omega⟩)
  clear BF4 HS4 HRW4
  as_aux_lemma =>
  refine (gN_c _ _).mono ?_
  rintro e w5 ⟨rfl, hb5⟩
  have HF5 := Lib.hid (HF4.out.via hb5)
  have HM5 := Lib.hid (Mov.of (N := FolX (w2.heap.size + 1) (.slice (some ⟨w2.heap.size, 0, none⟩) 1 1, [(none, 0, 0)])) hb5)
  clear hb5
  go_wp2_with fail
  refine (predict_s HF5.out 0 [] rfl rfl (by omega) hr32 HG4.out List.nodup_nil (fun x h => by cases h) false g.start).mono ?_
  rintro e w6 ⟨l0, hG, rfl, s6, hF6, hM6⟩
  have HG := Lib.hid hG
  have HF6 := Lib.hid (show FolS w6 w2.heap.size (w2.heap.size + 1) (.int .i64 (g.terms : Int)) (.int .i64 (g.nons : Int)) (.int .i64 (g.start : Int)) A2 (genR g).length c2 (genR g) s6 [l0] from hF6)
  have HM6 := Lib.hid (HM5.out.trans (hM6.fx (bf := w2.heap.size + 1)))
  clear hG hF6 hM6 HF5 HM5
  have HND := Lib.hid (HG.out.nd List.nodup_nil)
  have HOK := Lib.hid (show ∀ x ∈ l0, ItOk (genR g) 0 x from fun x hx => (HG.out.src x hx).elim (fun h => by cases h) (fun h => h.ok))
  have HSO := Lib.hid (show ∀ (j : Nat) m, [l0][j]? = some m → m.length ≤ 100000 ∧ ∀ x ∈ m, ItOk (genR g) 0 x from fun j m hj => by
    cases j with
    | zero =>
      obtain rfl : l0 = m := by simpa using hj
      exact ⟨lenI hr32 HG4.out (by omega) HND.out HOK.out, HOK.out⟩
    | succ j => simp at hj)
  go_wp2_with fail
  refine (complete_s w6 w2.heap.size (w2.heap.size + 1) 0 _ _ _ A2 (genR g).length c2 (genR g) s6 [l0] l0 HF6.out rfl rfl (by omega) hr32 HG4.out HND.out HOK.out HSO.out).mono ?_
  rintro e w7 ⟨l7, hC, rfl, s7, hF7, hM7⟩
  have HF7 := Lib.hid (show FolS w7 w2.heap.size (w2.heap.size + 1) (.int .i64 (g.terms : Int)) (.int .i64 (g.nons : Int)) (.int .i64 (g.start : Int)) A2 (genR g).length c2 (genR g) s7 [l7] from hF7)
  have HI7 := Lib.hid (InvI.start (w := xs) HG.out hC)
  have HB7 := Lib.hid ((HM6.out.trans (hM7.fx (bf := w2.heap.size + 1))).below (i := true) (base := w2.heap.size) (fun b hb => ⟨sets_no_one (by omega), by omega⟩) (by omega))
  clear hC hF7 hM7 HG HF6 HM6 HND HOK HSO HF4
  go_wp2_with fail
  go_loopw [56] (fun a wq => ∃ (k : Nat) (s : Value × List SlV) (L : List (List It3)), a = .int .i64 k ∧ k ≤ xs.length ∧ Hid (FolS wq w2.heap.size (w2.heap.size + 1) (.int .i64 (g.terms : Int)) (.int .i64 (g.nons : Int)) (.int .i64 (g.start : Int)) A2 (genR g).length c2 (genR g) s L) ∧ Hid (InvI (genR g) g.start xs k L) ∧ Hid (Below w2.heap.size w4 wq)) (fun a _ => xs.length - (intOf a).toNat)
  case atStart => exact ⟨0, s7, [l7], rfl, Nat.zero_le _, HF7, HI7, HB7⟩
  case round =>
    obtain ⟨k, s, L, rfl, hk, HF, HI, HBR⟩ := hrel
    by_cases hkl : k < xs.length
    · obtain ⟨t, hxt⟩ : ∃ t, xs[k]? = some t := ⟨_, List.getElem?_eq_getElem hkl⟩
      obtain ⟨l, hl⟩ := HI.out.last
      obtain ⟨b6, o6, y, y', rfl, hb6o, hb6, hy, hyr, hcy⟩ := (HX4.out.agr fun b hb _ => HBR.out.block b (by omega)).at_ hkl
      obtain rfl : y = y' := hyr
      rw [termC_get hxt] at hy
      obtain rfl := Option.some.inj hy
      have y0 := hcy 0 _ rfl
      have y1 := hcy 1 _ rfl
      simp only [CeE, Nat.add_zero] at y0 y1
      have k0 : (0 : Int) ≤ (k : Int) := by omega
      have k1 : (k : Int) < (xs.length : Int) := by omega
      have HXT := Lib.hid hxt
      have HLK := Lib.hid hl
      have hal := (Below.refl wr.heap.size wr).al (.cells #[.bool true, .int .i64 (t : Int)] 45)
      have BS := Blk.new wr 45 #[.bool true, .int .i64 (t : Int)]
      have HFa := Lib.hid (HF.out.via hal)
      have HSM := Lib.hid (HI.out.small (by omega) hr32 HG4.out)
      have hsr : w2.heap.size ≤ wr.heap.size := HF.out.bs
      have HBa := Lib.hid (HBR.out.trans (hal.mono hsr))
      clear hxt hl hcy hy hal hb6o
      have cBS := BS.cell
      have fBS := BS.frozen
      have lBS := BS.lt
      go_wp2_with fail
      clear cBS fBS lBS
      clear y0 y1 BS
      refine (scan_s _ w2.heap.size (w2.heap.size + 1) k _ _ _ A2 (genR g).length c2 (genR g) s L l t HFa.out (by omega) HI.out.len HLK.out (by omega) hr32 HG4.out HSM.out).mono ?_
      rintro e w8 ⟨l8, l9, s9, hG, hC, rfl, hF9, hM9⟩
      have HF9 := Lib.hid hF9
      have HI9 := Lib.hid (HI.out.next HLK.out HXT.out hG hC)
      have HB9 := Lib.hid (HBa.out.trans (hM9.below (i := true) (base := w2.heap.size) (fun b hb => ⟨(FolM.sets HFa.out).no_lt hb, by omega⟩) HFa.out.bs))
      clear hG hC hF9 hM9
      go_wp2_with fail
      exact ⟨⟨k + 1, s9, _, by go_num, by omega, HF9, HI9, HB9⟩, by simp [intOf]; omega⟩
    · obtain rfl : k = xs.length := by omega
      as_aux_lemma =>
      obtain ⟨wz, rfl⟩ : ∃ wz : World, wz = wr := ⟨_, rfl⟩
      obtain ⟨l, hl⟩ := HI.out.last
      have HSM := HI.out.small (by omega) hr32 HG4.out _ l hl
      have hll : l.length ≤ 100000 := HSM.1
      obtain ⟨gb, d, qA, qc, hv, -, g0, hown⟩ := HF.out.hdr2 hl
      have f4 := HF.out.cv
      rw [hv, HI.out.len] at f4
      have HLK := Lib.hid hl
      have HF0 := HF
      have HOK := Lib.hid HSM.2
      have HSL := Lib.hid (hown.toSl (ok' := fun _ => True) (fun _ _ _ => trivial) (fun _ _ => trivial))
      have BXz := BX4.below HBR.out (by omega)
      have hgl : gb < wz.heap.size := World.block_lt_of_cell? wz _ g0
      have hbl : w2.heap.size + 1 < wz.heap.size := HF.out.lt
      have hal := (Below.refl wz.heap.size wz).al (.cells (mkCells (.bool false) (g.terms + 1)) 4)
      replace f4 := (hal.cell (p := ⟨w2.heap.size + 1, 4, none⟩) hbl).trans f4
      replace g0 := (hal.cell (p := ⟨gb, xs.length, none⟩) hgl).trans g0
      have HB0 := Lib.hid (show Blk (wz.alloc (.cells (mkCells (.bool false) (g.terms + 1)) 4)) wz.heap.size 4 (bVals (mayI (genR g) l (g.terms + 1) 0)) from by
        rw [mayI_zero, ← mkCells_b]; exact Blk.new _ _ _)
      have HBW0 := Lib.hid hal
      have HBXz := Lib.hid BXz
      have hmb := mk_bools1 g.terms (by omega)
      have HT := Lib.hid (show ∀ u ∈ genR g, ∀ y ∈ u.2, y.1 = true → y.2 < g.terms + 1 from fun u hu y hy e => by
        have q := (HGO.out.ok.right u (genR_mem hu)).2 y hy
        unfold Gr.okSy at q
        rw [if_pos e] at q; omega)
      replace H1000 := Lib.hid (show ∀ u ∈ genR g, u.2.length ≤ 1000 from fun u hu => H1000.out u (genR_mem hu))
      have i0 : (0 : Int) ≤ (xs.length : Int) := by omega
      have i1 : (xs.length : Int) < (xs.length : Int) + 1 := by omega
      clear hl HSM hv hown hal
      have cBXz := BXz.cell
      have fBXz := BXz.frozen
      have lBXz := BXz.lt
      go_wp2_with fail
      clear cBXz fBXz lBXz
      clear f4 g0 hmb BXz
      have hzl : wz.heap.size < (wz.alloc (.cells (mkCells (.bool false) (g.terms + 1)) 4)).heap.size := by simp
      generalize wz.alloc (.cells (mkCells (.bool false) (g.terms + 1)) 4) = W9 at *
      generalize hn : g.terms + 1 = n at *
      have hn9 : n ≤ 9 := by omega
      have hgn : g.terms < n := by omega
      have HN := Lib.hid hn
      clear hn
      go_loopw [77] (fun a wq => ∃ m : Nat, a = .int .i64 m ∧ m ≤ l.length ∧ Hid (Blk wq wz.heap.size 4 (bVals (mayI (genR g) l n m))) ∧ Hid (Below wz.heap.size wz wq)) (fun a _ => l.length - (intOf a).toNat)
      case atStart => exact ⟨0, rfl, Nat.zero_le _, HB0, HBW0⟩
      case round =>
        obtain ⟨m, rfl, hm, HB, HBW⟩ := hrel
        by_cases hml : m < l.length
        · as_aux_lemma =>
          obtain ⟨b6, o6, x, x', rfl, -, hb6, hx, hxr, hcx⟩ := (HSL.out.via HBW.out).at_ hml
          obtain rfl : x = x' := hxr
          have x0 := hcx 0 _ rfl
          have x1 := hcx 1 _ rfl
          have x2 := hcx 2 _ rfl
          simp only [It3E, Nat.add_zero] at x0 x1 x2
          have m0 : (0 : Int) ≤ (m : Int) := by omega
          have m1 : (m : Int) < (l.length : Int) := by omega
          have hal := (Below.refl wr.heap.size wr).al (.cells #[.int .i64 (x.r : Int), .int .i64 (x.d : Int), .int .i64 (x.f : Int)] 68)
          have BX := Blk.new wr 68 #[.int .i64 (x.r : Int), .int .i64 (x.d : Int), .int .i64 (x.f : Int)]
          have HXM := Lib.hid hx
          have HXO := Lib.hid (HOK.out x (List.mem_of_getElem? hx))
          have hobw : wz.heap.size ≤ wr.heap.size := Nat.le_of_lt HB.out.lt
          have HF4 := Lib.hid ((HF0.out.via HBW.out).via hal)
          have HB4 := Lib.hid (HB.out.via hal)
          have HBW4 := Lib.hid (HBW.out.trans (hal.mono hobw))
          clear hcx hx hal
          go_upto_region 20 with fail
          clear x0 x1 x2
          generalize hW4 : wr.alloc (.cells #[.int .i64 (x.r : Int), .int .i64 (x.d : Int), .int .i64 (x.f : Int)] 68) = W4 at *
          have hbx : wr.heap.size < W4.heap.size := by rw [← hW4]; simp
          clear hW4
          obtain ⟨oz, hoz⟩ : ∃ oz, nxtI (genR g) x = oz := ⟨_, rfl⟩
          cases oz with
          | none =>
            have HX2 := Lib.hid hoz
            clear hoz
            have cBX := BX.cell
            have fBX := BX.frozen
            have lBX := BX.lt
            go_wp2_with fail
            clear cBX fBX lBX
            refine (nexts_n HF4.out H1000.out xs.length x HXO.out HX2.out).mono ?_
            rintro e w8 ⟨rfl, hb8⟩
            have hal8 := (Below.refl w8.heap.size w8).al (.cells #[.bool false, .int .i64 0] 45)
            have h48 : W4.heap.size ≤ w8.heap.size := hb8.size
            have HB8 := Lib.hid ((HB4.out.via hb8).via hal8)
            have HBW8 := Lib.hid ((HBW4.out.trans (hb8.mono (by omega))).trans (hal8.mono (by omega)))
            clear hb8 BX hal8
            go_wp2_with fail
            exact ⟨⟨m + 1, by go_num, by omega, Lib.hid (by rw [mayI_miss HXM.out (fun t e => by rw [HX2.out] at e; cases e)]; exact HB8.out), HBW8⟩, by simp [intOf]; omega⟩
          | some yy =>
            obtain ⟨tb, tn⟩ := yy
            have HX2 := Lib.hid hoz
            obtain ⟨u2, hu2, hu3, -⟩ := nxtI_lt hoz
            have HTN := Lib.hid (show tb = true → tn < n from fun e => HT.out u2 (List.mem_of_getElem? hu2) (tb, tn) (List.mem_of_getElem? hu3) e)
            clear hoz hu2 hu3
            have cBX := BX.cell
            have fBX := BX.frozen
            have lBX := BX.lt
            go_wp2_with fail
            clear cBX fBX lBX
            refine (nexts_s HF4.out H1000.out x tb tn HX2.out).mono ?_
            rintro e w8 ⟨rfl, hb8⟩
            have hal8 := (Below.refl w8.heap.size w8).al (.cells #[.bool tb, .int .i64 (tn : Int)] 45)
            have h48 : W4.heap.size ≤ w8.heap.size := hb8.size
            have HB8 := Lib.hid ((HB4.out.via hb8).via hal8)
            have HBW8 := Lib.hid ((HBW4.out.trans (hb8.mono (by omega))).trans (hal8.mono (by omega)))
            have HS8 := Lib.hid (Blk.new w8 45 #[.bool tb, .int .i64 (tn : Int)])
            have hobl : wz.heap.size < w8.heap.size := by have := HB4.out.lt; omega
            clear hb8 BX hal8
            go_upto_region 21 with fail
            generalize w8.alloc (.cells #[.bool tb, .int .i64 (tn : Int)] 45) = W8 at *
            have BS8 := HS8.out
            cases tb with
            | false =>
              have cBS8 := BS8.cell
              have fBS8 := BS8.frozen
              have lBS8 := BS8.lt
              go_wp2_with fail
              exact ⟨⟨m + 1, by go_num, by omega, Lib.hid (by rw [mayI_miss HXM.out (fun t e => by rw [HX2.out] at e; cases e)]; exact HB8.out), HBW8⟩, by simp [intOf]; omega⟩
            | true =>
              have htn := HTN.out rfl
              have t0 : (0 : Int) ≤ (tn : Int) := by omega
              have t1 : (tn : Int) < (n : Int) := by omega
              have BB := HB8.out
              have fBB := BB.frozen
              have cT := BB.cell tn
              simp only [bVals, List.getElem?_toArray, List.getElem?_map, mayI_get htn, Option.map_some] at cT
              have cBS8 := BS8.cell
              have fBS8 := BS8.frozen
              have lBS8 := BS8.lt
              go_wp2_with fail
              exact ⟨⟨m + 1, by go_num, by omega, Lib.hid (by rw [mayI_hit HXM.out HX2.out, ← bVals_set]; exact HB8.out.set_ tn (.bool true)), Lib.hid (HBW8.out.setCell (by simp) _)⟩, by simp [intOf]; omega⟩
        · obtain rfl : m = l.length := by omega
          as_aux_lemma =>
          go_upto_region 24 with fail
          have hsz9 : w2.heap.size + 2 ≤ wz.heap.size := hbl
          have hlr : wz.heap.size < wr.heap.size := HB.out.lt
          have BXr := HBXz.out.below HBW.out (by omega)
          have HBZ := Lib.hid (HBR.out.trans (HBW.out.mono (by omega)))
          have cB := BXr.cell
          have i2 : (0 : Int) ≤ (g.terms : Int) := by omega
          have i3 : (g.terms : Int) < (n : Int) := by omega
          have hHeld : ∀ i, wr.drew.cell? ⟨w.heap.size, i, none⟩ = #[.int .i64 (g.terms : Int), .int .i64 (g.nons : Int), .int .i64 (g.start : Int), .slice Ag ng cg][i]? := cB
          refine wp_region_noPanic ?_
          refine wp_region_L 8 (fun w' => ∀ i, w'.cell? ⟨w.heap.size, i, none⟩ = #[.int .i64 (g.terms : Int), .int .i64 (g.nons : Int), .int .i64 (g.start : Int), .slice Ag ng cg][i]?) (by kernel_rfl) ?_
          refine wpAnyL.take (i := 0) (d := some 97) (v := ?_) rfl (by kernel_rfl) (by kernel_rfl) (by kernel_rfl) (by kernel_rfl) rfl (fun _ _ _ h => h) (Or.inl ⟨by rfl, ?_⟩) (by assumption) ?_
          rotate_left
          · intro w hSw; (try dsimp only at hSw); go_simp; try with_reducible rfl
          simp only [Act.put, List.setIfInBounds_toArray, List.set_cons_zero, List.set_cons_succ]
          refine wpAnyL.take (i := 1) (d := some 98) (v := ?_) rfl (by kernel_rfl) (by kernel_rfl) (by kernel_rfl) (by kernel_rfl) rfl (fun _ _ _ h => h) (Or.inl ⟨by rfl, ?_⟩) (by assumption) ?_
          rotate_left
          · intro w hSw; (try dsimp only at hSw); go_simp; try with_reducible rfl
          simp only [Act.put, List.setIfInBounds_toArray, List.set_cons_zero, List.set_cons_succ]
          refine wpAnyL.take (i := 2) (d := some 99) (v := ?_) rfl (by kernel_rfl) (by kernel_rfl) (by kernel_rfl) (by kernel_rfl) rfl (fun _ _ _ h => h) (Or.inl ⟨by rfl, ?_⟩) (by assumption) ?_
          rotate_left
          · intro w hSw; (try dsimp only at hSw); go_simp; try with_reducible rfl
          simp only [Act.put, List.setIfInBounds_toArray, List.set_cons_zero, List.set_cons_succ]
          refine wpAnyL.take (i := 3) (d := some 100) (v := ?_) rfl (by kernel_rfl) (by kernel_rfl) (by kernel_rfl) (by kernel_rfl) rfl (fun _ _ _ h => h) (Or.inl ⟨by rfl, ?_⟩) (by assumption) ?_
          rotate_left
          · intro w hSw; (try dsimp only at hSw); go_simp; try with_reducible rfl
          simp only [Act.put, List.setIfInBounds_toArray, List.set_cons_zero, List.set_cons_succ]
          refine wpAnyL.take (i := 4) (d := some 101) (v := ?_) rfl (by kernel_rfl) (by kernel_rfl) (by kernel_rfl) (by kernel_rfl) rfl (fun _ _ _ h => h) (Or.inl ⟨by rfl, ?_⟩) (by assumption) ?_
          rotate_left
          · intro w hSw; (try dsimp only at hSw); go_simp; try with_reducible rfl
          simp only [Act.put, List.setIfInBounds_toArray, List.set_cons_zero, List.set_cons_succ]
          refine wpAnyL.ready (rs := [5]) (by kernel_rfl) (by simp) ?_
          refine AllL.cons rfl (fun K hK => ?_) AllL.nil
          go_simp
          go_at_call 28
          refine (fill_c (fun b => b < w.heap.size) (fun b => b < w.heap.size) g Ag ng cg A xs.length c (termC xs) wr.drew HGO.out (HL4.out.agr fun b hb _ => HBZ.out.block b (by omega)) (HX4.out.agr fun b hb _ => HBZ.out.block b (by omega)) (by omega) (fun y hy => (termC_ok HTT.out y hy).1)).mono ?_
          rintro e w9 ⟨st, ⟨vs, ⟨vA, vn, vc⟩, vo⟩, -, -, rfl, -, hb9⟩
          have BX9 := (BXr.via (Below.refl wr.heap.size wr).drew).via hb9
          have BO9 := (HB.out.via (Below.refl wr.heap.size wr).drew).via hb9
          have HBO := Lib.hid BO9
          simp only [hoVal]
          go_wp2_with fail
          refine hK.out _ _ (fun _ => BX9.cell) ?_
          clear hK K
          try dsimp only [Act.put]
          have hfd : (Instr.field 72 (.agg #[.int .i64 vs, .slice vA vn vc, .bool vo]) 2).run Try.prog w9 = .ok (.bool vo) w9 := by kernel_rfl
          refine wpAnyL.ready (rs := [6]) (by kernel_rfl) (by simp) ?_
          refine AllL.cons rfl (fun K hK => ?_) AllL.nil
          go_simp
          refine hK.out _ _ (fun _ => BX9.cell) ?_
          clear hK K hfd
          try dsimp only [Act.put]
          refine wpAnyL.ready (rs := [7]) (by kernel_rfl) (by simp) ?_
          refine AllL.cons rfl (fun K hK => ?_) AllL.nil
          go_simp
          refine hK.out _ _ (fun _ => BX9.cell) ?_
          clear hK K
          try dsimp only [Act.put]
          have fB := BO9.frozen
          have cT := BO9.cell g.terms
          simp only [bVals, List.getElem?_toArray, List.getElem?_map, mayI_get hgn, Option.map_some] at cT
          refine wpAnyL.ready (rs := [8]) (by kernel_rfl) (by simp) ?_
          refine AllL.cons rfl (fun K hK => ?_) AllL.nil
          go_simp
          refine hK.out _ _ (fun h => absurd rfl h) ?_
          clear hK K
          refine wpAnyL.done (by kernel_rfl) ?_ _
          refine NoPanic.normal ?_
          clear fB cT hHeld cB
          obtain ⟨mm, hmm⟩ : ∃ mm, mm = (mayI (genR g) l n l.length).set g.terms vo := ⟨_, rfl⟩
          have hml : mm.length = n := by rw [hmm, List.length_set, mayI_len]
          have HMG := Lib.hid (show ∀ t, t < g.terms → mm[t]? = some (mayB (genR g) g.start xs xs.length t) from fun t ht => by
            rw [hmm, List.getElem?_set_ne (by omega)]
            exact HI.out.may HLK.out (by omega))
          have BO' := HBO.out.set_ g.terms (.bool vo)
          rw [bVals_set, ← hmm] at BO'
          have HBM := Lib.hid BO'
          have hszo : w.heap.size ≤ wz.heap.size := by omega
          have HBE := Lib.hid (((HB4.out.trans (HBZ.out.mono (by omega))).trans (((Below.refl wr.heap.size wr).drew.trans hb9).mono (by omega))).setCell (p := ⟨wz.heap.size, g.terms, none⟩) hszo (.bool vo))
          clear BO' BX9 BO9 BXr hb9 hmm HBO
          go_wp2_with fail
          refine (containsBo_c (some ⟨wz.heap.size, 0, none⟩) n n mm true _ (fun _ => True) (HBM.out.slBo hml) (by omega)).mono ?_
          rintro e w10 ⟨rfl, rfl⟩
          by_cases hmem : true ∈ mm
          · rw [decide_eq_true hmem]
            have HMEM := Lib.hid hmem
            clear hmem
            go_wp2_with fail
            refine bodyPost_ret (v := .tuple #[.slice (some ⟨wz.heap.size, 0, none⟩) n n, .int .i64 0]) (by simp [results, Try.results8, go_sem]) rfl ?_
            exact ⟨mm, by rw [hml]; exact HN.out.symm, HMG.out, Or.inl ⟨HMEM.out, wz.heap.size, by rw [HN.out], HBM.out⟩, HBE.out⟩
          · rw [decide_eq_false hmem]
            have HMEM := Lib.hid hmem
            clear hmem
            go_wp2_with fail
            refine bodyPost_ret (v := .tuple #[.slice none 0 0, .int .i64 10]) (by simp [results, Try.results8, go_sem]) rfl ?_
            exact ⟨mm, by rw [hml]; exact HN.out.symm, HMG.out, Or.inr ⟨HMEM.out, rfl⟩, HBE.out⟩
end Go.Proofs.Ytdmecijpioljaaa

