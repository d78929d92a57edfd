/- Texts JF, BU, RI, laid together. -/
import Derived.Test.YtbfcnfgkccgbiaaGreatDoorQ20
import Derived.Test.YtbfcnfgkccgbiaaGreatDoorQ18
import Derived.Test.YtbfcnfgkccgbiaaGreatDoorQ19
import Derived.Test.YtbfcnfgkccgbiaaGreatDoorQ7


namespace Go.Proofs.YtbfcnfgkccgbiaaGreatDoor
open Go.RowKit

/-! ### raw and valid -/
def embS (s : Sy) : Ci := (s.1, (s.2 : Int))
def embR (r : Ru) : Ri := ((r.1 : Int), r.2.map embS)
theorem lift_sym {T N : Int} {s : Ci} (h : okSi T N s = true) : ∃ y : Sy, s = embS y ∧ (if y.1 then (y.2 : Int) < T else (y.2 : Int) < N) := by
  obtain ⟨b, k⟩ := s
  unfold okSi at h
  simp only [Bool.and_eq_true, decide_eq_true_eq, Bool.or_eq_true, Bool.not_eq_true'] at h
  refine ⟨(b, k.toNat), ?_, ?_⟩
  · simp only [embS, Prod.mk.injEq, true_and]; omega
  · cases b
    · simp at h ⊢; omega
    · simp at h ⊢; omega
theorem chkL_ok {T N : Int} : ∀ (rs done : List Ri), chkL T N done rs = 0 → (∀ r ∈ rs, (0 ≤ r.1 ∧ r.1 < N) ∧ r.2.length ≤ 4 ∧ ∀ s ∈ r.2, okSi T N s = true) ∧ rs.Nodup ∧ ∀ r ∈ rs, ¬ r ∈ done
  | [], _, _ => ⟨fun r h => (by cases h), List.nodup_nil, fun r h => (by cases h)⟩
  | r :: rs, done, h => by
    unfold chkL at h
    by_cases h1 : ¬ (0 ≤ r.1 ∧ r.1 < N)
    · rw [if_pos h1] at h; cases h
    · rw [if_neg h1] at h
      by_cases h2 : 4 < r.2.length
      · rw [if_pos h2] at h; cases h
      · rw [if_neg h2] at h
        by_cases h3 : (r.2.any fun s => !okSi T N s) = true
        · rw [if_pos h3] at h; cases h
        · rw [if_neg h3] at h
          by_cases h4 : r ∈ done
          · rw [if_pos h4] at h; cases h
          · rw [if_neg h4] at h
            obtain ⟨i1, i2, i3⟩ := chkL_ok rs (done ++ [r]) h
            refine ⟨fun x hx => ?_, List.nodup_cons.2 ⟨fun hm => i3 r hm (by simp), i2⟩, fun x hx hd => ?_⟩
            · rcases List.mem_cons.1 hx with rfl | hx
              · refine ⟨Classical.not_not.1 h1, by omega, fun s hs => ?_⟩
                cases ho : okSi T N s with
                | true => rfl
                | false => exact absurd (List.any_eq_true.2 ⟨s, hs, by rw [ho]; rfl⟩) h3
              · exact i1 x hx
            · rcases List.mem_cons.1 hx with rfl | hx
              · exact h4 hd
              · exact i3 x hx (List.mem_append_left _ hd)
theorem lift_list {α β : Type} {f : α → β} {p : α → Prop} : ∀ {l : List β}, (∀ y ∈ l, ∃ x, y = f x ∧ p x) → ∃ k : List α, l = k.map f ∧ ∀ x ∈ k, p x
  | [], _ => ⟨[], rfl, fun x h => (by cases h)⟩
  | y :: l, h => by
    obtain ⟨x, hx, hp⟩ := h y (List.mem_cons_self ..)
    obtain ⟨k, hk, hpk⟩ := lift_list (l := l) fun z hz => h z (List.mem_cons_of_mem _ hz)
    refine ⟨x :: k, by rw [hx, hk]; rfl, fun z hz => ?_⟩
    rcases List.mem_cons.1 hz with rfl | hz
    · exact hp
    · exact hpk z hz
/-- what passes the check is a valid grammar -/
theorem chkG_ok {T N S : Int} {rs : List Ri} (h : chkG T N S rs = 0) : ∃ g : Gr, GrOk g ∧ T = (g.terms : Int) ∧ N = (g.nons : Int) ∧ S = (g.start : Int) ∧ rs = g.rules.map embR := by
  unfold chkG at h
  by_cases h1 : ¬ (1 ≤ T ∧ T ≤ 8 ∧ 1 ≤ N ∧ N ≤ 10 ∧ 0 ≤ S ∧ S < N)
  · rw [if_pos h1] at h; cases h
  · rw [if_neg h1] at h
    by_cases h2 : 32 < rs.length
    · rw [if_pos h2] at h; cases h
    · rw [if_neg h2] at h
      obtain ⟨i1, i2, -⟩ := chkL_ok rs [] h
      have h1 := Classical.not_not.1 h1
      obtain ⟨k, hk, hp⟩ := lift_list (f := embR) (p := fun u => (u.1 : Int) < N ∧ u.2.length ≤ 4 ∧ ∀ y ∈ u.2, (if y.1 then (y.2 : Int) < T else (y.2 : Int) < N)) (l := rs) fun r hr => by
        obtain ⟨⟨a1, a2⟩, a3, a4⟩ := i1 r hr
        obtain ⟨l, hl, hlp⟩ := lift_list (f := embS) (p := fun y : Sy => if y.1 then (y.2 : Int) < T else (y.2 : Int) < N) (l := r.2) fun s hs => lift_sym (a4 s hs)
        refine ⟨(r.1.toNat, l), ?_, by simp only; omega, ?_, hlp⟩
        · obtain ⟨r1, r2⟩ := r
          simp only [embR, Prod.mk.injEq]
          exact ⟨by simp only at a1; omega, hl⟩
        · simp only
          rw [hl, List.length_map] at a3; exact a3
      refine ⟨⟨T.toNat, N.toNat, S.toNat, k⟩, ⟨⟨by simp only; omega, by simp only; omega, by simp only; omega, ?_, fun r hr => ?_, fun r hr => ⟨(hp r hr).2.1, fun s hs => ?_⟩⟩, ?_⟩, by simp only; omega, by simp only; omega, by simp only; omega, hk⟩
      · simp only; rw [hk, List.length_map] at h2; omega
      · have := (hp r hr).1; simp only; omega
      · have := (hp r hr).2.2 s hs
        unfold Gr.okSy
        cases hs1 : s.1 <;> rw [hs1] at this <;> simp at this ⊢ <;> omega
      · rw [hk] at i2
        exact List.Pairwise.of_map embR (fun a b h e => h (by rw [e])) i2
theorem Sl.lowS {ok : Nat → Prop} {w : World} {A : Option Addr} {n c : Nat} {l : List Sy} (h : Sl SiE ok w A n c (l.map embS)) : Sl SyE ok w A n c l := by
  obtain ⟨h1, h2, raw, h3, h4, h5⟩ := h
  rw [List.length_map] at h1
  have e : raw = l.map embS := List.ext_getElem (by rw [h3, List.length_map, h1]) fun i a b => h5 i _ _ (List.getElem?_eq_getElem a) (List.getElem?_eq_getElem b)
  have ef : ∀ l : List Sy, flat SiE (l.map embS) = flat SyE l := fun l => by
    induction l with
    | nil => rfl
    | cons x l ih => simp only [flat, List.map_cons, List.flatMap_cons] at ih ⊢; rw [ih]; rfl
  refine ⟨h1, h2, l, h1, ?_, fun i r x hr hx => by rw [hr] at hx; exact Option.some.inj hx⟩
  rw [e, ef] at h4; exact h4
theorem Sl.lowR {ok : Nat → Prop} {w : World} {A : Option Addr} {n c : Nat} {l : List Ru} (h : Sl RiE ok w A n c (l.map embR)) : Sl RuE ok w A n c l := by
  obtain ⟨h1, h2, raw, h3, h4, h5⟩ := h
  rw [List.length_map] at h1
  have key : ∀ (raw : List (Int × SlV)) (l : List Ru), raw.length = l.length → (∀ (i : Nat) r x, raw[i]? = some r → (l.map embR)[i]? = some x → RiE.rel ok w r x) →
      ∃ raw2 : List (Nat × SlV), raw2.length = l.length ∧ flat RuE raw2 = flat RiE raw ∧ ∀ (i : Nat) r x, raw2[i]? = some r → l[i]? = some x → RuE.rel ok w r x := by
    intro raw
    induction raw with
    | nil =>
      intro l hl _
      have e : l = [] := List.eq_nil_of_length_eq_zero (by simpa using hl.symm)
      subst e
      exact ⟨[], rfl, rfl, fun i r x hr => by simp at hr⟩
    | cons r raw ih =>
      intro l hl hrel
      cases l with
      | nil => simp at hl
      | cons u l =>
        obtain ⟨raw2, k1, k2, k3⟩ := ih l (by simpa using hl) fun i r' x hr hx => hrel (i + 1) r' x (by simpa using hr) (by simpa using hx)
        have h0 := hrel 0 r (embR u) rfl rfl
        obtain ⟨r1, r2⟩ := r
        obtain ⟨e1, e2⟩ := h0
        simp only [embR] at e1 e2
        refine ⟨(u.1, r2) :: raw2, by simp [k1], ?_, fun i r' x hr hx => ?_⟩
        · simp only [flat, List.flatMap_cons] at k2 ⊢
          rw [k2, e1]; rfl
        · cases i with
          | zero =>
            obtain rfl : (u.1, r2) = r' := by simpa using hr
            obtain rfl : u = x := by simpa using hx
            exact ⟨rfl, Sl.lowS e2⟩
          | succ i => exact k3 i r' x (by simpa using hr) (by simpa using hx)
  obtain ⟨raw2, k1, k2, k3⟩ := key raw l (by rw [h3, h1]) h5
  exact ⟨h1, h2, raw2, by rw [k1, h1], by rw [k2]; exact h4, k3⟩

/-! ### beginnings and continuations -/
section
variable {R : List Ru} {es : Nat → Bool} {fs : Nat → Nat → Bool}
end
end Go.Proofs.YtbfcnfgkccgbiaaGreatDoor







namespace Go.Proofs.YtbfcnfgkccgbiaaGreatDoor
open Go.RowKit

/-- the parts that are derived -/
noncomputable def dvD (rules : List Ru) (xs : List Int) (k : Ky) : Bool := @decide (DvS rules xs k) (Classical.propDecidable _)
theorem dvD_iff {rules : List Ru} {xs : List Int} {k : Ky} : dvD rules xs k = true ↔ DvS rules xs k := by unfold dvD; exact @decide_eq_true_iff _ (Classical.propDecidable _)
theorem dOf_dv {rules : List Ru} {xs : List Int} {E : EnS} (hs : SndE rules xs E) (hf : FixE rules xs E) (hl : xs.length < 32) : dOf xs E = dvD rules xs := by
  funext k
  exact Bool.eq_iff_iff.2 ((dOf_iff hs hf hl k).trans dvD_iff.symm)
/-- a forest, or ErrLarge -/
def FoP (w : World) (D : Ky → Bool) (R : List Ru) (root : Ky) (e : Ending) (w' : World) : Prop :=
  ∃ f v b, e = .returned (.tuple #[v, .int .i64 (if b then 0 else 2)]) ∧ IsFo D R root 20000 f b ∧ FoR (fun b => w.heap.size ≤ b) w' v f ∧ Below w.heap.size w w'
/-- the error of a grammar, then that of a word -/
def chkB (T N S : Int) (rs : List Ri) (xs : List Int) : Int := if chkG T N S rs = 0 then chkW T 12 xs else chkG T N S rs
set_option maxRecDepth 100000 in
theorem mcheckB_c (ok : Nat → Prop) (T N S : Int) (A : Option Addr) (n c : Nat) (rs : List Ri) (wA : Option Addr) (wn wc : Nat) (xs : List Int) (w : World) (hl : Sl RiE ok w A n c rs) (hx : Ints w wA wn wc xs) :
    Calls Tryz.prog 54 #[.agg #[.int .i64 T, .int .i64 N, .int .i64 S, .slice A n c], .slice wA wn wc] w (IntO w (chkB T N S rs xs)) := by
  obtain ⟨q, hq⟩ : ∃ q, chkG T N S rs = q := ⟨_, rfl⟩
  have B0 := Blk.new w 24 #[.int .i64 T, .int .i64 N, .int .i64 S, .slice A n c]
  have HB := Lib.hid ((Below.refl w.heap.size w).al (.cells #[.int .i64 T, .int .i64 N, .int .i64 S, .slice A n c] 24))
  have HL := Lib.hid (hl.al (.cells #[.int .i64 T, .int .i64 N, .int .i64 S, .slice A n c] 24))
  have HX := Lib.hid (hx.alloc (.cells #[.int .i64 T, .int .i64 N, .int .i64 S, .slice A n c] 24))
  have HB0 := Lib.hid B0
  have HQ := Lib.hid hq
  clear hl hx hq
  go_enter Tryz.func54, Tryz.ntmps54
  have cB0 := B0.cell
  have fB0 := B0.frozen
  have lB0 := B0.lt
  go_wp2_with fail
  clear cB0 fB0 lB0
  generalize w.alloc (.cells #[.int .i64 T, .int .i64 N, .int .i64 S, .slice A n c] 24) = W at *
  have hc := checkI_c ok T N S A n c rs W HL.out
  rw [HQ.out] at hc
  refine hc.mono ?_
  clear hc
  rintro e w1 ⟨rfl, hb⟩
  have HB1 := Lib.hid (HB.out.via hb)
  have HX1 := Lib.hid (HX.out.keep hb (Nat.le_refl _))
  have B1 := HB0.out.via hb
  clear hb B0 HB HX HB0
  by_cases h0 : q = 0
  · subst h0
    have HT := Lib.hid (show 1 ≤ T ∧ T ≤ 8 from by
      obtain ⟨g, hg, rfl, -⟩ := chkG_ok HQ.out
      have := hg.ok.terms; omega)
    have HV := Lib.hid (show chkB T N S rs xs = chkW T 12 xs by unfold chkB; rw [if_pos HQ.out])
    have cB1 := B1.cell
    have fB1 := B1.frozen
    have lB1 := B1.lt
    go_wp2_with fail
    clear cB1 fB1 lB1
    refine (wordI_c T N S HT.out A n c wA wn wc 12 xs w1 HX1.out (by omega)).mono ?_
    rintro e w2 ⟨rfl, hb⟩
    have HF := Lib.hid (HB1.out.via hb)
    clear hb
    go_wp2_with fail
    go_ret
    exact ⟨by rw [HV.out]; rfl, HF.out⟩
  · have HV := Lib.hid (show chkB T N S rs xs = q by unfold chkB; rw [if_neg (by rw [HQ.out]; exact h0)]; exact HQ.out)
    go_wp2_with fail
    go_ret
    exact ⟨by rw [HV.out]; rfl, HB1.out⟩
set_option maxRecDepth 100000 in
theorem refboth_c (ok : Nat → Prop) (T N S : Int) (A : Option Addr) (n c : Nat) (rs : List Ri) (wA : Option Addr) (wn wc : Nat) (xs : List Int) (w : World) (hl : Sl RiE ok w A n c rs) (hx : Ints w wA wn wc xs) :
    Calls Tryz.prog 8 #[.agg #[.int .i64 T, .int .i64 N, .int .i64 S, .slice A n c], .slice wA wn wc] w (IntO w (chkB T N S rs xs)) := by
  obtain ⟨q, hq⟩ : ∃ q, chkG T N S rs = q := ⟨_, rfl⟩
  have B0 := Blk.new w 24 #[.int .i64 T, .int .i64 N, .int .i64 S, .slice A n c]
  have HB := Lib.hid ((Below.refl w.heap.size w).al (.cells #[.int .i64 T, .int .i64 N, .int .i64 S, .slice A n c] 24))
  have HL := Lib.hid (hl.al (.cells #[.int .i64 T, .int .i64 N, .int .i64 S, .slice A n c] 24))
  have HX := Lib.hid (hx.alloc (.cells #[.int .i64 T, .int .i64 N, .int .i64 S, .slice A n c] 24))
  have HB0 := Lib.hid B0
  have HQ := Lib.hid hq
  clear hl hx hq
  go_enter Tryz.func8, Tryz.ntmps8
  have cB0 := B0.cell
  have fB0 := B0.frozen
  have lB0 := B0.lt
  go_wp2_with fail
  clear cB0 fB0 lB0
  generalize w.alloc (.cells #[.int .i64 T, .int .i64 N, .int .i64 S, .slice A n c] 24) = W at *
  have hc := refcheck_c ok T N S A n c rs W HL.out
  rw [HQ.out] at hc
  refine hc.mono ?_
  clear hc
  rintro e w1 ⟨rfl, hb⟩
  have HB1 := Lib.hid (HB.out.via hb)
  have HX1 := Lib.hid (HX.out.keep hb (Nat.le_refl _))
  have B1 := HB0.out.via hb
  clear hb B0 HB HX HB0
  by_cases h0 : q = 0
  · subst h0
    have HT := Lib.hid (show 1 ≤ T ∧ T ≤ 8 from by
      obtain ⟨g, hg, rfl, -⟩ := chkG_ok HQ.out
      have := hg.ok.terms; omega)
    have HV := Lib.hid (show chkB T N S rs xs = chkW T 12 xs by unfold chkB; rw [if_pos HQ.out])
    have cB1 := B1.cell
    have fB1 := B1.frozen
    have lB1 := B1.lt
    go_wp2_with fail
    clear cB1 fB1 lB1
    refine (refword_c T N S HT.out A n c wA wn wc 12 xs w1 HX1.out (by omega)).mono ?_
    rintro e w2 ⟨rfl, hb⟩
    have HF := Lib.hid (HB1.out.via hb)
    clear hb
    go_wp2_with fail
    go_ret
    exact ⟨by rw [HV.out]; rfl, HF.out⟩
  · have HV := Lib.hid (show chkB T N S rs xs = q by unfold chkB; rw [if_neg (by rw [HQ.out]; exact h0)]; exact HQ.out)
    go_wp2_with fail
    go_ret
    exact ⟨by rw [HV.out]; rfl, HB1.out⟩
set_option maxRecDepth 100000 in
theorem accepts_e (ok : Nat → Prop) (T N S : Int) (A : Option Addr) (n c : Nat) (rs : List Ri) (wA : Option Addr) (wn wc : Nat) (xs : List Int) (w : World) (hl : Sl RiE ok w A n c rs) (hx : Ints w wA wn wc xs) (q : Int) (hq : chkB T N S rs xs = q) (hbad : q ≠ 0) :
    Calls Tryz.prog 24 #[.agg #[.int .i64 T, .int .i64 N, .int .i64 S, .slice A n c], .slice wA wn wc] w fun e w' => e = .returned (.tuple #[.bool false, .int .i64 q]) ∧ Below w.heap.size w w' := by
  have B0 := Blk.new w 24 #[.int .i64 T, .int .i64 N, .int .i64 S, .slice A n c]
  have HB := Lib.hid ((Below.refl w.heap.size w).al (.cells #[.int .i64 T, .int .i64 N, .int .i64 S, .slice A n c] 24))
  have HL := Lib.hid (hl.al (.cells #[.int .i64 T, .int .i64 N, .int .i64 S, .slice A n c] 24))
  have HX := Lib.hid (hx.alloc (.cells #[.int .i64 T, .int .i64 N, .int .i64 S, .slice A n c] 24))
  have HQ := Lib.hid hq
  clear hl hx hq
  go_enter Tryz.func24, Tryz.ntmps24
  have cB0 := B0.cell
  have fB0 := B0.frozen
  have lB0 := B0.lt
  go_wp2_with fail
  clear cB0 fB0 lB0
  generalize w.alloc (.cells #[.int .i64 T, .int .i64 N, .int .i64 S, .slice A n c] 24) = W at *
  have hc := mcheckB_c ok T N S A n c rs wA wn wc xs W HL.out HX.out
  rw [HQ.out] at hc
  refine hc.mono ?_
  clear hc
  rintro e w1 ⟨rfl, hb⟩
  have HB1 := Lib.hid (HB.out.via hb)
  clear hb B0 HB
  go_wp2_with fail
  go_ret2
  exact ⟨rfl, HB1.out⟩
set_option maxRecDepth 100000 in
set_option maxHeartbeats 2000000 in
theorem fmake2_c (ok : Nat → Prop) (g : Gr) (Ag : Option Addr) (ng cg : Nat) (A : Option Addr) (n c ob oo oc : Nat) (rb ro rc : Nat → Nat) (xs : List Int) (E : EnS) (w : World) (hg : g.Ok) (hl : Sl RuE ok w Ag ng cg g.rules) (hx : Ints w A n c xs) (hE : EnV w ob oo g.nons n rb ro rc E) (hT : TabW w) (hsup : SupE n E) (hn : n ≤ 12) :
    Calls Tryz.prog 50 #[grVal g Ag ng cg, .slice A n c, .slice (some ⟨ob, oo, none⟩) g.nons oc] w (FoP w (dOf xs E) g.rules ((false, g.start), 0, n)) := by
  have hal := ((Below.refl w.heap.size w).al (.cells #[.int .i64 (g.terms : Int), .int .i64 (g.nons : Int), .int .i64 (g.start : Int), .slice Ag ng cg] 24)).al (.cells #[.slice none 0 0, .int .i64 0] 34)
  have B0 := (Blk.new w 24 #[.int .i64 (g.terms : Int), .int .i64 (g.nons : Int), .int .i64 (g.start : Int), .slice Ag ng cg]).al (.cells #[.slice none 0 0, .int .i64 0] 34)
  have B1 := Blk.newAt (w.alloc (.cells #[.int .i64 (g.terms : Int), .int .i64 (g.nons : Int), .int .i64 (g.start : Int), .slice Ag ng cg] 24)) 34 #[.slice none 0 0, .int .i64 0] (w.heap.size + 1) (by simp)
  have HC := Lib.hid (build_c ok g Ag ng cg A n c ob oo oc rb ro rc xs E 20000 _ hg (hl.via hal) (hx.keep hal (Nat.le_refl _)) (hE.via hal) (hT.via hal) hsup hn (by omega))
  have HAL := Lib.hid hal
  have HB1 := Lib.hid B1
  clear hl hx hE hT hsup hg hal
  simp only [grVal] at HC ⊢
  go_enter Tryz.func50, Tryz.ntmps50
  have cB0 := B0.cell
  have fB0 := B0.frozen
  have lB0 := B0.lt
  go_wp2_with fail
  clear cB0 fB0 lB0
  clear B0 B1
  generalize (w.alloc (.cells #[.int .i64 (g.terms : Int), .int .i64 (g.nons : Int), .int .i64 (g.start : Int), .slice Ag ng cg] 24)).alloc (.cells #[.slice none 0 0, .int .i64 0] 34) = W at *
  refine HC.out.mono ?_
  clear HC
  rintro e w1 ⟨f, v, b, rfl, hf, ⟨fA, fn, fc, rfl, hS⟩, hb⟩
  have HF := Lib.hid hf
  have HS := Lib.hid hS
  have HB := Lib.hid hb
  obtain ⟨fr, fns⟩ := f
  have hB1 := HB1.out.via hb
  have hlt := HB1.out.lt
  have HSZ := Lib.hid HAL.out.size
  clear hf hS hb
  have hal := (Below.refl w1.heap.size w1).al (.cells #[.slice fA fn fc, .int .i64 fr] 34)
  have BV := Blk.new w1 34 #[.slice fA fn fc, .int .i64 fr]
  have B2 := hB1.via hal
  cases b with
  | true =>
    have cBV := BV.cell
    have fBV := BV.frozen
    have lBV := BV.lt
    have cB2 := B2.cell
    have fB2 := B2.frozen
    have lB2 := B2.lt
    go_wp2_with fail
    have B3 := ((hB1.via hal).set_ 0 (.slice fA fn fc)).set_ 1 (.int .i64 fr)
    simp only [List.setIfInBounds_toArray, List.set_cons_zero, List.set_cons_succ] at B3
    have cc2 := B3.cell
    refine bodyPost_ret (v := .tuple #[.agg #[.slice fA fn fc, .int .i64 fr], .int .i64 0]) (by simp [results, Tryz.results50, go_sem, cc2]) rfl ⟨(fr, fns), _, true, rfl, HF.out, ⟨fA, fn, fc, rfl, ?_⟩, ?_⟩
    · have h1 := HS.out.via hal
      have h2 := (h1.agr (Agr.setCell (p := ⟨w.heap.size + 1, 0, none⟩) (.slice fA fn fc) fun b hb => by show b ≠ w.heap.size + 1; omega)).agr (Agr.setCell (p := ⟨w.heap.size + 1, 1, none⟩) (.int .i64 fr) fun b hb => by show b ≠ w.heap.size + 1; omega)
      exact h2.mono fun b _ hb => Nat.le_trans HSZ.out hb
    · exact (((HAL.out.via HB.out).via hal).setCell (p := ⟨w.heap.size + 1, 0, none⟩) (by show w.heap.size ≤ w.heap.size + 1; omega) _).setCell (p := ⟨w.heap.size + 1, 1, none⟩) (by show w.heap.size ≤ w.heap.size + 1; omega) _
  | false =>
    have HF0 := Lib.hid (show (fr, fns) = ((0 : Int), ([] : List NdI)) by
      generalize hb : false = b at HF
      have := HF.out
      cases this with
      | none => cases hb
      | large => rfl
      | fits => cases hb)
    have cB2 := B2.cell
    have fB2 := B2.frozen
    have lB2 := B2.lt
    go_wp2_with fail
    have B3 := ((hB1.via hal).set_ 0 (.slice none 0 0)).set_ 1 (.int .i64 0)
    simp only [List.setIfInBounds_toArray, List.set_cons_zero, List.set_cons_succ] at B3
    have cc2 := B3.cell
    refine bodyPost_ret (v := .tuple #[.agg #[.slice none 0 0, .int .i64 0], .int .i64 2]) (by simp [results, Tryz.results50, go_sem, cc2]) rfl ⟨(0, []), _, false, rfl, by have := HF.out; rw [HF0.out] at this; exact this, FoR.nil _ _ _, ?_⟩
    exact (((HAL.out.via HB.out).via hal).setCell (p := ⟨w.heap.size + 1, 0, none⟩) (by show w.heap.size ≤ w.heap.size + 1; omega) _).setCell (p := ⟨w.heap.size + 1, 1, none⟩) (by show w.heap.size ≤ w.heap.size + 1; omega) _
end Go.Proofs.YtbfcnfgkccgbiaaGreatDoor



namespace Go.Proofs.YtbfcnfgkccgbiaaGreatDoor
open Go.RowKit

/-- whatever order is picked from here on; until z has run S holds behind each operation -/
def wpAnyN (P : Program) (md : Region.Mode) (ops : Array Oper) (Q : Exit → Act → World → Prop) (S : World → Prop) (z : Nat) : Nat → Array Bool → Act → World → Prop
  | 0, l, a, w => Region.ready md ops l = [] ∧ Q .normal a w
  | n + 1, l, a, w => (Region.ready md ops l = [] → Q .normal a w) ∧ ∀ i ∈ Region.ready md ops l, wpOp P ops Q i (fun a' w' => ((l.setIfInBounds i true).getD z true = false → S w') ∧ wpAnyN P md ops Q S z n (l.setIfInBounds i true) a' w') a w
section
variable {P : Program} {ops : Array Oper} {Q : Exit → Act → World → Prop} {md : Region.Mode} {S : World → Prop} {z : Nat}
theorem wpAnyN.any : ∀ (n : Nat) (l : Array Bool) (a : Act) (w : World), wpAnyN P md ops Q S z n l a w → wpAny P md ops Q n l a w
  | 0, _, _, _, h => h
  | n + 1, _, _, _, h => ⟨h.1, fun i hi => wpOp_mono (fun a' w' q => wpAnyN.any n _ a' w' q.2) (h.2 i hi)⟩
theorem getD_set_other {l : Array Bool} {i z : Nat} (h : i ≠ z) : (l.setIfInBounds i true).getD z true = l.getD z true := getD_set_ne true h
/-- what yields its value wherever T holds may be taken first, if T holds as long as it waits -/
theorem wpAnyN.first (T : World → Prop) {i : Nat} {o : Oper} {v : Value} (hi : ops[i]? = some o) (hiz : i ≠ z) (hsel : Region.noSelect ops = true) (hT : (∀ w, T w) ∨ ((∀ w, S w → T w) ∧ waitsFor md ops z i = true)) (hQ : ∀ c a w, Q (.panic c) (a.put o.dst v) w → Q (.panic c) a w) : ∀ (n : Nat) (l : Array Bool) (a : Act) (w : World),
    (∀ j p, ops[j]? = some p → j ≠ i → l.getD j true = false → (∀ e ∈ p.after, Region.binds md e = true → e.on ≠ i) → o.apart ops p = true) → i ∈ Region.ready md ops l → YieldsIf P ops T o v a → (l.getD z true = false → S w) → T w → ((∀ w, T w) ∨ l.getD z true = false) →
    wpAnyN P md ops Q S z n (l.setIfInBounds i true) (a.put o.dst v) w → wpAnyN P md ops Q S z (n + 1) l a w := by
  intro n
  induction n with
  | zero =>
    intro l a w _ hr hy hS hTw _ H
    refine ⟨fun e => absurd (e ▸ hr) (by simp), fun j hj => ?_⟩
    by_cases e : j = i
    · subst e; exact hy.wpOp hi hTw ⟨fun e => hS ((getD_set_other hiz) ▸ e), H⟩
    · exact absurd (H.1 ▸ ready_mono hj e) (by simp)
  | succ n ih =>
    intro l a w hf hr hy hS hTw hL H
    refine ⟨fun e => absurd (e ▸ hr) (by simp), fun j hj => ?_⟩
    by_cases e : j = i
    · subst e; exact hy.wpOp hi hTw ⟨fun e => hS ((getD_set_other hiz) ▸ e), H⟩
    · obtain ⟨k0, p, hp, k1⟩ := mem_ready.1 hj
      have k2 := (mem_ready.1 hr).1
      have k3 : ∀ x ∈ p.after, Region.binds md x = true → x.on ≠ i := fun x hx hb q => by
        have k4 := k1 x hx hb
        rw [q] at k4
        rcases Nat.lt_or_ge i l.size with hl | hl
        · simp [hl] at k2 k4; rw [k2] at k4; cases k4
        · simp [Array.getElem?_eq_none hl] at k4
      have k5 := wpOp_putIf hp (hf j p hp e k0 k3) (fun cs b => Region.noSelect_spec hsel i o cs b hi) (fun cs b => Region.noSelect_spec hsel j p cs b hp) hQ hy (H.2 j (ready_mono hj e))
      refine wpOp_mono (fun a' w' q => ?_) k5
      obtain ⟨q1, q2, q3⟩ := q
      have hS' : (l.setIfInBounds j true).getD z true = false → S w' := fun h => q2 (by
        rw [Array.setIfInBounds_comm _ _ (Ne.symm e)]
        rw [getD_set_other hiz]; exact h)
      have hf' : ∀ k p, ops[k]? = some p → k ≠ i → (l.setIfInBounds j true).getD k true = false → (∀ e ∈ p.after, Region.binds md e = true → e.on ≠ i) → o.apart ops p = true := fun k p' hk hki hun hno => by
        refine hf k p' hk hki ?_ hno
        by_cases hjk : j = k
        · subst hjk; exact k0
        · rw [getD_set_ne true hjk] at hun; exact hun
      have hL' : (∀ w, T w) ∨ (l.setIfInBounds j true).getD z true = false := by
        rcases hT with hT | ⟨hT, hz⟩
        · exact Or.inl hT
        · rcases hL with hL | hL
          · exact Or.inl hL
          · refine Or.inr ?_
            have hjz : j ≠ z := fun q => by
              subst q
              unfold waitsFor at hz
              rw [hp] at hz
              obtain ⟨x, hx, hb⟩ := Array.any_eq_true'.1 hz
              simp only [Bool.and_eq_true, beq_iff_eq] at hb
              exact k3 x hx hb.1 hb.2
            rw [getD_set_other hjz]; exact hL
      have hTw' : T w' := by
        rcases hL' with h | h
        · exact h w'
        · rcases hT with hT | ⟨hT, -⟩
          · exact hT w'
          · exact hT w' (hS' h)
      exact ⟨hS', ih _ a' w' hf' (ready_mono hr (Ne.symm e)) q1 hS' hTw' hL' (by rw [Array.setIfInBounds_comm _ _ e]; exact q3)⟩
theorem wpAnyN.take {i : Nat} {oi : Oper} {d : Option Tmp} {v : Value} {n : Nat} {l : Array Bool} {a : Act} {w : World} (hi : ops[i]? = some oi) (hiz : i ≠ z)
    (hs : Region.noSelect ops = true) (hf : Region.free md ops l i = true) (hr : (Region.ready md ops l).contains i = true) (hz : waitsFor md ops z i = true) (hl : l.getD z true = false) (hd : oi.dst = d)
    (hQ : ∀ c a w, Q (.panic c) (a.put oi.dst v) w → Q (.panic c) a w) (hy : YieldsIf P ops S oi v a) (hS : S w)
    (h : wpAnyN P md ops Q S z n (l.setIfInBounds i true) (a.put d v) w) : wpAnyN P md ops Q S z (n + 1) l a w :=
  wpAnyN.first S hi hiz hs (Or.inr ⟨fun _ h => h, hz⟩) hQ n l a w (Region.free_spec hi hf) (by simpa using hr) hy (fun _ => hS) hS (Or.inr hl) (hd ▸ h)
/-- what reads no memory -/
theorem wpAnyN.free {i : Nat} {oi : Oper} {d : Option Tmp} {v : Value} {n : Nat} {l : Array Bool} {a : Act} {w : World} (hi : ops[i]? = some oi) (hiz : i ≠ z)
    (hs : Region.noSelect ops = true) (hf : Region.free md ops l i = true) (hr : (Region.ready md ops l).contains i = true) (hd : oi.dst = d)
    (hQ : ∀ c a w, Q (.panic c) (a.put oi.dst v) w → Q (.panic c) a w) (hy : YieldsIf P ops (fun _ => True) oi v a) (hS : l.getD z true = false → S w)
    (h : wpAnyN P md ops Q S z n (l.setIfInBounds i true) (a.put d v) w) : wpAnyN P md ops Q S z (n + 1) l a w :=
  wpAnyN.first (fun _ => True) hi hiz hs (Or.inl fun _ => trivial) hQ n l a w (Region.free_spec hi hf) (by simpa using hr) hy hS trivial (Or.inl fun _ => trivial) (hd ▸ h)
/-- each of the operations rs comes up next -/
def AllN (P : Program) (md : Region.Mode) (ops : Array Oper) (Q : Exit → Act → World → Prop) (S : World → Prop) (z n : Nat) (l : Array Bool) (a : Act) (w : World) (rs : List Nat) : Prop :=
  ∀ i ∈ rs, wpOp P ops Q i (fun a' w' => ((l.setIfInBounds i true).getD z true = false → S w') ∧ wpAnyN P md ops Q S z n (l.setIfInBounds i true) a' w') a w
theorem AllN.nil {n : Nat} {l : Array Bool} {a : Act} {w : World} : AllN P md ops Q S z n l a w [] := fun _ h => by cases h
theorem AllN.cons {n : Nat} {l : Array Bool} {a : Act} {w : World} {i : Nat} {o : Oper} {rs : List Nat} (ho : ops[i]? = some o)
    (h : ∀ K : Act → World → Prop, Shut (∀ a w, ((l.setIfInBounds i true).getD z true = false → S w) → wpAnyN P md ops Q S z n (l.setIfInBounds i true) a w → K a w) → if Region.wanted o (yielded ops a.tmps) = true then Oper.wp P o a w K Q else K (a.put o.dst undef) w)
    (hs : AllN P md ops Q S z n l a w rs) : AllN P md ops Q S z n l a w (i :: rs) := fun j hj => by
  rcases List.mem_cons.1 hj with rfl | hj
  · exact wpOp_step ho fun K hK => h K fun a w hS hW => hK a w ⟨hS, hW⟩
  · exact hs j hj
theorem wpAnyN.ready {rs : List Nat} {n : Nat} {l : Array Bool} {a : Act} {w : World} (hr : Region.ready md ops l = rs) (hne : rs ≠ []) (h : AllN P md ops Q S z n l a w rs) : wpAnyN P md ops Q S z (n + 1) l a w :=
  ⟨fun e => absurd (hr ▸ e) hne, hr ▸ h⟩
theorem wpAnyN.done {l : Array Bool} {a : Act} {w : World} (hr : Region.ready md ops l = []) (h : Q .normal a w) : ∀ n, wpAnyN P md ops Q S z n l a w
  | 0 => ⟨hr, h⟩
  | _ + 1 => ⟨fun _ => h, by rw [hr]; simp⟩
theorem wp_region_N {id : Nat} {a : Act} {w : World} (z : Nat) (S : World → Prop) (hm : P.follows .mixedOrders = true) (h : wpAnyN P .any ops Q S z ops.size (Array.replicate ops.size false) a w.drew) : (Code.region id ops true).wp P Q a w :=
  wp_region_any hm (wpAnyN.any _ _ _ _ h)
end
end Go.Proofs.YtbfcnfgkccgbiaaGreatDoor

