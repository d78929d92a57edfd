/- Texts YS, DBF, laid together. -/
import Derived.Test.YtbhenicldddlfaaDoorC1
import Derived.Test.YtbhenicldddlfaaDoorD1


namespace Go.Proofs.YtbhenicldddlfaaDoor
open Go.RowKit

/-- the reader's block; what is left to read -/
structure RdL (w0 w : World) (br : Nat) (ls : List Int) : Prop where
  str : ∃ A m c, Blk w br 62 #[.slice A m c] ∧ Ints w0 A m c ls
  bel : Below w0.heap.size w0 w
  lo : w0.heap.size ≤ br
section
variable {w0 w w' : World} {br : Nat} {ls : List Int}
theorem RdL.lt (h : RdL w0 w br ls) : br < w.heap.size := by
  obtain ⟨A, m, c, k1, k2⟩ := h.str; exact k1.lt
theorem RdL.via (h : RdL w0 w br ls) (hb : Below w.heap.size w w') : RdL w0 w' br ls := by
  obtain ⟨A, m, c, h1, h2⟩ := h.str
  exact ⟨⟨A, m, c, h1.via hb, h2⟩, h.bel.via hb, h.lo⟩
theorem RdL.al (h : RdL w0 w br ls) (o : Obj) : RdL w0 (w.alloc o) br ls := h.via ((Below.refl _ _).alloc (Nat.le_refl _) o)
theorem RdL.dr (h : RdL w0 w br ls) : RdL w0 w.drew br ls := h.via ((Below.refl _ _).drew)
theorem RdL.far (h : RdL w0 w br ls) {p : Addr} (h1 : p.block ≠ br) (h3 : w0.heap.size ≤ p.block) (u : Value) : RdL w0 (w.setCell p u) br ls := by
  obtain ⟨A, m, c, k1, k2⟩ := h.str
  exact ⟨⟨A, m, c, k1.far (Ne.symm h1) u, k2⟩, h.bel.setCell h3 u, h.lo⟩
theorem RdL.grown {row : Option Nat} (h : RdL w0 w br ls) (hg : w.grownBy w' row) (hr : ∀ k, row = some k → br < k) : RdL w0 w' br ls := by
  obtain ⟨A, m, c, k1, k2⟩ := h.str
  have h1 : some br ≠ row := fun e => absurd (hr _ e.symm) (Nat.lt_irrefl _)
  exact ⟨⟨A, m, c, k1.grown hg h1, k2⟩, h.bel.grown hg h.bel.size fun k e => by have := hr k e; have := h.lo; omega, h.lo⟩
end
/-- the reader's next number below n -/
def nxt (ls : List Int) (n : Nat) : Nat := match ls with
  | [] => 0
  | x :: _ => (belowI x n).toNat
theorem nxt_lt (ls : List Int) {n : Nat} (h : 1 ≤ n) : nxt ls n < n := by
  cases ls with
  | nil => simp only [nxt]; omega
  | cons x l =>
    have := belowI_lo x n (by omega)
    have := belowI_hi x n (by omega)
    simp only [nxt]; omega
def RdLP (w0 w : World) (br n : Nat) (ls : List Int) (e : Ending) (w' : World) : Prop :=
  e = .returned (.int .i64 (nxt ls n : Int)) ∧ RdL w0 w' br (ls.drop 1) ∧ Agr (Nr br) w w' ∧ w.heap.size ≤ w'.heap.size ∧ w'.heap.size ≤ w.heap.size
set_option maxHeartbeats 1000000 in
theorem rdl_n (w0 w : World) (br n : Nat) (ls : List Int) (q : Int) (hq : q = (n : Int)) (h : RdL w0 w br ls) (hn : n ≤ 1000000000) (hn1 : 1 ≤ n) :
    Calls Tryd.prog 36 #[.pointer (some ⟨br, 0, none⟩), .int .i64 q] w (RdLP w0 w br n ls) := by
  obtain ⟨A, m, c, h1, hI⟩ := h.str
  have hcell := h1.cell 0
  have hf := h1.frozen 0
  have hB := h.bel
  have hlo := h.lo
  simp only [List.getElem?_toArray, List.getElem?_cons_zero] at hcell
  subst hq
  cases ls with
  | nil =>
    obtain rfl : m = 0 := hI.1.symm
    have HH := Lib.hid h
    clear hI h1 h hB
    go_enter Tryd.func36, Tryd.ntmps36
    go_wp2
    go_ret
    exact ⟨rfl, HH.out, Agr.refl, Nat.le_refl _, Nat.le_refl _⟩
  | cons x l =>
    have hm : m = l.length + 1 := by rw [← hI.1]; rfl
    obtain ⟨b1, off, hA, hb1, hx⟩ := hI.at_ (k := 0) (by omega)
    have hx' : w.cell? ⟨b1, off, none⟩ = some (.int .i64 x) := (hB.cell (p := ⟨b1, off, none⟩) hb1).trans hx
    have hcut := Ints.cut (l := 1) (m := m) hI (by omega) (Nat.le_refl _)
    have hlo1 := belowI_lo x n (by omega)
    have hhi1 := belowI_hi x n (by omega)
    have hm0 : 0 < m := by omega
    have HS := Lib.hid h
    have HB1 := Lib.hid h1
    subst hA
    have HC := Lib.hid hcut
    have HM := Lib.hid hm
    clear hcut hI hB hx h h1 hm
    have k1 : ((m : Int) == 0) = false := by simp; omega
    have k2 : decide ((n : Int) < 1) = false := by simp; omega
    go_enter Tryd.func36, Tryd.ntmps36
    go_wp2_with (go_at_call 6; refine (below_c x n _ (by omega) (by omega)).mono ?_; rintro e w' ⟨rfl, rfl⟩)
    all_goals
      go_ret
      refine ⟨by rw [show ((nxt (x :: l) n : Nat) : Int) = belowI x n from Int.toNat_of_nonneg hlo1]; rfl, ⟨⟨_, _, _, HB1.out.set1 _, ?_⟩, HS.out.bel.setCell hlo _, hlo⟩, Agr.setCell _ fun b hb => hb, by simp, by simp⟩
      have := HC.out
      rw [show (x :: l).take m = x :: l from List.take_of_length_le (by have := HM.out; simp; omega)] at this
      simpa [*, Addr.add] using this
end Go.Proofs.YtbhenicldddlfaaDoor




namespace Go.Proofs.YtbhenicldddlfaaDoor
open Go.RowKit

theorem RdL.set4 {w0 w : World} {r : Nat} {v : DcV} {br : Nat} {ls : List Int} (h : RdL w0 w br ls) (h1 : r ≠ br) (h3 : w0.heap.size ≤ r) : RdL w0 (World.set4 w r v) br ls :=
  (((h.far h1 h3 _).far h1 h3 _).far h1 h3 _).far h1 h3 _
def textN : Nat → ByteArray
  | 0 => ⟨#[97]⟩
  | 1 => ⟨#[98, 99]⟩
  | 2 => ⟨#[100, 101, 102]⟩
  | 3 => ⟨#[]⟩
  | _ => ⟨#[103, 104, 105, 106, 107]⟩
/-- the kind, and what is left -/
def kdF (d : Nat) (ls : List Int) : Nat × List Int := if d = 0 then (nxt (ls.drop 1) 4, (ls.drop 1).drop 1) else (nxt ls 7, ls.drop 1)
def repF (f : List Int → Dc × List Int) : Nat → List Int → List Dc × List Int
  | 0, ls => ([], ls)
  | n + 1, ls => ((repF f n ls).1 ++ [(f (repF f n ls).2).1], (f (repF f n ls).2).2)
def docF : Nat → List Int → Dc × List Int
  | 0, ls =>
    if (kdF 0 ls).1 = 0 then (.node 0 (textN (nxt (kdF 0 ls).2 5)) 0 [], (kdF 0 ls).2.drop 1)
    else (.node (kdF 0 ls).1 ⟨#[]⟩ 0 [], (kdF 0 ls).2)
  | d + 1, ls =>
    if (kdF (d + 1) ls).1 = 0 then (.node 0 (textN (nxt (kdF (d + 1) ls).2 5)) 0 [], (kdF (d + 1) ls).2.drop 1)
    else if (kdF (d + 1) ls).1 ≤ 3 then (.node (kdF (d + 1) ls).1 ⟨#[]⟩ 0 [], (kdF (d + 1) ls).2)
    else if (kdF (d + 1) ls).1 = 4 then (.node 4 ⟨#[]⟩ 0 (repF (docF d) (nxt (kdF (d + 1) ls).2 4 + 1) ((kdF (d + 1) ls).2.drop 1)).1, (repF (docF d) (nxt (kdF (d + 1) ls).2 4 + 1) ((kdF (d + 1) ls).2.drop 1)).2)
    else if (kdF (d + 1) ls).1 = 5 then (.node 5 ⟨#[]⟩ (nxt (kdF (d + 1) ls).2 4) [(docF d ((kdF (d + 1) ls).2.drop 1)).1], (docF d ((kdF (d + 1) ls).2.drop 1)).2)
    else (.node 6 ⟨#[]⟩ 0 [(docF d (kdF (d + 1) ls).2).1], (docF d (kdF (d + 1) ls).2).2)
section
variable {d : Nat} {ls r : List Int} {K : Nat}
theorem docF_text (h : kdF d ls = (0, r)) : docF d ls = (.node 0 (textN (nxt r 5)) 0 [], r.drop 1) := by
  cases d with
  | zero => rw [docF, h]; simp
  | succ d => rw [docF, h]; simp
theorem docF_line (h : kdF d ls = (K, r)) (h1 : 1 ≤ K) (h3 : K ≤ 3) : docF d ls = (.node K ⟨#[]⟩ 0 [], r) := by
  cases d with
  | zero => rw [docF, h]; simp only; rw [if_neg (by omega)]
  | succ d => rw [docF, h]; simp only; rw [if_neg (by omega), if_pos h3]
theorem docF_cat (h : kdF (d + 1) ls = (4, r)) : docF (d + 1) ls = (.node 4 ⟨#[]⟩ 0 (repF (docF d) (nxt r 4 + 1) (r.drop 1)).1, (repF (docF d) (nxt r 4 + 1) (r.drop 1)).2) := by
  rw [docF, h]; simp
theorem docF_nest (h : kdF (d + 1) ls = (5, r)) : docF (d + 1) ls = (.node 5 ⟨#[]⟩ (nxt r 4) [(docF d (r.drop 1)).1], (docF d (r.drop 1)).2) := by
  rw [docF, h]; simp
theorem docF_group (h : kdF (d + 1) ls = (6, r)) : docF (d + 1) ls = (.node 6 ⟨#[]⟩ 0 [(docF d r).1], (docF d r).2) := by
  rw [docF, h]; simp
end
def RdKP (w0 w : World) (br n : Nat) (ls : List Int) (e : Ending) (w' : World) : Prop :=
  ∃ v : Nat, e = .returned (.int .i64 (v : Int)) ∧ v < n ∧ RdL w0 w' br (ls.drop 1) ∧ Agr (Nr br) w w' ∧ w.heap.size ≤ w'.heap.size ∧ w'.heap.size ≤ w.heap.size ∧ v = nxt ls n
theorem rdk_n (w0 w : World) (br n : Nat) (ls : List Int) (q : Int) (hq : q = (n : Int)) (h : RdL w0 w br ls) (hn : n ≤ 1000000000) (hn1 : 1 ≤ n) :
    Calls Tryd.prog 36 #[.pointer (some ⟨br, 0, none⟩), .int .i64 q] w (RdKP w0 w br n ls) :=
  (rdl_n w0 w br n ls q hq h hn hn1).mono fun _ _ ⟨h1, h2, h3, h4, h5⟩ => ⟨_, h1, nxt_lt ls hn1, h2, h3, h4, h5, rfl⟩

def DocQ (w0 w : World) (br d : Nat) (ls : List Int) (e : Ending) (w' : World) : Prop :=
  ∃ (v : DcV) (t : Dc) (l : List Int), e = .returned (dcVal v) ∧ DcR (fun b => w.heap.size ≤ b) w' v t ∧ t.Ok ∧ t.size ≤ dcMax d ∧ RdL w0 w' br l ∧ Agr (Nr br) w w' ∧ w.heap.size ≤ w'.heap.size ∧ docF d ls = (t, l)
theorem DocQ.fin {w0 w wr : World} {br d : Nat} {ls l : List Int} (v : DcV) (t : Dc) (hfn : docF d ls = (t, l)) (hrd : RdL w0 wr br l) (ha : Agr (Nr br) w wr) (hz : w.heap.size + 1 ≤ wr.heap.size) (hb : br < w.heap.size) (ht : DcR (fun b => w.heap.size + 1 ≤ b) wr v t) (hok : t.Ok) (hsz : t.size ≤ dcMax d) :
    DocQ w0 w br d ls (.returned (dcVal v)) (World.set4 wr w.heap.size v) := by
  have hlo := hrd.lo
  refine ⟨v, t, l, rfl, (ht.agr (agr_set4 fun b hb => by omega)).mono (fun b _ hb => by omega), hok, hsz, hrd.set4 (by omega) (by omega), ?_, by rw [size_set4]; omega, hfn⟩
  intro b hb hlt
  exact (agr_set4 (ok := fun b => b ≠ w.heap.size) (fun _ h => h) b (by show b ≠ w.heap.size; omega) (by omega)).trans (ha b hb hlt)

/-- behind k arguments -/
structure DRelL (w0 w : World) (br M bt k : Nat) (v : Value) (ks : List Dc) (l : List Int) (wr : World) : Prop where
  rd : RdL w0 wr br l
  agr : Agr (Nr br) w wr
  own : Own DcE 29 (fun b => bt + 1 ≤ b) wr (bt + 1) v k ks
  b1 : Blk wr w.heap.size 29 #[.int .i64 0, .string ⟨#[]⟩, .int .i64 0, .slice none 0 0]
  b2 : Blk wr bt 29 #[.int .i64 4, .string ⟨#[]⟩, .int .i64 0, v]
  size : bt + 1 ≤ wr.heap.size
  hbt : w.heap.size + 1 ≤ bt
  oks : ∀ t ∈ ks, Dc.Ok t ∧ t.size ≤ M
section
variable {w0 w wr wa w1 : World} {br M bt k : Nat} {v v' : Value} {ks : List Dc} {l l2 : List Int}
theorem DRelL.call (h : DRelL w0 w br M bt k v ks l wr) (hb : br < w.heap.size) (ha : Agr (Nr br) wr wa) (hz : wr.heap.size ≤ wa.heap.size) (hs : RdL w0 wa br l2) : DRelL w0 w br M bt k v ks l2 wa := by
  have hbt := h.hbt
  have hm : ∀ j, w.heap.size ≤ j → Nr br j := fun j hj => by show j ≠ br; omega
  refine ⟨hs, h.agr.trans ha, h.own.agr (ha.mono fun j hj => ?_), h.b1.agr ha (hm _ (by omega)), h.b2.agr ha (hm _ (by omega)), Nat.le_trans h.size hz, hbt, h.oks⟩
  rcases hj with hj | hj
  · exact hm j (by omega)
  · have := (h.own.lt j hj.symm).1; exact hm j (by omega)
theorem DRelL.via (h : DRelL w0 w br M bt k v ks l wr) (hb : br < w.heap.size) (ha : Below wr.heap.size wr wa) : DRelL w0 w br M bt k v ks l wa :=
  h.call hb (Agr.below ha) ha.size (h.rd.via ha)
theorem DRelL.push {t : Dc} (h : DRelL w0 w br M bt k v ks l wr) (hb : br < w.heap.size) (ho : Own DcE 29 (fun b => bt + 1 ≤ b) w1 (bt + 1) v' (k + 1) (ks ++ [t])) (hg : wr.grownBy w1 v.ownBlock) (ht : Dc.Ok t ∧ t.size ≤ M) :
    DRelL w0 w br M bt (k + 1) v' (ks ++ [t]) l (w1.setCell ⟨bt, 3, none⟩ v') := by
  have hbt := h.hbt
  have hsz := h.size
  have hw0 := h.rd.lo
  have hne : ∀ j, j ≤ bt → some j ≠ v.ownBlock := fun j hj e => by have := (h.own.lt j e.symm).1; omega
  refine ⟨(h.rd.grown hg fun j e => by have := (h.own.lt j e).1; omega).far (by simp; omega) (by simp; omega) _, ?_, ?_, (h.b1.grown hg (hne _ (by omega))).far (by simp; omega) _, ?_, ?_, hbt, ?_⟩
  · intro b hb' hlt
    have e1 := h.agr b hb' hlt
    have e2 := hg.block b (by omega) (hne _ (by omega))
    have e3 := Below.heap_setCell w1 ⟨bt, 3, none⟩ v' b (by simp; omega)
    exact e3.trans (e2.trans e1)
  · exact ho.setCell _ (fun b hb => by show b ≠ bt; omega) (by show bt < _; omega)
  · have := (h.b2.grown hg (hne _ (by omega))).set_ 3 v'; simpa using this
  · have := hg.size; simp; omega
  · intro x hx
    rcases List.mem_append.1 hx with hx | hx
    · exact h.oks x hx
    · rw [List.mem_singleton.1 hx]; exact ht
end
set_option maxRecDepth 100000 in
set_option maxHeartbeats 8000000 in
theorem document_f (w0 : World) (br : Nat) (d : Nat) : d ≤ 4 → ∀ (w : World) (D : Int) (ls : List Int), D = (d : Int) → RdL w0 w br ls →
    Calls Tryd.prog 20 #[.pointer (some ⟨br, 0, none⟩), .int .i64 D] w (DocQ w0 w br d ls) := by
  induction d using Nat.strongRecOn with
  | ind d ih =>
    intro hd w D ls hD hr
    have hbr := hr.lt
    have B1 := Blk.new w 29 #[.int .i64 0, .string ⟨#[]⟩, .int .i64 0, .slice none 0 0]
    have hB := (Below.refl w.heap.size w).al (.cells #[.int .i64 0, .string ⟨#[]⟩, .int .i64 0, .slice none 0 0] 29)
    have hs : w.heap.size + 1 ≤ (w.alloc (.cells #[.int .i64 0, .string ⟨#[]⟩, .int .i64 0, .slice none 0 0] 29)).heap.size := by simp
    replace hr := hr.al (.cells #[.int .i64 0, .string ⟨#[]⟩, .int .i64 0, .slice none 0 0] 29)
    go_enter Tryd.func20, Tryd.ntmps20
    go_wp2_with fail
    generalize w.alloc (.cells #[.int .i64 0, .string ⟨#[]⟩, .int .i64 0, .slice none 0 0] 29) = W at *
    refine (rdk_n w0 W br 7 ls _ rfl hr (by omega) (by omega)).mono ?_
    rintro e W2 ⟨K, rfl, hK7, hr1, ha1, hz1, -, hke⟩
    have HKE := Lib.hid hke
    clear hke
    have B3 := B1.agr ha1 (show Nr br w.heap.size by show w.heap.size ≠ br; omega)
    have hA1 : Agr (Nr br) w W2 := (Agr.below hB).trans ha1
    have hs2 : w.heap.size + 1 ≤ W2.heap.size := by omega
    have HA2 := Lib.hid hA1
    have HR2 := Lib.hid hr1
    have HI := Lib.hid ih
    clear ha1 hr1 hr B1 hA1 hB hs hz1 ih
    by_cases hd0 : d = 0
    case' pos =>
      subst hd0
      have hbd : (D == 0) = true := by simp; omega
      have HD := Lib.hid hD
      clear hD
      go_wp2_with fail
      refine (rdk_n w0 W2 br 4 (ls.drop 1) _ rfl HR2.out (by omega) (by omega)).mono ?_
      rintro e W4 ⟨K4, rfl, hK, hr2, ha2, hz2, -, hke4⟩
      have HKF := Lib.hid (show kdF 0 ls = (K4, (ls.drop 1).drop 1) by rw [hke4]; rfl)
      clear hke4 HKE
      replace B3 := B3.agr ha2 (show Nr br w.heap.size by show w.heap.size ≠ br; omega)
      replace HR2 := Lib.hid hr2
      replace HA2 := Lib.hid (HA2.out.trans ha2)
      replace hs2 : w.heap.size + 1 ≤ W4.heap.size := by omega
      clear hr2 ha2 hbd hz2 hK7 
      clear W2
      have hK7 : K4 < 7 := by omega
      have HKD := Lib.hid (show 4 ≤ K4 → ∃ d', d' < 0 ∧ 0 = d' + 1 ∧ dcMax 0 = 4 * dcMax d' + 1 ∧ IntKind.i64.wrap (D - 1) = (d' : Int) from fun h => by omega)
      clear hK
      generalize W4 = W2 at *
      generalize K4 = K at *
      generalize (ls.drop 1).drop 1 = r at *
      go_upto_region 4 with fail
    case' neg =>
      have hbd : (D == 0) = false := by simp; omega
      have HKF := Lib.hid (show kdF d ls = (K, ls.drop 1) by rw [HKE.out, kdF, if_neg hd0])
      clear HKE
      generalize ls.drop 1 = r at *
      have HKD := Lib.hid (show 4 ≤ K → ∃ d', d' < d ∧ d = d' + 1 ∧ dcMax d = 4 * dcMax d' + 1 ∧ IntKind.i64.wrap (D - 1) = (d' : Int) from fun h => by
        obtain ⟨d', rfl⟩ := Nat.exists_eq_succ_of_ne_zero hd0
        exact ⟨d', Nat.lt_succ_self _, rfl, rfl, (IntWalk.i64_in _ (by omega)).trans (by omega)⟩)
      have HD := Lib.hid hD
      clear hD
      go_upto_region 4 with fail
      clear hbd
    all_goals
      have B4 := B3.al (.cells #[.int .i64 (K : Int), .string ⟨#[]⟩, .int .i64 0, .slice none 0 0] 29)
      have B5 := Blk.new W2 29 #[.int .i64 (K : Int), .string ⟨#[]⟩, .int .i64 0, .slice none 0 0]
      have HR3 := Lib.hid (HR2.out.al (.cells #[.int .i64 (K : Int), .string ⟨#[]⟩, .int .i64 0, .slice none 0 0] 29))
      have HA3 := Lib.hid (HA2.out.trans (Agr.below ((Below.refl W2.heap.size W2).al (.cells #[.int .i64 (K : Int), .string ⟨#[]⟩, .int .i64 0, .slice none 0 0] 29))))
      have hs3 : W2.heap.size + 1 ≤ (W2.alloc (.cells #[.int .i64 (K : Int), .string ⟨#[]⟩, .int .i64 0, .slice none 0 0] 29)).heap.size := by simp
      clear B3 HR2 HA2
      go_upto_region 5 with fail
      generalize W2.alloc (.cells #[.int .i64 (K : Int), .string ⟨#[]⟩, .int .i64 0, .slice none 0 0] 29) = W3 at *
      generalize W2.heap.size = bt at *
    · have hcase : K = 0 ∨ (1 ≤ K ∧ K ≤ 3) ∨ K = 4 ∨ K = 5 ∨ K = 6 := by omega
      rcases hcase with hk | hk | hk | hk | hk
      · have hb0 : ((K : Int) == 0) = true := by simp; omega
        have hb4 : ((K : Int) == 4) = false := by simp; omega
        have hb5 : ((K : Int) == 5) = false := by simp; omega
        have hb6 : ((K : Int) == 6) = false := by simp; omega
        have HK := Lib.hid hk
        clear hk HKD
        have HB4 := Lib.hid B4
        have HB5 := Lib.hid B5
        clear B4 B5
        go_upto_region 7 with fail
        go_wp2_with fail
        have B6 := Blk.new W3 9 #[Value.string ⟨#[97]⟩, Value.string ⟨#[98, 99]⟩, Value.string ⟨#[100, 101, 102]⟩, Value.string ⟨#[]⟩, Value.string ⟨#[103, 104, 105, 106, 107]⟩]
        refine (rdk_n w0 _ br 5 r _ rfl (HR3.out.al _) (by omega) (by omega)).mono ?_
        rintro e W5 ⟨j, rfl, hj, hr2, ha2, hz2, -, hje⟩
        have hs4 : W3.heap.size + 1 ≤ W5.heap.size := by simp at hz2; omega
        replace B6 := B6.agr ha2 (show Nr br W3.heap.size by show W3.heap.size ≠ br; omega)
        have B4 := ((HB4.out.al (.cells #[Value.string ⟨#[97]⟩, Value.string ⟨#[98, 99]⟩, Value.string ⟨#[100, 101, 102]⟩, Value.string ⟨#[]⟩, Value.string ⟨#[103, 104, 105, 106, 107]⟩] 9))).agr ha2 (show Nr br w.heap.size by show w.heap.size ≠ br; omega)
        have B5 := ((HB5.out.al (.cells #[Value.string ⟨#[97]⟩, Value.string ⟨#[98, 99]⟩, Value.string ⟨#[100, 101, 102]⟩, Value.string ⟨#[]⟩, Value.string ⟨#[103, 104, 105, 106, 107]⟩] 9))).agr ha2 (show Nr br bt by show bt ≠ br; omega)
        have HA4 := Lib.hid ((HA3.out.trans (Agr.below ((Below.refl W3.heap.size W3).al (.cells #[Value.string ⟨#[97]⟩, Value.string ⟨#[98, 99]⟩, Value.string ⟨#[100, 101, 102]⟩, Value.string ⟨#[]⟩, Value.string ⟨#[103, 104, 105, 106, 107]⟩] 9)))).trans ha2)
        have HR4 := Lib.hid hr2
        obtain ⟨s, hs, cs, hse⟩ : ∃ s, TextOk s ∧ W5.cell? ⟨W3.heap.size, j, none⟩ = some (.string s) ∧ s = textN j := by
          have hl := textOk_lit
          rcases (by omega : j = 0 ∨ j = 1 ∨ j = 2 ∨ j = 3 ∨ j = 4) with rfl | rfl | rfl | rfl | rfl
          · exact ⟨_, hl.1, B6.cell 0, rfl⟩
          · exact ⟨_, hl.2.1, B6.cell 1, rfl⟩
          · exact ⟨_, hl.2.2.1, B6.cell 2, rfl⟩
          · exact ⟨_, hl.2.2.2.1, B6.cell 3, rfl⟩
          · exact ⟨_, hl.2.2.2.2, B6.cell 4, rfl⟩
        have HS := Lib.hid hs
        have HFN := Lib.hid (show docF _ ls = (.node 0 s 0 [], r.drop 1) by rw [hse, hje]; exact docF_text (by rw [HKF.out, HK.out]))
        clear ha2 hr2 hz2 HA3 HR3 HB4 HB5 hs hse hje
        have i0 : (0 : Int) ≤ (j : Int) := by omega
        have i1 : (j : Int) < 5 := by omega
        have cB4 := B4.cell
        have fB4 := B4.frozen
        have lB4 := B4.lt
        have cB5 := B5.cell
        have fB5 := B5.frozen
        have lB5 := B5.lt
        go_wp2_with fail
        refine bodyPost_ret (v := dcVal (K, s, 0, none, 0, 0)) (by simp [results, Tryd.results20, go_sem, dcVal, cB4]) rfl (DocQ.fin (K, s, 0, none, 0, 0) (.node K s 0 []) (by rw [HFN.out, HK.out]) ?_ ?_ ?_ hbr (DcR.of K s 0 (Sl.nil 0)) ?_ ?_)
        · exact HR4.out.far (by simp; omega) (by have := HR4.out.lo; simp; omega) _
        · exact HA4.out.newCell (by simp; omega) _
        · simp; omega
        · have := HK.out; subst this; exact .text s HS.out
        · have := dcMax_pos d; simpa [Dc.size, Dc.sizes]
      · have hb0 : ((K : Int) == 0) = false := by simp; omega
        have hb4 : ((K : Int) == 4) = false := by simp; omega
        have hb5 : ((K : Int) == 5) = false := by simp; omega
        have hb6 : ((K : Int) == 6) = false := by simp; omega
        have HK := Lib.hid hk
        clear hk HKD
        have cB4 := B4.cell
        have fB4 := B4.frozen
        have lB4 := B4.lt
        have cB5 := B5.cell
        have fB5 := B5.frozen
        have lB5 := B5.lt
        go_wp2_with fail
        refine bodyPost_ret (v := dcVal (K, ⟨#[]⟩, 0, none, 0, 0)) (by simp [results, Tryd.results20, go_sem, dcVal, cB4]) rfl (DocQ.fin (K, ⟨#[]⟩, 0, none, 0, 0) (.node K ⟨#[]⟩ 0 []) (docF_line HKF.out HK.out.1 HK.out.2) HR3.out HA3.out (by omega) hbr (DcR.of K ⟨#[]⟩ 0 (Sl.nil 0)) (.line K HK.out.1 HK.out.2) ?_)
        have := dcMax_pos d; simpa [Dc.size, Dc.sizes]
      · obtain ⟨d', hd', hds, hmx, hD1⟩ := HKD.out (by omega)
        have hb0 : ((K : Int) == 0) = false := by simp; omega
        have hb4 : ((K : Int) == 4) = true := by simp; omega
        have hb5 : ((K : Int) == 5) = false := by simp; omega
        have hb6 : ((K : Int) == 6) = false := by simp; omega
        have HK := Lib.hid hk
        obtain ⟨D1, hD2⟩ : ∃ D1 : Int, IntKind.i64.wrap (D - 1) = D1 := ⟨_, rfl⟩
        rw [hD2] at hD1
        have HD1 := Lib.hid hD1
        have HM := Lib.hid hmx
        have HB6 := Lib.hid B4
        have HB7 := Lib.hid B5
        clear hk HKD hD1 hmx B4 B5
        go_wp2_with fail
        refine (rdk_n w0 _ br 4 r _ rfl HR3.out (by omega) (by omega)).mono ?_
        rintro e W4 ⟨j, rfl, hj, hr2, ha2, hz2, -, hje⟩
        have B4 := HB6.out.agr ha2 (show Nr br w.heap.size by show w.heap.size ≠ br; omega)
        have B5 : Blk W4 bt 29 #[.int .i64 4, .string ⟨#[]⟩, .int .i64 0, .slice none 0 0] := by
          have := HB7.out.agr ha2 (show Nr br bt by show bt ≠ br; omega); have e := HK.out; subst e; exact this
        have HA4 := Lib.hid (HA3.out.trans ha2)
        have HR4 := Lib.hid hr2
        have hs4 : bt + 1 ≤ W4.heap.size := by omega
        obtain ⟨Q, hQ⟩ : ∃ Q : Int, Q = (j : Int) + 1 := ⟨_, rfl⟩
        have HJE := Lib.hid (And.intro hje hQ)
        have HDS := Lib.hid hds
        clear hje hds
        have e1 : IntKind.i64.wrap (1 + (j : Int)) = Q := (IntWalk.i64_in _ (by omega)).trans (by omega)
        have q1 : 1 ≤ Q := by omega
        have q2 : Q ≤ 4 := by omega
        clear ha2 hr2 HR3 HA3 HB6 HB7 hz2 hs3 hQ
        go_wp2_with fail
        clear e1
        go_loopw [29] (fun i wr => ∃ (kk : Nat) (v : Value) (ks : List Dc) (l : List Int), i = .int .i64 kk ∧ (kk : Int) ≤ Q ∧ Hid (repF (docF d') kk (r.drop 1) = (ks, l)) ∧ DRelL w0 w br (dcMax d') bt kk v ks l wr) (fun i _ => Q.toNat - (intOf i).toNat)
        case atStart => exact ⟨0, _, [], r.drop 1, rfl, by omega, Lib.hid rfl, HR4.out, HA4.out, Own.nil _ _, B4, B5, hs4, hs2, fun t h => by simp at h⟩
        case round =>
          obtain ⟨kk, v, ks, l, rfl, hkk, HRF, hr⟩ := hrel
          obtain ⟨Av, cv, rfl, -⟩ := hr.own.form
          by_cases hlt : (kk : Int) < Q
          · have HR := Lib.hid hr
            have Bo := hr.b2
            have hsz := hr.size
            clear hr B4 B5
            have hbt : Nr br bt := by show bt ≠ br; omega
            have cBo := Bo.cell
            have fBo := Bo.frozen
            have lBo := Bo.lt
            go_wp2_with fail
            go_region_law (first
              | (go_simp; go_at_call 20; refine (HI.out d' hd' (by omega) wr.drew D1 l HD1.out HR.out.rd.dr).mono ?_; rintro e w' ⟨v2, t2, l2, rfl, hT2, hO2, hZ2, hr3, ha3, hz3, hfe⟩; have cP := (Bo.dr.agr ha3 hbt).cell; have lP := (Bo.dr.agr ha3 hbt).lt; dsimp only [dcVal])
              | (have HA := (HR.out.via hbr ((Below.refl wr.heap.size wr).drew)).call hbr ha3 hz3 hr3
                 have HB := HA.via hbr ((Below.refl w'.heap.size w').alloc (Nat.le_refl _) (.cells #[.int .i64 (v2.1 : Int), .string v2.2.1, .int .i64 (v2.2.2.1 : Int), .slice v2.2.2.2.1 v2.2.2.2.2.1 v2.2.2.2.2.2] 29))
                 refine step_append_dc _ rfl (.tmp 32) (.tmp 37) rfl (fun b => bt + 1 ≤ b) (bt + 1) (.slice Av kk cv) kk ks rfl HB.own w'.heap.size v2 t2 rfl (Blk.new w' 29 #[.int .i64 (v2.1 : Int), .string v2.2.1, .int .i64 (v2.2.2.1 : Int), .slice v2.2.2.2.1 v2.2.2.2.2.1 v2.2.2.2.2.2]) ((hT2.al _).mono fun b _ hb => ⟨Nat.le_trans HR.out.size hb, fun e => Nat.lt_irrefl b (Nat.lt_of_lt_of_le (HR.out.own.lt b e.symm).2 hb)⟩) (by omega) HB.size ?_
                 intro Av1 cv1 w1 ho1 hg1 hat1
                 have B2g := HB.b2.grown hg1 (fun e => by have := (HB.own.lt _ e.symm).1; omega)
                 have c2g := B2g.cell
                 have f2g := B2g.frozen))
            all_goals
              have HP := Lib.hid (DRelL.push HB hbr ho1 hg1 ⟨hO2, hZ2⟩)
              have HRG := Lib.hid (show repF (docF d') (kk + 1) (r.drop 1) = (ks ++ [t2], l2) by rw [repF, HRF.out]; simp only; rw [hfe])
              clear HA HB
              go_wp2_with fail
              exact ⟨⟨kk + 1, _, _, _, by go_num, by omega, HRG, HP.out⟩, by simp [intOf]; omega⟩
          · have hlt' : ¬ (kk : Int) < Q := hlt
            have B2 := hr.b2
            have B1 := hr.b1
            have HR := Lib.hid hr
            clear hr
            have cB1 := B1.cell
            have fB1 := B1.frozen
            have lB1 := B1.lt
            have cB2 := B2.cell
            have fB2 := B2.frozen
            have lB2 := B2.lt
            go_wp2_with fail
            have HFN := Lib.hid (show docF d ls = (.node 4 ⟨#[]⟩ 0 ks, l) by
              have h1 := HDS.out; subst h1
              have h2 := HKF.out; rw [HK.out] at h2
              have h3 : kk = nxt r 4 + 1 := by have := HJE.out; omega
              rw [docF_cat h2, ← h3, HRF.out])
            refine bodyPost_ret (v := dcVal (4, ⟨#[]⟩, 0, Av, kk, cv)) (by simp [results, Tryd.results20, go_sem, dcVal, cB1]) rfl (DocQ.fin (4, ⟨#[]⟩, 0, Av, kk, cv) (.node 4 ⟨#[]⟩ 0 ks) HFN.out HR.out.rd HR.out.agr (by have := HR.out.size; omega) hbr (DcR.of 4 ⟨#[]⟩ 0 ?_) ?_ ?_)
            · exact HR.out.own.toSl (fun b _ hb => by omega) (fun b hb => by omega)
            · exact .cat ks fun t ht => (HR.out.oks t ht).1
            · have h1 := Dc.sizes_le (M := dcMax d') fun t ht => (HR.out.oks t ht).2
              have h2 := HR.out.own.len
              have h3 := HM.out
              have h4 := Nat.mul_le_mul_right (dcMax d') (show ks.length ≤ 4 by omega)
              simp only [Dc.size]; omega
      · obtain ⟨d', hd', hds, hmx, hD1⟩ := HKD.out (by omega)
        have hb0 : ((K : Int) == 0) = false := by simp; omega
        have hb4 : ((K : Int) == 4) = false := by simp; omega
        have hb5 : ((K : Int) == 5) = true := by simp; omega
        have hb6 : ((K : Int) == 6) = false := by simp; omega
        have HK := Lib.hid hk
        obtain ⟨D1, hD2⟩ : ∃ D1 : Int, IntKind.i64.wrap (D - 1) = D1 := ⟨_, rfl⟩
        rw [hD2] at hD1
        have HD1 := Lib.hid hD1
        have HM := Lib.hid hmx
        have HB4 := Lib.hid B4
        have HB5 := Lib.hid B5
        clear hk HKD hD1 hmx B4 B5
        go_wp2_with fail
        refine (rdk_n w0 _ br 4 r _ rfl HR3.out (by omega) (by omega)).mono ?_
        rintro e W4 ⟨n, rfl, hn, hr2, ha2, hz2, -, hje⟩
        have HJE := Lib.hid hje
        clear hje
        have B4 := HB4.out.agr ha2 (show Nr br w.heap.size by show w.heap.size ≠ br; omega)
        have B5 := HB5.out.agr ha2 (show Nr br bt by show bt ≠ br; omega)
        have HA4 := Lib.hid ((HA3.out.trans ha2).newCell (p := ⟨bt, 2, none⟩) (by simp; omega) (.int .i64 (n : Int)))
        have HR4 := Lib.hid (hr2.far (p := ⟨bt, 2, none⟩) (by simp; omega) (by have := hr2.lo; simp; omega) (.int .i64 (n : Int)))
        have HB6 := Lib.hid (B4.far (p := ⟨bt, 2, none⟩) (by simp; omega) (.int .i64 (n : Int)))
        have HB7 := Lib.hid (B5.set_ 2 (.int .i64 (n : Int)))
        have hs4 : bt + 1 ≤ (W4.setCell ⟨bt, 2, none⟩ (.int .i64 (n : Int))).heap.size := by simp; omega
        clear ha2 hr2 HR3 HA3 HB4 HB5 hz2 hs3 B4
        have cB5 := B5.cell
        have fB5 := B5.frozen
        have lB5 := B5.lt
        go_wp2_with fail
        clear cB5 fB5 lB5
        clear B5
        generalize W4.setCell ⟨bt, 2, none⟩ (.int .i64 (n : Int)) = W5 at *
        refine (HI.out d' hd' (by omega) W5 D1 _ HD1.out HR4.out).mono ?_
        rintro e W6 ⟨v2, t2, l2, rfl, hT2, hO2, hZ2, hr3, ha3, hz3, hfe⟩
        have HFN := Lib.hid (show docF d ls = (.node K ⟨#[]⟩ n [t2], l2) by
          subst hds
          have h2 := HKF.out; rw [HK.out] at h2
          rw [docF_nest h2, hfe, ← HJE.out, HK.out])
        clear hfe hds
        have B4 := HB6.out.agr ha3 (show Nr br w.heap.size by show w.heap.size ≠ br; omega)
        have B5 : Blk W6 bt 29 #[.int .i64 (K : Int), .string ⟨#[]⟩, .int .i64 (n : Int), .slice none 0 0] := by
          have := HB7.out.agr ha3 (show Nr br bt by show bt ≠ br; omega); simpa using this
        have HA6 := Lib.hid (HA4.out.trans ha3)
        have HR6 := Lib.hid hr3
        have HT2 := Lib.hid hT2
        have HZ := Lib.hid (show t2.size + 1 ≤ dcMax d by have := HM.out; omega)
        have hs6 : bt + 1 ≤ W6.heap.size := by omega
        obtain ⟨vk, vs, vi, vA, vn, vc⟩ := v2
        dsimp only [dcVal]
        have B8 := Blk.new W6 29 #[.int .i64 (vk : Int), .string vs, .int .i64 (vi : Int), .slice vA vn vc]
        replace B4 := B4.al (.cells #[.int .i64 (vk : Int), .string vs, .int .i64 (vi : Int), .slice vA vn vc] 29)
        replace B5 := B5.al (.cells #[.int .i64 (vk : Int), .string vs, .int .i64 (vi : Int), .slice vA vn vc] 29)
        clear ha3 hr3 hT2 hZ2 HM HB6 HB7 HR4 HA4
        have cB4 := B4.cell
        have fB4 := B4.frozen
        have lB4 := B4.lt
        have cB5 := B5.cell
        have fB5 := B5.frozen
        have lB5 := B5.lt
        go_wp2_with fail
        refine bodyPost_ret (v := dcVal (K, ⟨#[]⟩, n, some ⟨W6.heap.size, 0, none⟩, 1, 1)) (by simp [results, Tryd.results20, go_sem, dcVal, cB4]) rfl (DocQ.fin (K, ⟨#[]⟩, n, some ⟨W6.heap.size, 0, none⟩, 1, 1) (.node K ⟨#[]⟩ n [t2]) HFN.out ?_ ?_ ?_ hbr (DcR.of K ⟨#[]⟩ n (Sl.oneD (v := (vk, vs, vi, vA, vn, vc)) ?_ ?_ ?_)) ?_ ?_)
        · exact (HR6.out.al _).far (by simp; omega) (by have := HR6.out.lo; simp; omega) _
        · exact (HA6.out.al_ _).newCell (by simp; omega) _
        · simp; omega
        · exact B8.far (by simp; omega) _
        · exact (((HT2.out.mono (ok' := fun b => w.heap.size + 1 ≤ b ∧ b ≠ bt) fun b _ h => ⟨by omega, by omega⟩).al _).far _ fun b hb => hb.2).mono fun b _ h => h.1
        · show w.heap.size + 1 ≤ W6.heap.size; omega
        · have := HK.out; subst this; exact .nest n t2 (by omega) hO2
        · have := HZ.out; simp only [Dc.size, Dc.sizes]; omega
      · obtain ⟨d', hd', hds, hmx, hD1⟩ := HKD.out (by omega)
        have hb0 : ((K : Int) == 0) = false := by simp; omega
        have hb4 : ((K : Int) == 4) = false := by simp; omega
        have hb5 : ((K : Int) == 5) = false := by simp; omega
        have hb6 : ((K : Int) == 6) = true := by simp; omega
        have HK := Lib.hid hk
        obtain ⟨D1, hD2⟩ : ∃ D1 : Int, IntKind.i64.wrap (D - 1) = D1 := ⟨_, rfl⟩
        rw [hD2] at hD1
        have HD1 := Lib.hid hD1
        have HM := Lib.hid hmx
        have HB6 := Lib.hid B4
        have HB7 := Lib.hid B5
        have HA4 := HA3
        have HR4 := HR3
        clear hk HKD hD1 hmx B4 B5
        go_wp2_with fail
        refine (HI.out d' hd' (by omega) W3 D1 _ HD1.out HR4.out).mono ?_
        rintro e W6 ⟨v2, t2, l2, rfl, hT2, hO2, hZ2, hr3, ha3, hz3, hfe⟩
        have HFN := Lib.hid (show docF d ls = (.node K ⟨#[]⟩ 0 [t2], l2) by
          subst hds
          have h2 := HKF.out; rw [HK.out] at h2
          rw [docF_group h2, hfe, HK.out])
        clear hfe hds
        have B4 := HB6.out.agr ha3 (show Nr br w.heap.size by show w.heap.size ≠ br; omega)
        have B5 : Blk W6 bt 29 #[.int .i64 (K : Int), .string ⟨#[]⟩, .int .i64 0, .slice none 0 0] := by
          have := HB7.out.agr ha3 (show Nr br bt by show bt ≠ br; omega); simpa using this
        have HA6 := Lib.hid (HA4.out.trans ha3)
        have HR6 := Lib.hid hr3
        have HT2 := Lib.hid hT2
        have HZ := Lib.hid (show t2.size + 1 ≤ dcMax d by have := HM.out; omega)
        have hs6 : bt + 1 ≤ W6.heap.size := by omega
        obtain ⟨vk, vs, vi, vA, vn, vc⟩ := v2
        dsimp only [dcVal]
        have B8 := Blk.new W6 29 #[.int .i64 (vk : Int), .string vs, .int .i64 (vi : Int), .slice vA vn vc]
        replace B4 := B4.al (.cells #[.int .i64 (vk : Int), .string vs, .int .i64 (vi : Int), .slice vA vn vc] 29)
        replace B5 := B5.al (.cells #[.int .i64 (vk : Int), .string vs, .int .i64 (vi : Int), .slice vA vn vc] 29)
        clear ha3 hr3 hT2 hZ2 HM HB6 HB7 HR4 HA4
        have cB4 := B4.cell
        have fB4 := B4.frozen
        have lB4 := B4.lt
        have cB5 := B5.cell
        have fB5 := B5.frozen
        have lB5 := B5.lt
        go_wp2_with fail
        refine bodyPost_ret (v := dcVal (K, ⟨#[]⟩, 0, some ⟨W6.heap.size, 0, none⟩, 1, 1)) (by simp [results, Tryd.results20, go_sem, dcVal, cB4]) rfl (DocQ.fin (K, ⟨#[]⟩, 0, some ⟨W6.heap.size, 0, none⟩, 1, 1) (.node K ⟨#[]⟩ 0 [t2]) HFN.out ?_ ?_ ?_ hbr (DcR.of K ⟨#[]⟩ 0 (Sl.oneD (v := (vk, vs, vi, vA, vn, vc)) ?_ ?_ ?_)) ?_ ?_)
        · exact (HR6.out.al _).far (by simp; omega) (by have := HR6.out.lo; simp; omega) _
        · exact (HA6.out.al_ _).newCell (by simp; omega) _
        · simp; omega
        · exact B8.far (by simp; omega) _
        · exact (((HT2.out.mono (ok' := fun b => w.heap.size + 1 ≤ b ∧ b ≠ bt) fun b _ h => ⟨by omega, by omega⟩).al _).far _ fun b hb => hb.2).mono fun b _ h => h.1
        · show w.heap.size + 1 ≤ W6.heap.size; omega
        · have := HK.out; subst this; exact .group t2 hO2
        · have := HZ.out; simp only [Dc.size, Dc.sizes]; omega
    · have hK4 : K < 4 := by
        by_cases h : K < 4
        · exact h
        · obtain ⟨d', hd', _⟩ := HKD.out (by omega); exact absurd hd' (Nat.not_lt_zero _)
      have hcase : K = 0 ∨ (1 ≤ K ∧ K ≤ 3) := by omega
      rcases hcase with hk | hk
      · have hb0 : ((K : Int) == 0) = true := by simp; omega
        have hb4 : ((K : Int) == 4) = false := by simp; omega
        have hb5 : ((K : Int) == 5) = false := by simp; omega
        have hb6 : ((K : Int) == 6) = false := by simp; omega
        have HK := Lib.hid hk
        clear hk HKD
        have HB4 := Lib.hid B4
        have HB5 := Lib.hid B5
        clear B4 B5
        go_upto_region 7 with fail
        go_wp2_with fail
        have B6 := Blk.new W3 9 #[Value.string ⟨#[97]⟩, Value.string ⟨#[98, 99]⟩, Value.string ⟨#[100, 101, 102]⟩, Value.string ⟨#[]⟩, Value.string ⟨#[103, 104, 105, 106, 107]⟩]
        refine (rdk_n w0 _ br 5 r _ rfl (HR3.out.al _) (by omega) (by omega)).mono ?_
        rintro e W5 ⟨j, rfl, hj, hr2, ha2, hz2, -, hje⟩
        have hs4 : W3.heap.size + 1 ≤ W5.heap.size := by simp at hz2; omega
        replace B6 := B6.agr ha2 (show Nr br W3.heap.size by show W3.heap.size ≠ br; omega)
        have B4 := ((HB4.out.al (.cells #[Value.string ⟨#[97]⟩, Value.string ⟨#[98, 99]⟩, Value.string ⟨#[100, 101, 102]⟩, Value.string ⟨#[]⟩, Value.string ⟨#[103, 104, 105, 106, 107]⟩] 9))).agr ha2 (show Nr br w.heap.size by show w.heap.size ≠ br; omega)
        have B5 := ((HB5.out.al (.cells #[Value.string ⟨#[97]⟩, Value.string ⟨#[98, 99]⟩, Value.string ⟨#[100, 101, 102]⟩, Value.string ⟨#[]⟩, Value.string ⟨#[103, 104, 105, 106, 107]⟩] 9))).agr ha2 (show Nr br bt by show bt ≠ br; omega)
        have HA4 := Lib.hid ((HA3.out.trans (Agr.below ((Below.refl W3.heap.size W3).al (.cells #[Value.string ⟨#[97]⟩, Value.string ⟨#[98, 99]⟩, Value.string ⟨#[100, 101, 102]⟩, Value.string ⟨#[]⟩, Value.string ⟨#[103, 104, 105, 106, 107]⟩] 9)))).trans ha2)
        have HR4 := Lib.hid hr2
        obtain ⟨s, hs, cs, hse⟩ : ∃ s, TextOk s ∧ W5.cell? ⟨W3.heap.size, j, none⟩ = some (.string s) ∧ s = textN j := by
          have hl := textOk_lit
          rcases (by omega : j = 0 ∨ j = 1 ∨ j = 2 ∨ j = 3 ∨ j = 4) with rfl | rfl | rfl | rfl | rfl
          · exact ⟨_, hl.1, B6.cell 0, rfl⟩
          · exact ⟨_, hl.2.1, B6.cell 1, rfl⟩
          · exact ⟨_, hl.2.2.1, B6.cell 2, rfl⟩
          · exact ⟨_, hl.2.2.2.1, B6.cell 3, rfl⟩
          · exact ⟨_, hl.2.2.2.2, B6.cell 4, rfl⟩
        have HS := Lib.hid hs
        have HFN := Lib.hid (show docF _ ls = (.node 0 s 0 [], r.drop 1) by rw [hse, hje]; exact docF_text (by rw [HKF.out, HK.out]))
        clear ha2 hr2 hz2 HA3 HR3 HB4 HB5 hs hse hje
        have i0 : (0 : Int) ≤ (j : Int) := by omega
        have i1 : (j : Int) < 5 := by omega
        have cB4 := B4.cell
        have fB4 := B4.frozen
        have lB4 := B4.lt
        have cB5 := B5.cell
        have fB5 := B5.frozen
        have lB5 := B5.lt
        go_wp2_with fail
        refine bodyPost_ret (v := dcVal (K, s, 0, none, 0, 0)) (by simp [results, Tryd.results20, go_sem, dcVal, cB4]) rfl (DocQ.fin (K, s, 0, none, 0, 0) (.node K s 0 []) (by rw [HFN.out, HK.out]) ?_ ?_ ?_ hbr (DcR.of K s 0 (Sl.nil 0)) ?_ ?_)
        · exact HR4.out.far (by simp; omega) (by have := HR4.out.lo; simp; omega) _
        · exact HA4.out.newCell (by simp; omega) _
        · simp; omega
        · have := HK.out; subst this; exact .text s HS.out
        · have := dcMax_pos 0; simpa [Dc.size, Dc.sizes]
      · have hb0 : ((K : Int) == 0) = false := by simp; omega
        have hb4 : ((K : Int) == 4) = false := by simp; omega
        have hb5 : ((K : Int) == 5) = false := by simp; omega
        have hb6 : ((K : Int) == 6) = false := by simp; omega
        have HK := Lib.hid hk
        clear hk HKD
        have cB4 := B4.cell
        have fB4 := B4.frozen
        have lB4 := B4.lt
        have cB5 := B5.cell
        have fB5 := B5.frozen
        have lB5 := B5.lt
        go_wp2_with fail
        refine bodyPost_ret (v := dcVal (K, ⟨#[]⟩, 0, none, 0, 0)) (by simp [results, Tryd.results20, go_sem, dcVal, cB4]) rfl (DocQ.fin (K, ⟨#[]⟩, 0, none, 0, 0) (.node K ⟨#[]⟩ 0 []) (docF_line HKF.out HK.out.1 HK.out.2) HR3.out HA3.out (by omega) hbr (DcR.of K ⟨#[]⟩ 0 (Sl.nil 0)) (.line K HK.out.1 HK.out.2) ?_)
        have := dcMax_pos 0; simpa [Dc.size, Dc.sizes]
end Go.Proofs.YtbhenicldddlfaaDoor

