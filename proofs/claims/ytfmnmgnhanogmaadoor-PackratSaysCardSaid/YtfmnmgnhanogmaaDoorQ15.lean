/- Texts OC, BA, LF, HP, AC, laid together. -/
import Derived.Test.YtfmnmgnhanogmaaDoorQ4
import Derived.Test.YtfmnmgnhanogmaaDoorQ14
import Derived.Test.YtfmnmgnhanogmaaDoorQ3
import Derived.StillTailTactics
import Derived.BigQuiet
import Derived.LaidEqlPtr
import Derived.Lib.TrailingZeros
import Derived.Laws.BitsAllLaws






namespace Go.Proofs.YtfmnmgnhanogmaaDoor
open Go.RowKit

theorem trCells_inj {x y : TrV} (h : ∀ (j : Nat) (u : Value), (trCells x)[j]? = some u → (trCells y)[j]? = some u) : x = y := by
  obtain ⟨a, b, A, n, c⟩ := x
  obtain ⟨a', b', A', n', c'⟩ := y
  have h0 := h 0 _ rfl
  have h1 := h 1 _ rfl
  have h2 := h 2 _ rfl
  simp only [trCells, List.getElem?_cons_zero, List.getElem?_cons_succ, Option.some.injEq, Value.int.injEq, Value.slice.injEq, true_and] at h0 h1 h2
  obtain ⟨e1, e2, e3⟩ := h2
  rw [h0, h1, e1, e2, e3]
/-- what lies at one place reads as one tree -/
theorem TreeR.det {ok ok' : Nat → Prop} {w : World} {v : TrV} {t : Tr} (h : TreeR ok w v t) : ∀ {u : Tr}, TreeR ok' w v u → t = u := by
  induction h with
  | leaf t A c =>
    intro u h'
    generalize hv : ((-1, (t : Int), A, 0, c) : TrV) = v at h'
    cases h' with
    | leaf t' A' c' =>
      simp only [Prod.mk.injEq, true_and] at hv
      obtain ⟨h1, -⟩ := hv
      congr 1; omega
    | node r A' n c' kids raw hl hc hr hcel hk => simp only [Prod.mk.injEq] at hv; omega
  | node r A n c kids raw hl hc hr hcel hk ih =>
    intro u h'
    generalize hv : (((r : Int), 0, A, n, c) : TrV) = v at h'
    cases h' with
    | leaf t' A' c' => simp only [Prod.mk.injEq] at hv; omega
    | node r' A' n' c' kids' raw' hl' hc' hr' hcel' hk' =>
      simp only [Prod.mk.injEq, true_and] at hv
      obtain ⟨h1, h2, h3, h4⟩ := hv
      obtain rfl : r = r' := by omega
      subst h2 h3 h4
      congr 1
      refine List.ext_getElem (by omega) fun i hi hi' => ?_
      have ex : raw[i]? = some raw[i] := List.getElem?_eq_getElem (by omega)
      have ey : raw'[i]? = some raw'[i] := List.getElem?_eq_getElem (by omega)
      have hne : ∀ l : List TrV, l.length = n → l.flatMap trCells ≠ [] := fun l hl0 e => by
        have := flat_len (E := TrE) l
        have e' : flat TrE l = [] := e
        rw [e', hl0] at this
        have : n * TrE.k = 0 := this.symm
        have h3 : TrE.k = 3 := rfl
        rw [h3] at this; omega
      obtain ⟨b, off, e1, -, hc1⟩ := hcel (hne raw hr)
      obtain ⟨b', off', e1', -, hc1'⟩ := hcel' (hne raw' hr')
      rw [e1] at e1'
      simp only [Option.some.injEq, Addr.mk.injEq, and_true] at e1'
      obtain ⟨rfl, rfl⟩ := e1'
      have exy : raw[i] = raw'[i] := by
        refine trCells_inj fun j u hu => ?_
        have hj : j < 3 := (List.getElem?_eq_some_iff.1 hu).1
        have k1 := hc1 _ u (flat_at (E := TrE) raw i raw[i] j u ex hu)
        have hy' : (trCells raw'[i])[j]? = some ((trCells raw'[i])[j]'(by simpa [trCells] using hj)) := List.getElem?_eq_getElem _
        have k2 := hc1' _ _ (flat_at (E := TrE) raw' i raw'[i] j _ ey hy')
        rw [k1] at k2
        rw [hy', ← Option.some.inj k2]
      have := ih i raw[i] kids[i] ex (List.getElem?_eq_getElem _) (hk' i raw[i] kids'[i] (by rw [ey, exy]) (List.getElem?_eq_getElem _))
      exact this
/-- a tree lies at this place -/
def AtT (ok : Nat → Prop) (w : World) (b o : Nat) (t : Tr) : Prop := ∃ v : TrV, TreeR ok w v t ∧ ok b ∧ ∀ j u, (trCells v)[j]? = some u → w.cell? ⟨b, o + j, none⟩ = some u
section
variable {ok ok' : Nat → Prop} {w w' : World} {b o : Nat} {t u : Tr}
theorem AtT.agr (h : AtT ok w b o t) (k : Agr ok w w') : AtT ok w' b o t := by
  obtain ⟨v, h1, h2, h3⟩ := h
  exact ⟨v, h1.agr k, h2, fun j u hu => k.cell h2 (h3 j u hu)⟩
theorem AtT.via (h : AtT ok w b o t) (k : Below w.heap.size w w') : AtT ok w' b o t := h.agr (Agr.below k)
theorem AtT.mono (h : AtT ok w b o t) (k : ∀ b, b < w.heap.size → ok b → ok' b) : AtT ok' w b o t := by
  obtain ⟨v, h1, h2, h3⟩ := h
  exact ⟨v, h1.mono k, k b (World.block_lt_of_cell? w _ (h3 0 _ rfl)) h2, h3⟩
theorem AtT.det (h : AtT ok w b o t) (h' : AtT ok' w b o u) : t = u := by
  obtain ⟨v, h1, h2, h3⟩ := h
  obtain ⟨v', h1', h2', h3'⟩ := h'
  have e : v = v' := trCells_inj fun j x hx => by
    have k1 := h3 j x hx
    have hj : j < 3 := (List.getElem?_eq_some_iff.1 hx).1
    have hy' : (trCells v')[j]? = some ((trCells v')[j]'(by simpa [trCells] using hj)) := List.getElem?_eq_getElem _
    have k2 := h3' j _ hy'
    rw [k1] at k2
    rw [hy', ← Option.some.inj k2]
  subst e
  exact h1.det h1'
end
theorem CmpT.refl (t : Tr) : CmpT t t 0 := ⟨fun h => by omega, fun _ => rfl, fun h => by omega⟩
/-- a block of plain cells -/
def okC (w : World) (b : Nat) : Prop := ∃ cs t, w.heap[b]? = some (.cells cs t (0, 0))
theorem okC.lt {w : World} {b : Nat} (h : okC w b) : b < w.heap.size := by obtain ⟨cs, t, h⟩ := h; exact (Array.getElem?_eq_some_iff.1 h).1
theorem okC.via {w w' : World} {b : Nat} (h : okC w b) (k : Below w.heap.size w w') : okC w' b := by
  have hl := h.lt
  obtain ⟨cs, t, h⟩ := h; exact ⟨cs, t, (k.block b hl).trans h⟩
theorem Blk.okC {w : World} {g : Nat} {t : TypeId} {cs : Array Value} (h : Blk w g t cs) : okC w g := ⟨cs, t, h⟩
theorem ptr_info : ∃ j, Tryd.prog.info? 34 = some j ∧ j.size ≠ 0 := by
  obtain ⟨i, hi, hz⟩ := Option.map_eq_some_iff.1 tree_info
  simp only [Prod.mk.injEq] at hz
  exact ⟨i, hi, by rw [hz.2.1]; omega⟩
theorem ptr_same (w : World) (a : Addr) : (binOp .eql 69 (.pointer (some a)) (.pointer (some a))).run Tryd.prog w = .ok (.bool true) w := by
  obtain ⟨j, hj, hs⟩ := ptr_info
  exact run_eql_ptr_same w a Tryd.underlying69 hj
theorem ptr_other {w : World} {a b : Addr} (hne : a ≠ b) (ha : okC w a.block) (hb : okC w b.block) : (binOp .eql 69 (.pointer (some a)) (.pointer (some b))).run Tryd.prog w = .ok (.bool false) w := by
  obtain ⟨j, hj, hs⟩ := ptr_info
  obtain ⟨ca, ta, ha⟩ := ha
  obtain ⟨cb, tb, hb⟩ := hb
  exact run_eql_ptr_other w Tryd.underlying69 hj hs hne ha hb
theorem leaf_of {R : List Ru} {W : List Nat} {a i j : Nat} {t : Tr} (h : DrL R W [(true, a)] i j [t]) : t = .leaf a := by
  cases h with
  | leaf _ _ _ _ _ h1 h2 => cases h2; rfl
/-- what a comparison of two trees of one symbol from one place comes down to -/
theorem cmp_parts {R : List Ru} {W : List Nat} (hR : R.length ≤ 1000) (h4 : ∀ v ∈ R, v.2.length ≤ 4) {s : Sy} {i j j' : Nat} {t u : Tr} (h : DrL R W [s] i j [t]) (h' : DrL R W [s] i j' [u]) :
    (-1 ≤ t.rl ∧ t.rl ≤ 1000 ∧ -1 ≤ u.rl ∧ u.rl ≤ 1000) ∧ (t.rl < u.rl → LtF [t] [u]) ∧ (u.rl < t.rl → LtF [u] [t]) ∧
    (t.rl = u.rl → ∃ rhs x y, rhs.length ≤ 4 ∧ DrL R W rhs i x t.kids ∧ DrL R W rhs i y u.kids ∧ (t.kids = u.kids → t = u) ∧ (LtF t.kids u.kids → LtF [t] [u]) ∧ (LtF u.kids t.kids → LtF [u] [t])) := by
  obtain ⟨b, n⟩ := s
  cases b with
  | true =>
    have e1 := leaf_of h
    have e2 := leaf_of h'
    subst e1 e2
    refine ⟨⟨by simp [Tr.rl], by simp [Tr.rl], by simp [Tr.rl], by simp [Tr.rl]⟩, fun h => absurd h (by omega), fun h => absurd h (by omega), fun _ => ⟨[], i, i, by simp, .nil i, .nil i, fun _ => rfl, fun h => ?_, fun h => ?_⟩⟩
    · simp only [Tr.kids] at h; cases h
    · simp only [Tr.kids] at h; cases h
  | false =>
    cases t with
    | leaf a => cases h
    | node r ks =>
      cases u with
      | leaf a => cases h'
      | node q ls =>
        have k1 : r < R.length := by cases h with | node _ _ _ _ _ _ _ _ _ hr _ _ => exact (List.getElem?_eq_some_iff.1 hr).1
        have k2 : q < R.length := by cases h' with | node _ _ _ _ _ _ _ _ _ hr _ _ => exact (List.getElem?_eq_some_iff.1 hr).1
        simp only [Tr.rl, Tr.kids]
        refine ⟨by omega, fun hlt => (h.rules h').1 (by omega), fun hlt => (h'.rules h).1 (by omega), fun e => ?_⟩
        obtain rfl : r = q := by omega
        obtain ⟨rhs, g1, g2, g3⟩ := (h.rules h').2 rfl
        exact ⟨rhs, j, j', h4 _ (List.mem_of_getElem? g1), g2, g3, fun e => by rw [e], fun e => .inner _ _ _ _ _ e, fun e => .inner _ _ _ _ _ e⟩
def CmpP (w : World) (t u : Tr) (e : Ending) (w' : World) : Prop := ∃ c : Int, e = .returned (.int .i64 c) ∧ CmpT t u c ∧ -2000 ≤ c ∧ c ≤ 2000 ∧ Below w.heap.size w w'
set_option maxRecDepth 100000 in
set_option maxHeartbeats 4000000 in
theorem compare_n (R : List Ru) (W : List Nat) (hR : R.length ≤ 1000) (ok : Nat → Prop) (m : Nat) : ∀ (t u : Tr) (s : Sy) (i j j' : Nat) (a oa b ob : Nat) (w : World), t.size ≤ m → DrL R W [s] i j [t] → DrL R W [s] i j' [u] → (∀ v ∈ R, v.2.length ≤ 4) → (∀ x, ok x → okC w x) → AtT ok w a oa t → AtT ok w b ob u →
    Calls Tryd.prog 60 #[.pointer (some ⟨a, oa, none⟩), .pointer (some ⟨b, ob, none⟩)] w (CmpP w t u) := by
  induction m with
  | zero => intro t u s i j j' a oa b ob w h; have := t.size_pos; omega
  | succ m ih =>
    intro t u s i j j' a oa b ob w hm ht hu hR4 hok ha hb
    by_cases hab : a = b ∧ oa = ob
    · obtain ⟨rfl, rfl⟩ := hab
      have := ha.det hb
      subst this
      clear ih
      have he := ptr_same w ⟨a, oa, none⟩
      go_enter Tryd.func60, Tryd.ntmps60
      go_wp2_with fail
      go_ret
      exact ⟨0, rfl, CmpT.refl t, by omega, by omega, Below.refl _ _⟩
    · have HT := Lib.hid ht
      have HU := Lib.hid hu
      have HA := Lib.hid ha
      have HB := Lib.hid hb
      have HOK := Lib.hid hok
      have IH := Lib.hid ih
      have HM := Lib.hid hm
      have HR4 := Lib.hid hR4
      have HR := Lib.hid hR
      have he := ptr_other (w := w) (a := ⟨a, oa, none⟩) (b := ⟨b, ob, none⟩) (fun e => hab (by simpa using e)) (hok a (by obtain ⟨v, _, h, _⟩ := ha; exact h)) (hok b (by obtain ⟨v, _, h, _⟩ := hb; exact h))
      obtain ⟨hpb, hlt, hgt, hpe⟩ := cmp_parts hR hR4 ht hu
      have HPE := Lib.hid hpe
      have HLT := Lib.hid hlt
      have HGT := Lib.hid hgt
      obtain ⟨⟨r1, m1, A1, n1, c1⟩, hr1, -, hc1⟩ := ha
      obtain ⟨⟨r2, m2, A2, n2, c2⟩, hr2, -, hc2⟩ := hb
      obtain ⟨hp1, -, hp3⟩ := hr1.parts
      obtain ⟨hq1, -, hq3⟩ := hr2.parts
      simp only at hp1 hp3 hq1 hq3
      have HSA := Lib.hid hp3
      have HSB := Lib.hid hq3
      have d0 := hc1 0 _ rfl
      have d2 := hc1 2 _ rfl
      have e0 := hc2 0 _ rfl
      have e2 := hc2 2 _ rfl
      simp only [Nat.add_zero] at d0 e0
      rw [← hp1, ← hq1] at hpb HLT HGT HPE
      clear hab hok hm hR4 hR hc1 hc2 ih ht hu hpe hlt hgt hp1 hp3 hq1 hq3 hr1 hr2
      obtain ⟨hz1, hz2, hz3, hz4⟩ := hpb
      have hwr : IntKind.i64.wrap (r1 - r2) = r1 - r2 := IntWalk.i64_in _ (by omega)
      go_enter Tryd.func60, Tryd.ntmps60
      by_cases hrr : r1 = r2
      · subst hrr
        have HPX := Lib.hid (HPE.out rfl)
        clear HPE HLT HGT hwr
        go_upto_region 3 with fail
        clear he
        go_quiet (fail)
        have HD := Lib.hid (below_drewN (Below.refl w.heap.size w) nq)
        have HD2 := Lib.hid d2
        have HE2 := Lib.hid e2
        have HLA := Lib.hid (World.block_lt_of_cell? _ _ d2)
        have HLB := Lib.hid (World.block_lt_of_cell? _ _ e2)
        clear e2
        have d2 := (HD.out.cell (World.block_lt_of_cell? _ _ d2)).trans d2
        generalize w.drewN nq = W1 at *
        go_wp2_with fail
        clear d2
        obtain ⟨rhs, x, y, HQ⟩ := HPX.out
        have HQ := Lib.hid HQ
        have hln1 := HSA.out.len
        have hln2 := HSB.out.len
        have hle4 : n1 ≤ 4 := by have := HQ.out.2.1.len; have := HQ.out.1; omega
        have hnn : n2 = n1 := by have := HQ.out.2.1.len; have := HQ.out.2.2.1.len; omega
        subst hnn
        have HLE := Lib.hid hln1
        have HLE2 := Lib.hid hln2
        clear HPX hln1 hln2
        go_loopw [33] (fun q wr => ∃ k : Nat, q = .int .i64 k ∧ k ≤ n2 ∧ Hid (Below w.heap.size w wr) ∧ Hid (∀ z, z < k → t.kids[z]? = u.kids[z]?)) (fun q _ => n2 - (intOf q).toNat)
        case atStart => exact ⟨0, rfl, Nat.zero_le _, HD, Lib.hid (fun z h => absurd h (Nat.not_lt_zero _))⟩
        case round =>
          obtain ⟨k, rfl, hk, HW, HE⟩ := hrel
          by_cases hkn : k < n2
          · obtain ⟨b1, o1, x1, t1, hA1, hob1, hbl1, ht1, hr1, hc1⟩ := (HSA.out.via HW.out).at_ hkn
            obtain ⟨b2, o2, x2, t2, hA2, hob2, hbl2, ht2, hr2, hc2⟩ := (HSB.out.via HW.out).at_ hkn
            subst hA1 hA2
            have k0 : (0 : Int) ≤ (k : Int) := by omega
            have k1 : (k : Int) < (n2 : Int) := by omega
            have HT1 := Lib.hid ht1
            have HT2 := Lib.hid ht2
            have HA1 := Lib.hid (show AtT ok wr b1 (o1 + k * 3) t1 from ⟨x1, hr1, hob1, hc1⟩)
            have HA2 := Lib.hid (show AtT ok wr b2 (o2 + k * 3) t2 from ⟨x2, hr2, hob2, hc2⟩)
            obtain ⟨s', p, m1', m2', t', u', g1, g2, g3, g4, g5, g6, g7⟩ := HQ.out.2.1.at2 (q := k) HQ.out.2.2.1 HE.out (by rw [← HQ.out.2.1.len, HLE.out]; exact hkn)
            rw [ht1] at g1
            rw [ht2] at g2
            obtain rfl := Option.some.inj g1
            obtain rfl := Option.some.inj g2
            have HG := Lib.hid (And.intro g4 (And.intro g5 (And.intro g6 g7)))
            have hsz := Tr.size_kid (t := t) (List.mem_of_getElem? ht1)
            have HSZ := Lib.hid hsz
            clear g1 g2 g3 g4 g5 g6 g7 ht1 ht2 hr1 hr2 hc1 hc2 hob1 hob2 hbl1 hbl2 hsz
            have hd2 : wr.cell? ⟨a, oa + 2, none⟩ = some (.slice (some ⟨b1, o1, none⟩) n2 c1) := by
              exact (HW.out.cell (p := ⟨a, oa + 2, none⟩) (HLA.out)).trans HD2.out
            have he2 : wr.cell? ⟨b, ob + 2, none⟩ = some (.slice (some ⟨b2, o2, none⟩) n2 c2) := (HW.out.cell (p := ⟨b, ob + 2, none⟩) (HLB.out)).trans HE2.out
            go_upto_region 8 with fail
            go_still_tail 12, (by kernel_rfl)
            have HDW := Lib.hid (Below.refl wr.heap.size wr).drew
            change wpList _ _ _ _ _ wr.drew
            generalize wr.drew = W3 at *
            clear hd2 he2
            have HW3 := Lib.hid (HW.out.trans (HDW.out.mono HW.out.size))
            go_wp2_with fail
            refine (IH.out t1 t2 s' p m1' m2' b1 (o1 + k * 3) b2 (o2 + k * 3) W3 (by have := HM.out; have := HSZ.out; omega) HG.out.1 HG.out.2.1 HR4.out (fun z hz => (HOK.out z hz).via HW3.out) (HA1.out.via HDW.out) (HA2.out.via HDW.out)).mono ?_
            rintro e w4 ⟨c, rfl, hcmp, hc1, hc2, hb4⟩
            have HC := Lib.hid hcmp
            have HW4 := Lib.hid (HW3.out.trans (hb4.mono HW3.out.size))
            clear hcmp hb4
            by_cases hc0 : c = 0
            · subst hc0
              go_wp2_with fail
              refine ⟨⟨k + 1, by go_num, by omega, HW4, Lib.hid (fun z hz => ?_)⟩, by simp [intOf]; omega⟩
              by_cases e : z = k
              · rw [e, HT1.out, HT2.out, HC.out.2.1 rfl]
              · exact HE.out z (by omega)
            · have hne : (c != 0) = true := bne_iff_ne.2 hc0
              have HC0 := Lib.hid hc0
              clear hc0
              go_wp2_with fail
              go_ret
              exact ⟨c, rfl, ⟨fun h => HQ.out.2.2.2.2.1 (HG.out.2.2.1 (HC.out.1 h)), fun h => absurd h HC0.out, fun h => HQ.out.2.2.2.2.2 (HG.out.2.2.2 (HC.out.2.2 h))⟩, hc1, hc2, HW4.out⟩
          · obtain rfl : k = n2 := by omega
            go_wp2_with fail
            go_ret
            refine ⟨0, rfl, ⟨fun h => by omega, fun _ => ?_, fun h => by omega⟩, by omega, by omega, HW.out⟩
            exact HQ.out.2.2.2.1 (HQ.out.2.1.same HQ.out.2.2.1 fun z hz => HE.out z (by rw [← HLE.out, HQ.out.2.1.len]; exact hz))
      · have hne : (r1 != r2) = true := bne_iff_ne.2 hrr
        have HNE := Lib.hid hrr
        clear hrr
        go_upto_region 3 with fail
        clear he
        go_quiet (fail)
        have HD := Lib.hid (below_drewN (Below.refl w.heap.size w) nq)
        have d0 := (HD.out.cell (World.block_lt_of_cell? _ _ d0)).trans d0
        have e0 := (HD.out.cell (World.block_lt_of_cell? _ _ e0)).trans e0
        generalize w.drewN nq = W1 at *
        go_upto_region 4 with fail
        go_quiet (fail)
        have HD2 := Lib.hid (HD.out.trans ((below_drewN (Below.refl W1.heap.size W1) nq).mono HD.out.size))
        generalize W1.drewN nq = W2 at *
        go_wp2_with fail
        go_ret
        refine ⟨r1 - r2, rfl, ⟨fun h => HLT.out (by omega), fun h => absurd (by omega) HNE.out, fun h => HGT.out (by omega)⟩, by omega, by omega, HD2.out⟩
end Go.Proofs.YtfmnmgnhanogmaaDoor



namespace Go.Proofs.YtfmnmgnhanogmaaDoor
open Go.RowKit

/-- a symbol with a part of the word -/
abbrev Ky := Sy × Nat × Nat
section
variable (D : Ky → Bool)
def someF : List Sy → Nat → Nat → Bool
  | [], i, j => decide (i = j)
  | s :: l, i, j => (List.range (j + 1 - i)).any fun q => D (s, i, i + q) && someF l (i + q) j
def waysF : List Sy → Nat → Nat → List (List Ky)
  | [], i, j => if i = j then [[]] else []
  | s :: l, i, j => (List.range (j + 1 - i)).flatMap fun q => if (D (s, i, i + q) && someF D l (i + q) j) = true then (waysF l (i + q) j).map ((s, i, i + q) :: ·) else []
/-- the packs of a node by rule n -/
def packN (R : List Ru) (k : Ky) (n : Nat) : List (Nat × List Ky) := match R[n]? with
  | some u => if u.1 = k.1.2 ∧ k.1.1 = false then (waysF D u.2 k.2.1 k.2.2).map fun p => (n, p) else []
  | none => []
/-- .. by the first m rules -/
def packT (R : List Ru) (k : Ky) (m : Nat) : List (Nat × List Ky) := (List.range m).flatMap (packN D R k)
def packsF (R : List Ru) (k : Ky) : List (Nat × List Ky) := packT D R k R.length
end
section
variable {D : Ky → Bool}
theorem some_iff {s : Sy} {l : List Sy} {i j : Nat} : someF D (s :: l) i j = true ↔ ∃ p, i ≤ p ∧ p ≤ j ∧ D (s, i, p) = true ∧ someF D l p j = true := by
  simp only [someF, List.any_eq_true, List.mem_range, Bool.and_eq_true]
  constructor
  · rintro ⟨q, hq, h1, h2⟩; exact ⟨i + q, by omega, by omega, h1, h2⟩
  · rintro ⟨p, h1, h2, h3, h4⟩
    refine ⟨p - i, by omega, ?_⟩
    rw [show i + (p - i) = p by omega]; exact ⟨h3, h4⟩
theorem ways_nil {l : List Sy} {i j : Nat} (h : someF D l i j = false) : waysF D l i j = [] := by
  cases l with
  | nil => simp only [someF, decide_eq_false_iff_not] at h; simp [waysF, h]
  | cons s l =>
    simp only [waysF, List.flatMap_eq_nil_iff]
    intro q hq
    simp only [someF, List.any_eq_false] at h
    rw [if_neg (h q hq)]
/-- what a way is -/
inductive IsWay (D : Ky → Bool) : List Sy → Nat → Nat → List Ky → Prop
  | nil (i : Nat) : IsWay D [] i i []
  | cons {s : Sy} {l : List Sy} {i p j : Nat} {w : List Ky} : i ≤ p → p ≤ j → D (s, i, p) = true → IsWay D l p j w → IsWay D (s :: l) i j ((s, i, p) :: w)
theorem IsWay.some {l : List Sy} {i j : Nat} {w : List Ky} (h : IsWay D l i j w) : someF D l i j = true := by
  induction h with
  | nil i => simp [someF]
  | cons h1 h2 h3 _ ih => exact some_iff.2 ⟨_, h1, h2, h3, ih⟩
theorem IsWay.le {l : List Sy} {i j : Nat} {w : List Ky} (h : IsWay D l i j w) : i ≤ j := by
  induction h with
  | nil i => exact Nat.le_refl _
  | cons h1 h2 _ _ _ => omega
theorem ways_iff {l : List Sy} : ∀ {i j : Nat} {w : List Ky}, w ∈ waysF D l i j ↔ IsWay D l i j w := by
  induction l with
  | nil =>
    intro i j w
    simp only [waysF]
    constructor
    · intro h
      by_cases e : i = j
      · rw [if_pos e] at h; simp at h; subst h; subst e; exact .nil i
      · rw [if_neg e] at h; simp at h
    · intro h; cases h; simp
  | cons s l ih =>
    intro i j w
    simp only [waysF, List.mem_flatMap, List.mem_range]
    constructor
    · rintro ⟨q, hq, h⟩
      by_cases e : (D (s, i, i + q) && someF D l (i + q) j) = true
      · rw [if_pos e] at h
        obtain ⟨w', hw', rfl⟩ := List.mem_map.1 h
        simp only [Bool.and_eq_true] at e
        exact .cons (by omega) (by omega) e.1 (ih.1 hw')
      · rw [if_neg e] at h; simp at h
    · intro h
      cases h with
      | @cons _ _ _ p _ w' h1 h2 h3 h4 =>
        refine ⟨p - i, by omega, ?_⟩
        rw [show i + (p - i) = p by omega, if_pos (by rw [h3, h4.some]; rfl)]
        exact List.mem_map.2 ⟨w', ih.2 h4, rfl⟩
theorem IsWay.mem {l : List Sy} {i j : Nat} {w : List Ky} (h : IsWay D l i j w) : ∀ q ∈ w, D q = true ∧ i ≤ q.2.1 ∧ q.2.1 ≤ q.2.2 ∧ q.2.2 ≤ j ∧ q.1 ∈ l := by
  induction h with
  | nil i => intro q hq; simp at hq
  | cons h1 h2 h3 h4 ih =>
    intro q hq
    rcases List.mem_cons.1 hq with rfl | hq
    · exact ⟨h3, Nat.le_refl _, h1, h2, by simp⟩
    · obtain ⟨k1, k2, k3, k4, k5⟩ := ih q hq
      exact ⟨k1, by omega, k3, k4, by simp [k5]⟩
theorem IsWay.len {l : List Sy} {i j : Nat} {w : List Ky} (h : IsWay D l i j w) : w.length = l.length := by
  induction h with
  | nil i => rfl
  | cons _ _ _ _ ih => simp [ih]
theorem packN_mem {R : List Ru} {k : Ky} {n : Nat} {p : Nat × List Ky} (h : p ∈ packN D R k n) : p.1 = n ∧ k.1.1 = false ∧ ∃ u, R[n]? = some u ∧ u.1 = k.1.2 ∧ IsWay D u.2 k.2.1 k.2.2 p.2 := by
  unfold packN at h
  cases hu : R[n]? with
  | none => rw [hu] at h; simp at h
  | some u =>
    rw [hu] at h
    simp only at h
    by_cases e : u.1 = k.1.2 ∧ k.1.1 = false
    · rw [if_pos e] at h
      obtain ⟨w, hw, rfl⟩ := List.mem_map.1 h
      exact ⟨rfl, e.2, u, rfl, e.1, ways_iff.1 hw⟩
    · rw [if_neg e] at h; simp at h
theorem packs_mem {R : List Ru} {k : Ky} {p : Nat × List Ky} (h : p ∈ packsF D R k) : k.1.1 = false ∧ ∃ u, R[p.1]? = some u ∧ u.1 = k.1.2 ∧ IsWay D u.2 k.2.1 k.2.2 p.2 := by
  unfold packsF packT at h
  obtain ⟨n, -, h⟩ := List.mem_flatMap.1 h
  obtain ⟨rfl, h2, h3⟩ := packN_mem h
  exact ⟨h2, h3⟩
theorem packs_mem2 {R : List Ru} {k : Ky} {n : Nat} {u : Ru} {w : List Ky} (h1 : k.1.1 = false) (h2 : R[n]? = some u) (h3 : u.1 = k.1.2) (h4 : IsWay D u.2 k.2.1 k.2.2 w) : (n, w) ∈ packsF D R k := by
  unfold packsF packT
  refine List.mem_flatMap.2 ⟨n, List.mem_range.2 (List.getElem?_eq_some_iff.1 h2).1, ?_⟩
  unfold packN
  rw [h2]
  simp only [h3, h1, and_self, if_true]
  exact List.mem_map.2 ⟨w, ways_iff.2 h4, rfl⟩
theorem packT_next (R : List Ru) (k : Ky) (m : Nat) : packT D R k (m + 1) = packT D R k m ++ packN D R k m := by
  unfold packT; rw [List.range_succ, List.flatMap_append]; simp

/-! ### the order of nodes -/
/-- keys of small size: their number tells them -/
def Ky.Ok (k : Ky) : Prop := k.2.1 < 100 ∧ k.2.2 < 100 ∧ k.1.2 < 100
end
end Go.Proofs.YtfmnmgnhanogmaaDoor




namespace Go.Proofs.YtfmnmgnhanogmaaDoor
open Go.RowKit

/-- of the trees of a part, the one that comes first -/
def IsBest (R : List Ru) (W : List Nat) (k : Ky) (t : Tr) : Prop := DrL R W [k.1] k.2.1 k.2.2 [t] ∧ ∀ u, DrL R W [k.1] k.2.1 k.2.2 [u] → u = t ∨ LtF [t] [u]
/-- a tree for each part of a way -/
inductive AlgW (R : List Ru) (W : List Nat) : List Ky → List Tr → Prop
  | nil : AlgW R W [] []
  | cons (k : Ky) (ks : List Ky) (t : Tr) (ts : List Tr) (h : DrL R W [k.1] k.2.1 k.2.2 [t]) (h2 : AlgW R W ks ts) : AlgW R W (k :: ks) (t :: ts)
section
variable {R : List Ru} {W : List Nat} {D : Ky → Bool}
theorem LtF.trans : ∀ {a b c : List Tr}, LtF a b → LtF b c → LtF a c := by
  intro a b c h
  induction h generalizing c with
  | head r q ks ls ts us h =>
    intro e
    cases e with
    | head _ q' _ ls' _ us' h2 => exact .head r q' _ _ _ _ (by omega)
    | inner _ _ ls' _ us' h2 => exact .head r q _ _ _ _ h
    | tail _ _ us' h2 => exact .head r q _ _ _ _ h
  | inner r ks ls ts us h ih =>
    intro e
    cases e with
    | head _ q' _ ls' _ us' h2 => exact .head r q' _ _ _ _ h2
    | inner _ _ ls' _ us' h2 => exact .inner r _ _ _ _ (ih h2)
    | tail _ _ us' h2 => exact .inner r _ _ _ _ h
  | tail t ts us h ih =>
    intro e
    cases e with
    | head _ q' _ ls' _ us' h2 => exact .head _ q' _ _ _ _ h2
    | inner _ _ ls' _ us' h2 => exact .inner _ _ _ _ _ h2
    | tail _ _ us' h2 => exact .tail _ _ _ (ih h2)
theorem IsBest.uniq {k : Ky} {t u : Tr} (h : IsBest R W k t) (h' : IsBest R W k u) : t = u := by
  rcases h.2 u h'.1 with e | h1
  · exact e.symm
  · rcases h'.2 t h.1 with e | h2
    · exact e
    · exact (h1.asym h2).elim
/-- a row of trees goes along a way -/
theorem way_of (hD : ∀ k t, k.2.1 ≤ W.length → DrL R W [k.1] k.2.1 k.2.2 [t] → D k = true) : ∀ {l : List Sy} {i j : Nat} {ts : List Tr}, i ≤ W.length → DrL R W l i j ts → ∃ w, IsWay D l i j w ∧ AlgW R W w ts
  | [], i, j, ts, hi, h => by cases h; exact ⟨[], .nil i, .nil⟩
  | s :: l, i, j, ts, hi, h => by
    obtain ⟨t, us, m, rfl, h1, h2⟩ := DrL.cons.1 h
    obtain ⟨a1, a2, _⟩ := h1.end hi
    obtain ⟨b1, b2, _⟩ := h2.end a2
    obtain ⟨w, hw, ha⟩ := way_of hD a2 h2
    exact ⟨(s, i, m) :: w, .cons a1 b1 (hD (s, i, m) t hi h1) hw, .cons (s, i, m) w t us h1 ha⟩
theorem row_of {l : List Sy} {i j : Nat} {w : List Ky} (h : IsWay D l i j w) : ∀ {ts : List Tr}, AlgW R W w ts → DrL R W l i j ts := by
  induction h with
  | nil i => intro ts h; cases h; exact .nil i
  | cons h1 h2 h3 h4 ih => intro ts h; cases h with
    | cons _ _ t ts ht hr => exact DrL.cons.2 ⟨t, ts, _, rfl, ht, ih hr⟩
/-- along one way the first trees of the parts come first -/
theorem best_row {b : Ky → Tr} : ∀ {w : List Ky} {ts : List Tr}, (∀ k ∈ w, IsBest R W k (b k)) → AlgW R W w ts → ts = w.map b ∨ LtF (w.map b) ts
  | [], ts, _, h => by cases h; exact Or.inl rfl
  | k :: w, ts, hb, h => by
    cases h with
    | cons _ _ t ts ht hr =>
      rcases (hb k (List.mem_cons_self ..)).2 t ht with rfl | h1
      · rcases best_row (fun q hq => hb q (List.mem_cons_of_mem _ hq)) hr with rfl | h2
        · exact Or.inl rfl
        · exact Or.inr (.tail _ _ _ h2)
      · exact Or.inr (h1.wide _ _)
theorem alg_best {b : Ky → Tr} : ∀ {w : List Ky}, (∀ k ∈ w, IsBest R W k (b k)) → AlgW R W w (w.map b)
  | [], _ => .nil
  | k :: w, hb => .cons k w (b k) (w.map b) (hb k (List.mem_cons_self ..)).1 (alg_best fun q hq => hb q (List.mem_cons_of_mem _ hq))
/-- a pack's tree is a tree of the part -/
theorem pack_tree {b : Ky → Tr} {k : Ky} {p : Nat × List Ky} (hp : p ∈ packsF D R k) (hb : ∀ q ∈ p.2, IsBest R W q (b q)) : DrL R W [k.1] k.2.1 k.2.2 [.node p.1 (p.2.map b)] := by
  obtain ⟨h1, u, h2, h3, h4⟩ := packs_mem hp
  obtain ⟨⟨t, n⟩, i, j⟩ := k
  simp only at h1 h3 h4
  subst h1; subst h3
  exact .node u.1 p.1 i j j u.2 [] _ [] h2 (row_of h4 (alg_best hb)) (.nil j)
/-- the first of the packs' trees is the first of all -/
theorem best_packs (hD : ∀ k t, k.2.1 ≤ W.length → DrL R W [k.1] k.2.1 k.2.2 [t] → D k = true) {b : Ky → Tr} {k : Ky} (hk : k.1.1 = false) (hi : k.2.1 ≤ W.length) {t : Tr} (hb : ∀ p ∈ packsF D R k, ∀ q ∈ p.2, IsBest R W q (b q))
    (h1 : ∃ p ∈ packsF D R k, t = .node p.1 (p.2.map b)) (h2 : ∀ p ∈ packsF D R k, Tr.node p.1 (p.2.map b) = t ∨ LtF [t] [.node p.1 (p.2.map b)]) : IsBest R W k t := by
  obtain ⟨p, hp, rfl⟩ := h1
  refine ⟨pack_tree hp (hb p hp), fun u hu => ?_⟩
  obtain ⟨⟨t, n⟩, i, j⟩ := k
  simp only at hk hi hu
  subst hk
  cases hu with
  | node _ r _ m _ rhs _ ks _ hr h3 h4 =>
    cases h4
    obtain ⟨w, hw, ha⟩ := way_of hD hi h3
    have hm : (r, w) ∈ packsF D R ((false, n), i, j) := packs_mem2 rfl hr rfl hw
    have hle : Tr.node r ks = .node r (w.map b) ∨ LtF [.node r (w.map b)] [.node r ks] := by
      rcases best_row (hb _ hm) ha with rfl | h
      · exact Or.inl rfl
      · exact Or.inr (.inner _ _ _ _ _ h)
    rcases hle with e | h
    · rw [e]; exact h2 _ hm
    · rcases h2 _ hm with e | h5
      · rw [← e]; exact Or.inr h
      · exact Or.inr (h5.trans h)
/-- a tree of a terminal's part is its leaf -/
theorem best_leaf {a i j : Nat} {t : Tr} (h : DrL R W [(true, a)] i j [t]) : t = .leaf a ∧ IsBest R W ((true, a), i, j) (.leaf a) := by
  cases h with
  | leaf _ _ _ _ _ h1 h2 =>
    cases h2
    refine ⟨rfl, .leaf a i _ [] [] h1 (.nil _), fun u hu => ?_⟩
    cases hu with
    | leaf _ _ _ _ _ _ h2 => exact Or.inl rfl
/-- the rules of the packs rise -/
theorem packs_rise {k : Ky} : (packsF D R k).Pairwise fun p q => p.1 ≤ q.1 := by
  unfold packsF packT
  rw [List.pairwise_flatMap]
  refine ⟨fun n _ => ?_, ?_⟩
  · refine List.Pairwise.imp_of_mem (R := fun _ _ => True) (fun ha hb _ => ?_) (List.pairwise_of_forall fun _ _ => trivial)
    rw [(packN_mem ha).1, (packN_mem hb).1]; exact Nat.le_refl _
  · refine List.pairwise_lt_range.imp fun hlt p hp q hq => ?_
    rw [(packN_mem hp).1, (packN_mem hq).1]; exact Nat.le_of_lt hlt
/-- a part of a way is shorter, or it is the whole and all ahead of it is empty -/
theorem way_fall (h0 : ∀ k, D k = true → k.2.1 = k.2.2 → NulL R [k.1]) {l : List Sy} {i j : Nat} {w : List Ky} (h : IsWay D l i j w) : ∀ q ∈ w, q.2.2 - q.2.1 < j - i ∨ (q.2 = (i, j) ∧ ∃ a b, l = a ++ q.1 :: b ∧ NulL R a) := by
  induction h with
  | nil i => intro q hq; exact absurd hq List.not_mem_nil
  | @cons s l i p j w h1 h2 h3 h4 ih =>
    intro q hq
    rcases List.mem_cons.1 hq with rfl | hq2
    · by_cases he : p = j
      · exact Or.inr ⟨by rw [he], [], l, rfl, fun x hx => absurd hx List.not_mem_nil⟩
      · exact Or.inl (by simp only; omega)
    · obtain ⟨k1, k2, k3, k4, k5⟩ := h4.mem q hq2
      by_cases he : i = p
      · subst he
        rcases ih q hq2 with h | ⟨h, a, b, rfl, ha⟩
        · exact Or.inl h
        · refine Or.inr ⟨h, s :: a, b, rfl, fun x hx => ?_⟩
          rcases List.mem_cons.1 hx with rfl | hx
          · exact h0 _ h3 rfl x (List.mem_cons_self ..)
          · exact ha x hx
      · exact Or.inl (by omega)
/-- where no nonterminal begins with itself, each part that has a tree has a first one -/
theorem best_ex {E : Nat → Nat → Bool} {N : Nat} (hD : ∀ i j, E i j = true → i < N ∧ j < N) (hB : ∀ i j, BegM R i j → E i j = true) (hno : ∀ i, ¬ Plus E i i) {k : Ky} (hk : k.2.1 ≤ W.length) (h : ∃ t, DrL R W [k.1] k.2.1 k.2.2 [t]) : ∃ t, IsBest R W k t := by
  obtain ⟨d, L, hL⟩ := en_ex (W := W) hD hB hno (W.length - k.2.1) k.2.1 hk (Nat.le_refl _) k.1
  cases hf : L.find? (fun p => p.2 == k.2.2) with
  | none => obtain ⟨t, ht⟩ := h; exact (en_none hL hf t ht).elim
  | some p => exact ⟨p.1, (en_first hL hf).1, (en_first hL hf).2⟩
end
end Go.Proofs.YtfmnmgnhanogmaaDoor



namespace Go.Proofs.YtfmnmgnhanogmaaDoor
open Go.RowKit

/-! ### rows by folding -/
/-! ### cells, and words that fit them -/
abbrev Ce := Bool × Int
def gpart {α : Type} (w : List α) (i j : Nat) : List α := (w.take j).drop i
section
variable {α : Type}
theorem gpart_one {w : List α} {i : Nat} {c : α} (h : gpart w i (i + 1) = [c]) : w[i]? = some c := by
  have : (gpart w i (i + 1))[0]? = some c := by rw [h]; rfl
  unfold gpart at this
  rw [List.getElem?_drop, List.getElem?_take, if_pos (by omega)] at this
  exact this
theorem gpart_at {w : List α} {i : Nat} {c : α} (h : w[i]? = some c) : gpart w i (i + 1) = [c] := by
  have hl := List.getElem?_eq_some_iff.1 h
  have hl1 := hl.1
  unfold gpart
  rw [List.take_succ_eq_append_getElem hl.1, List.drop_append_of_le_length (by rw [List.length_take]; omega), List.drop_of_length_le (by rw [List.length_take]; omega), hl.2]; rfl
end
section
variable {rules : List Ru}
end

/-! ### the table of hole -/
section
variable {rules : List Ru} {cells : List Ce} {st : WSt}
end
section
variable {rules : List Ru} {cells : List Ce} {st stI : WSt} {r : Ru} {i j nons : Nat}
end
end Go.Proofs.YtfmnmgnhanogmaaDoor





namespace Go.Proofs.YtfmnmgnhanogmaaDoor
open Go.RowKit

/-! ### the or of some masks, one for each bit -/
def gath (C : Nat → Nat) : Nat → Nat → Nat
  | 0, _ => 0
  | m + 1, y => if y.testBit m then gath C m y ||| C m else gath C m y
theorem gath_bit (C : Nat → Nat) (y j : Nat) : ∀ m, (gath C m y).testBit j = true ↔ ∃ p, p < m ∧ y.testBit p = true ∧ (C p).testBit j = true
  | 0 => by simp [gath]
  | m + 1 => by
    rw [gath]
    by_cases hm : y.testBit m = true
    · rw [if_pos hm, Nat.testBit_or, Bool.or_eq_true, gath_bit C y j m]
      constructor
      · rintro (⟨p, h1, h2, h3⟩ | h)
        · exact ⟨p, by omega, h2, h3⟩
        · exact ⟨m, by omega, hm, h⟩
      · rintro ⟨p, h1, h2, h3⟩
        by_cases e : p = m
        · subst e; exact Or.inr h3
        · exact Or.inl ⟨p, by omega, h2, h3⟩
    · rw [if_neg hm, gath_bit C y j m]
      constructor
      · rintro ⟨p, h1, h2, h3⟩; exact ⟨p, by omega, h2, h3⟩
      · rintro ⟨p, h1, h2, h3⟩
        by_cases e : p = m
        · subst e; exact absurd h2 hm
        · exact ⟨p, by omega, h2, h3⟩
theorem gath_zero (C : Nat → Nat) : ∀ m, gath C m 0 = 0
  | 0 => rfl
  | m + 1 => by rw [gath, if_neg (by simp), gath_zero C m]
/-- the lowest bit taken away -/
theorem low_bit {x : Nat} (h0 : x ≠ 0) (h : x < 4294967296) : ∃ k, k = Lib.ctz 32 x ∧ k < 32 ∧ x &&& (x - 1) < x ∧ ∀ p, x.testBit p = true ↔ p = k ∨ (x &&& (x - 1)).testBit p = true := by
  obtain ⟨m, hm, hk⟩ := Lib.ctzFrom_spec 32 x (by omega) (by omega)
  have e : Lib.ctz 32 x = Lib.ctzFrom 32 x := by simp [Lib.ctz, h0]
  rw [e]
  generalize Lib.ctzFrom 32 x = k at *
  have hp : 0 < 2 ^ k := Nat.pos_of_ne_zero (by simp)
  have key : ∀ p, (x - 1).testBit p = if p < k then true else if p = k then false else x.testBit p := by
    intro p
    have e1 : x - 1 = 2 ^ k * (2 * m) + (2 ^ k - 1) := by rw [hm, Nat.mul_add]; omega
    rw [e1, Nat.testBit_two_pow_mul_add _ (by omega), Nat.testBit_two_pow_sub_one]
    by_cases h1 : p < k
    · simp [h1]
    · rw [if_neg h1, if_neg h1, hm, Nat.mul_comm (2 ^ k), Nat.testBit_mul_two_pow]
      by_cases h2 : p = k
      · subst h2; simp [Nat.testBit_zero]
      · obtain ⟨q, rfl⟩ : ∃ q, p = k + (q + 1) := ⟨p - k - 1, by omega⟩
        rw [if_neg h2]
        have e2 : k + (q + 1) - k = q + 1 := by omega
        rw [e2, Nat.testBit_succ, Nat.testBit_succ]
        have d1 : 2 * m / 2 = m := by omega
        have d2 : (2 * m + 1) / 2 = m := by omega
        rw [d1, d2]; simp
  have hx : ∀ p, x.testBit p = if p < k then false else if p = k then true else x.testBit p := by
    intro p
    by_cases h1 : p < k
    · rw [if_pos h1, hm, Nat.mul_comm (2 ^ k), Nat.testBit_mul_two_pow]; simp; omega
    · rw [if_neg h1]
      by_cases h2 : p = k
      · subst h2; rw [if_pos rfl, hm, Nat.mul_comm (2 ^ p), Nat.testBit_mul_two_pow]; simp [Nat.testBit_zero]
      · rw [if_neg h2]
  refine ⟨k, rfl, hk, ?_, fun p => ?_⟩
  · have := Nat.and_le_right (n := x) (m := x - 1); omega
  · rw [Nat.testBit_and, key]
    by_cases h1 : p < k
    · have := hx p; rw [if_pos h1] at this
      simp [h1, this]; omega
    · rw [if_neg h1]
      by_cases h2 : p = k
      · subst h2
        have := hx p; rw [if_neg h1, if_pos rfl] at this
        simp [this]
      · simp [h2]
theorem gath_step (C : Nat → Nat) {x : Nat} (h0 : x ≠ 0) (h : x < 4294967296) : gath C 32 x = C (Lib.ctz 32 x) ||| gath C 32 (x &&& (x - 1)) := by
  obtain ⟨k, rfl, hk, _, hb⟩ := low_bit h0 h
  apply Nat.eq_of_testBit_eq
  intro j
  rw [Nat.testBit_or]
  have e1 := gath_bit C x j 32
  have e2 := gath_bit C (x &&& (x - 1)) j 32
  rw [Bool.eq_iff_iff, Bool.or_eq_true, e1, e2]
  constructor
  · rintro ⟨p, h1, h2, h3⟩
    rcases (hb p).1 h2 with rfl | h4
    · exact Or.inl h3
    · exact Or.inr ⟨p, h1, h4, h3⟩
  · rintro (h3 | ⟨p, h1, h2, h3⟩)
    · exact ⟨_, hk, (hb _).2 (Or.inl rfl), h3⟩
    · exact ⟨p, h1, (hb p).2 (Or.inr h2), h3⟩

/-! ### ends -/
abbrev EnS := Nat → Nat → Nat
def cOf (xs : List Int) (E : EnS) (s : Sy) (p : Nat) : Nat := if s.1 then (if xs[p]? = some (s.2 : Int) then 2 ^ (p + 1) else 0) else E s.2 p
def stepM (xs : List Int) (E : EnS) (s : Sy) (y : Nat) : Nat := gath (cOf xs E s) 32 y
def reachM (xs : List Int) (E : EnS) (l : List Sy) (i : Nat) : Nat := l.foldl (fun y s => stepM xs E s y) (2 ^ i)
theorem reachM_snoc (xs : List Int) (E : EnS) (l : List Sy) (s : Sy) (i : Nat) : reachM xs E (l ++ [s]) i = stepM xs E s (reachM xs E l i) := by simp [reachM, List.foldl_append]
theorem stepM_bit {xs : List Int} {E : EnS} {s : Sy} {y j : Nat} : (stepM xs E s y).testBit j = true ↔ ∃ p, p < 32 ∧ y.testBit p = true ∧ (cOf xs E s p).testBit j = true := gath_bit _ _ _ _
structure SndE (rules : List Ru) (xs : List Int) (E : EnS) : Prop where
  snd : ∀ N i j, (E N i).testBit j = true → i ≤ j ∧ j ≤ xs.length ∧ Dv rules [(false, N)] (part xs i j)
section
variable {rules : List Ru} {xs : List Int} {E : EnS}
theorem SndE.start (rules : List Ru) (xs : List Int) : SndE rules xs (fun _ _ => 0) := ⟨fun _ _ _ h => by simp at h⟩
theorem lt_of_bits {n x : Nat} (h : ∀ j, x.testBit j = true → j ≤ n) : x < 2 ^ (n + 1) :=
  Nat.lt_pow_two_of_testBit x fun j hj => by
    cases hb : x.testBit j with
    | false => rfl
    | true => have := h j hb; omega
theorem SndE.lt (h : SndE rules xs E) (N i : Nat) : E N i < 2 ^ (xs.length + 1) := lt_of_bits fun j hj => (h.snd N i j hj).2.1
theorem SndE.reach (h : SndE rules xs E) (l : List Sy) {i : Nat} (hi : i ≤ xs.length) : ∀ j, (reachM xs E l i).testBit j = true → i ≤ j ∧ j ≤ xs.length ∧ Dv rules l (part xs i j) := by
  induction l using snoc_induction with
  | h0 =>
    intro j hj
    simp only [reachM, List.foldl_nil, Nat.testBit_two_pow, decide_eq_true_eq] at hj
    subst hj
    exact ⟨Nat.le_refl _, hi, by rw [part_same]; exact .nil⟩
  | hs l s ih =>
    intro j hj
    rw [reachM_snoc, stepM_bit] at hj
    obtain ⟨p, hp, h1, h2⟩ := hj
    obtain ⟨h3, h4, h5⟩ := ih p h1
    obtain ⟨b, t⟩ := s
    cases b with
    | false =>
      simp only [cOf, Bool.false_eq_true, if_false] at h2
      obtain ⟨h6, h7, h8⟩ := h.snd _ _ _ h2
      exact ⟨by omega, h7, by rw [← part_append h3 h6]; exact h5.append h8⟩
    | true =>
      simp only [cOf, if_true] at h2
      by_cases hx : xs[p]? = some (t : Int)
      · rw [if_pos hx, Nat.testBit_two_pow, decide_eq_true_eq] at h2
        subst h2
        have hl := (List.getElem?_eq_some_iff.1 hx).1
        refine ⟨by omega, by omega, ?_⟩
        rw [← part_append h3 (Nat.le_succ p)]
        have e : part xs p (p + 1) = [(t : Int)] := gpart_at hx
        rw [e]
        exact h5.append (Dv.letter t)
      · rw [if_neg hx] at h2; simp at h2
theorem SndE.put (h : SndE rules xs E) {r : Ru} (hr : r ∈ rules) {i : Nat} (hi : i ≤ xs.length) : SndE rules xs (fun N k => if N = r.1 ∧ k = i then E r.1 i ||| reachM xs E r.2 i else E N k) := by
  refine ⟨fun N k j hj => ?_⟩
  by_cases e : N = r.1 ∧ k = i
  · obtain ⟨rfl, rfl⟩ := e
    rw [if_pos ⟨rfl, rfl⟩, Nat.testBit_or, Bool.or_eq_true] at hj
    rcases hj with hj | hj
    · exact h.snd _ _ _ hj
    · obtain ⟨h1, h2, h3⟩ := h.reach r.2 hi j hj
      exact ⟨h1, h2, Dv.one hr h3⟩
  · rw [if_neg e] at hj; exact h.snd _ _ _ hj
/-- nothing more is found -/
def FixE (rules : List Ru) (xs : List Int) (E : EnS) : Prop := ∀ r ∈ rules, ∀ i, i ≤ xs.length → ∀ j, (reachM xs E r.2 i).testBit j = true → (E r.1 i).testBit j = true
theorem FixE.all (hf : FixE rules xs E) (hl : xs.length < 32) {l : List Sy} {v : List Int} (h : Dv rules l v) : ∀ i j, i ≤ j → j ≤ xs.length → v = part xs i j → ∀ l0 a, (reachM xs E l0 a).testBit i = true → (reachM xs E (l0 ++ l) a).testBit j = true := by
  induction h with
  | nil =>
    intro i j h1 h2 e l0 a ha
    have := part_len (i := i) h2
    rw [← e] at this
    simp at this
    obtain rfl : i = j := by omega
    simpa using ha
  | @term t l v h ih =>
    intro i j h1 h2 e l0 a ha
    obtain ⟨m, m1, m2, e1, e2⟩ := part_split (p1 := [(t : Int)]) h1 h2 e.symm
    have hm : m = i + 1 := by
      have := part_len (w := xs) (i := i) (j := m) (by omega)
      rw [e1] at this; simp at this; omega
    subst hm
    have hx : xs[i]? = some (t : Int) := gpart_one e1
    have := ih (i + 1) j m2 h2 e2.symm (l0 ++ [(true, t)]) a (by
      rw [reachM_snoc, stepM_bit]
      exact ⟨i, by omega, ha, by simp [cOf, hx]⟩)
    simpa using this
  | @non N rhs l u v hr hu hv ih1 ih2 =>
    intro i j h1 h2 e l0 a ha
    obtain ⟨m, m1, m2, e1, e2⟩ := part_split h1 h2 e.symm
    have h3 := ih1 i m m1 (by omega) e1.symm [] i (by simp [reachM])
    have h4 : (E N i).testBit m = true := hf _ hr i (by omega) m (by simpa using h3)
    have := ih2 m j m2 h2 e2.symm (l0 ++ [(false, N)]) a (by
      rw [reachM_snoc, stepM_bit]
      exact ⟨i, by omega, ha, by simpa [cOf] using h4⟩)
    simpa using this
theorem ends_iff (hs : SndE rules xs E) (hf : FixE rules xs E) (hl : xs.length < 32) (N : Nat) : (E N 0).testBit xs.length = true ↔ Dv rules [(false, N)] xs := by
  constructor
  · intro h
    have := (hs.snd N 0 _ h).2.2
    rwa [part_all] at this
  · intro h
    have := hf.all hl h 0 xs.length (Nat.zero_le _) (Nat.le_refl _) (part_all xs).symm [] 0 (by simp [reachM])
    rw [List.nil_append, show [(false, N)] = [] ++ [((false, N) : Sy)] from rfl, reachM_snoc, stepM_bit] at this
    obtain ⟨p, hp, h1, h2⟩ := this
    simp only [reachM, List.foldl_nil, Nat.testBit_two_pow, decide_eq_true_eq] at h1
    subst h1
    simpa [cOf] using h2
end

/-! ### how much is still to be found -/
def totE (nons n : Nat) (E : EnS) : Nat := sumTo (fun N => sumTo (fun i => 8192 - E N i) (n + 1)) nons
theorem totE_lt {nons n : Nat} {E : EnS} {N i y : Nat} (hN : N < nons) (hi : i ≤ n) (h : E N i < y) (hy : y ≤ 8192) : totE nons n (fun a b => if a = N ∧ b = i then y else E a b) < totE nons n E := by
  have key : ∀ a b, 8192 - (if a = N ∧ b = i then y else E a b) ≤ 8192 - E a b := fun a b => by
    by_cases e : a = N ∧ b = i
    · obtain ⟨rfl, rfl⟩ := e; rw [if_pos ⟨rfl, rfl⟩]; omega
    · rw [if_neg e]; exact Nat.le_refl _
  refine sumTo_lt (k := N) (fun a => sumTo_le _ fun b => key a b) hN (sumTo_lt (k := i) (fun b => key N b) (by omega) ?_)
  show 8192 - (if N = N ∧ i = i then y else E N i) < 8192 - E N i
  rw [if_pos ⟨rfl, rfl⟩]; omega
theorem or_lt_of {e x : Nat} (h : x &&& (4294967295 - e) ≠ 0) (he : e < 4294967296) : e < e ||| x := by
  have h1 : e ≤ e ||| x := Nat.left_le_or
  rcases Nat.lt_or_eq_of_le h1 with h2 | h2
  · exact h2
  · exfalso
    apply h
    apply Nat.eq_of_testBit_eq
    intro j
    rw [Nat.zero_testBit, Nat.testBit_and, show 4294967295 - e = 2 ^ 32 - (e + 1) by omega, Nat.testBit_two_pow_sub_succ (by omega)]
    have h3 : (e ||| x).testBit j = e.testBit j := by rw [← h2]
    rw [Nat.testBit_or] at h3
    cases hx : x.testBit j with
    | false => rfl
    | true =>
      rw [hx, Bool.or_true] at h3
      rw [← h3]; simp
theorem sub_of {e x : Nat} (h : x &&& (4294967295 - e) = 0) (he : e < 4294967296) (hx : x < 4294967296) (j : Nat) (hj : x.testBit j = true) : e.testBit j = true := by
  have h1 : (x &&& (4294967295 - e)).testBit j = false := by rw [h]; simp
  rw [Nat.testBit_and, show 4294967295 - e = 2 ^ 32 - (e + 1) by omega, Nat.testBit_two_pow_sub_succ (by omega), hj] at h1
  have hjl : j < 32 := by
    rcases Nat.lt_or_ge j 32 with h2 | h2
    · exact h2
    · have := Nat.testBit_lt_two_pow (x := x) (i := j) (Nat.lt_of_lt_of_le hx (by
        have := Nat.pow_le_pow_right (n := 2) (by omega) h2
        omega))
      rw [this] at hj; cases hj
  simpa [hjl] using h1
end Go.Proofs.YtfmnmgnhanogmaaDoor

