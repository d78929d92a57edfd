/- Texts OC, LK, BK, OD, laid together. -/
import Derived.Test.YtfmnmgnhanogmaaDoorQ3
import Derived.Test.YtfmnmgnhanogmaaDoorQ17
import Derived.Test.YtfmnmgnhanogmaaDoorQ11
import Derived.Test.YtfmnmgnhanogmaaDoorQ4
import Derived.Test.YtfmnmgnhanogmaaDoorQ15
import Derived.Test.YtfmnmgnhanogmaaDoorQ12
import Derived.Test.YtfmnmgnhanogmaaDoorQ16
import Derived.StillTailTactics
import Derived.BigQuiet
import Derived.LaidEqlPtr






namespace Go.Proofs.YtfmnmgnhanogmaaDoor
open Go.RowKit

theorem trCells_inj {x y : TrV} (h : ∀ (j : Nat) (u : Value), (trCells x)[j]? = some u → (trCells y)[j]? = some u) : x = y := by
  obtain ⟨a, b, A, n, c⟩ := x
  obtain ⟨a', b', A', n', c'⟩ := y
  have h0 := h 0 _ rfl
  have h1 := h 1 _ rfl
  have h2 := h 2 _ rfl
  simp only [trCells, List.getElem?_cons_zero, List.getElem?_cons_succ, Option.some.injEq, Value.int.injEq, Value.slice.injEq, true_and] at h0 h1 h2
  obtain ⟨e1, e2, e3⟩ := h2
  rw [h0, h1, e1, e2, e3]
/-- what lies at one place reads as one tree -/
theorem TreeR.det {ok ok' : Nat → Prop} {w : World} {v : TrV} {t : Tr} (h : TreeR ok w v t) : ∀ {u : Tr}, TreeR ok' w v u → t = u := by
  induction h with
  | leaf t A c =>
    intro u h'
    generalize hv : ((-1, (t : Int), A, 0, c) : TrV) = v at h'
    cases h' with
    | leaf t' A' c' =>
      simp only [Prod.mk.injEq, true_and] at hv
      obtain ⟨h1, -⟩ := hv
      congr 1; omega
    | node r A' n c' kids raw hl hc hr hcel hk => simp only [Prod.mk.injEq] at hv; omega
  | node r A n c kids raw hl hc hr hcel hk ih =>
    intro u h'
    generalize hv : (((r : Int), 0, A, n, c) : TrV) = v at h'
    cases h' with
    | leaf t' A' c' => simp only [Prod.mk.injEq] at hv; omega
    | node r' A' n' c' kids' raw' hl' hc' hr' hcel' hk' =>
      simp only [Prod.mk.injEq, true_and] at hv
      obtain ⟨h1, h2, h3, h4⟩ := hv
      obtain rfl : r = r' := by omega
      subst h2 h3 h4
      congr 1
      refine List.ext_getElem (by omega) fun i hi hi' => ?_
      have ex : raw[i]? = some raw[i] := List.getElem?_eq_getElem (by omega)
      have ey : raw'[i]? = some raw'[i] := List.getElem?_eq_getElem (by omega)
      have hne : ∀ l : List TrV, l.length = n → l.flatMap trCells ≠ [] := fun l hl0 e => by
        have := flat_len (E := TrE) l
        have e' : flat TrE l = [] := e
        rw [e', hl0] at this
        have : n * TrE.k = 0 := this.symm
        have h3 : TrE.k = 3 := rfl
        rw [h3] at this; omega
      obtain ⟨b, off, e1, -, hc1⟩ := hcel (hne raw hr)
      obtain ⟨b', off', e1', -, hc1'⟩ := hcel' (hne raw' hr')
      rw [e1] at e1'
      simp only [Option.some.injEq, Addr.mk.injEq, and_true] at e1'
      obtain ⟨rfl, rfl⟩ := e1'
      have exy : raw[i] = raw'[i] := by
        refine trCells_inj fun j u hu => ?_
        have hj : j < 3 := (List.getElem?_eq_some_iff.1 hu).1
        have k1 := hc1 _ u (flat_at (E := TrE) raw i raw[i] j u ex hu)
        have hy' : (trCells raw'[i])[j]? = some ((trCells raw'[i])[j]'(by simpa [trCells] using hj)) := List.getElem?_eq_getElem _
        have k2 := hc1' _ _ (flat_at (E := TrE) raw' i raw'[i] j _ ey hy')
        rw [k1] at k2
        rw [hy', ← Option.some.inj k2]
      have := ih i raw[i] kids[i] ex (List.getElem?_eq_getElem _) (hk' i raw[i] kids'[i] (by rw [ey, exy]) (List.getElem?_eq_getElem _))
      exact this
/-- a tree lies at this place -/
def AtT (ok : Nat → Prop) (w : World) (b o : Nat) (t : Tr) : Prop := ∃ v : TrV, TreeR ok w v t ∧ ok b ∧ ∀ j u, (trCells v)[j]? = some u → w.cell? ⟨b, o + j, none⟩ = some u
section
variable {ok ok' : Nat → Prop} {w w' : World} {b o : Nat} {t u : Tr}
theorem AtT.agr (h : AtT ok w b o t) (k : Agr ok w w') : AtT ok w' b o t := by
  obtain ⟨v, h1, h2, h3⟩ := h
  exact ⟨v, h1.agr k, h2, fun j u hu => k.cell h2 (h3 j u hu)⟩
theorem AtT.via (h : AtT ok w b o t) (k : Below w.heap.size w w') : AtT ok w' b o t := h.agr (Agr.below k)
theorem AtT.mono (h : AtT ok w b o t) (k : ∀ b, b < w.heap.size → ok b → ok' b) : AtT ok' w b o t := by
  obtain ⟨v, h1, h2, h3⟩ := h
  exact ⟨v, h1.mono k, k b (World.block_lt_of_cell? w _ (h3 0 _ rfl)) h2, h3⟩
theorem AtT.det (h : AtT ok w b o t) (h' : AtT ok' w b o u) : t = u := by
  obtain ⟨v, h1, h2, h3⟩ := h
  obtain ⟨v', h1', h2', h3'⟩ := h'
  have e : v = v' := trCells_inj fun j x hx => by
    have k1 := h3 j x hx
    have hj : j < 3 := (List.getElem?_eq_some_iff.1 hx).1
    have hy' : (trCells v')[j]? = some ((trCells v')[j]'(by simpa [trCells] using hj)) := List.getElem?_eq_getElem _
    have k2 := h3' j _ hy'
    rw [k1] at k2
    rw [hy', ← Option.some.inj k2]
  subst e
  exact h1.det h1'
end
theorem CmpT.refl (t : Tr) : CmpT t t 0 := ⟨fun h => by omega, fun _ => rfl, fun h => by omega⟩
/-- a block of plain cells -/
def okC (w : World) (b : Nat) : Prop := ∃ cs t, w.heap[b]? = some (.cells cs t (0, 0))
theorem okC.lt {w : World} {b : Nat} (h : okC w b) : b < w.heap.size := by obtain ⟨cs, t, h⟩ := h; exact (Array.getElem?_eq_some_iff.1 h).1
theorem okC.via {w w' : World} {b : Nat} (h : okC w b) (k : Below w.heap.size w w') : okC w' b := by
  have hl := h.lt
  obtain ⟨cs, t, h⟩ := h; exact ⟨cs, t, (k.block b hl).trans h⟩
theorem Blk.okC {w : World} {g : Nat} {t : TypeId} {cs : Array Value} (h : Blk w g t cs) : okC w g := ⟨cs, t, h⟩
theorem ptr_info : ∃ j, Tryd.prog.info? 34 = some j ∧ j.size ≠ 0 := by
  obtain ⟨i, hi, hz⟩ := Option.map_eq_some_iff.1 tree_info
  simp only [Prod.mk.injEq] at hz
  exact ⟨i, hi, by rw [hz.2.1]; omega⟩
theorem ptr_same (w : World) (a : Addr) : (binOp .eql 69 (.pointer (some a)) (.pointer (some a))).run Tryd.prog w = .ok (.bool true) w := by
  obtain ⟨j, hj, hs⟩ := ptr_info
  exact run_eql_ptr_same w a Tryd.underlying69 hj
theorem ptr_other {w : World} {a b : Addr} (hne : a ≠ b) (ha : okC w a.block) (hb : okC w b.block) : (binOp .eql 69 (.pointer (some a)) (.pointer (some b))).run Tryd.prog w = .ok (.bool false) w := by
  obtain ⟨j, hj, hs⟩ := ptr_info
  obtain ⟨ca, ta, ha⟩ := ha
  obtain ⟨cb, tb, hb⟩ := hb
  exact run_eql_ptr_other w Tryd.underlying69 hj hs hne ha hb
theorem leaf_of {R : List Ru} {W : List Nat} {a i j : Nat} {t : Tr} (h : DrL R W [(true, a)] i j [t]) : t = .leaf a := by
  cases h with
  | leaf _ _ _ _ _ h1 h2 => cases h2; rfl
/-- what a comparison of two trees of one symbol from one place comes down to -/
theorem cmp_parts {R : List Ru} {W : List Nat} (hR : R.length ≤ 1000) (h4 : ∀ v ∈ R, v.2.length ≤ 4) {s : Sy} {i j j' : Nat} {t u : Tr} (h : DrL R W [s] i j [t]) (h' : DrL R W [s] i j' [u]) :
    (-1 ≤ t.rl ∧ t.rl ≤ 1000 ∧ -1 ≤ u.rl ∧ u.rl ≤ 1000) ∧ (t.rl < u.rl → LtF [t] [u]) ∧ (u.rl < t.rl → LtF [u] [t]) ∧
    (t.rl = u.rl → ∃ rhs x y, rhs.length ≤ 4 ∧ DrL R W rhs i x t.kids ∧ DrL R W rhs i y u.kids ∧ (t.kids = u.kids → t = u) ∧ (LtF t.kids u.kids → LtF [t] [u]) ∧ (LtF u.kids t.kids → LtF [u] [t])) := by
  obtain ⟨b, n⟩ := s
  cases b with
  | true =>
    have e1 := leaf_of h
    have e2 := leaf_of h'
    subst e1 e2
    refine ⟨⟨by simp [Tr.rl], by simp [Tr.rl], by simp [Tr.rl], by simp [Tr.rl]⟩, fun h => absurd h (by omega), fun h => absurd h (by omega), fun _ => ⟨[], i, i, by simp, .nil i, .nil i, fun _ => rfl, fun h => ?_, fun h => ?_⟩⟩
    · simp only [Tr.kids] at h; cases h
    · simp only [Tr.kids] at h; cases h
  | false =>
    cases t with
    | leaf a => cases h
    | node r ks =>
      cases u with
      | leaf a => cases h'
      | node q ls =>
        have k1 : r < R.length := by cases h with | node _ _ _ _ _ _ _ _ _ hr _ _ => exact (List.getElem?_eq_some_iff.1 hr).1
        have k2 : q < R.length := by cases h' with | node _ _ _ _ _ _ _ _ _ hr _ _ => exact (List.getElem?_eq_some_iff.1 hr).1
        simp only [Tr.rl, Tr.kids]
        refine ⟨by omega, fun hlt => (h.rules h').1 (by omega), fun hlt => (h'.rules h).1 (by omega), fun e => ?_⟩
        obtain rfl : r = q := by omega
        obtain ⟨rhs, g1, g2, g3⟩ := (h.rules h').2 rfl
        exact ⟨rhs, j, j', h4 _ (List.mem_of_getElem? g1), g2, g3, fun e => by rw [e], fun e => .inner _ _ _ _ _ e, fun e => .inner _ _ _ _ _ e⟩
def CmpP (w : World) (t u : Tr) (e : Ending) (w' : World) : Prop := ∃ c : Int, e = .returned (.int .i64 c) ∧ CmpT t u c ∧ -2000 ≤ c ∧ c ≤ 2000 ∧ Below w.heap.size w w'
set_option maxRecDepth 100000 in
set_option maxHeartbeats 4000000 in
theorem compare_n (R : List Ru) (W : List Nat) (hR : R.length ≤ 1000) (ok : Nat → Prop) (m : Nat) : ∀ (t u : Tr) (s : Sy) (i j j' : Nat) (a oa b ob : Nat) (w : World), t.size ≤ m → DrL R W [s] i j [t] → DrL R W [s] i j' [u] → (∀ v ∈ R, v.2.length ≤ 4) → (∀ x, ok x → okC w x) → AtT ok w a oa t → AtT ok w b ob u →
    Calls Tryd.prog 60 #[.pointer (some ⟨a, oa, none⟩), .pointer (some ⟨b, ob, none⟩)] w (CmpP w t u) := by
  induction m with
  | zero => intro t u s i j j' a oa b ob w h; have := t.size_pos; omega
  | succ m ih =>
    intro t u s i j j' a oa b ob w hm ht hu hR4 hok ha hb
    by_cases hab : a = b ∧ oa = ob
    · obtain ⟨rfl, rfl⟩ := hab
      have := ha.det hb
      subst this
      clear ih
      have he := ptr_same w ⟨a, oa, none⟩
      go_enter Tryd.func60, Tryd.ntmps60
      go_wp2_with fail
      go_ret
      exact ⟨0, rfl, CmpT.refl t, by omega, by omega, Below.refl _ _⟩
    · have HT := Lib.hid ht
      have HU := Lib.hid hu
      have HA := Lib.hid ha
      have HB := Lib.hid hb
      have HOK := Lib.hid hok
      have IH := Lib.hid ih
      have HM := Lib.hid hm
      have HR4 := Lib.hid hR4
      have HR := Lib.hid hR
      have he := ptr_other (w := w) (a := ⟨a, oa, none⟩) (b := ⟨b, ob, none⟩) (fun e => hab (by simpa using e)) (hok a (by obtain ⟨v, _, h, _⟩ := ha; exact h)) (hok b (by obtain ⟨v, _, h, _⟩ := hb; exact h))
      obtain ⟨hpb, hlt, hgt, hpe⟩ := cmp_parts hR hR4 ht hu
      have HPE := Lib.hid hpe
      have HLT := Lib.hid hlt
      have HGT := Lib.hid hgt
      obtain ⟨⟨r1, m1, A1, n1, c1⟩, hr1, -, hc1⟩ := ha
      obtain ⟨⟨r2, m2, A2, n2, c2⟩, hr2, -, hc2⟩ := hb
      obtain ⟨hp1, -, hp3⟩ := hr1.parts
      obtain ⟨hq1, -, hq3⟩ := hr2.parts
      simp only at hp1 hp3 hq1 hq3
      have HSA := Lib.hid hp3
      have HSB := Lib.hid hq3
      have d0 := hc1 0 _ rfl
      have d2 := hc1 2 _ rfl
      have e0 := hc2 0 _ rfl
      have e2 := hc2 2 _ rfl
      simp only [Nat.add_zero] at d0 e0
      rw [← hp1, ← hq1] at hpb HLT HGT HPE
      clear hab hok hm hR4 hR hc1 hc2 ih ht hu hpe hlt hgt hp1 hp3 hq1 hq3 hr1 hr2
      obtain ⟨hz1, hz2, hz3, hz4⟩ := hpb
      have hwr : IntKind.i64.wrap (r1 - r2) = r1 - r2 := IntWalk.i64_in _ (by omega)
      go_enter Tryd.func60, Tryd.ntmps60
      by_cases hrr : r1 = r2
      · subst hrr
        have HPX := Lib.hid (HPE.out rfl)
        clear HPE HLT HGT hwr
        go_upto_region 3 with fail
        clear he
        go_quiet (fail)
        have HD := Lib.hid (below_drewN (Below.refl w.heap.size w) nq)
        have HD2 := Lib.hid d2
        have HE2 := Lib.hid e2
        have HLA := Lib.hid (World.block_lt_of_cell? _ _ d2)
        have HLB := Lib.hid (World.block_lt_of_cell? _ _ e2)
        clear e2
        have d2 := (HD.out.cell (World.block_lt_of_cell? _ _ d2)).trans d2
        generalize w.drewN nq = W1 at *
        go_wp2_with fail
        clear d2
        obtain ⟨rhs, x, y, HQ⟩ := HPX.out
        have HQ := Lib.hid HQ
        have hln1 := HSA.out.len
        have hln2 := HSB.out.len
        have hle4 : n1 ≤ 4 := by have := HQ.out.2.1.len; have := HQ.out.1; omega
        have hnn : n2 = n1 := by have := HQ.out.2.1.len; have := HQ.out.2.2.1.len; omega
        subst hnn
        have HLE := Lib.hid hln1
        have HLE2 := Lib.hid hln2
        clear HPX hln1 hln2
        go_loopw [33] (fun q wr => ∃ k : Nat, q = .int .i64 k ∧ k ≤ n2 ∧ Hid (Below w.heap.size w wr) ∧ Hid (∀ z, z < k → t.kids[z]? = u.kids[z]?)) (fun q _ => n2 - (intOf q).toNat)
        case atStart => exact ⟨0, rfl, Nat.zero_le _, HD, Lib.hid (fun z h => absurd h (Nat.not_lt_zero _))⟩
        case round =>
          obtain ⟨k, rfl, hk, HW, HE⟩ := hrel
          by_cases hkn : k < n2
          · obtain ⟨b1, o1, x1, t1, hA1, hob1, hbl1, ht1, hr1, hc1⟩ := (HSA.out.via HW.out).at_ hkn
            obtain ⟨b2, o2, x2, t2, hA2, hob2, hbl2, ht2, hr2, hc2⟩ := (HSB.out.via HW.out).at_ hkn
            subst hA1 hA2
            have k0 : (0 : Int) ≤ (k : Int) := by omega
            have k1 : (k : Int) < (n2 : Int) := by omega
            have HT1 := Lib.hid ht1
            have HT2 := Lib.hid ht2
            have HA1 := Lib.hid (show AtT ok wr b1 (o1 + k * 3) t1 from ⟨x1, hr1, hob1, hc1⟩)
            have HA2 := Lib.hid (show AtT ok wr b2 (o2 + k * 3) t2 from ⟨x2, hr2, hob2, hc2⟩)
            obtain ⟨s', p, m1', m2', t', u', g1, g2, g3, g4, g5, g6, g7⟩ := HQ.out.2.1.at2 (q := k) HQ.out.2.2.1 HE.out (by rw [← HQ.out.2.1.len, HLE.out]; exact hkn)
            rw [ht1] at g1
            rw [ht2] at g2
            obtain rfl := Option.some.inj g1
            obtain rfl := Option.some.inj g2
            have HG := Lib.hid (And.intro g4 (And.intro g5 (And.intro g6 g7)))
            have hsz := Tr.size_kid (t := t) (List.mem_of_getElem? ht1)
            have HSZ := Lib.hid hsz
            clear g1 g2 g3 g4 g5 g6 g7 ht1 ht2 hr1 hr2 hc1 hc2 hob1 hob2 hbl1 hbl2 hsz
            have hd2 : wr.cell? ⟨a, oa + 2, none⟩ = some (.slice (some ⟨b1, o1, none⟩) n2 c1) := by
              exact (HW.out.cell (p := ⟨a, oa + 2, none⟩) (HLA.out)).trans HD2.out
            have he2 : wr.cell? ⟨b, ob + 2, none⟩ = some (.slice (some ⟨b2, o2, none⟩) n2 c2) := (HW.out.cell (p := ⟨b, ob + 2, none⟩) (HLB.out)).trans HE2.out
            go_upto_region 8 with fail
            go_still_tail 12, (by kernel_rfl)
            have HDW := Lib.hid (Below.refl wr.heap.size wr).drew
            change wpList _ _ _ _ _ wr.drew
            generalize wr.drew = W3 at *
            clear hd2 he2
            have HW3 := Lib.hid (HW.out.trans (HDW.out.mono HW.out.size))
            go_wp2_with fail
            refine (IH.out t1 t2 s' p m1' m2' b1 (o1 + k * 3) b2 (o2 + k * 3) W3 (by have := HM.out; have := HSZ.out; omega) HG.out.1 HG.out.2.1 HR4.out (fun z hz => (HOK.out z hz).via HW3.out) (HA1.out.via HDW.out) (HA2.out.via HDW.out)).mono ?_
            rintro e w4 ⟨c, rfl, hcmp, hc1, hc2, hb4⟩
            have HC := Lib.hid hcmp
            have HW4 := Lib.hid (HW3.out.trans (hb4.mono HW3.out.size))
            clear hcmp hb4
            by_cases hc0 : c = 0
            · subst hc0
              go_wp2_with fail
              refine ⟨⟨k + 1, by go_num, by omega, HW4, Lib.hid (fun z hz => ?_)⟩, by simp [intOf]; omega⟩
              by_cases e : z = k
              · rw [e, HT1.out, HT2.out, HC.out.2.1 rfl]
              · exact HE.out z (by omega)
            · have hne : (c != 0) = true := bne_iff_ne.2 hc0
              have HC0 := Lib.hid hc0
              clear hc0
              go_wp2_with fail
              go_ret
              exact ⟨c, rfl, ⟨fun h => HQ.out.2.2.2.2.1 (HG.out.2.2.1 (HC.out.1 h)), fun h => absurd h HC0.out, fun h => HQ.out.2.2.2.2.2 (HG.out.2.2.2 (HC.out.2.2 h))⟩, hc1, hc2, HW4.out⟩
          · obtain rfl : k = n2 := by omega
            go_wp2_with fail
            go_ret
            refine ⟨0, rfl, ⟨fun h => by omega, fun _ => ?_, fun h => by omega⟩, by omega, by omega, HW.out⟩
            exact HQ.out.2.2.2.1 (HQ.out.2.1.same HQ.out.2.2.1 fun z hz => HE.out z (by rw [← HLE.out, HQ.out.2.1.len]; exact hz))
      · have hne : (r1 != r2) = true := bne_iff_ne.2 hrr
        have HNE := Lib.hid hrr
        clear hrr
        go_upto_region 3 with fail
        clear he
        go_quiet (fail)
        have HD := Lib.hid (below_drewN (Below.refl w.heap.size w) nq)
        have d0 := (HD.out.cell (World.block_lt_of_cell? _ _ d0)).trans d0
        have e0 := (HD.out.cell (World.block_lt_of_cell? _ _ e0)).trans e0
        generalize w.drewN nq = W1 at *
        go_upto_region 4 with fail
        go_quiet (fail)
        have HD2 := Lib.hid (HD.out.trans ((below_drewN (Below.refl W1.heap.size W1) nq).mono HD.out.size))
        generalize W1.drewN nq = W2 at *
        go_wp2_with fail
        go_ret
        refine ⟨r1 - r2, rfl, ⟨fun h => HLT.out (by omega), fun h => absurd (by omega) HNE.out, fun h => HGT.out (by omega)⟩, by omega, by omega, HD2.out⟩
end Go.Proofs.YtfmnmgnhanogmaaDoor





namespace Go.Proofs.YtfmnmgnhanogmaaDoor
open Go.RowKit

section
variable {R : List Ru} {W : List Nat}
theorem wd_at (W : List Nat) (i t : Nat) : (intsN W)[i]? = some (t : Int) ↔ W[i]? = some t := by
  simp only [intsN, List.getElem?_map, Option.map_eq_some_iff]
  constructor
  · rintro ⟨a, h, e⟩; rw [h]; congr 1; exact Int.ofNat.inj e
  · intro h; exact ⟨t, h, rfl⟩
theorem wd_size (W : List Nat) : (intsN W).length = W.length := by simp [intsN]
theorem DrL.dv : ∀ {l : List Sy} {i j : Nat} {ts : List Tr}, DrL R W l i j ts → i ≤ W.length → Dv R l (part (intsN W) i j) := by
  intro l i j ts h
  induction h with
  | nil k => intro _; rw [part_same]; exact .nil
  | leaf a k j l ts hw h2 ih =>
    intro hk
    have hlt := (List.getElem?_eq_some_iff.1 hw).1
    have hle := (h2.end (by omega)).1
    have e := (part_one (xs := intsN W) (i := k) (j := k + 1) (by omega) (by rw [wd_size]; omega) (t := (a : Int))).2 ⟨(wd_at W k a).2 hw, rfl⟩
    rw [← part_append (w := intsN W) (i := k) (m := k + 1) (j := j) (by omega) hle, e]
    exact .term a (ih (by omega))
  | node n r k m j rhs l ks ts hr h1 h2 ih1 ih2 =>
    intro hk
    obtain ⟨a1, a2, _⟩ := h1.end hk
    obtain ⟨b1, _, _⟩ := h2.end a2
    rw [← part_append (w := intsN W) a1 b1]
    exact .non n (List.mem_of_getElem? hr) (ih1 hk) (ih2 a2)
theorem dv_tree {l : List Sy} {v : List Int} (h : Dv R l v) : ∀ i j, i ≤ j → j ≤ W.length → v = part (intsN W) i j → ∃ ts, DrL R W l i j ts := by
  induction h with
  | nil =>
    intro i j h1 h2 e
    have := part_len (w := intsN W) (i := i) (j := j) (by rw [wd_size]; omega)
    rw [← e] at this
    simp only [List.length_nil] at this
    obtain rfl : i = j := by omega
    exact ⟨[], .nil i⟩
  | term t h ih =>
    intro i j h1 h2 e
    obtain ⟨m, k1, k2, e1, e2⟩ := part_split (w := intsN W) (p1 := [(t : Int)]) h1 (by rw [wd_size]; omega) (by rw [← e]; rfl)
    obtain ⟨k3, rfl⟩ := (part_one (xs := intsN W) k1 (by rw [wd_size]; omega)).1 e1
    obtain ⟨ts, hts⟩ := ih (i + 1) j k2 h2 e2.symm
    exact ⟨_, .leaf t i j _ ts ((wd_at W i t).1 k3) hts⟩
  | non N hr g1 g2 ih1 ih2 =>
    intro i j h1 h2 e
    obtain ⟨m, k1, k2, e1, e2⟩ := part_split (w := intsN W) h1 (by rw [wd_size]; omega) e.symm
    obtain ⟨ks, hks⟩ := ih1 i m k1 (by omega) e1.symm
    obtain ⟨ts, hts⟩ := ih2 m j k2 h2 e2.symm
    obtain ⟨r, hr2⟩ := List.getElem?_of_mem hr
    exact ⟨_, .node N r i m j _ _ ks ts hr2 hks hts⟩
/-- a part is derived exactly if it has a tree -/
theorem dvS_tree {k : Ky} (hk : k.2.1 ≤ W.length) : DvS R (intsN W) k ↔ ∃ t, DrL R W [k.1] k.2.1 k.2.2 [t] := by
  constructor
  · rintro ⟨h1, h2, h3⟩
    rw [wd_size] at h2
    obtain ⟨ts, hts⟩ := dv_tree (W := W) h3 _ _ h1 h2 rfl
    obtain ⟨t, us, m, rfl, h4, h5⟩ := DrL.cons.1 hts
    cases h5
    exact ⟨t, h4⟩
  · rintro ⟨t, h⟩
    obtain ⟨a1, a2, _⟩ := h.end hk
    exact ⟨a1, by rw [wd_size]; exact a2, h.dv hk⟩
end
end Go.Proofs.YtfmnmgnhanogmaaDoor




namespace Go.Proofs.YtfmnmgnhanogmaaDoor
open Go.RowKit

theorem sum_le_card (L : List Nat) (f : Nat → Nat) (B : Nat) (h : ∀ q ∈ L, f q ≤ B) : (L.map f).sum ≤ L.length * B := by
  induction L with
  | nil => simp
  | cons q L ih =>
    have h1 := h q (by simp)
    have h2 := ih fun q' hq => h q' (by simp [hq])
    simp only [List.map_cons, List.sum_cons, List.length_cons, Nat.add_mul, Nat.one_mul]
    omega
theorem flatMap_len {α : Type} (L : List Nat) (f : Nat → List α) (B : Nat) (h : ∀ q ∈ L, (f q).length ≤ B) : (L.flatMap f).length ≤ L.length * B := by
  rw [List.length_flatMap]
  exact sum_le_card L _ B h
section
variable {D : Ky → Bool}
theorem ways_len : ∀ {l : List Sy} {i j : Nat}, j ≤ 12 → (waysF D l i j).length ≤ 13 ^ l.length := by
  intro l
  induction l with
  | nil => intro i j _; simp only [waysF]; split <;> simp
  | cons s l ih =>
    intro i j hj
    rw [waysF]
    refine Nat.le_trans (flatMap_len _ _ (13 ^ l.length) fun q _ => ?_) ?_
    · split
      · rw [List.length_map]; exact ih hj
      · simp
    · rw [List.length_range, List.length_cons, Nat.pow_succ, Nat.mul_comm]
      exact Nat.mul_le_mul_left _ (by omega)
theorem packN_len {R : List Ru} {k : Ky} {n : Nat} (hR : ∀ u ∈ R, u.2.length ≤ 4) (hk : k.2.2 ≤ 12) : (packN D R k n).length ≤ 28561 := by
  unfold packN
  cases hu : R[n]? with
  | none => simp
  | some u =>
    simp only
    split
    · rw [List.length_map]
      refine Nat.le_trans (ways_len hk) ?_
      have h1 := hR u (List.mem_of_getElem? hu)
      exact Nat.le_trans (Nat.pow_le_pow_right (by omega) h1) (by decide)
    · simp
theorem packT_len {R : List Ru} {k : Ky} (m : Nat) (hR : ∀ u ∈ R, u.2.length ≤ 4) (hk : k.2.2 ≤ 12) : (packT D R k m).length ≤ m * 28561 := by
  unfold packT
  have := flatMap_len (List.range m) (packN D R k) 28561 fun n _ => packN_len hR hk
  rwa [List.length_range] at this
end
/-! ### the work list -/
section
variable {D : Ky → Bool} {R : List Ru} {root : Ky}
/-- keys of a word and a grammar -/
def KyOk (g : Gr) (n : Nat) (k : Ky) : Prop := g.okSy k.1 ∧ k.2.1 ≤ k.2.2 ∧ k.2.2 ≤ n
theorem KyOk.ok {g : Gr} {n : Nat} {k : Ky} (h : KyOk g n k) (hg : g.Ok) (hn : n ≤ 12) : k.Ok := by
  obtain ⟨h1, h2, h3⟩ := h
  refine ⟨by omega, by omega, ?_⟩
  unfold Gr.okSy at h1
  have := hg.terms; have := hg.nons
  split at h1 <;> omega
/-- a number for each key -/
def kyC2 (k : Ky) : Nat := (k.2.1 * 13 + k.2.2) * 20 + (if k.1.1 then k.1.2 else 10 + k.1.2)
theorem kyC2_lt {g : Gr} {n : Nat} {k : Ky} (h : KyOk g n k) (hg : g.Ok) (hn : n ≤ 12) : kyC2 k < 3400 := by
  obtain ⟨h1, h2, h3⟩ := h
  unfold Gr.okSy at h1
  have := hg.terms; have := hg.nons
  unfold kyC2
  split at h1
  · rename_i e; rw [if_pos e]; omega
  · rename_i e; rw [if_neg e]; omega
theorem kyC2_inj {g : Gr} {n : Nat} {a b : Ky} (ha : KyOk g n a) (hb : KyOk g n b) (hg : g.Ok) (hn : n ≤ 12) (h : kyC2 a = kyC2 b) : a = b := by
  obtain ⟨⟨ab, an⟩, ai, aj⟩ := a
  obtain ⟨⟨bb, bn⟩, bi, bj⟩ := b
  obtain ⟨h1, h2, h3⟩ := ha
  obtain ⟨k1, k2, k3⟩ := hb
  have := hg.terms; have := hg.nons
  simp only [Gr.okSy] at h1 k1
  simp only at h2 h3 k2 k3
  simp only [kyC2] at h
  cases ab <;> cases bb <;> simp only [Bool.false_eq_true, if_false, if_true] at h h1 k1 <;> simp only [Prod.mk.injEq, true_and, false_and, Bool.false_eq_true, Bool.true_eq_false] <;> omega
end
end Go.Proofs.YtfmnmgnhanogmaaDoor







namespace Go.Proofs.YtfmnmgnhanogmaaDoor
open Go.RowKit

/-- what find stands on: D says which parts are derived; no nonterminal begins with itself -/
structure FinD (g : Gr) (W : List Nat) (D : Ky → Bool) : Prop where
  gok : GrOk g
  dv : ∀ k, D k = true ↔ DvS g.rules (intsN W) k
  no : ∀ i, ¬ Plus (begD g.rules) i i
  wt : ∀ a ∈ W, a < g.terms
  short : W.length ≤ 12
noncomputable def bst (R : List Ru) (W : List Nat) (k : Ky) : Tr := (@dite _ (∃ t, IsBest R W k t) (Classical.propDecidable _) (fun h => Classical.choose h) (fun _ => .leaf 0))
theorem bst_of {R : List Ru} {W : List Nat} {k : Ky} {t : Tr} (h : IsBest R W k t) : bst R W k = t := by
  have hx : ∃ t, IsBest R W k t := ⟨t, h⟩
  unfold bst
  rw [dif_pos hx]
  exact (Classical.choose_spec hx).uniq h
/-- a measure that falls from a part to the parts of its packs -/
noncomputable def mea (g : Gr) (k : Ky) : Nat := if k.1.1 then 0 else 1 + (k.2.2 - k.2.1) * (g.nons + 2) + begN (begD g.rules) g.nons k.1.2
theorem begN_le {D : Nat → Nat → Bool} {N i : Nat} : begN D N i ≤ N := by
  unfold begN
  have := List.length_filter_le (fun j => wshF D N i j) (List.range N)
  simpa using this
section
variable {g : Gr} {W : List Nat} {D : Ky → Bool} {k q : Ky} {p : Nat × List Ky}
theorem FinD.le (h : FinD g W D) (hk : D k = true) : k.2.1 ≤ k.2.2 ∧ k.2.2 ≤ W.length := by
  obtain ⟨h1, h2, -⟩ := (h.dv k).1 hk
  rw [wd_size] at h2
  exact ⟨h1, h2⟩
theorem FinD.tree (h : FinD g W D) (hk : D k = true) : ∃ t, DrL g.rules W [k.1] k.2.1 k.2.2 [t] := by
  have := h.le hk
  exact (dvS_tree (by omega)).1 ((h.dv k).1 hk)
theorem FinD.has (h : FinD g W D) (hk : k.2.1 ≤ W.length) {t : Tr} (ht : DrL g.rules W [k.1] k.2.1 k.2.2 [t]) : D k = true :=
  (h.dv k).2 ((dvS_tree hk).2 ⟨t, ht⟩)
theorem FinD.best (h : FinD g W D) (hk : D k = true) : IsBest g.rules W k (bst g.rules W k) := by
  have hl := h.le hk
  obtain ⟨t, ht⟩ := best_ex (E := begD g.rules) (N := g.nons) (begD_lt h.gok.ok) (fun i j hb => (begD_iff _ _ _).2 hb) h.no (k := k) (by omega) (h.tree hk)
  rw [bst_of ht]; exact ht
theorem FinD.fall (h : FinD g W D) (hp : p ∈ packsF D g.rules k) (hq : q ∈ p.2) : mea g q < mea g k := by
  obtain ⟨hk, u, hu, hn, hw⟩ := packs_mem hp
  obtain ⟨⟨b, n⟩, i, j⟩ := k
  obtain ⟨⟨c, m⟩, x, y⟩ := q
  simp only at hk hn hw
  subst hk hn
  unfold mea
  simp only [Bool.false_eq_true, if_false]
  cases c with
  | true => simp only [if_true]; omega
  | false =>
    simp only [Bool.false_eq_true, if_false]
    have hN := @begN_le (begD g.rules) g.nons m
    rcases way_fall (R := g.rules) (fun k hk he => by
      obtain ⟨t, ht⟩ := h.tree hk
      have := h.le hk
      exact (ht.end (by omega)).2.2 he.symm) hw _ hq with hlt | ⟨he, a, bb, e, ha⟩
    · simp only at hlt
      have : (y - x) * (g.nons + 2) + (g.nons + 2) ≤ (j - i) * (g.nons + 2) := by
        rw [← Nat.succ_mul]; exact Nat.mul_le_mul_right _ hlt
      omega
    · simp only [Prod.mk.injEq] at he
      obtain ⟨rfl, rfl⟩ := he
      have hb : begD g.rules u.1 m = true := (begD_iff _ _ _).2 ⟨a, bb, by rw [← e]; exact List.mem_of_getElem? hu, ha⟩
      have := begN_lt (begD_lt h.gok.ok) h.no (.one m hb)
      omega
theorem FinD.kid (h : FinD g W D) (hp : p ∈ packsF D g.rules k) (hq : q ∈ p.2) : D q = true ∧ KyOk g W.length q := by
  obtain ⟨hk, u, hu, hn, hw⟩ := packs_mem hp
  obtain ⟨h1, -, -, -, h5⟩ := hw.mem q hq
  exact ⟨h1, (h.gok.ok.right u (List.mem_of_getElem? hu)).2 _ h5, h.le h1⟩
/-- the tree of a pack -/
noncomputable def pkT (R : List Ru) (W : List Nat) (p : Nat × List Ky) : Tr := .node p.1 (p.2.map (bst R W))
theorem FinD.pack (h : FinD g W D) (hp : p ∈ packsF D g.rules k) : DrL g.rules W [k.1] k.2.1 k.2.2 [pkT g.rules W p] :=
  pack_tree hp fun _ hq => h.best (h.kid hp hq).1
/-- among the first m packs -/
def InvP (R : List Ru) (W : List Nat) (l : List (Nat × List Ky)) (m : Nat) (t : Tr) : Prop := (∃ p ∈ l.take m, t = pkT R W p) ∧ ∀ p ∈ l.take m, pkT R W p = t ∨ LtF [t] [pkT R W p]
theorem InvP.first {R : List Ru} {l : List (Nat × List Ky)} (hp : l[0]? = some p) : InvP R W l 1 (pkT R W p) := by
  have e : l.take 1 = [p] := by
    cases l with
    | nil => cases hp
    | cons a l => simp only [List.getElem?_cons_zero, Option.some.injEq] at hp; subst hp; rfl
  unfold InvP
  rw [e]
  refine ⟨⟨p, List.mem_singleton.2 rfl, rfl⟩, fun x hx => ?_⟩
  rw [List.mem_singleton.1 hx]; exact Or.inl rfl
theorem InvP.keep {R : List Ru} {l : List (Nat × List Ky)} {m : Nat} {t : Tr} (h : InvP R W l m t) (hp : l[m]? = some p) (hn : pkT R W p = t ∨ LtF [t] [pkT R W p]) : InvP R W l (m + 1) t := by
  have e : l.take (m + 1) = l.take m ++ [p] := by rw [List.take_add_one, hp]; rfl
  unfold InvP
  rw [e]
  refine ⟨?_, fun x hx => ?_⟩
  · obtain ⟨x, hx, e⟩ := h.1
    exact ⟨x, List.mem_append_left _ hx, e⟩
  · rcases List.mem_append.1 hx with hx | hx
    · exact h.2 x hx
    · rw [List.mem_singleton.1 hx]; exact hn
theorem InvP.less {R : List Ru} {l : List (Nat × List Ky)} {m : Nat} {t : Tr} (h : InvP R W l m t) (hp : l[m]? = some p) (hn : LtF [pkT R W p] [t]) : InvP R W l (m + 1) (pkT R W p) := by
  have e : l.take (m + 1) = l.take m ++ [p] := by rw [List.take_add_one, hp]; rfl
  unfold InvP
  rw [e]
  refine ⟨⟨p, List.mem_append_right _ (List.mem_singleton.2 rfl), rfl⟩, fun x hx => ?_⟩
  rcases List.mem_append.1 hx with hx | hx
  · rcases h.2 x hx with e | h2
    · rw [e]; exact Or.inr hn
    · exact Or.inr (hn.trans h2)
  · rw [List.mem_singleton.1 hx]; exact Or.inl rfl
theorem FinD.done (h : FinD g W D) (hk : k.1.1 = false) (hD : D k = true) {t : Tr} (hi : InvP g.rules W (packsF D g.rules k) (packsF D g.rules k).length t) : t = bst g.rules W k := by
  have hl := h.le hD
  rw [InvP, List.take_length] at hi
  have := best_packs (D := D) (b := bst g.rules W) (fun k t hk ht => h.has hk ht) hk (by omega) (fun p hp q hq => h.best (h.kid hp hq).1) hi.1 hi.2
  exact (bst_of this).symm
/-- a greater rule comes: all that follow are behind -/
theorem FinD.stop (h : FinD g W D) (hk : k.1.1 = false) (hD : D k = true) {m : Nat} {t : Tr} (hi : InvP g.rules W (packsF D g.rules k) m t) (hp : (packsF D g.rules k)[m]? = some p) (hlt : t.rl < (p.1 : Int)) : t = bst g.rules W k := by
  refine h.done hk hD ?_
  obtain ⟨⟨x, hx, rfl⟩, h2⟩ := hi
  unfold InvP
  rw [List.take_length]
  refine ⟨⟨x, List.mem_of_mem_take hx, rfl⟩, fun y hy => ?_⟩
  rw [← List.take_append_drop m (packsF D g.rules k)] at hy
  rcases List.mem_append.1 hy with hy | hy
  · exact h2 y hy
  · obtain ⟨z, hz⟩ := List.mem_iff_getElem?.1 hy
    rw [List.getElem?_drop] at hz
    have hle : p.1 ≤ y.1 := by
      rcases Nat.eq_zero_or_pos z with h0 | h0
      · subst h0
        rw [Nat.add_zero, hp] at hz
        rw [Option.some.inj hz]; exact Nat.le_refl _
      · obtain ⟨a1, a2⟩ := List.getElem?_eq_some_iff.1 hp
        obtain ⟨b1, b2⟩ := List.getElem?_eq_some_iff.1 hz
        have := List.pairwise_iff_getElem.1 (@packs_rise g.rules D k) m (m + z) a1 b1 (by omega)
        rw [a2, b2] at this; exact this
    refine Or.inr (.head _ _ _ _ _ _ ?_)
    simp only [pkT, Tr.rl] at hlt
    omega
theorem FinD.some (h : FinD g W D) (hk : k.1.1 = false) (hD : D k = true) : 0 < (packsF D g.rules k).length := by
  obtain ⟨t, ht⟩ := h.tree hD
  have hl := h.le hD
  obtain ⟨⟨b, n⟩, i, j⟩ := k
  simp only at hk hl ht
  subst hk
  cases ht with
  | node _ r _ m _ rhs _ ks _ hr h3 h4 =>
    cases h4
    obtain ⟨w, hw, ha⟩ := way_of (fun k t hk ht => h.has hk ht) (by omega) h3
    exact List.length_pos_of_mem (packs_mem2 (k := ((false, n), i, j)) rfl hr rfl hw)
/-- the comparison with the best so far -/
theorem cmp_no {t : Tr} {c : Int} (hc : CmpT (pkT g.rules W p) t c) (hn : ¬ c < 0) : pkT g.rules W p = t ∨ LtF [t] [pkT g.rules W p] := by
  rcases Int.lt_trichotomy c 0 with h1 | h1 | h1
  · exact absurd h1 hn
  · exact Or.inl (hc.2.1 h1)
  · exact Or.inr (hc.2.2 h1)
theorem FinD.leaf (h : FinD g W D) {a i j : Nat} (hD : D ((true, a), i, j) = true) : bst g.rules W ((true, a), i, j) = .leaf a := by
  obtain ⟨t, ht⟩ := h.tree hD
  exact bst_of (best_leaf ht).2
end
end Go.Proofs.YtfmnmgnhanogmaaDoor

