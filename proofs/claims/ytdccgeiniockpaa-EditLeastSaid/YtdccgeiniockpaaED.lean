/- edit.Script. -/
import Derived.Test.YtdccgeiniockpaaEC
namespace Go.Proofs.Ytdccgeiniockpaa
open Go.RowKit

def ScriptP (w : World) (xs ys : List Int) (e : Ending) (w' : World) : Prop :=
  ∃ (A : Option Addr) (k c : Nat) (l : List EdV), e = .returned (.tuple #[.slice A k c, .int .i64 0]) ∧ Sl EdE (fun _ => True) w' A k c l ∧ EdsOk xs l ∧ runE xs l = ys ∧ cst l = dE xs ys ∧ k ≤ 400 ∧ Below w.heap.size w w'
theorem EdRow.toSl {w : World} {base c : Nat} {A : Option Addr} {raw : List EdRaw} {l : List EdV} {n : Nat} (h : EdRow w base (.slice A n c) raw l) : Sl EdE (fun _ => True) w A l.length c l := by
  obtain ⟨A', c', e, hc⟩ := h.form
  cases e
  refine ⟨rfl, hc, raw, h.len, fun hne => ?_, fun i r x hr hx => ?_⟩
  · rcases h.row.2 with ⟨h0, hn⟩ | ⟨g, cap, cur, hv, hbg, hh, hr⟩
    · have : raw = [] := List.eq_nil_of_length_eq_zero (by rw [h.len, hn])
      subst this; exact absurd rfl hne
    · cases hv
      refine ⟨g, 0, rfl, trivial, fun j u hu => ?_⟩
      have := World.ownsRow.cells h.row (g := g) rfl j u hu
      rwa [Addr.add_lit] at this
  · obtain ⟨h1, h2, h3⟩ := h.rel i r x hr hx
    obtain ⟨f, g, B, p, q⟩ := r
    have hI := h3.toInts
    have hp : p = x.2.2.length := by
      obtain ⟨A', c', e, _⟩ := h3.form
      simp only [nv] at e
      cases e; rfl
    refine ⟨h1, h2, ?_⟩
    simp only
    rw [hp]
    exact Sl.ofInts hI fun _ _ => trivial

theorem EdRow.blk {w : World} {base g n cap : Nat} {raw : List EdRaw} {l : List EdV} (h : EdRow w base (.slice (some ⟨g, 0, none⟩) n cap) raw l) : ∃ cur, Blk w g 24 cur := by
  rcases h.row.2 with ⟨h0, _⟩ | ⟨g', cap', cur, he, _, hh, _⟩
  · cases h0
  · cases he; exact ⟨cur, hh⟩
theorem opened_same {l0 l1 : List EdV} {f g i : Nat} {ns ms : List Int} {x : List EdV} (h : x = l0 ++ [(f, i, ns)]) (h2 : x = l1 ++ [(g, i, ms)]) : l0 = l1 ∧ f = g ∧ ns = ms := by
  rw [h] at h2
  obtain ⟨e1, e2⟩ := List.append_inj' h2 rfl
  simp at e2
  exact ⟨e1, e2.1, e2.2⟩
def boxN (w : World) (b : Nat) : Nat := match w.cell? ⟨b, 0, none⟩ with | some (.int _ i) => i.toNat | _ => 0
theorem ScM.boxN {w1 wr : World} {v : Value} {raw : List EdRaw} {l : List EdV} {op : Bool} {i : Nat} (h : ScM w1 v raw l op i wr) : boxN wr (w1.heap.size + 2) = i := by
  unfold Go.Proofs.Ytdccgeiniockpaa.boxN
  rw [h.q.cell 0]
  simp

set_option maxRecDepth 100000 in
set_option maxHeartbeats 8000000 in
theorem script_c (A B : Option Addr) (n c m d : Nat) (xs ys : List Int) (w : World) (hx : Ints w A n c xs) (hy : Ints w B m d ys) (hn : n ≤ 200) (hm : m ≤ 200) :
    Calls Try.prog 36 #[.slice A n c, .slice B m d] w (ScriptP w xs ys) := by
  have HX := Lib.hid hx.len
  have HY := Lib.hid hy.len
  have HIX := Lib.hid hx
  have HIY := Lib.hid hy
  clear hx hy
  go_enter Try.func36, Try.ntmps36
  go_wp2_with fail
  refine (costs_c A B n c m d xs ys w HIX.out HIY.out hn hm).mono ?_
  rintro e w1 ⟨bd, rb, rfl, hT, hb⟩
  have HT := Lib.hid hT
  have HIX1 := Lib.hid (HIX.out.via hb)
  have HIY1 := Lib.hid (HIY.out.via hb)
  have HB1 := Lib.hid hb
  have hM : ScM w1 (.slice none 0 0) [] [] false 0 (((w1.alloc (.cells #[.slice none 0 0] 69)).alloc (.cells #[.bool false] 4)).alloc (.cells #[.int .i64 0] 3)) := by
    have b1 := Blk.new (w1.alloc (.cells #[.slice none 0 0] 69)) 4 #[.bool false]
    have b2 := Blk.new ((w1.alloc (.cells #[.slice none 0 0] 69)).alloc (.cells #[.bool false] 4)) 3 #[.int .i64 0]
    simp only [World.size_alloc] at b1 b2
    exact ⟨((Blk.new w1 _ _).al _).al _, b1.al _, b2, EdRow.nil _ _, (((Below.refl _ _).al _).al _).al _, by simp⟩
  have HM := Lib.hid hM
  clear hT hb HIX HIY hM
  go_wp2_with fail
  generalize ((w1.alloc (.cells #[.slice none 0 0] 69)).alloc (.cells #[.bool false] 4)).alloc (.cells #[.int .i64 0] 3) = W at *
  go_loopw [10] (fun sj wr => ∃ (v : Value) (raw : List EdRaw) (l : List EdV) (op : Bool) (i j : Nat), sj = .int .i64 j ∧ ScM w1 v raw l op i wr ∧ Scr xs ys l op i j) (fun sj wr => (n - boxN wr (w1.heap.size + 2)) + (m - (intOf sj).toNat))
  case atStart => exact ⟨_, _, _, _, 0, 0, rfl, HM.out, Scr.start xs ys⟩
  case round =>
    obtain ⟨v, raw, l, op, ii, jj, rfl, hr, hs⟩ := hrel
    clear HM
    have hli := hs.hi
    have hlj := hs.hj
    have hcnt := hs.count
    rw [HX.out] at hli
    rw [HY.out] at hlj
    have Bq := hr.q
    have Bp := hr.p
    have Bo := hr.o
    have hTr := HT.out.via hr.bel
    have hIXr := HIX1.out.via hr.bel
    have hIYr := HIY1.out.via hr.bel
    have hbx := Lib.hid hr.boxN
    have hBB := Lib.hid (HB1.out.trans (hr.bel.mono HB1.out.size))
    have HR := Lib.hid hr
    have HS := Lib.hid hs
    have a1 : (0 : Int) ≤ (ii : Int) := by omega
    have a3 : (0 : Int) ≤ (jj : Int) := by omega
    have hsz := hr.size
    clear hr hs
    by_cases hi : ii < n
    · have d1 : decide (ii < n) = true := by simpa using hi
      have a2 : (ii : Int) < (n : Int) := by omega
      have hxl : ii < xs.length := by rw [HX.out]; exact hi
      by_cases hj : jj < m
      · have d2 : decide (jj < m) = true := by simpa using hj
        have a4 : (jj : Int) < (m : Int) := by omega
        have hyl : jj < ys.length := by rw [HY.out]; exact hj
        obtain ⟨bx, ox, rfl, hbx2, gx⟩ := hIXr.at_ hi
        obtain ⟨by_, oy, rfl, hby, gy⟩ := hIYr.at_ hj
        by_cases hxy : xs.getD ii 0 = ys.getD jj 0
        · have HS2 := Lib.hid (HS.out.keep hxl hyl hxy)
          rw [← hxy] at gy
          generalize xs.getD ii 0 = xv at *
          have e3 : (xv == xv) = true := by simp
          clear hxy hTr hIXr hIYr
          have cBq := Bq.cell
          have fBq := Bq.frozen
          have lBq := Bq.lt
          have cBp := Bp.cell
          have fBp := Bp.frozen
          have lBp := Bp.lt
          go_wp2_with fail
          go_quiet (fail)
          go_wp2_with fail
          have HR2 := Lib.hid (((HR.out.drN nq).setI).setOp false)
          refine ⟨⟨v, raw, l, false, ii + 1, jj + 1, by go_num, HR2.out, HS2.out⟩, ?_⟩
          have e1 := HR2.out.boxN
          have e2 := hbx.out
          rw [e1, e2]
          simp [intOf]; omega
        · have hxye : (xs.getD ii 0 == ys.getD jj 0) = false := by rw [beq_eq_false_iff_ne]; exact hxy
          have hq := dpV_ne (c0 := 1) (c1 := 1) (g := gE) hxl hyl hxy
          have hV := dpV_bound (g := gE) (xs := xs) (ys := ys) gE_least (by omega) (by omega)
          rw [HX.out, HY.out] at hV
          have v0 := hV ii jj
          have v2 := hV (ii + 1) jj
          have ct1 := hTr.cellTop (k := ii + 1) (by omega) (by omega)
          have cr2 := hTr.cellRow (k := ii + 1) (j := jj) (by omega) (by omega) (by omega)
          have ct2 := hTr.cellTop (k := ii) (by omega) (by omega)
          have cr3 := hTr.cellRow (k := ii) (j := jj) (by omega) (by omega) (by omega)
          have hqq : dpV 1 1 gE xs ys (ii + 1) jj + 1 ≠ dpV 1 1 gE xs ys ii jj → dpV 1 1 gE xs ys ii (jj + 1) + 1 = dpV 1 1 gE xs ys ii jj := by
            rw [hq]; unfold gE; intro h1; (repeat' split at *) <;> omega
          have b1 : (ii : Int) + 1 < (n : Int) + 1 := by omega
          have b3 : (ii : Int) < (n : Int) + 1 := by omega
          have b4 : (jj : Int) < (m : Int) + 1 := by omega
          have GY := Lib.hid (show ∀ w', Below w1.heap.size w1 w' → w'.cell? ⟨by_, oy + jj, none⟩ = some (.int .i64 (ys.getD jj 0)) from fun w' hb => by
            obtain ⟨b', o', hA', hb', hc'⟩ := HIY1.out.at_ hj
            cases hA'
            exact (hb.cell (p := ⟨by_, oy + jj, none⟩) hb').trans hc')
          by_cases r1 : dpV 1 1 gE xs ys (ii + 1) jj + 1 = dpV 1 1 gE xs ys ii jj
          · have HDEL := Lib.hid (fun (l0 : List EdV) (f : Nat) (ns : List Int) (o : Opn xs ys l l0 f ns ii jj) => o.del HS.out hxl r1)
            generalize xs.getD ii 0 = xv at *
            generalize ys.getD jj 0 = yv at *
            generalize dpV 1 1 gE xs ys (ii + 1) jj = z2' at *
            generalize dpV 1 1 gE xs ys ii jj = z0' at *
            have e5 : (z2' + 1 == z0') = true := by simpa using r1
            clear hqq hq hxy hTr hV hIXr hIYr r1
            have cBq := Bq.cell
            have fBq := Bq.frozen
            have lBq := Bq.lt
            have cBp := Bp.cell
            have fBp := Bp.frozen
            have lBp := Bp.lt
            go_wp2_with fail
            go_quiet (fail)
            have w1' : IntKind.i64.wrap ((ii : Int) + 1) = (ii : Int) + 1 := IntWalk.i64_in _ (by omega)
            have w3' : (0 : Int) ≤ (ii : Int) + 1 := by omega
            have w5' : ((ii : Int) + 1).toNat = ii + 1 := by omega
            have w8' : IntKind.i64.wrap (z2' + 1) = z2' + 1 := IntWalk.i64_in _ (by omega)
            go_wp2_with fail
            go_quiet (fail)
            clear w1' w3' w5' w8' e5 hxye
            go_wp2_with fail
            clear cBq fBq lBq cBp fBp lBp
            refine (change_c w1 _ v raw l op ii (HR.out.drN _) HS.out.last (by omega) (by omega)).mono ?_
            rintro e w4 ⟨raw0, l0, f, ns, S, g, cap, rfl, hop, hM⟩
            obtain ⟨l1, f1, ns1, hop1, ho⟩ := HS.out.opn
            obtain ⟨rfl, rfl, rfl⟩ := opened_same hop hop1
            have HS2 := Lib.hid (HDEL.out _ _ _ ho)
            obtain ⟨z0, z1, z2, zf, zg⟩ := hM.row.cells
            have hg3 := (hM.row.lt g rfl).1
            have HR2 := Lib.hid hM.setTo.setI
            have Bq4 := hM.q
            have hlq := Bq4.lt
            have i0 : (0 : Int) ≤ (l0.length : Int) := by omega
            clear hop hop1 ho hM
            have c4 := Bq4.cell
            have f4 := Bq4.frozen
            go_wp2_with fail
            refine ⟨⟨_, _, _, true, ii + 1, jj, rfl, HR2.out, HS2.out⟩, ?_⟩
            have e1 := HR2.out.boxN
            have e2 := hbx.out
            rw [e1, e2]
            simp [intOf] <;> omega
          · have HINS := Lib.hid (fun (l0 : List EdV) (f : Nat) (ns : List Int) (o : Opn xs ys l l0 f ns ii jj) => o.ins HS.out hyl (hqq r1))
            generalize xs.getD ii 0 = xv at *
            generalize ys.getD jj 0 = yv at *
            generalize dpV 1 1 gE xs ys (ii + 1) jj = z2' at *
            have e5 : (z2' + 1 == dpV 1 1 gE xs ys ii jj) = false := by rw [beq_eq_false_iff_ne]; exact r1
            clear hqq hq hxy hTr hV hIXr hIYr r1
            have cBq := Bq.cell
            have fBq := Bq.frozen
            have lBq := Bq.lt
            have cBp := Bp.cell
            have fBp := Bp.frozen
            have lBp := Bp.lt
            go_wp2_with fail
            go_quiet (fail)
            have w1' : IntKind.i64.wrap ((ii : Int) + 1) = (ii : Int) + 1 := IntWalk.i64_in _ (by omega)
            have w3' : (0 : Int) ≤ (ii : Int) + 1 := by omega
            have w5' : ((ii : Int) + 1).toNat = ii + 1 := by omega
            have w8' : IntKind.i64.wrap (z2' + 1) = z2' + 1 := IntWalk.i64_in _ (by omega)
            go_wp2_with fail
            go_quiet (fail)
            clear w1' w3' w5' w8' e5 hxye
            go_wp2_with fail
            clear cBq fBq lBq cBp fBp lBp
            refine (change_c w1 _ v raw l op ii (HR.out.drN _) HS.out.last (by omega) (by omega)).mono ?_
            rintro e w4 ⟨raw0, l0, f, ns, S, g, cap, rfl, hop, hM⟩
            obtain ⟨l1, f1, ns1, hop1, ho⟩ := HS.out.opn
            obtain ⟨rfl, rfl, rfl⟩ := opened_same hop hop1
            have HS2 := Lib.hid (HINS.out _ _ _ ho)
            have HM4 := Lib.hid hM
            obtain ⟨SA, sn, sc⟩ := S
            have hlen0 : raw0.length = l0.length := by have := hM.row.len; simpa using this
            have hOwn := (hM.row.rel raw0.length (f, ii, SA, sn, sc) (f, ii, ns) (by simp) (by rw [hlen0]; simp)).2.2
            simp only [nv] at hOwn
            obtain ⟨z0, z1, z2, zf, zg⟩ := hM.row.cells
            simp only at z2
            have hg3 := (hM.row.lt g rfl).1
            have hSg : (Value.slice SA sn sc).ownBlock ≠ some g := fun e => hM.row.out raw0.length (f, ii, SA, sn, sc) g (by simp) e rfl
            obtain ⟨cur, hBg⟩ := hM.row.blk
            have hsn : sn = ns.length := by obtain ⟨A', c', e, _⟩ := hOwn.form; cases e; rfl
            have hnl : ns.length ≤ 100000 := by have := ho.news; rw [news_append] at this; simp [news] at this; omega
            subst hsn
            have HOW := Lib.hid hOwn
            have HBg := Lib.hid hBg
            have HSG := Lib.hid hSg
            have hs4 := hM.size
            have hB4 := HM4.out.bel
            have gy4 : w4.cell? ⟨by_, oy + jj, none⟩ = some (.int .i64 yv) := GY.out w4 hB4
            have hk1 : ns.length + 1 ≤ 17592186044416 := by omega
            have hcur : cur[l0.length * 3 + 2]? = some (.slice SA ns.length sc) := by rw [← hBg.cell]; exact z2
            have HCUR := Lib.hid hcur
            clear hop hop1 ho hM hOwn hBg hSg hlen0 hB4 hcur
            go_wp2_with fail
            go_region_law (refine step_append_ints _ rfl (.tmp 41) (.tmp 46) rfl (w1.heap.size + 3) (.slice SA ns.length sc) ns.length ns rfl ((OwnI.keep HOW.out ((Below.refl w4.heap.size w4).drew) (Nat.le_refl _)).alloc (.cells #[.int .i64 yv] 3)) (some ⟨w4.heap.size, 0, none⟩) 1 1 [yv] rfl (Ints.one w4.drew yv 3) hk1 (by simp; omega) ?_
                           intro Av1 cv1 w5 ho1 hg1 hat1
                           have hBg5 := ((HBg.out.dr).al (.cells #[.int .i64 yv] 3)).grown hg1 (fun e => HSG.out e.symm)
                           have c5 := hBg5.cell
                           have f5 := hBg5.frozen
                           have h5 := HCUR.out)
            all_goals
              have HR2 := Lib.hid (((HM4.out.via (Below.refl _ _).drew).al (.cells #[.int .i64 yv] 3)).pushNew ho1 hg1 hat1)
              clear c5 f5 h5
              go_wp2_with fail
              refine ⟨⟨_, _, _, true, ii, jj + 1, by go_num, HR2.out, HS2.out⟩, ?_⟩
              have e1 := HR2.out.boxN
              have e2 := hbx.out
              rw [e1, e2]
              simp [intOf] <;> omega
      · have e0 : jj = m := by omega
        subst e0
        have d2 : decide (jj < jj) = false := by simp
        have hq : dpV 1 1 gE xs ys (ii + 1) jj + 1 = dpV 1 1 gE xs ys ii jj := by
          rw [← HY.out, dpV_right _ (by rw [HX.out]; omega), dpV_right _ (by rw [HX.out]; omega), HX.out]; omega
        have hV := dpV_bound (g := gE) (xs := xs) (ys := ys) gE_least (by omega) (by omega)
        rw [HX.out, HY.out] at hV
        have v0 := hV ii jj
        have v2 := hV (ii + 1) jj
        have ct1 := hTr.cellTop (k := ii + 1) (by omega) (by omega)
        have cr2 := hTr.cellRow (k := ii + 1) (j := jj) (by omega) (by omega) (by omega)
        have ct2 := hTr.cellTop (k := ii) (by omega) (by omega)
        have cr3 := hTr.cellRow (k := ii) (j := jj) (by omega) (by omega) (by omega)
        have b1 : (ii : Int) + 1 < (n : Int) + 1 := by omega
        have b3 : (ii : Int) < (n : Int) + 1 := by omega
        have b4 : (jj : Int) < (jj : Int) + 1 := by omega
        have HDEL := Lib.hid (fun (l0 : List EdV) (f : Nat) (ns : List Int) (o : Opn xs ys l l0 f ns ii jj) => o.del HS.out hxl hq)
        generalize dpV 1 1 gE xs ys (ii + 1) jj = z2' at *
        generalize dpV 1 1 gE xs ys ii jj = z0' at *
        have e5 : (z2' + 1 == z0') = true := by simpa using hq
        clear hq hTr hV hIXr hIYr
        have cBq := Bq.cell
        have fBq := Bq.frozen
        have lBq := Bq.lt
        have cBp := Bp.cell
        have fBp := Bp.frozen
        have lBp := Bp.lt
        go_wp2_with fail
        go_quiet (fail)
        have w1' : IntKind.i64.wrap ((ii : Int) + 1) = (ii : Int) + 1 := IntWalk.i64_in _ (by omega)
        have w3' : (0 : Int) ≤ (ii : Int) + 1 := by omega
        have w5' : ((ii : Int) + 1).toNat = ii + 1 := by omega
        have w8' : IntKind.i64.wrap (z2' + 1) = z2' + 1 := IntWalk.i64_in _ (by omega)
        go_wp2_with fail
        go_quiet (fail)
        clear w1' w3' w5' w8' e5
        go_wp2_with fail
        clear cBq fBq lBq cBp fBp lBp
        refine (change_c w1 _ v raw l op ii (HR.out.drN _) HS.out.last (by omega) (by omega)).mono ?_
        rintro e w4 ⟨raw0, l0, f, ns, S, g, cap, rfl, hop, hM⟩
        obtain ⟨l1, f1, ns1, hop1, ho⟩ := HS.out.opn
        obtain ⟨rfl, rfl, rfl⟩ := opened_same hop hop1
        have HS2 := Lib.hid (HDEL.out _ _ _ ho)
        obtain ⟨z0, z1, z2, zf, zg⟩ := hM.row.cells
        have hg3 := (hM.row.lt g rfl).1
        have HR2 := Lib.hid hM.setTo.setI
        have Bq4 := hM.q
        have hlq := Bq4.lt
        have i0 : (0 : Int) ≤ (l0.length : Int) := by omega
        clear hop hop1 ho hM
        have c4 := Bq4.cell
        have f4 := Bq4.frozen
        go_wp2_with fail
        refine ⟨⟨_, _, _, true, ii + 1, jj, rfl, HR2.out, HS2.out⟩, ?_⟩
        have e1 := HR2.out.boxN
        have e2 := hbx.out
        rw [e1, e2]
        simp [intOf] <;> omega
    · have e0 : ii = n := by omega
      subst e0
      have d1 : decide (ii < ii) = false := by simp
      by_cases hj : jj < m
      · have d2 : decide (jj < m) = true := by simpa using hj
        have a4 : (jj : Int) < (m : Int) := by omega
        have hyl : jj < ys.length := by rw [HY.out]; exact hj
        obtain ⟨by_, oy, rfl, hby, gy⟩ := hIYr.at_ hj
        have hq : dpV 1 1 gE xs ys ii (jj + 1) + 1 = dpV 1 1 gE xs ys ii jj := by
          rw [← HX.out, dpV_bottom _ (by rw [HY.out]; omega), dpV_bottom _ (by rw [HY.out]; omega), HY.out]; omega
        have GY := Lib.hid (show ∀ w', Below w1.heap.size w1 w' → w'.cell? ⟨by_, oy + jj, none⟩ = some (.int .i64 (ys.getD jj 0)) from fun w' hb => by
          obtain ⟨b', o', hA', hb', hc'⟩ := HIY1.out.at_ hj
          cases hA'
          exact (hb.cell (p := ⟨by_, oy + jj, none⟩) hb').trans hc')
        have HINS := Lib.hid (fun (l0 : List EdV) (f : Nat) (ns : List Int) (o : Opn xs ys l l0 f ns ii jj) => o.ins HS.out hyl hq)
        generalize ys.getD jj 0 = yv at *
        clear hq hTr hIXr hIYr
        have cBq := Bq.cell
        have fBq := Bq.frozen
        have lBq := Bq.lt
        have cBp := Bp.cell
        have fBp := Bp.frozen
        have lBp := Bp.lt
        go_wp2_with fail
        go_quiet (fail)
        go_wp2_with fail
        go_quiet (fail)
        go_wp2_with fail
        clear cBq fBq lBq cBp fBp lBp
        refine (change_c w1 _ v raw l op ii (HR.out.drN _) HS.out.last (by omega) (by omega)).mono ?_
        rintro e w4 ⟨raw0, l0, f, ns, S, g, cap, rfl, hop, hM⟩
        obtain ⟨l1, f1, ns1, hop1, ho⟩ := HS.out.opn
        obtain ⟨rfl, rfl, rfl⟩ := opened_same hop hop1
        have HS2 := Lib.hid (HINS.out _ _ _ ho)
        have HM4 := Lib.hid hM
        obtain ⟨SA, sn, sc⟩ := S
        have hlen0 : raw0.length = l0.length := by have := hM.row.len; simpa using this
        have hOwn := (hM.row.rel raw0.length (f, ii, SA, sn, sc) (f, ii, ns) (by simp) (by rw [hlen0]; simp)).2.2
        simp only [nv] at hOwn
        obtain ⟨z0, z1, z2, zf, zg⟩ := hM.row.cells
        simp only at z2
        have hg3 := (hM.row.lt g rfl).1
        have hSg : (Value.slice SA sn sc).ownBlock ≠ some g := fun e => hM.row.out raw0.length (f, ii, SA, sn, sc) g (by simp) e rfl
        obtain ⟨cur, hBg⟩ := hM.row.blk
        have hsn : sn = ns.length := by obtain ⟨A', c', e, _⟩ := hOwn.form; cases e; rfl
        have hnl : ns.length ≤ 100000 := by have := ho.news; rw [news_append] at this; simp [news] at this; omega
        subst hsn
        have HOW := Lib.hid hOwn
        have HBg := Lib.hid hBg
        have HSG := Lib.hid hSg
        have hs4 := hM.size
        have hB4 := HM4.out.bel
        have gy4 : w4.cell? ⟨by_, oy + jj, none⟩ = some (.int .i64 yv) := GY.out w4 hB4
        have hk1 : ns.length + 1 ≤ 17592186044416 := by omega
        have hcur : cur[l0.length * 3 + 2]? = some (.slice SA ns.length sc) := by rw [← hBg.cell]; exact z2
        have HCUR := Lib.hid hcur
        clear hop hop1 ho hM hOwn hBg hSg hlen0 hB4 hcur
        go_wp2_with fail
        go_region_law (refine step_append_ints _ rfl (.tmp 41) (.tmp 46) rfl (w1.heap.size + 3) (.slice SA ns.length sc) ns.length ns rfl ((OwnI.keep HOW.out ((Below.refl w4.heap.size w4).drew) (Nat.le_refl _)).alloc (.cells #[.int .i64 yv] 3)) (some ⟨w4.heap.size, 0, none⟩) 1 1 [yv] rfl (Ints.one w4.drew yv 3) hk1 (by simp; omega) ?_
                       intro Av1 cv1 w5 ho1 hg1 hat1
                       have hBg5 := ((HBg.out.dr).al (.cells #[.int .i64 yv] 3)).grown hg1 (fun e => HSG.out e.symm)
                       have c5 := hBg5.cell
                       have f5 := hBg5.frozen
                       have h5 := HCUR.out)
        all_goals
          have HR2 := Lib.hid (((HM4.out.via (Below.refl _ _).drew).al (.cells #[.int .i64 yv] 3)).pushNew ho1 hg1 hat1)
          clear c5 f5 h5
          go_wp2_with fail
          refine ⟨⟨_, _, _, true, ii, jj + 1, by go_num, HR2.out, HS2.out⟩, ?_⟩
          have e1 := HR2.out.boxN
          have e2 := hbx.out
          rw [e1, e2]
          simp [intOf] <;> omega
      · have e0 : jj = m := by omega
        subst e0
        have d2 : decide (jj < jj) = false := by simp
        obtain ⟨h1, h2, h3⟩ := Scr.fin (xs := xs) (ys := ys) (l := l) (op := op) (by rw [HX.out, HY.out]; exact HS.out) (by rw [HX.out, HY.out]; omega)
        obtain ⟨Av, cv, rfl, -⟩ := HR.out.row.form
        have HF : Hid (ScriptP w xs ys (.returned (.tuple #[.slice Av l.length cv, .int .i64 0])) wr) := Lib.hid ⟨Av, l.length, cv, l, rfl, HR.out.row.toSl, h1, h2, h3, by omega, hBB.out⟩
        clear hTr hIXr hIYr h1 h2 h3
        have cBq := Bq.cell
        have fBq := Bq.frozen
        have lBq := Bq.lt
        have cBp := Bp.cell
        have fBp := Bp.frozen
        have lBp := Bp.lt
        have cBo := Bo.cell
        have fBo := Bo.frozen
        have lBo := Bo.lt
        go_wp2_with fail
        go_ret2
        exact HF.out
end Go.Proofs.Ytdccgeiniockpaa
