/- hole.May; terminals; slices of bools: Equal, Index, Contains. -/
import Derived.Test.YtghnkgbingcbcaaHO
namespace Go.Proofs.Ytghnkgbingcbcaa
open Go.RowKit

theorem list_set_self {α : Type} {l : List α} {i : Nat} {x : α} (h : l[i]? = some x) : l.set i x = l := by
  obtain ⟨hi, rfl⟩ := List.getElem?_eq_some_iff.1 h
  exact List.set_getElem_self hi
def CanDo (g : Gr) (cs : List Ce) : Prop := ∃ v, Ms g.rules [(false, g.start)] cs v
theorem canDo_iff {g : Gr} {cs : List Ce} {st : WSt} (h1 : GoodH g.rules cs st) (h2 : FixH g.rules cs st) : (st g.start 0 cs.length).ok = true ↔ CanDo g cs := by
  constructor
  · intro h
    obtain ⟨_, _, _, v, h3, _⟩ := h1.snd g.start 0 cs.length h
    rw [gpart_all] at h3
    exact ⟨v, h3⟩
  · rintro ⟨v, h⟩; exact h2.least h
def MayP (w : World) (g : Gr) (cs : List Ce) (i : Nat) (e : Ending) (w' : World) : Prop :=
  ∃ (A : Option Addr) (c : Nat) (bs : List Bool), e = .returned (.tuple #[.slice A g.terms c, .int .i64 0]) ∧ Sl BoE (fun x => w.heap.size ≤ x) w' A g.terms c bs ∧ (∀ (j : Nat) (b : Bool), bs[j]? = some b → (b = true ↔ CanDo g (cs.set i (true, (j : Int))))) ∧ Below w.heap.size w w'
set_option maxRecDepth 100000 in
set_option maxHeartbeats 8000000 in
theorem may_c (ok okc : Nat → Prop) (g : Gr) (Ag : Option Addr) (ng cg : Nat) (A : Option Addr) (n c i : Nat) (cs : List Ce) (w : World) (hg : GrOk g) (hl : Sl RuE ok w Ag ng cg g.rules) (hx : Sl CeE okc w A n c cs) (hn : n ≤ 12) (hc : ∀ x ∈ cs, okCe g x) (hi : i < n) (ha : cs[i]? = some (true, -1)) :
    Calls Try.prog 14 #[grVal g Ag ng cg, .slice A n c, .int .i64 (i : Int)] w (MayP w g cs i) := by
  have hcl := hx.len
  have HCL := Lib.hid hcl
  have HGO := Lib.hid hg
  have HC := Lib.hid hc
  have HA := Lib.hid ha
  have hB := (Below.refl w.heap.size w).al (.cells #[.int .i64 (g.terms : Int), .int .i64 (g.nons : Int), .int .i64 (g.start : Int), .slice Ag ng cg] 28)
  have HL := Lib.hid (hl.via hB)
  have HX := Lib.hid (hx.via hB)
  have HB := Lib.hid hB
  have HL0 := Lib.hid hl
  have B0 := Blk.new w 28 #[.int .i64 (g.terms : Int), .int .i64 (g.nons : Int), .int .i64 (g.start : Int), .slice Ag ng cg]
  have HB0 := Lib.hid B0
  simp only [grVal]
  clear hg hc hl hx hB hcl ha
  go_enter Try.func14, Try.ntmps14
  have cB0 := B0.cell
  have fB0 := B0.frozen
  have lB0 := B0.lt
  go_wp2_with fail
  clear cB0 fB0 lB0
  generalize w.alloc (.cells #[.int .i64 (g.terms : Int), .int .i64 (g.nons : Int), .int .i64 (g.start : Int), .slice Ag ng cg] 28) = W at *
  refine (hcheck_c ok okc g Ag ng cg A n c cs W HGO.out HL.out HX.out hn HC.out).mono ?_
  rintro e w1 ⟨rfl, hb⟩
  have HL1 := Lib.hid (HL.out.via hb)
  have HX1 := Lib.hid (HX.out.via hb)
  have HB1 := Lib.hid (HB.out.via hb)
  have HBG1 := Lib.hid (HB0.out.via hb)
  clear hb HX HB HB0 HL B0
  obtain ⟨b1, o1, sx, sy, rfl, -, hbb, hy, hxy, hc⟩ := HX1.out.at_ hi
  obtain rfl : sx = sy := hxy
  rw [HA.out] at hy
  obtain rfl : sx = (true, -1) := (Option.some.inj hy).symm
  have d0 := hc 0 _ rfl
  have d1 := hc 1 _ rfl
  simp only [CeE, Nat.add_zero] at d0 d1
  have i0 : (0 : Int) ≤ (i : Int) := by omega
  have i1 : (i : Int) < (n : Int) := by omega
  have e2 : decide (n ≤ i) = false := by simp; omega
  clear hc hy
  go_upto_region 4 with fail
  have SOF := Lib.hid (show ∀ w', Below w1.heap.size w1 w' → (w'.cell? ⟨b1, o1 + i * 2, none⟩ = some (.bool true) ∧ w'.cell? ⟨b1, o1 + i * 2 + 1, none⟩ = some (.int .i64 (-1)) ∧ Below w1.heap.size w1 w') from fun w' hb => ⟨(hb.cell (p := ⟨b1, o1 + i * 2, none⟩) hbb).trans d0, (hb.cell (p := ⟨b1, o1 + i * 2 + 1, none⟩) hbb).trans d1, hb⟩)
  have hb0 := (Below.refl w1.heap.size w1).drew
  clear d0 d1
  go_region_held3 (fun w' => w'.cell? ⟨b1, o1 + i * 2, none⟩ = some (.bool true) ∧ w'.cell? ⟨b1, o1 + i * 2 + 1, none⟩ = some (.int .i64 (-1)) ∧ Below w1.heap.size w1 w') (exact SOF.out _ (by assumption)) (first
    | (go_at_call 40; (with_reducible refine (gT_c _ _).mono ?_); rintro ee wn ⟨rfl, hbn⟩; have hbm : Below w1.heap.size w1 wn := Below.via (by assumption) hbn))
  have HL2 := Lib.hid (HL1.out.via hbm)
  have HX2 := Lib.hid (HX1.out.via hbm)
  have HB2 := Lib.hid (HB1.out.via hbm)
  have HBG2 := Lib.hid (HBG1.out.via hbm)
  clear hbm hbn hb0 SOF HL1 HX1 HB1 HBG1 hbb e2
  go_wp2_with fail
  refine (clonece_c okc _ n c cs _ HX2.out (by omega)).mono ?_
  rintro e w3 ⟨B, d, rfl, hoc, hb⟩
  obtain ⟨bl, rfl, hbl, hce⟩ := hoc.toCeB (by omega)
  have HCE := Lib.hid hce
  have HL3 := Lib.hid (HL2.out.via hb)
  have HB3 := Lib.hid (HB2.out.via hb)
  have Bg := HBG2.out.via hb
  have HBG3 := Lib.hid Bg
  have hbl0 : w.heap.size ≤ bl := Nat.le_trans HB2.out.size hbl
  have hbl1 : bl < w3.heap.size := hce.lt
  have hbg1 : w.heap.size < w3.heap.size := Bg.lt
  have hne : w.heap.size ≠ bl := by have := HBG2.out.lt; omega
  clear hb HL2 HX2 HB2 HBG2 hoc hce
  have cBg := Bg.cell
  have fBg := Bg.frozen
  have lBg := Bg.lt
  go_wp2_with fail
  clear cBg fBg lBg
  clear Bg
  have hgt : g.terms ≤ 8 := HGO.out.ok.terms.2
  go_loopw [9, 37] (fun a q wr => ∃ (t : Nat) (Ab : Option Addr) (cb : Nat) (bs : List Bool) (x : Ce), q = .int .i64 t ∧ t ≤ g.terms ∧ a = .slice Ab t cb ∧ Own BoE 4 (fun _ => False) wr w3.heap.size (.slice Ab t cb) t bs ∧ (∀ (j : Nat) (b : Bool), bs[j]? = some b → (b = true ↔ CanDo g (cs.set i (true, (j : Int))))) ∧ CeB wr bl n d (cs.set i x) ∧ Blk wr w.heap.size 28 #[.int .i64 (g.terms : Int), .int .i64 (g.nons : Int), .int .i64 (g.start : Int), .slice Ag ng cg] ∧ Below w.heap.size w wr ∧ w3.heap.size ≤ wr.heap.size) (fun _ q _ => g.terms - (intOf q).toNat)
  case atStart =>
    refine ⟨0, none, 0, [], (true, -1), rfl, Nat.zero_le _, rfl, Own.nil _ _, fun j b h => by simp at h, ?_, HBG3.out, HB3.out, Nat.le_refl _⟩
    rw [list_set_self HA.out]; exact HCE.out
  case round =>
    obtain ⟨t, Ab, cb, bs, x, rfl, ht, rfl, how, hbs, hce, hbg, hbe, hsz⟩ := hrel
    clear HCE HL3 HB3 HBG3
    have HBS := Lib.hid hbs
    clear hbs
    by_cases htn : t < g.terms
    · have HOW := Lib.hid how
      have HCE := Lib.hid hce
      have HBG := Lib.hid hbg
      have HBE := Lib.hid hbe
      clear how hce hbg hbe
      go_wp2_with fail
      refine (gT_c (t : Int) wr).mono ?_
      rintro e w4 ⟨rfl, hb4⟩
      have HOW4 := Lib.hid (HOW.out.via hb4)
      have hce4 := HCE.out.via hb4
      have HBG4 := Lib.hid (HBG.out.via hb4)
      have HBE4 := Lib.hid (HBE.out.via hb4)
      have hsz4 : w3.heap.size ≤ w4.heap.size := Nat.le_trans hsz hb4.size
      have hxi : (cs.set i x)[i]? = some x := List.getElem?_set_self (by have := HCL.out; omega)
      have c0 := (hce4.cell hxi).1
      have c1 := (hce4.cell hxi).2
      have f0 := hce4.frozen
      have HXI := Lib.hid hxi
      have HCE4 := Lib.hid (hce4.put hxi (true, (t : Int)))
      clear HOW HCE HBG HBE hb4 hce4 hxi
      go_upto_region 12 with fail
      clear c0 c1 f0
      have HOW5 := Lib.hid ((HOW4.out.setCell (p := ⟨bl, i * 2, none⟩) (.bool true) (fun b h => h.elim) hbl1).setCell (p := ⟨bl, i * 2 + 1, none⟩) (.int .i64 (t : Int)) (fun b h => h.elim) hbl1)
      have Bg := (HBG4.out.far (p := ⟨bl, i * 2, none⟩) hne (.bool true)).far (p := ⟨bl, i * 2 + 1, none⟩) hne (.int .i64 (t : Int))
      have HBE5 := Lib.hid ((HBE4.out.setCell (p := ⟨bl, i * 2, none⟩) hbl0 (.bool true)).setCell (p := ⟨bl, i * 2 + 1, none⟩) hbl0 (.int .i64 (t : Int)))
      have hsz5 : w3.heap.size ≤ ((w4.setCell ⟨bl, i * 2, none⟩ (.bool true)).setCell ⟨bl, i * 2 + 1, none⟩ (.int .i64 (t : Int))).heap.size := by simpa using hsz4
      have HCE5 := Lib.hid (show CeB ((w4.setCell ⟨bl, i * 2, none⟩ (.bool true)).setCell ⟨bl, i * 2 + 1, none⟩ (.int .i64 (t : Int))) bl n d (cs.set i (true, (t : Int))) from by have := HCE4.out; rwa [List.set_set] at this)
      clear HOW4 HBG4 HBE4 HCE4 hsz4 HXI
      generalize (w4.setCell ⟨bl, i * 2, none⟩ (.bool true)).setCell ⟨bl, i * 2 + 1, none⟩ (.int .i64 (t : Int)) = W5 at *
      have HBG5 := Lib.hid Bg
      have cBg := Bg.cell
      have fBg := Bg.frozen
      have lBg := Bg.lt
      go_wp2_with fail
      clear cBg fBg lBg
      refine (fill_c ok (fun x => x = bl) g Ag ng cg (some ⟨bl, 0, none⟩) n d (cs.set i (true, (t : Int))) W5 HGO.out (HL0.out.via HBE5.out) HCE5.out.toSl hn (fun x hx => ?_)).mono ?_
      · rcases List.mem_or_eq_of_mem_set hx with hx | rfl
        · exact (HC.out x hx).1
        · rfl
      rintro e w6 ⟨st, ⟨vs, ⟨vA, vn, vc⟩, vo⟩, hgd, hfx, rfl, hv, hb6⟩
      have HVO := Lib.hid (show vo = true ↔ CanDo g (cs.set i (true, (t : Int))) by
        rw [← canDo_iff hgd hfx]
        have h2 : vo = _ := hv.2.1
        rw [h2])
      have HOW6 := Lib.hid ((HOW5.out.via hb6).al (.cells #[.bool vo] 4))
      have HCE6 := Lib.hid ((HCE5.out.via hb6).al (.cells #[.bool vo] 4))
      have HBG6 := Lib.hid ((HBG5.out.via hb6).al (.cells #[.bool vo] 4))
      have HBE6 := Lib.hid ((HBE5.out.via hb6).al (.cells #[.bool vo] 4))
      have hsz6 : w3.heap.size ≤ w6.heap.size := Nat.le_trans hsz5 hb6.size
      have Bnew := Blk.new w6 4 #[.bool vo]
      simp only [hoVal]
      clear HOW5 HCE5 HBG5 HBE5 hsz5 hgd hfx hv hb6 Bg
      have hfd : (Instr.field 101 (.agg #[.int .i64 vs, .slice vA vn vc, .bool vo]) 2).run Try.prog w6 = .ok (.bool vo) w6 := by kernel_rfl
      go_wp2_with (at_builtin; refine wpList_append_b _ rfl (.tmp 45) (.tmp 50) rfl w3.heap.size (.slice Ab t cb) t bs rfl HOW6.out w6.heap.size vo rfl ((Bnew.cell 0).trans rfl) (by omega) (by simp; omega) ?_; intro A' c' w7 ho1 hg1 ha1)
      have HOW7 := Lib.hid ho1
      have hrow : ∀ b, b < w3.heap.size → some b ≠ (Value.slice Ab t cb).ownBlock := fun b hb e => by have := (HOW6.out.lt b e.symm).1; omega
      have HCE7 := Lib.hid (HCE6.out.agr (hg1.block bl HCE6.out.lt (hrow bl hbl1)))
      have HBG7 := Lib.hid (HBG6.out.grown hg1 (hrow _ hbg1))
      have HBE7 := Lib.hid (HBE6.out.grown hg1 (by have := HBG6.out.lt; omega) fun j e => by have := (HOW6.out.lt j e).1; omega)
      have hsz7 : w3.heap.size ≤ w7.heap.size := by have := hg1.size; simp at this; omega
      clear ho1 hg1 ha1 hrow Bnew HOW6 HCE6 HBG6 HBE6
      have HBS2 := Lib.hid (show ∀ (j : Nat) (b : Bool), (bs ++ [vo])[j]? = some b → (b = true ↔ CanDo g (cs.set i (true, (j : Int)))) from fun j b h => by
        have hl := HOW7.out.len
        simp at hl
        rcases Nat.lt_or_ge j bs.length with h1 | h1
        · rw [List.getElem?_append_left h1] at h; exact HBS.out j b h
        · rw [List.getElem?_append_right h1] at h
          have hj : j - bs.length = 0 := by
            have := (List.getElem?_eq_some_iff.1 h).1
            simp at this; omega
          rw [hj] at h
          simp at h
          obtain rfl : j = t := by omega
          rw [← h]; exact HVO.out)
      go_wp2_with fail
      exact ⟨⟨t + 1, A', c', bs ++ [vo], (true, (t : Int)), by go_num, by omega, rfl, HOW7.out, HBS2.out, HCE7.out, HBG7.out, HBE7.out, hsz7⟩, by simp [intOf]; omega⟩
    · obtain rfl : t = g.terms := by omega
      have HSL := Lib.hid (how.toSl (ok' := fun x => w.heap.size ≤ x) (fun _ _ h => h.elim) fun x hx => by omega)
      have HBE := Lib.hid hbe
      clear how hce hbg hbe
      go_wp2_with fail
      go_ret2
      exact ⟨Ab, cb, bs, rfl, HSL.out, HBS.out, HBE.out⟩
end Go.Proofs.Ytghnkgbingcbcaa
