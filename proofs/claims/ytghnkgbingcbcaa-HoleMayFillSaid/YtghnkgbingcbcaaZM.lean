/- repair.Best: the walk. -/
import Derived.Test.YtghnkgbingcbcaaZL
namespace Go.Proofs.Ytghnkgbingcbcaa
open Go.RowKit

set_option maxHeartbeats 400000 in
theorem clone_c (A : Option Addr) (n c : Nat) (xs : List Int) (w : World) (h : Ints w A n c xs) (hn : n ≤ 17592186044416) :
    Calls Try.prog 30 #[.slice A n c] w fun e w' => ∃ v, e = .returned v ∧ OwnI w' w.heap.size v n xs ∧ Below w.heap.size w w' := by
  have he := fun wx => Lib.run_eql_slice_nil (P := Try.prog) wx 22 3 A n c 0 0 Try.underlying22
  rcases A with _ | ad
  · obtain ⟨rfl, rfl⟩ := h.isNone
    go_enter Try.func30, Try.ntmps30
    go_wp2
    go_ret
    exact ⟨_, rfl, OwnI.nil _ _, Below.refl _ _⟩
  · go_enter Try.func30, Try.ntmps30
    go_wp2_with (at_builtin; refine wpList_append_ints _ rfl (.tmp 5) (.tmp 6) rfl w.heap.size (.slice (some ⟨w.heap.size, 0, none⟩) 0 0) 0 [] rfl (World.ownsRow_lit w #[] 0 (Nat.le_refl _) (by omega) rfl) (some ad) n c xs rfl (h.keep ((Below.refl w.heap.size w).alloc (Nat.le_refl _) _) (Nat.le_refl _)) (by omega) (by simp) ?_; intro Av1 cv1 w1 hown1 hg1 hat1)
    go_ret
    exact ⟨_, rfl, by simpa using hown1, ((Below.refl _ _).alloc (Nat.le_refl _) _).grown hg1 (by simp) (by simp [Value.ownBlock])⟩

theorem clone_s (A : Option Addr) (n c : Nat) (xs : List Int) (w : World) (h : Ints w A n c xs) (hn : n ≤ 17592186044416) :
    Calls Try.prog 30 #[.slice A n c] w fun e w' => ∃ B d, e = .returned (.slice B n d) ∧ OwnI w' w.heap.size (.slice B n d) n xs ∧ Below w.heap.size w w' :=
  (clone_c A n c xs w h hn).mono fun e w' ⟨v, he, ho, hb⟩ => by
    obtain ⟨B, d, rfl, _⟩ := ho.form
    exact ⟨B, d, he, ho, hb⟩

theorem rule_short {p : Pm} {st : WSt} (hp : p.Ok) (hst : ∀ N i j, Bnd 2000000000 (st N i j)) (i : Nat) (l : List Sy) (j : Nat) : (p.rule st i l j).w.length ≤ 2000 := by
  by_cases hl : l = []
  · subst hl
    rw [Pm.rule, ruleW, if_pos rfl]
    split <;> simp [Way.no]
  · rw [Pm.rule, ruleW, if_neg hl]
    exact (Bnd.ruleAt (M := 2000000000) (by omega) (fun s k j _ _ _ => Bnd.sym hp.c0 hp.c1 hp.c2 hp.len (by omega) hst s k j) l j).short
/-- what has been seen: the first k rules -/
def V4 (rules : List Ru) (n k : Nat) : Ru → Nat → Nat → Prop := fun r i j => (∃ k', k' < k ∧ rules[k']? = some r) ∧ i ≤ j ∧ j ≤ n
/-- .. and rule r0 up to row i0, place j0 -/
def V6 (rules : List Ru) (n k : Nat) (r0 : Ru) (i0 j0 : Nat) : Ru → Nat → Nat → Prop := fun r i j => V4 rules n k r i j ∨ (r = r0 ∧ i ≤ j ∧ j ≤ n ∧ (i < i0 ∨ (i = i0 ∧ j < j0)))

def BestP (w : World) (p : Pm) (s : Nat) (e : Ending) (w' : World) : Prop :=
  ∃ st, Good p st ∧ Fixd p.c0 p.c1 p.c2 p.rules p.w st p.w.length ∧ Below w.heap.size w w' ∧
    ((e = .returned (.tuple #[.int .i64 0, .slice none 0 0, .int .i64 5]) ∧ (st s 0 p.w.length).ok = false) ∨
     (e = .returned (.tuple #[.int .i64 0, .slice none 0 0, .int .i64 2]) ∧ (st s 0 p.w.length).ok = true ∧ 2000 < (st s 0 p.w.length).size) ∨
     ∃ A n c, e = .returned (.tuple #[.int .i64 (st s 0 p.w.length).cost, .slice A n c, .int .i64 0]) ∧ (st s 0 p.w.length).ok = true ∧ (st s 0 p.w.length).size ≤ 2000 ∧ Ints w' A n c (st s 0 p.w.length).w)
set_option maxRecDepth 100000 in
set_option maxHeartbeats 16000000 in
theorem best_c (ok : Nat → Prop) (g : Gr) (Ag : Option Addr) (ng cg : Nat) (A : Option Addr) (n c : Nat) (xs : List Int) (c0 c1 c2 : Int) (w : World) (hg : GrOk g) (hl : Sl RuE ok w Ag ng cg g.rules) (hx : Ints w A n c xs) (hn : n ≤ 12) (hxt : ∀ x ∈ xs, 0 ≤ x ∧ x < (g.terms : Int))
    (h0 : 1 ≤ c0 ∧ c0 ≤ 100) (h1 : 1 ≤ c1 ∧ c1 ≤ 100) (h2 : 1 ≤ c2 ∧ c2 ≤ 100) :
    Calls Try.prog 6 #[grVal g Ag ng cg, .slice A n c, .agg #[.int .i64 c0, .int .i64 c1, .int .i64 c2]] w (BestP w ⟨c0, c1, c2, g.nons, g.rules, xs⟩ g.start) := by
  have hxl := hx.len
  have HXL := Lib.hid hxl
  have HX0 := Lib.hid hx
  have HL0 := Lib.hid hl
  have hp : Pm.Ok ⟨c0, c1, c2, g.nons, g.rules, xs⟩ := ⟨h0, h1, h2, hg.ok.nons.2, hg.ok.left, fun r hr => (hg.ok.right r hr).1, fun r hr s hs hb => by
    have := (hg.ok.right r hr).2 s hs
    rw [Gr.okSy, if_pos hb] at this
    have := hg.ok.terms.2; omega, by show xs.length ≤ 12; omega⟩
  have HP := Lib.hid hp
  have HGO := Lib.hid hg
  have HXT := Lib.hid hxt
  have hB := (((Below.refl w.heap.size w).al (.cells #[.int .i64 (g.terms : Int), .int .i64 (g.nons : Int), .int .i64 (g.start : Int), .slice Ag ng cg] 28)).al (.cells #[.int .i64 c0, .int .i64 c1, .int .i64 c2] 30))
  have B0 := (Blk.new w 28 #[.int .i64 (g.terms : Int), .int .i64 (g.nons : Int), .int .i64 (g.start : Int), .slice Ag ng cg]).al (.cells #[.int .i64 c0, .int .i64 c1, .int .i64 c2] 30)
  have B1 := Blk.new (w.alloc (.cells #[.int .i64 (g.terms : Int), .int .i64 (g.nons : Int), .int .i64 (g.start : Int), .slice Ag ng cg] 28)) 30 #[.int .i64 c0, .int .i64 c1, .int .i64 c2]
  rw [World.size_alloc] at B1
  have HL := Lib.hid (hl.via hB)
  have HX := Lib.hid (hx.keep hB (Nat.le_refl _))
  have HB := Lib.hid hB
  have HB0 := Lib.hid B0
  have HB1 := Lib.hid B1
  simp only [grVal]
  clear hl hx hB B0 B1 hxl hp hg hxt
  go_enter Try.func6, Try.ntmps6
  go_wp2_with fail
  generalize (w.alloc (.cells #[.int .i64 (g.terms : Int), .int .i64 (g.nons : Int), .int .i64 (g.start : Int), .slice Ag ng cg] 28)).alloc (.cells #[.int .i64 c0, .int .i64 c1, .int .i64 c2] 30) = W at *
  refine (check_c ok g Ag ng cg W HGO.out HL.out).mono ?_
  rintro e w1 ⟨rfl, hb⟩
  have HL1 := Lib.hid (HL.out.via hb)
  have HX1 := Lib.hid (HX.out.keep hb (Nat.le_refl _))
  have HBB := Lib.hid (HB.out.via hb)
  have B0 := HB0.out.via hb
  have HB1' := Lib.hid (HB1.out.via hb)
  have HB0' := Lib.hid B0
  clear hb HL HX HB HB0 HB1
  have cB0 := B0.cell
  have fB0 := B0.frozen
  have lB0 := B0.lt
  go_wp2_with fail
  clear cB0 fB0 lB0
  refine (word_ok g Ag ng cg A n c 12 xs w1 HX1.out hn (by omega) HXT.out).mono ?_
  rintro e w2 ⟨rfl, hb⟩
  have HL2 := Lib.hid (HL1.out.via hb)
  have HX2 := Lib.hid (HX1.out.keep hb (Nat.le_refl _))
  have HB2 := Lib.hid (HBB.out.via hb)
  have B0 := HB0'.out.via hb
  have B1 := HB1'.out.via hb
  clear hb HL1 HX1 HBB HB0' HB1'
  have cB0 := B0.cell
  have fB0 := B0.frozen
  have lB0 := B0.lt
  have cB1 := B1.cell
  have fB1 := B1.frozen
  have lB1 := B1.lt
  go_wp2_with fail
  refine (containsB_c (some ⟨w.heap.size + 1, 0, none⟩) 3 3 [c0, c1, c2] w2 ⟨rfl, Nat.le_refl _, fun _ => ⟨_, 0, rfl, fun i hi => by
    match i, hi with
    | 0, _ => exact (B1.cell 0).trans rfl
    | 1, _ => exact (B1.cell 1).trans rfl
    | 2, _ => exact (B1.cell 2).trans rfl⟩⟩ (by omega) (fun x hx => by simp at hx; rcases hx with rfl | rfl | rfl <;> assumption)).mono ?_
  rintro e w3 ⟨rfl, rfl⟩
  go_wp2_with fail
  have HIR := Lib.hid (show IR w w2.heap.size w.heap.size n (w2.heap.size + 1) 0 (fun _ => 0) (fun _ _ => 0) (fun v => #[.int .i64 (g.terms : Int), .int .i64 (g.nons : Int), .int .i64 (g.start : Int), .slice Ag ng cg, .slice A n c, .int .i64 c0, .int .i64 c1, .int .i64 c2, v]) #[.int .i64 (g.terms : Int), .int .i64 (g.nons : Int), .int .i64 (g.start : Int), .slice Ag ng cg] (.slice none 0 0)
      (w2.alloc (.cells #[.int .i64 (g.terms : Int), .int .i64 (g.nons : Int), .int .i64 (g.start : Int), .slice Ag ng cg, .slice A n c, .int .i64 c0, .int .i64 c1, .int .i64 c2, .slice none 0 0] 71)) from
    ⟨Blk.new w2 _ _, B0.al _, Own.nil _ _, fun a i h => by omega, fun a i h => by omega, fun a i a' i' h => by omega, fun a a' i h => by omega, fun a h => by omega, fun a i h => by omega, fun b h => (by cases h), HB2.out.al _, Nat.le_refl _, B0.lt, by omega, by simp⟩)
  have HX3 := Lib.hid (HX2.out.alloc (.cells #[.int .i64 (g.terms : Int), .int .i64 (g.nons : Int), .int .i64 (g.start : Int), .slice Ag ng cg, .slice A n c, .int .i64 c0, .int .i64 c1, .int .i64 c2, .slice none 0 0] 71))
  have HL3 := Lib.hid (HL2.out.al (.cells #[.int .i64 (g.terms : Int), .int .i64 (g.nons : Int), .int .i64 (g.start : Int), .slice Ag ng cg, .slice A n c, .int .i64 c0, .int .i64 c1, .int .i64 c2, .slice none 0 0] 71))
  have hW3 : w2.heap.size + 1 ≤ (w2.alloc (.cells #[.int .i64 (g.terms : Int), .int .i64 (g.nons : Int), .int .i64 (g.start : Int), .slice Ag ng cg, .slice A n c, .int .i64 c0, .int .i64 c1, .int .i64 c2, .slice none 0 0] 71)).heap.size := by simp
  have hbb : w.heap.size < w2.heap.size := B0.lt
  clear HX2 HL2 HB2
  clear cB0 fB0 lB0 cB1 fB1 lB1
  clear B0 B1
  generalize w2.alloc (.cells #[.int .i64 (g.terms : Int), .int .i64 (g.nons : Int), .int .i64 (g.start : Int), .slice Ag ng cg, .slice A n c, .int .i64 c0, .int .i64 c1, .int .i64 c2, .slice none 0 0] 71) = W3 at *
  generalize w2.heap.size = bc at *
  have gn1 : g.nons ≤ 10 := HGO.out.ok.nons.2
  go_loopw [41] (fun q wr => ∃ (k hi : Nat) (rb : Nat → Nat) (cb : Nat → Nat → Nat) (Av : Option Addr) (cv : Nat), q = .int .i64 k ∧ k ≤ g.nons ∧ IR w bc w.heap.size n hi k rb cb (fun v => #[.int .i64 (g.terms : Int), .int .i64 (g.nons : Int), .int .i64 (g.start : Int), .slice Ag ng cg, .slice A n c, .int .i64 c0, .int .i64 c1, .int .i64 c2, v]) #[.int .i64 (g.terms : Int), .int .i64 (g.nons : Int), .int .i64 (g.start : Int), .slice Ag ng cg] (.slice Av k cv) wr ∧ Below bc W3 wr) (fun q _ => g.nons - (intOf q).toNat)
  case atStart => exact ⟨0, _, _, _, none, 0, rfl, Nat.zero_le _, HIR.out, Below.refl _ _⟩
  case round =>
    obtain ⟨k, hi, rb, cb, Av, cv, rfl, hk, hir, hbw⟩ := hrel
    clear HIR
    by_cases hlt : k < g.nons
    · have HJ0 := Lib.hid (JR.start hir (fun _ => 0))
      have HBW := Lib.hid (hbw.alloc (Nat.le_of_lt hir.hc.lt) (.cells (mkCells (.slice none 0 0) (n + 1)) 73))
      have hmk := mk_wrows n (by omega)
      have hlr := Lib.hid (show bc < wr.heap.size from hir.hc.lt)
      clear hir hbw
      go_wp2_with fail
      clear hmk
      generalize wr.alloc (.cells (mkCells (.slice none 0 0) (n + 1)) 73) = W4 at *
      generalize wr.heap.size = R at *
      obtain ⟨wo, rfl⟩ : ∃ wo : World, wo = wr := ⟨_, rfl⟩
      go_loopw [49] (fun q wr => ∃ (i : Nat) (ck : Nat → Nat), q = .int .i64 i ∧ i ≤ n + 1 ∧ JR w bc w.heap.size n hi k rb cb (fun v => #[.int .i64 (g.terms : Int), .int .i64 (g.nons : Int), .int .i64 (g.start : Int), .slice Ag ng cg, .slice A n c, .int .i64 c0, .int .i64 c1, .int .i64 c2, v]) #[.int .i64 (g.terms : Int), .int .i64 (g.nons : Int), .int .i64 (g.start : Int), .slice Ag ng cg] (.slice Av k cv) R i ck wr ∧ Below bc W3 wr) (fun q _ => n + 1 - (intOf q).toNat)
      case atStart => exact ⟨0, _, rfl, Nat.zero_le _, HJ0.out, HBW.out⟩
      case round =>
        obtain ⟨i, ck, rfl, hi2, hjr, hbw⟩ := hrel
        clear HJ0 HBW
        by_cases hin : i ≤ n
        · have hms := mk_ways n (by omega)
          have hRl0 : R < wr.heap.size := by obtain ⟨C, C1, -⟩ := hjr.top; exact C1.lt
          have hjn := hjr.next hin
          rw [World.setCell_alloc_past _ R i _ hRl0] at hjn
          have HJN := Lib.hid hjn
          have hRl := hjr.lo
          have hbR : bc ≤ R := by have := hjr.ir.l2; omega
          have hbn := ((hbw.alloc (by have := hjr.ir.l3; have := hjr.ir.l2; omega) (.cells (wayCells n) 78)).setCell (p := ⟨R, i, none⟩) hbR (.slice (some ⟨wr.heap.size, 0, none⟩) (n + 1) (n + 1)))
          rw [World.setCell_alloc_past _ R i _ hRl0] at hbn
          have HBN := Lib.hid hbn
          obtain ⟨C, C1, C2, -⟩ := hjr.top
          have cR : ∃ u, wr.cell? ⟨R, i, none⟩ = some u := ⟨C[i]'(by omega), by rw [C1.cell]; exact Array.getElem?_eq_getElem (by omega)⟩
          obtain ⟨u, cR⟩ := cR
          have fR := C1.frozen i
          have lR := C1.lt
          have i0 : (0 : Int) ≤ (i : Int) := by omega
          have i1 : (i : Int) < (n : Int) + 1 := by omega
          clear hjr C1 C2 hbw hjn hbn hRl0
          go_wp2_with fail
          exact ⟨⟨i + 1, _, by go_num, by omega, HJN.out, HBN.out⟩, by simp [intOf]; omega⟩
        · have HIN := Lib.hid (show i = n + 1 by omega)
          have hbc := hjr.ir.hc
          have hown := hjr.ir.own
          have hl3 := hjr.ir.l3
          have hl2 := hjr.ir.l2
          have HJ := Lib.hid hjr
          have HBW := Lib.hid hbw
          have HOWN := Lib.hid (hown.al (.cells #[.slice (some ⟨R, 0, none⟩) (n + 1) (n + 1)] 72))
          have hlB := hbc.lt
          have cB : ∀ q, wr.cell? ⟨bc, q, none⟩ = #[.int .i64 (g.terms : Int), .int .i64 (g.nons : Int), .int .i64 (g.start : Int), .slice Ag ng cg, .slice A n c, .int .i64 c0, .int .i64 c1, .int .i64 c2, .slice Av k cv][q]? := hbc.cell
          have Bnew := Blk.new wr 72 #[.slice (some ⟨R, 0, none⟩) (n + 1) (n + 1)]
          have HNE := Lib.hid (show some bc ≠ (Value.slice Av k cv).ownBlock from fun e => by have := (hown.lt bc e.symm).1; omega)
          have HBA := Lib.hid (hbc.al (.cells #[.slice (some ⟨R, 0, none⟩) (n + 1) (n + 1)] 72))
          have HOB := Lib.hid (show ∀ j, (Value.slice Av k cv).ownBlock = some j → bc ≤ j from fun j e => by have := (hown.lt j e).1; omega)
          clear hjr hbw hbc hown
          go_wp2_with (at_builtin; refine wpList_append_rows _ rfl (.tmp 64) (.tmp 66) rfl (bc + 1) (.slice Av k cv) k _ rfl HOWN.out wr.heap.size (some ⟨R, 0, none⟩, n + 1, n + 1) rfl ((Bnew.cell 0).trans rfl) (by omega) (by simp; omega) ?_; intro A' c' w5 ho1 hg1 ha1; have Bw5 := HBA.out.grown hg1 HNE.out; have c5 := Bw5.cell; have f5 := Bw5.frozen; have l5 := Bw5.lt)
          have HF := Lib.hid (JR.hang (by rw [← HIN.out]; exact HJ.out) (.cells #[.slice (some ⟨R, 0, none⟩) (n + 1) (n + 1)] 72) ho1 hg1 ha1 (fun u => rfl))
          have HBF := Lib.hid (((HBW.out.alloc (Nat.le_of_lt hlB) (.cells #[.slice (some ⟨R, 0, none⟩) (n + 1) (n + 1)] 72)).grown hg1 (by simp; omega) HOB.out).setCell (p := ⟨bc, 8, none⟩) (Nat.le_refl _) (.slice A' (k + 1) c'))
          clear ho1 hg1 ha1 Bw5 c5 f5 l5 cB Bnew
          exact ⟨⟨k + 1, _, _, _, A', c', by go_num, by omega, HF.out, HBF.out⟩, by simp [intOf]; omega⟩
    · obtain rfl : k = g.nons := by omega
      obtain ⟨ob, oo, rfl, hst, hbr⟩ := hir.fin HGO.out.ok.nons.1
      have hlb : bc < wr.heap.size := hir.hc.lt
      generalize hB0 : wr.heap.size = BZ at *
      have HST := Lib.hid hst
      have HBR := Lib.hid (show BRel w bc w.heap.size ob oo g.nons n BZ rb cb #[.int .i64 (g.terms : Int), .int .i64 (g.nons : Int), .int .i64 (g.start : Int), .slice Ag ng cg, .slice A n c, .int .i64 c0, .int .i64 c1, .int .i64 c2, .slice (some ⟨ob, oo, none⟩) g.nons cv] #[.int .i64 (g.terms : Int), .int .i64 (g.nons : Int), .int .i64 (g.start : Int), .slice Ag ng cg] (fun _ _ _ => Way.no) wr from hbr)
      clear hir hst hbr hbw
      obtain ⟨p, hp⟩ : ∃ p : Pm, p = ⟨c0, c1, c2, g.nons, g.rules, xs⟩ := ⟨_, rfl⟩
      have HPN := Lib.hid (show p.w.length = n by rw [hp]; exact HXL.out)
      have HPNO := Lib.hid (show p.nons = g.nons by rw [hp])
      have HPR := Lib.hid (show p.rules = g.rules by rw [hp])
      have HPO := Lib.hid (show p.Ok by rw [hp]; exact HP.out)
      have HRW := Lib.hid (show ∀ st i l, ruleW c0 c1 c2 xs st n i l = p.rule st i l from fun st i l => by rw [hp, Pm.rule, HXL.out])

      have HPP := Lib.hid hp
      have HGD := Lib.hid (Good.start p)
      clear hp
      go_wp2_with fail
      clear hB0
      go_loopg [14] (2 * total big 8 p.nons p.w.length (fun _ _ _ => Way.no) + 1) (fun gk a wx => ∃ st ag, a = .bool ag ∧ Good p st ∧ BRel w bc w.heap.size ob oo g.nons n BZ rb cb #[.int .i64 (g.terms : Int), .int .i64 (g.nons : Int), .int .i64 (g.start : Int), .slice Ag ng cg, .slice A n c, .int .i64 c0, .int .i64 c1, .int .i64 c2, .slice (some ⟨ob, oo, none⟩) g.nons cv] #[.int .i64 (g.terms : Int), .int .i64 (g.nons : Int), .int .i64 (g.start : Int), .slice Ag ng cg] st wx ∧ (ag = false → Fixd p.c0 p.c1 p.c2 p.rules p.w st p.w.length) ∧ gk = 2 * total big 8 p.nons p.w.length st + (if ag then 1 else 0))
      case atStart => exact ⟨_, true, rfl, HGD.out, HBR.out, fun h => (by cases h), rfl⟩
      case round =>
        obtain ⟨st, ag, rfl, hgd, hbr, hfx, hgk⟩ := hrel
        clear HBR HGD
        cases ag with
        | false =>
          have HGD := Lib.hid hgd
          have HBR := Lib.hid hbr
          have HFX := Lib.hid (hfx rfl)
          clear hgd hbr hfx hgk
          go_upto_region 37 with fail
          have hsn := HGO.out.ok.start
          have t1 := HBR.out.bt.top g.start hsn
          have t2 := HBR.out.bt.mid g.start 0 hsn (Nat.zero_le _)
          obtain ⟨⟨xc, xs_, ⟨xA, xn, xcc⟩, xo⟩, hxr, d0, d1, d2, d3⟩ := (HBR.out.bt.row g.start 0 hsn (Nat.zero_le _)).at_ (Nat.le_refl n)
          simp only at d0 d1 d2 d3
          have l1 := World.block_lt_of_cell? wr _ t1
          have l2 := World.block_lt_of_cell? wr _ t2
          have l3 := World.block_lt_of_cell? wr _ d0
          simp only at l1 l2 l3
          have SOF := Lib.hid (show ∀ w', Below wr.heap.size wr w' → ((∀ i, w'.cell? ⟨bc, i, none⟩ = #[.int .i64 (g.terms : Int), .int .i64 (g.nons : Int), .int .i64 (g.start : Int), .slice Ag ng cg, .slice A n c, .int .i64 c0, .int .i64 c1, .int .i64 c2, .slice (some ⟨ob, oo, none⟩) g.nons cv][i]?) ∧ (∀ i, w'.cell? ⟨w.heap.size, i, none⟩ = #[.int .i64 (g.terms : Int), .int .i64 (g.nons : Int), .int .i64 (g.start : Int), .slice Ag ng cg][i]?) ∧ w'.cell? ⟨ob, oo + g.start, none⟩ = some (.slice (some ⟨rb g.start, 0, none⟩) (n + 1) (n + 1)) ∧ w'.cell? ⟨rb g.start, 0, none⟩ = some (.slice (some ⟨cb g.start 0, 0, none⟩) (n + 1) (n + 1)) ∧ w'.cell? ⟨cb g.start 0, n * 4, none⟩ = some (.int .i64 xc) ∧ w'.cell? ⟨cb g.start 0, n * 4 + 1, none⟩ = some (.int .i64 xs_) ∧ w'.cell? ⟨cb g.start 0, n * 4 + 2, none⟩ = some (.slice xA xn xcc) ∧ w'.cell? ⟨cb g.start 0, n * 4 + 3, none⟩ = some (.bool xo) ∧ Below wr.heap.size wr w') from fun w' hb => ⟨(HBR.out.hc.via hb).cell, (HBR.out.hg.via hb).cell, (hb.cell (p := ⟨ob, oo + g.start, none⟩) l1).trans t1, (hb.cell (p := ⟨rb g.start, 0, none⟩) l2).trans t2, (hb.cell (p := ⟨cb g.start 0, n * 4, none⟩) l3).trans d0, (hb.cell (p := ⟨cb g.start 0, n * 4 + 1, none⟩) l3).trans d1, (hb.cell (p := ⟨cb g.start 0, n * 4 + 2, none⟩) l3).trans d2, (hb.cell (p := ⟨cb g.start 0, n * 4 + 3, none⟩) l3).trans d3, hb⟩)
          have hb0 := (Below.refl wr.heap.size wr).drew
          have j0 : (0 : Int) ≤ (g.start : Int) := by omega
          have j1 : (g.start : Int) < (g.nons : Int) := by omega
          have j2 : (0 : Int) < (n : Int) + 1 := by omega
          have j3 : (n : Int) < (n : Int) + 1 := by omega
          have j4 : (0 : Int) ≤ (n : Int) := by omega
          clear t1 t2 d0 d1 d2 d3 l1 l2 l3
          go_region_held3 (fun w' => (∀ i, w'.cell? ⟨bc, i, none⟩ = #[.int .i64 (g.terms : Int), .int .i64 (g.nons : Int), .int .i64 (g.start : Int), .slice Ag ng cg, .slice A n c, .int .i64 c0, .int .i64 c1, .int .i64 c2, .slice (some ⟨ob, oo, none⟩) g.nons cv][i]?) ∧ (∀ i, w'.cell? ⟨w.heap.size, i, none⟩ = #[.int .i64 (g.terms : Int), .int .i64 (g.nons : Int), .int .i64 (g.start : Int), .slice Ag ng cg][i]?) ∧ w'.cell? ⟨ob, oo + g.start, none⟩ = some (.slice (some ⟨rb g.start, 0, none⟩) (n + 1) (n + 1)) ∧ w'.cell? ⟨rb g.start, 0, none⟩ = some (.slice (some ⟨cb g.start 0, 0, none⟩) (n + 1) (n + 1)) ∧ w'.cell? ⟨cb g.start 0, n * 4, none⟩ = some (.int .i64 xc) ∧ w'.cell? ⟨cb g.start 0, n * 4 + 1, none⟩ = some (.int .i64 xs_) ∧ w'.cell? ⟨cb g.start 0, n * 4 + 2, none⟩ = some (.slice xA xn xcc) ∧ w'.cell? ⟨cb g.start 0, n * 4 + 3, none⟩ = some (.bool xo) ∧ Below wr.heap.size wr w') (exact SOF.out _ (by first | assumption | exact ((Below.refl wr.heap.size wr).al _).drew)) (fail)
          have Bx := (Blk.new wr 78 #[.int .i64 xc, .int .i64 xs_, .slice xA xn xcc, .bool xo]).dr
          have HXR := Lib.hid ((hxr.al (.cells #[.int .i64 xc, .int .i64 xs_, .slice xA xn xcc, .bool xo] 78)).dr)
          have HBF := Lib.hid ((HBR.out.bel.al (.cells #[.int .i64 xc, .int .i64 xs_, .slice xA xn xcc, .bool xo] 78)).drew)
          clear hb0 SOF hxr j0 j1 j2 j3 j4 hsn HBR
          generalize (wr.alloc (.cells #[.int .i64 xc, .int .i64 xs_, .slice xA xn xcc, .bool xo] 78)).drew = W9 at *
          generalize wr.heap.size = bx at *
          obtain ⟨hc1, hs1, ho1, hw1⟩ := HXR.out
          simp only at hc1 hs1 ho1 hw1
          have HC1 := Lib.hid hc1
          have HS1 := Lib.hid hs1
          have HO1 := Lib.hid ho1
          have HW1 := Lib.hid hw1
          clear hc1 hs1 ho1 hw1 HXR
          cases xo with
          | false =>
            have cBx := Bx.cell
            have fBx := Bx.frozen
            have lBx := Bx.lt
            go_wp2_with fail
            go_ret3
            rw [← HPP.out]
            exact ⟨st, HGD.out, HFX.out, HBF.out, Or.inl ⟨rfl, by rw [HPN.out, ← HO1.out]⟩⟩
          | true =>
            by_cases hsz : 2000 < xs_
            · have cBx := Bx.cell
              have fBx := Bx.frozen
              have lBx := Bx.lt
              go_wp2_with fail
              go_ret3
              rw [← HPP.out]
              exact ⟨st, HGD.out, HFX.out, HBF.out, Or.inr (Or.inl ⟨rfl, by rw [HPN.out, ← HO1.out], by rw [HPN.out, ← HS1.out]; exact hsz⟩)⟩
            · have e9 : decide ((2000 : Int) < xs_) = false := by simpa using hsz
              have HSZ := Lib.hid hsz
              clear hsz
              have HIX := Lib.hid (show ∀ w', Below W9.heap.size W9 w' → Ints w' xA xn xcc (st g.start 0 n).w from fun w' hb => HW1.out.ints.keep hb (Nat.le_refl _))
              have hxn : xn ≤ 17592186044416 := by
                have hb := (HGD.out.frm HPO.out g.start 0 n HO1.out.symm).bnd.short
                have := HW1.out.len; omega
              have cBx := Bx.cell
              have fBx := Bx.frozen
              have lBx := Bx.lt
              go_upto_region 42 with fail
              have SO9 := Lib.hid (show ∀ w', Below W9.heap.size W9 w' → ((∀ i, w'.cell? ⟨bx, i, none⟩ = #[.int .i64 xc, .int .i64 xs_, .slice xA xn xcc, .bool true][i]?) ∧ Below W9.heap.size W9 w') from fun w' hb => ⟨(Bx.via hb).cell, hb⟩)
              clear cBx fBx lBx
              clear Bx e9
              have hb0 := (Below.refl W9.heap.size W9).drew
              go_region_held3 (fun w' => (∀ i, w'.cell? ⟨bx, i, none⟩ = #[.int .i64 xc, .int .i64 xs_, .slice xA xn xcc, .bool true][i]?) ∧ Below W9.heap.size W9 w') (exact SO9.out _ (by assumption)) (first
                | (go_at_call 30; (with_reducible refine (clone_s xA xn xcc (st g.start 0 n).w _ (HIX.out _ (by assumption)) hxn).mono ?_); rintro ee wn ⟨Bc, dc, rfl, hoc, hbn⟩; have hbm : Below W9.heap.size W9 wn := Below.via (by assumption) hbn))
              have HOC := Lib.hid hoc.toInts
              have HBE := Lib.hid (HBF.out.via hbm)
              clear hb0 hbm hbn hoc
              go_wp2_with fail
              go_ret3
              rw [← HPP.out]
              refine ⟨st, HGD.out, HFX.out, HBE.out, Or.inr (Or.inr ⟨Bc, xn, dc, ?_, by rw [HPN.out, ← HO1.out], by rw [HPN.out, ← HS1.out]; have := HSZ.out; omega, by rw [HPN.out]; exact HOC.out⟩)⟩
              rw [HPN.out, ← HC1.out]; rfl
        | true =>
          have HGD := Lib.hid hgd
          have HBR := Lib.hid hbr
          have HGK := Lib.hid hgk
          have Bg := hbr.hg
          clear hgd hbr hfx hgk
          have cBg := Bg.cell
          have fBg := Bg.frozen
          have lBg := Bg.lt
          go_wp2_with fail
          have hng := HL0.out.len
          have hng32 : ng ≤ 32 := by have := HGO.out.ok.count; omega
          have HNG := Lib.hid hng
          clear hng
          have HPG := Lib.hid (show Prg p st st false (V4 g.rules n 0) from Prg.mono (Prg.start st) fun r i j h => by obtain ⟨⟨k', hk', _⟩, _⟩ := h; omega)
          clear cBg fBg lBg
          clear Bg
          obtain ⟨wo, rfl⟩ : ∃ wo : World, wo = wr := ⟨_, rfl⟩
          go_loopw [14, 75] (fun a q wr => ∃ (k : Nat) (st1 : WSt) (ag : Bool), q = .int .i64 k ∧ k ≤ ng ∧ a = .bool ag ∧ Good p st1 ∧ BRel w bc w.heap.size ob oo g.nons n BZ rb cb #[.int .i64 (g.terms : Int), .int .i64 (g.nons : Int), .int .i64 (g.start : Int), .slice Ag ng cg, .slice A n c, .int .i64 c0, .int .i64 c1, .int .i64 c2, .slice (some ⟨ob, oo, none⟩) g.nons cv] #[.int .i64 (g.terms : Int), .int .i64 (g.nons : Int), .int .i64 (g.start : Int), .slice Ag ng cg] st1 wr ∧ Prg p st st1 ag (V4 g.rules n k)) (fun _ q _ => ng - (intOf q).toNat)
          case atStart => exact ⟨0, st, false, rfl, Nat.zero_le _, rfl, HGD.out, HBR.out, HPG.out⟩
          case round =>
            obtain ⟨k, st1, ag, rfl, hk, rfl, hgd1, hbr1, hpg1⟩ := hrel
            clear HPG HBR HGD
            by_cases hkn : k < ng
            · obtain ⟨b1, o1, ⟨sl, sA, sn, sc⟩, ⟨sl', rhs⟩, hAg, -, hbb, hy, ⟨hx1, hx2⟩, hc⟩ := HL0.out.at_ hkn
              simp only at hx1 hx2
              obtain rfl : sl = sl' := hx1
              subst hAg
              have d0 := (hbr1.bel.cell (p := ⟨b1, o1 + k * RuE.k + 0, none⟩) hbb).trans (hc 0 _ rfl)
              have d1 := (hbr1.bel.cell (p := ⟨b1, o1 + k * RuE.k + 1, none⟩) hbb).trans (hc 1 _ rfl)
              simp only [RuE, Nat.add_zero] at d0 d1
              have i0 : (0 : Int) ≤ (k : Int) := by omega
              have i1 : (k : Int) < (ng : Int) := by omega
              have hmem := List.mem_of_getElem? hy
              have hsl : sl < g.nons := HGO.out.ok.left _ hmem
              have HRT := Lib.hid (HGO.out.ok.right _ hmem)
              have HMEM := Lib.hid (show (sl, rhs) ∈ p.rules by rw [HPR.out]; exact hmem)
              have HY := Lib.hid hy
              have HSR := Lib.hid hx2
              have HGD1 := Lib.hid hgd1
              have HMID := Lib.hid (Mid.start hgd1 (sl, rhs))
              have HBR1 := Lib.hid (hbr1.via ((Below.refl wr.heap.size wr).al (.cells #[.int .i64 (sl : Int), .slice sA sn sc] 75)))
              have HPG1 := Lib.hid (show Prg p st st1 ag (V6 g.rules n k (sl, rhs) 0 0) from Prg.mono hpg1 fun r i j h => by
                rcases h with h | ⟨_, _, _, h⟩
                · exact h
                · omega)
              have HBK := Lib.hid (Blk.new wr 75 #[.int .i64 (sl : Int), .slice sA sn sc])
              have hbrl : BZ ≤ wr.heap.size := hbr1.l3
              clear hc hy hx2 hgd1 hbr1 hpg1 hmem hbb
              go_wp2_with fail
              clear d0 d1
              generalize wr.alloc (.cells #[.int .i64 (sl : Int), .slice sA sn sc] 75) = W4 at *
              generalize wr.heap.size = brx at *
              obtain ⟨wp, rfl⟩ : ∃ wp : World, wp = wr := ⟨_, rfl⟩
              go_loopw [14, 82] (fun a q wr => ∃ (i : Nat) (st2 : WSt) (ag : Bool), q = .int .i64 i ∧ i ≤ n + 1 ∧ a = .bool ag ∧ Mid p st1 (sl, rhs) i 0 st2 ∧ BRel w bc w.heap.size ob oo g.nons n BZ rb cb #[.int .i64 (g.terms : Int), .int .i64 (g.nons : Int), .int .i64 (g.start : Int), .slice (some ⟨b1, o1, none⟩) ng cg, .slice A n c, .int .i64 c0, .int .i64 c1, .int .i64 c2, .slice (some ⟨ob, oo, none⟩) g.nons cv] #[.int .i64 (g.terms : Int), .int .i64 (g.nons : Int), .int .i64 (g.start : Int), .slice (some ⟨b1, o1, none⟩) ng cg] st2 wr ∧ Blk wr brx 75 #[.int .i64 (sl : Int), .slice sA sn sc] ∧ Prg p st st2 ag (V6 g.rules n k (sl, rhs) i 0)) (fun _ q _ => n + 1 - (intOf q).toNat)
              case atStart => exact ⟨0, st1, ag, rfl, Nat.zero_le _, rfl, HMID.out, HBR1.out, HBK.out, HPG1.out⟩
              case round =>
                obtain ⟨i, st2, ag2, rfl, hi, rfl, hmid, hbr2, hbk, hpg2⟩ := hrel
                clear HMID HBR1 HBK HPG1
                by_cases hin : i ≤ n
                · have HM2 := Lib.hid hmid
                  have HB2 := Lib.hid hbr2
                  have HK2 := Lib.hid hbk
                  have HP2 := Lib.hid hpg2
                  have HS2 := Lib.hid (show ag2 = false → st2 = st from fun h => (hpg2.no h).1)
                  have Bk := hbk
                  clear hmid hbr2 hbk hpg2
                  have cBk := Bk.cell
                  have fBk := Bk.frozen
                  have lBk := Bk.lt
                  go_wp2_with fail
                  clear cBk fBk lBk
                  clear Bk
                  refine (rule_c (fun b => BZ ≤ b) bc ⟨g.terms, g.nons, g.start, (some ⟨b1, o1, none⟩), ng, cg, A, n, c, c0, c1, c2, some ⟨ob, oo, none⟩, g.nons, cv⟩ xs sl sn sc i oo ob sA rhs rb cb st2 wr HB2.out.hc (HX0.out.keep HB2.out.bel (Nat.le_refl _)) h0 h1 h2 hn hin rfl HB2.out.bt ok (HSR.out.via HB2.out.bel) (fun s hs hb => by have := HRT.out.2 s hs; rw [Gr.okSy, if_neg (by simp [hb])] at this; exact this) HRT.out.1 (fun N i j => HM2.out.bnds HGD1.out HPO.out HMEM.out N i j)).mono ?_
                  rintro e w5 ⟨bw, rfl, hbw, hrow, hb5⟩
                  have HROW := Lib.hid (show WRow (fun b => BZ ≤ b) w5 bw n (p.rule st2 i rhs) from by
                    have e := HRW.out st2 i rhs
                    rw [← e]
                    exact hrow.mono fun b _ hz => by
                      have := HB2.out.l3
                      rcases hz.1 with h | h
                      · exact h
                      · exact Nat.le_trans this h)
                  have HBW := Lib.hid (show BZ ≤ bw from Nat.le_trans HB2.out.l3 hbw)
                  have HB5 := Lib.hid (HB2.out.via hb5)
                  have HK5 := Lib.hid (HK2.out.via hb5)
                  have HP5 := Lib.hid (show Prg p st st2 ag2 (V6 g.rules n k (sl, rhs) i 0) from HP2.out)
                  clear hb5 hrow hbw HB2 HK2 HP2
                  go_wp2_with fail
                  obtain ⟨wq, rfl⟩ : ∃ wq : World, wq = wr := ⟨_, rfl⟩
                  have HM6 := Lib.hid (show Mid p st1 (sl, rhs) i 0 st2 from HM2.out)
                  go_loopw [14, 90] (fun a q wr => ∃ (j : Nat) (st3 : WSt) (ag : Bool), q = .int .i64 j ∧ j ≤ n + 1 ∧ a = .bool ag ∧ Mid p st1 (sl, rhs) i j st3 ∧ BRel w bc w.heap.size ob oo g.nons n BZ rb cb #[.int .i64 (g.terms : Int), .int .i64 (g.nons : Int), .int .i64 (g.start : Int), .slice (some ⟨b1, o1, none⟩) ng cg, .slice A n c, .int .i64 c0, .int .i64 c1, .int .i64 c2, .slice (some ⟨ob, oo, none⟩) g.nons cv] #[.int .i64 (g.terms : Int), .int .i64 (g.nons : Int), .int .i64 (g.start : Int), .slice (some ⟨b1, o1, none⟩) ng cg] st3 wr ∧ Blk wr brx 75 #[.int .i64 (sl : Int), .slice sA sn sc] ∧ WRow (fun b => BZ ≤ b) wr bw n (p.rule st2 i rhs) ∧ (ag = false → st2 = st) ∧ Prg p st st3 ag (V6 g.rules n k (sl, rhs) i j)) (fun _ q _ => n + 1 - (intOf q).toNat)
                  case atStart => exact ⟨0, st2, ag2, rfl, Nat.zero_le _, rfl, HM6.out, HB5.out, HK5.out, HROW.out, HS2.out, HP5.out⟩
                  case round =>
                    obtain ⟨j, st3, ag3, rfl, hj, rfl, hm3, hb3, hk3, hr3, hs3, hp3⟩ := hrel
                    clear HM6 HB5 HK5 HROW HS2 HP5
                    by_cases hjn : j ≤ n
                    · obtain ⟨⟨xc, xs_, ⟨xA, xn, xcc⟩, xo⟩, hxr, e0, e1, e2, e3⟩ := hr3.at_ hjn
                      simp only at e0 e1 e2 e3
                      have HM3 := Lib.hid hm3
                      have HB3 := Lib.hid (hb3.via ((Below.refl wr.heap.size wr).al (.cells #[.int .i64 xc, .int .i64 xs_, .slice xA xn xcc, .bool xo] 78)))
                      have HK3 := Lib.hid (hk3.al (.cells #[.int .i64 xc, .int .i64 xs_, .slice xA xn xcc, .bool xo] 78))
                      have HR3 := Lib.hid (hr3.al (.cells #[.int .i64 xc, .int .i64 xs_, .slice xA xn xcc, .bool xo] 78))
                      have HXR := Lib.hid (hxr.al (.cells #[.int .i64 xc, .int .i64 xs_, .slice xA xn xcc, .bool xo] 78))
                      have HBX := Lib.hid (Blk.new wr 78 #[.int .i64 xc, .int .i64 xs_, .slice xA xn xcc, .bool xo])
                      have HS3 := Lib.hid hs3
                      have HP3 := Lib.hid hp3
                      have j0 : (0 : Int) ≤ (j : Int) := by omega
                      have j1 : (j : Int) < (n : Int) + 1 := by omega
                      have j2 : (0 : Int) ≤ (i : Int) := by omega
                      have j3 : (i : Int) < (n : Int) + 1 := by omega
                      have j4 : (0 : Int) ≤ (sl : Int) := by omega
                      have j5 : (sl : Int) < (g.nons : Int) := by omega
                      clear hm3 hb3 hk3 hr3 hxr hs3 hp3
                      go_upto_region 32 with fail
                      clear e0 e1 e2 e3
                      generalize wr.alloc (.cells #[.int .i64 xc, .int .i64 xs_, .slice xA xn xcc, .bool xo] 78) = W6 at *
                      generalize wr.heap.size = bxx at *
                      have t1 := HB3.out.bt.top sl hsl
                      have t2 := HB3.out.bt.mid sl i hsl hin
                      obtain ⟨⟨tc, ts, ⟨tA, tn, tcc⟩, tk⟩, htr, d0, d1, d2, d3⟩ := (HB3.out.bt.row sl i hsl hin).at_ hjn
                      simp only at d0 d1 d2 d3
                      have l1 := World.block_lt_of_cell? W6 _ t1
                      have l2 := World.block_lt_of_cell? W6 _ t2
                      have l3 := World.block_lt_of_cell? W6 _ d0
                      simp only at l1 l2 l3
                      have SOF := Lib.hid (show ∀ w', Below W6.heap.size W6 w' → ((∀ i, w'.cell? ⟨bc, i, none⟩ = #[.int .i64 (g.terms : Int), .int .i64 (g.nons : Int), .int .i64 (g.start : Int), .slice (some ⟨b1, o1, none⟩) ng cg, .slice A n c, .int .i64 c0, .int .i64 c1, .int .i64 c2, .slice (some ⟨ob, oo, none⟩) g.nons cv][i]?) ∧ (∀ i, w'.cell? ⟨brx, i, none⟩ = #[.int .i64 (sl : Int), .slice sA sn sc][i]?) ∧ (∀ i, w'.cell? ⟨bxx, i, none⟩ = #[.int .i64 xc, .int .i64 xs_, .slice xA xn xcc, .bool xo][i]?) ∧ w'.cell? ⟨ob, oo + sl, none⟩ = some (.slice (some ⟨rb sl, 0, none⟩) (n + 1) (n + 1)) ∧ w'.cell? ⟨rb sl, i, none⟩ = some (.slice (some ⟨cb sl i, 0, none⟩) (n + 1) (n + 1)) ∧ w'.cell? ⟨cb sl i, j * 4, none⟩ = some (.int .i64 tc) ∧ w'.cell? ⟨cb sl i, j * 4 + 1, none⟩ = some (.int .i64 ts) ∧ w'.cell? ⟨cb sl i, j * 4 + 2, none⟩ = some (.slice tA tn tcc) ∧ w'.cell? ⟨cb sl i, j * 4 + 3, none⟩ = some (.bool tk) ∧ Below W6.heap.size W6 w') from fun w' hb => ⟨(HB3.out.hc.via hb).cell, (HK3.out.via hb).cell, (HBX.out.via hb).cell, (hb.cell (p := ⟨ob, oo + sl, none⟩) l1).trans t1, (hb.cell (p := ⟨rb sl, i, none⟩) l2).trans t2, (hb.cell (p := ⟨cb sl i, j * 4, none⟩) l3).trans d0, (hb.cell (p := ⟨cb sl i, j * 4 + 1, none⟩) l3).trans d1, (hb.cell (p := ⟨cb sl i, j * 4 + 2, none⟩) l3).trans d2, (hb.cell (p := ⟨cb sl i, j * 4 + 3, none⟩) l3).trans d3, hb⟩)
                      have FX := Lib.hid (show ∀ w', Below W6.heap.size W6 w' → WayR (fun b => BZ ≤ b) w' (xc, xs_, (xA, xn, xcc), xo) (p.rule st2 i rhs j) from fun w' hb => HXR.out.via hb)
                      have FT := Lib.hid (show ∀ w', Below W6.heap.size W6 w' → WayR _ w' (tc, ts, (tA, tn, tcc), tk) (st3 sl i j) from fun w' hb => htr.via hb)
                      have HSH := Lib.hid (rule_short HPO.out (fun N i j => HM2.out.bnds HGD1.out HPO.out HMEM.out N i j) i rhs j)
                      have hb0 := (Below.refl W6.heap.size W6).drew
                      clear t1 t2 d0 d1 d2 d3 l1 l2 l3 htr
                      cases hles : lessW (p.rule st2 i rhs j) (st3 sl i j) with
                      | true =>
                        have HLES := Lib.hid hles
                        clear hles
                        go_region_held3 (fun w' => (∀ i, w'.cell? ⟨bc, i, none⟩ = #[.int .i64 (g.terms : Int), .int .i64 (g.nons : Int), .int .i64 (g.start : Int), .slice (some ⟨b1, o1, none⟩) ng cg, .slice A n c, .int .i64 c0, .int .i64 c1, .int .i64 c2, .slice (some ⟨ob, oo, none⟩) g.nons cv][i]?) ∧ (∀ i, w'.cell? ⟨brx, i, none⟩ = #[.int .i64 (sl : Int), .slice sA sn sc][i]?) ∧ (∀ i, w'.cell? ⟨bxx, i, none⟩ = #[.int .i64 xc, .int .i64 xs_, .slice xA xn xcc, .bool xo][i]?) ∧ w'.cell? ⟨ob, oo + sl, none⟩ = some (.slice (some ⟨rb sl, 0, none⟩) (n + 1) (n + 1)) ∧ w'.cell? ⟨rb sl, i, none⟩ = some (.slice (some ⟨cb sl i, 0, none⟩) (n + 1) (n + 1)) ∧ w'.cell? ⟨cb sl i, j * 4, none⟩ = some (.int .i64 tc) ∧ w'.cell? ⟨cb sl i, j * 4 + 1, none⟩ = some (.int .i64 ts) ∧ w'.cell? ⟨cb sl i, j * 4 + 2, none⟩ = some (.slice tA tn tcc) ∧ w'.cell? ⟨cb sl i, j * 4 + 3, none⟩ = some (.bool tk) ∧ Below W6.heap.size W6 w') (exact SOF.out _ (by assumption)) (first
                          | (go_at_call 29; (with_reducible refine (less_b _ _ xc xs_ xA xn xcc xo tc ts tA tn tcc tk (p.rule st2 i rhs j) (st3 sl i j) true _ (FX.out _ (by assumption)) (FT.out _ (by assumption)) HSH.out HLES.out).mono ?_); rintro ee wl ⟨rfl, hbl⟩; have hbz : Below W6.heap.size W6 wl := Below.via (by assumption) hbl))
                        obtain ⟨s1, s2, s3, s4, s5, s6, s7, s8, s9, -⟩ := SOF.out wl hbz
                        have HB7 := Lib.hid (HB3.out.via hbz)
                        have HK7 := Lib.hid (HK3.out.via hbz)
                        have HR7 := Lib.hid (HR3.out.via hbz)
                        have HX7 := Lib.hid (FX.out wl hbz)
                        have fr := (HB7.out.bt.row sl i hsl hin).frozen
                        have HLC := Lib.hid (HST.out.lc sl i hsl hin)
                        clear hb0 hbl hbz SOF FX FT HB3 HK3 HR3 HXR HBX
                        go_upto_region 33 with fail
                        go_region
                        have hlc := HLC.out
                        have HWB := Lib.hid (show bw ≠ cb sl i by have := HBW.out; omega)
                        have HXB := Lib.hid (show brx ≠ cb sl i by omega)
                        have HZB := Lib.hid (show ∀ x, BZ ≤ x → x ≠ cb sl i from fun x hx => by omega)
                        have HB8 := Lib.hid ((HB7.out.put HST.out hsl hin hjn HX7.out).dr)
                        have HK8 := Lib.hid (show Blk (World.put4 wl (cb sl i) (j * 4) (xc, xs_, (xA, xn, xcc), xo)).drew brx 75 #[.int .i64 (sl : Int), .slice sA sn sc] from (heap_put4 HXB.out).trans HK7.out)
                        have HR8 := Lib.hid ((HR7.out.agr (heap_put4 (o := j * 4) (v := (xc, xs_, (xA, xn, xcc), xo)) HWB.out) (agr_put4 HZB.out)).dr)
                        have HM8 := Lib.hid (show Mid p st1 (sl, rhs) i (j + 1) (updS st3 sl i j (p.rule st2 i rhs j)) from Mid.put HPO.out HMEM.out HGD1.out HM2.out HM3.out (by rw [HPN.out]; exact hin) HLES.out)
                        have HP8 := Lib.hid (show Prg p st (updS st3 sl i j (p.rule st2 i rhs j)) true (V6 g.rules n k (sl, rhs) i (j + 1)) from Prg.put HPO.out HMEM.out HGD1.out HM2.out HM3.out HP3.out (by rw [HPN.out]; exact hin) (by rw [HPN.out]; exact hjn) HLES.out)
                        clear s1 s2 s3 s4 s5 s6 s7 s8 s9 fr hlc
                        simp only [World.put4] at HB8 HK8 HR8
                        go_wp2_with fail
                        exact ⟨⟨j + 1, updS st3 sl i j (p.rule st2 i rhs j), true, by go_num, by omega, rfl, HM8.out, HB8.out, HK8.out, HR8.out, fun h => (by cases h), HP8.out⟩, by simp [intOf]; omega⟩
                      | false =>
                        have HLES := Lib.hid hles
                        clear hles
                        go_region_held3 (fun w' => (∀ i, w'.cell? ⟨bc, i, none⟩ = #[.int .i64 (g.terms : Int), .int .i64 (g.nons : Int), .int .i64 (g.start : Int), .slice (some ⟨b1, o1, none⟩) ng cg, .slice A n c, .int .i64 c0, .int .i64 c1, .int .i64 c2, .slice (some ⟨ob, oo, none⟩) g.nons cv][i]?) ∧ (∀ i, w'.cell? ⟨brx, i, none⟩ = #[.int .i64 (sl : Int), .slice sA sn sc][i]?) ∧ (∀ i, w'.cell? ⟨bxx, i, none⟩ = #[.int .i64 xc, .int .i64 xs_, .slice xA xn xcc, .bool xo][i]?) ∧ w'.cell? ⟨ob, oo + sl, none⟩ = some (.slice (some ⟨rb sl, 0, none⟩) (n + 1) (n + 1)) ∧ w'.cell? ⟨rb sl, i, none⟩ = some (.slice (some ⟨cb sl i, 0, none⟩) (n + 1) (n + 1)) ∧ w'.cell? ⟨cb sl i, j * 4, none⟩ = some (.int .i64 tc) ∧ w'.cell? ⟨cb sl i, j * 4 + 1, none⟩ = some (.int .i64 ts) ∧ w'.cell? ⟨cb sl i, j * 4 + 2, none⟩ = some (.slice tA tn tcc) ∧ w'.cell? ⟨cb sl i, j * 4 + 3, none⟩ = some (.bool tk) ∧ Below W6.heap.size W6 w') (exact SOF.out _ (by assumption)) (first
                          | (go_at_call 29; (with_reducible refine (less_b _ _ xc xs_ xA xn xcc xo tc ts tA tn tcc tk (p.rule st2 i rhs j) (st3 sl i j) false _ (FX.out _ (by assumption)) (FT.out _ (by assumption)) HSH.out HLES.out).mono ?_); rintro ee wl ⟨rfl, hbl⟩; have hbz : Below W6.heap.size W6 wl := Below.via (by assumption) hbl))
                        have HB7 := Lib.hid (HB3.out.via hbz)
                        have HK7 := Lib.hid (HK3.out.via hbz)
                        have HR7 := Lib.hid (HR3.out.via hbz)
                        have HM7 := Lib.hid (Mid.skip HGD1.out HM2.out HM3.out HLES.out)
                        have HP7 := Lib.hid (show Prg p st st3 ag3 (V6 g.rules n k (sl, rhs) i (j + 1)) from Prg.skip (r := (sl, rhs)) (i := i) (j := j) HP3.out HS3.out HLES.out fun r' i' j' h => by
                          rcases h with h | ⟨h1, h2, h3, h4⟩
                          · exact Or.inl (Or.inl h)
                          · by_cases e : i' = i ∧ j' = j
                            · exact Or.inr ⟨h1, e.1, e.2⟩
                            · exact Or.inl (Or.inr ⟨h1, h2, h3, by omega⟩))
                        clear hb0 hbl hbz SOF FX FT HB3 HK3 HR3 HXR HBX
                        go_wp2_with fail
                        exact ⟨⟨j + 1, st3, ag3, by go_num, by omega, rfl, HM7.out, HB7.out, HK7.out, HR7.out, HS3.out, HP7.out⟩, by simp [intOf]; omega⟩
                    · have HJN := Lib.hid (show j = n + 1 by omega)
                      have HM7 := Lib.hid (show Mid p st1 (sl, rhs) (i + 1) 0 st3 from Mid.row (by rw [HPN.out, ← HJN.out]; exact hm3))
                      have HP7 := Lib.hid (show Prg p st st3 ag3 (V6 g.rules n k (sl, rhs) (i + 1) 0) from Prg.mono hp3 fun r' i' j' h => by
                        have := HJN.out
                        rcases h with h | ⟨h1, h2, h3, h4⟩
                        · exact Or.inl h
                        · exact Or.inr ⟨h1, h2, h3, by omega⟩)
                      have HB7 := Lib.hid hb3
                      have HK7 := Lib.hid hk3
                      clear hm3 hb3 hk3 hr3 hs3 hp3
                      go_wp2_with fail
                      exact ⟨⟨i + 1, st3, ag3, by go_num, by omega, rfl, HM7.out, HB7.out, HK7.out, HP7.out⟩, by simp [intOf]; omega⟩
                · have HIN := Lib.hid (show i = n + 1 by omega)
                  have HG7 := Lib.hid (show Good p st2 from Mid.end_ HPO.out HMEM.out HGD1.out (by rw [HPN.out, ← HIN.out]; exact hmid))
                  have HP7 := Lib.hid (show Prg p st st2 ag2 (V4 g.rules n (k + 1)) from Prg.mono hpg2 fun r' i' j' h => by
                    obtain ⟨⟨k', hk', hr'⟩, h2, h3⟩ := h
                    have := HIN.out
                    by_cases e : k' = k
                    · subst e
                      rw [HY.out] at hr'
                      exact Or.inr ⟨(Option.some.inj hr').symm, h2, h3, by omega⟩
                    · exact Or.inl ⟨⟨k', by omega, hr'⟩, h2, h3⟩)
                  have HB7 := Lib.hid hbr2
                  clear hmid hbr2 hbk hpg2
                  go_wp2_with fail
                  exact ⟨⟨k + 1, st2, ag2, by go_num, by omega, rfl, HG7.out, HB7.out, HP7.out⟩, by simp [intOf]; omega⟩
            · have HKN := Lib.hid (show k = ng by omega)
              have HG8 := Lib.hid hgd1
              have HB8 := Lib.hid hbr1
              have HP8 := Lib.hid hpg1
              clear hgd1 hbr1 hpg1
              go_wp2_with fail
              go_roundg (2 * total big 8 p.nons p.w.length st1 + (if ag then 1 else 0))
              case measure =>
                rw [HGK.out]
                cases ag with
                | false => obtain ⟨rfl, -⟩ := HP8.out.no rfl; simp
                | true => have := HP8.out.yes rfl; simp; omega
              case rel =>
                refine ⟨st1, ag, rfl, HG8.out, HB8.out, fun ha => ?_, rfl⟩
                obtain ⟨rfl, hv⟩ := HP8.out.no ha
                intro r hr i j hij hjn
                rw [HPR.out] at hr
                rw [HPN.out] at hjn
                obtain ⟨k', hk', e⟩ := List.getElem_of_mem hr
                exact hv r i j ⟨⟨k', by rw [HKN.out, ← HNG.out]; exact hk', by rw [List.getElem?_eq_getElem hk', e]⟩, hij, hjn⟩
end Go.Proofs.Ytghnkgbingcbcaa
