/- hole.filler.symbol. -/
import Derived.Test.YtghnkgbingcbcaaHC
namespace Go.Proofs.Ytghnkgbingcbcaa
open Go.RowKit

/-- the struct filler -/
structure FiV where
  gt : Nat
  gn : Nat
  gs : Nat
  gA : Option Addr
  gl : Nat
  gc : Nat
  A : Option Addr
  n : Nat
  c : Nat
  bA : Option Addr
  bn : Nat
  bc : Nat
def FiV.cells (v : FiV) : Array Value := #[.int .i64 (v.gt : Int), .int .i64 (v.gn : Int), .int .i64 (v.gs : Int), .slice v.gA v.gl v.gc, .slice v.A v.n v.c, .slice v.bA v.bn v.bc]
def HoK (ok : Nat → Prop) (w : World) (x : Way) (e : Ending) (w' : World) : Prop := ∃ v, e = .returned (hoVal v) ∧ HoR (fun b => ok b ∨ w.heap.size ≤ b) w' v x ∧ Below w.heap.size w w'
set_option maxRecDepth 100000 in
set_option maxHeartbeats 8000000 in
theorem hsymbol_c (ok okc : Nat → Prop) (bf : Nat) (v : FiV) (cs : List Ce) (s : Sy) (i j oo : Nat) (ob : Nat) (rb : Nat → Nat) (cb : Nat → Nat → Nat) (st : WSt) (w : World) (hb : Blk w bf 123 v.cells) (hx : Sl CeE okc w v.A v.n v.c cs)
    (hn : v.n ≤ 12) (hi : i ≤ j) (hj : j ≤ v.n) (hA : v.bA = some ⟨ob, oo, none⟩) (hT : HTab ok w ob oo v.bn v.n rb cb st) (hs : s.1 = false → s.2 < v.bn) :
    Calls Try.prog 79 #[.pointer (some ⟨bf, 0, none⟩), .agg #[.bool s.1, .int .i64 (s.2 : Int)], .int .i64 (i : Int), .int .i64 (j : Int)] w (HoK ok w (symH cs st s i j)) := by
  obtain ⟨sb, sn⟩ := s
  cases sb with
  | true =>
    have hB := ((Below.refl w.heap.size w).al (.cells #[.bool true, .int .i64 (sn : Int)] 48)).al (.cells #[.int .i64 0, .slice none 0 0, .bool false] 101)
    have Bs := (Blk.new w 48 #[.bool true, .int .i64 (sn : Int)]).al (.cells #[.int .i64 0, .slice none 0 0, .bool false] 101)
    have Br := Blk.new (w.alloc (.cells #[.bool true, .int .i64 (sn : Int)] 48)) 101 #[.int .i64 0, .slice none 0 0, .bool false]
    have Bf := hb.via hB
    have HX := Lib.hid (hx.via hB)
    have hlt := hb.lt
    have hcl := hx.len
    rw [World.size_alloc] at Br
    obtain ⟨gt, gn, gs, gA, gl, gc, A, n, c, bA, bn, bcc⟩ := v
    simp only [FiV.cells] at Bf HX hn hj hcl ⊢
    clear hb hx hT hs hA
    by_cases e : j = i + 1
    · subst e
      obtain ⟨b1, o1, sx, sy, rfl, -, hbb, hy, hxy, hc⟩ := HX.out.at_ (show i < n by omega)
      obtain rfl : sx = sy := hxy
      have d0 := hc 0 _ rfl
      have d1 := hc 1 _ rfl
      simp only [CeE, Nat.add_zero] at d0 d1
      rw [show ((i + 1 : Nat) : Int) = (i : Int) + 1 by omega]
      have k1 : IntKind.i64.wrap ((i : Int) + 1) = (i : Int) + 1 := IntWalk.i64_in _ (by omega)
      have i0 : (0 : Int) ≤ (i : Int) := by omega
      have i1 : (i : Int) < (n : Int) := by omega
      have HB := Lib.hid hB
      have HY := Lib.hid hy
      clear hB hc hy
      go_enter Try.func79, Try.ntmps79
      go_upto_region 3 with fail
      generalize (w.alloc (.cells #[.bool true, .int .i64 (sn : Int)] 48)).alloc (.cells #[.int .i64 0, .slice none 0 0, .bool false] 101) = W at *
      have SOF := Lib.hid (show ∀ w', Below W.heap.size W w' → ((∀ i, w'.cell? ⟨bf, i, none⟩ = #[.int .i64 (gt : Int), .int .i64 (gn : Int), .int .i64 (gs : Int), .slice gA gl gc, .slice (some ⟨b1, o1, none⟩) n c, .slice bA bn bcc][i]?) ∧ (∀ i, w'.cell? ⟨w.heap.size, i, none⟩ = #[.bool true, .int .i64 (sn : Int)][i]?) ∧ w'.cell? ⟨b1, o1 + i * 2, none⟩ = some (.bool sx.1) ∧ w'.cell? ⟨b1, o1 + i * 2 + 1, none⟩ = some (.int .i64 sx.2) ∧ Below W.heap.size W w') from fun w' hb => ⟨(Bf.via hb).cell, (Bs.via hb).cell, (hb.cell (p := ⟨b1, o1 + i * 2, none⟩) hbb).trans d0, (hb.cell (p := ⟨b1, o1 + i * 2 + 1, none⟩) hbb).trans d1, hb⟩)
      have hb0 := (Below.refl W.heap.size W).drew
      have HBR := Lib.hid Br
      clear d0 d1 Bf Bs Br
      go_region_held3 (fun w' => (∀ i, w'.cell? ⟨bf, i, none⟩ = #[.int .i64 (gt : Int), .int .i64 (gn : Int), .int .i64 (gs : Int), .slice gA gl gc, .slice (some ⟨b1, o1, none⟩) n c, .slice bA bn bcc][i]?) ∧ (∀ i, w'.cell? ⟨w.heap.size, i, none⟩ = #[.bool true, .int .i64 (sn : Int)][i]?) ∧ w'.cell? ⟨b1, o1 + i * 2, none⟩ = some (.bool sx.1) ∧ w'.cell? ⟨b1, o1 + i * 2 + 1, none⟩ = some (.int .i64 sx.2) ∧ Below W.heap.size W w') (exact SOF.out _ (by assumption)) (first
        | (go_at_call 88; (with_reducible refine (is_c (true, sn) sx _).mono ?_); rintro ee wn ⟨rfl, hbn⟩; have hbm : Below W.heap.size W wn := Below.via (by assumption) hbn))
      have HF := Lib.hid (HB.out.via hbm)
      have Br := HBR.out.via hbm
      have Bs : Blk wn w.heap.size 48 #[.bool true, .int .i64 (sn : Int)] → True := fun _ => trivial
      have cS := (SOF.out wn hbm).2.1
      have hSl : w.heap.size < wn.heap.size := by have := Br.lt; omega
      clear hb0 hbm hbn Bs SOF HB HBR
      have hSm : w.heap.size + 1 < wn.heap.size := Br.lt
      have hsy : symH cs st (true, sn) i (i + 1) = if isC (true, sn) sx = true then ⟨0, 1, [(sn : Int)], true⟩ else Way.no := by
        rw [symH, if_pos rfl]
        have q := HY.out
        simp [q]
      cases ec : isC (true, sn) sx with
      | true =>
        rw [ec, if_pos rfl] at hsy
        have cBr := Br.cell
        have fBr := Br.frozen
        have lBr := Br.lt
        go_wp2_with fail
        clear cBr fBr cS
        have BX := (((Br.set_ 0 (.int .i64 1)).set_ 1 (.slice (some ⟨wn.heap.size, 0, none⟩) 1 1)).set_ 2 (.bool true)).al (.cells #[.int .i64 (sn : Int)] 3)
        clear Br
        have cX := BX.cell
        rw [hsy]
        refine bodyPost_ret (v := .agg #[.int .i64 1, .slice (some ⟨wn.heap.size, 0, none⟩) 1 1, .bool true]) (by simp [results, Try.results79, go_sem, cX]) rfl ⟨(1, (some ⟨wn.heap.size, 0, none⟩, 1, 1), true), rfl, ⟨rfl, rfl, rfl, ?_⟩, (below_s3 (r := w.heap.size + 1) (v := (1, (some ⟨wn.heap.size, 0, none⟩, 1, 1), true)) HF.out (by omega)).al _⟩
        have q := Ints.one (World.set3 wn (w.heap.size + 1) (1, (some ⟨wn.heap.size, 0, none⟩, 1, 1), true)) (sn : Int) 3
        have z : (World.set3 wn (w.heap.size + 1) (1, (some ⟨wn.heap.size, 0, none⟩, 1, 1), true)).heap.size = wn.heap.size := by simp [World.set3]
        rw [z] at q
        exact q.sl fun b off e _ => by injection e with e; injection e with e1; exact Or.inr (by omega)
      | false =>
        rw [ec, if_neg (by simp)] at hsy
        have cBr := Br.cell
        have fBr := Br.frozen
        have lBr := Br.lt
        go_wp2_with fail
        rw [hsy]
        refine bodyPost_ret (v := .agg #[.int .i64 0, .slice none 0 0, .bool false]) (by simp [results, Try.results79, go_sem, cBr]) rfl ⟨(0, (none, 0, 0), false), rfl, ⟨rfl, rfl, rfl, Sl.nil 0⟩, ?_⟩
        exact below_s3 (r := w.heap.size + 1) (v := (0, (none, 0, 0), false)) HF.out (by omega)
    · have hsy : symH cs st (true, sn) i j = Way.no := by rw [symH, if_pos rfl, if_neg (by rintro ⟨h, -⟩; exact e h)]
      have k1 : IntKind.i64.wrap ((i : Int) + 1) = (i : Int) + 1 := IntWalk.i64_in _ (by omega)
      have e1 : ((j : Int) == (i : Int) + 1) = false := by simp; omega
      have HB := Lib.hid hB
      have HBR := Lib.hid Br
      clear hB Br HX Bs
      go_enter Try.func79, Try.ntmps79
      go_upto_region 3 with fail
      generalize (w.alloc (.cells #[.bool true, .int .i64 (sn : Int)] 48)).alloc (.cells #[.int .i64 0, .slice none 0 0, .bool false] 101) = W at *
      have Br := HBR.out
      clear HBR
      go_quiet (fail)
      clear k1 e1
      have Br : Blk (W.drewN nq) (w.heap.size + 1) 101 #[.int .i64 0, .slice none 0 0, .bool false] := Br
      have cBr := Br.cell
      have fBr := Br.frozen
      have lBr := Br.lt
      have HF := Lib.hid (below_drewN HB.out nq)
      generalize W.drewN nq = wn at *
      go_wp2_with fail
      rw [hsy]
      refine bodyPost_ret (v := .agg #[.int .i64 0, .slice none 0 0, .bool false]) (by simp [results, Try.results79, go_sem, cBr]) rfl ⟨(0, (none, 0, 0), false), rfl, ⟨rfl, rfl, rfl, Sl.nil 0⟩, ?_⟩
      exact below_s3 (r := w.heap.size + 1) (v := (0, (none, 0, 0), false)) HF.out (by omega)
  | false =>
    have hs' : sn < v.bn := hs rfl
    have t1 := hT.top sn hs'
    have t2 := hT.mid sn i hs' (by omega)
    obtain ⟨⟨rs, ⟨rA, rn, rcc⟩, ro⟩, hR, c1, c2, c3⟩ := (hT.row sn i hs' (by omega)).at_ hj
    obtain ⟨gt, gn, gs, gA, gl, gc, A, n, c, bA, bn, bcc⟩ := v
    simp only [FiV.cells] at hb hx hn hj hA hs' t1 t2 c1 c2 c3 hT ⊢
    subst hA
    have l1 := World.block_lt_of_cell? w _ t1
    have l2 := World.block_lt_of_cell? w _ t2
    have l3 := World.block_lt_of_cell? w _ c1
    simp only at l1 l2 l3
    have cb0 := hb.cell
    have lb := hb.lt
    have i0 : (0 : Int) ≤ (sn : Int) := by omega
    have i1 : (sn : Int) < (bn : Int) := by omega
    have i2 : (0 : Int) ≤ (i : Int) := by omega
    have i3 : (i : Int) < (n : Int) + 1 := by omega
    have i4 : (0 : Int) ≤ (j : Int) := by omega
    have i5 : (j : Int) < (n : Int) + 1 := by omega
    have HR := Lib.hid hR
    clear hb hx hT hs hR
    go_enter Try.func79, Try.ntmps79
    go_upto_region 2 with fail
    go_region
    clear cb0 t1 t2 c1 c2 c3
    go_wp2_with fail
    refine bodyPost_ret (v := .agg #[.int .i64 rs, .slice rA rn rcc, .bool ro]) (by simp [results, Try.results79, go_sem]) rfl ⟨(rs, (rA, rn, rcc), ro), rfl, ?_, (((Below.refl _ _).al _).al _).drew⟩
    exact ((((show HoR ok w (rs, (rA, rn, rcc), ro) (symH cs st (false, sn) i j) from HR.out).al _).al _).agr (Agr.below ((Below.refl _ _).drew))).mono fun b _ hb => Or.inl hb
end Go.Proofs.Ytghnkgbingcbcaa
