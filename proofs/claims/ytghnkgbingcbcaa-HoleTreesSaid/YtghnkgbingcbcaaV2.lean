/- Texts WL, laid together. -/
import Derived.Test.YtghnkgbingcbcaaG1
import Derived.Test.YtghnkgbingcbcaaC2



namespace Go.Proofs.Ytghnkgbingcbcaa
open Go.RowKit

def SymO (w : World) (s : Sy) (e : Ending) (w' : World) : Prop := e = .returned (.agg #[.bool s.1, .int .i64 (s.2 : Int)]) ∧ Below w.heap.size w w'

set_option maxRecDepth 100000 in
set_option maxHeartbeats 4000000 in
theorem root_c (ok ok2 : Nat → Prop) (g : Gr) (A : Option Addr) (n c : Nat) (v : TrV) (t : Tr) (s : Sy) (w : World) (hl : Sl RuE ok w A n c g.rules) (ht : TreeR ok2 w v t) (hd : Der g s t) :
    Calls Try.prog 47 #[grVal g A n c, trVal v] w (SymO w s) := by
  obtain ⟨va, vb, vA, vn, vc⟩ := v
  have HB := Lib.hid (((Below.refl w.heap.size w).al (.cells #[.int .i64 (g.terms : Int), .int .i64 (g.nons : Int), .int .i64 (g.start : Int), .slice A n c] 28)).al (.cells #[.int .i64 va, .int .i64 vb, .slice vA vn vc] 36))
  cases hd with
  | leaf k =>
    obtain ⟨rfl, rfl, rfl⟩ := ht.ofLeaf
    simp only [trVal, grVal]
    clear hl ht
    go_enter Try.func47, Try.ntmps47
    go_wp2_with fail
    refine bodyPost_ret (v := .agg #[.bool true, .int .i64 (k : Int)]) (by simp [results, Try.results47, go_sem]) rfl ⟨rfl, ?_⟩
    exact HB.out.al _
  | node r N rhs ks hr hk1 hk2 =>
    obtain ⟨rfl, rfl, -⟩ := ht.kids
    have hrn : r < n := by rw [← hl.len]; exact (List.getElem?_eq_some_iff.1 hr).1
    obtain ⟨b1, o1, ⟨sl, sA, sn, sc⟩, ⟨x, xs⟩, rfl, -, hbb, hy, ⟨hx1, hx2⟩, hc⟩ := ((((hl.al (.cells #[.int .i64 (g.terms : Int), .int .i64 (g.nons : Int), .int .i64 (g.start : Int), .slice A n c] 28)).al (.cells #[.int .i64 (r : Int), .int .i64 0, .slice vA vn vc] 36)).al (.cells #[.bool false, .int .i64 0] 48))).at_ hrn
    rw [hr] at hy
    obtain ⟨rfl, rfl⟩ := Prod.mk.inj (Option.some.inj hy)
    simp only at hx1
    obtain rfl : sl = N := hx1
    have c0 := hc 0 _ rfl
    simp only [RuE, Nat.add_zero] at c0
    have i0 : (0 : Int) ≤ (r : Int) := by omega
    have i1 : (r : Int) < (n : Int) := by omega
    have e1 : decide ((r : Int) < 0) = false := by simp
    have e2 : decide (n ≤ r) = false := by simp; omega
    simp only [trVal, grVal]
    clear hl ht hr hk1 hk2 hc hx2 hbb hy
    go_enter Try.func47, Try.ntmps47
    go_wp2_with fail
    refine bodyPost_ret (v := .agg #[.bool false, .int .i64 (sl : Int)]) (by simp [results, Try.results47, go_sem]) rfl ⟨rfl, ?_⟩
    exact HB.out.al _

theorem root_a (ok ok2 : Nat → Prop) (g : Gr) (A : Option Addr) (n c : Nat) (va vb : Int) (vA : Option Addr) (vn vc : Nat) (t : Tr) (s : Sy) (w : World) (hl : Sl RuE ok w A n c g.rules) (ht : TreeR ok2 w (va, vb, vA, vn, vc) t) (hd : Der g s t) :
    Calls Try.prog 47 #[.agg #[.int .i64 (g.terms : Int), .int .i64 (g.nons : Int), .int .i64 (g.start : Int), .slice A n c], .agg #[.int .i64 va, .int .i64 vb, .slice vA vn vc]] w (SymO w s) := root_c ok ok2 g A n c (va, vb, vA, vn, vc) t s w hl ht hd
set_option maxRecDepth 100000 in
set_option maxHeartbeats 4000000 in
theorem valid2_c (bg : Nat) (ok ok2 : Nat → Prop) (g : Gr) (A : Option Addr) (n c : Nat) (v : TrV) (t : Tr) (s : Sy) (w : World) (hg : Blk w bg 28 (grCells g A n c)) (hl : Sl RuE ok w A n c g.rules) (ht : TreeR ok2 w v t) (hd : Der g s t) :
    Calls Try.prog 84 #[trVal v, .agg #[.bool s.1, .int .i64 (s.2 : Int)], .pointer (some ⟨bg, 0, none⟩)] w (TellB w true) := by
  have hlt := hg.lt
  obtain ⟨va, vb, vA, vn, vc⟩ := v
  have hv : (-1 ≤ va ∧ va < (n : Int)) := by
    cases hd with
    | leaf k => obtain ⟨rfl, -, -⟩ := ht.ofLeaf; omega
    | node r N rhs ks hr hk1 hk2 =>
      obtain ⟨rfl, -, -⟩ := ht.kids
      have hrn : r < n := by rw [← hl.len]; exact (List.getElem?_eq_some_iff.1 hr).1
      omega
  have e1 : decide ((-1 : Int) ≤ va) = true := by simp; omega
  have e2 : decide (va < (n : Int)) = true := by simp; omega
  clear hv
  have hB := ((Below.refl w.heap.size w).al (.cells #[.int .i64 va, .int .i64 vb, .slice vA vn vc] 36)).al (.cells #[.bool s.1, .int .i64 (s.2 : Int)] 48)
  have B0 := (Blk.new w 36 #[.int .i64 va, .int .i64 vb, .slice vA vn vc]).al (.cells #[.bool s.1, .int .i64 (s.2 : Int)] 48)
  have B1 := Blk.new (w.alloc (.cells #[.int .i64 va, .int .i64 vb, .slice vA vn vc] 36)) 48 #[.bool s.1, .int .i64 (s.2 : Int)]
  rw [World.size_alloc] at B1
  have Bg := hg.via hB
  unfold grCells at Bg
  have HL := Lib.hid (hl.via hB)
  have HT := Lib.hid (ht.via hB)
  have HD := Lib.hid hd
  simp only [trVal]
  clear hl ht hg hd
  go_enter Try.func84, Try.ntmps84
  go_upto_region 1 with fail
  generalize (w.alloc (.cells #[.int .i64 va, .int .i64 vb, .slice vA vn vc] 36)).alloc (.cells #[.bool s.1, .int .i64 (s.2 : Int)] 48) = W at *
  have J1 := Lib.hid (show ∀ w', Below W.heap.size W w' → Sl RuE ok w' A n c g.rules from fun w' hb => HL.out.via hb)
  have J2 := Lib.hid (show ∀ w', Below W.heap.size W w' → TreeR ok2 w' (va, vb, vA, vn, vc) t from fun w' hb => HT.out.via hb)
  have SOF := Lib.hid (show ∀ w', Below W.heap.size W w' → ((∀ i, w'.cell? ⟨w.heap.size, i, none⟩ = #[.int .i64 va, .int .i64 vb, .slice vA vn vc][i]?) ∧ (∀ i, w'.cell? ⟨w.heap.size + 1, i, none⟩ = #[.bool s.1, .int .i64 (s.2 : Int)][i]?) ∧ (∀ i, w'.cell? ⟨bg, i, none⟩ = #[.int .i64 (g.terms : Int), .int .i64 (g.nons : Int), .int .i64 (g.start : Int), .slice A n c][i]?) ∧ Below W.heap.size W w') from fun w' hb => ⟨(B0.via hb).cell, (B1.via hb).cell, (Bg.via hb).cell, hb⟩)
  have HBB := Lib.hid hB
  have hb0 := (Below.refl W.heap.size W).drew
  have e3 : (s.1 == s.1 && s.2 == s.2) = true := by simp
  clear hB HL HT B0 B1 Bg
  go_region_held3 (fun w' => (∀ i, w'.cell? ⟨w.heap.size, i, none⟩ = #[.int .i64 va, .int .i64 vb, .slice vA vn vc][i]?) ∧ (∀ i, w'.cell? ⟨w.heap.size + 1, i, none⟩ = #[.bool s.1, .int .i64 (s.2 : Int)][i]?) ∧ (∀ i, w'.cell? ⟨bg, i, none⟩ = #[.int .i64 (g.terms : Int), .int .i64 (g.nons : Int), .int .i64 (g.start : Int), .slice A n c][i]?) ∧ Below W.heap.size W w') (exact SOF.out _ (by assumption)) (first
    | (go_at_call 47; (with_reducible refine (root_a ok ok2 g A n c va vb vA vn vc t s _ (J1.out _ (by assumption)) (J2.out _ (by assumption)) HD.out).mono ?_); rintro ee wk ⟨rfl, hbk⟩; have hbm : Below W.heap.size W wk := Below.via (by assumption) hbk))
  have HF := Lib.hid (HBB.out.via hbm)
  clear hb0 hbm hbk
  go_wp2_with fail
  go_ret
  exact ⟨rfl, HF.out⟩

set_option maxRecDepth 100000 in
set_option maxHeartbeats 4000000 in
theorem eqf_c (bg : Nat) (ok ok2 ok3 : Nat → Prop) (g : Gr) (A : Option Addr) (n c : Nat) (B : Option Addr) (m d : Nat) (ks : List Tr) (C : Option Addr) (q : Nat) (ss : List Sy) (w : World) (hg : Blk w bg 28 (grCells g A n c)) (hl : Sl RuE ok w A n c g.rules)
    (hk : Sl TrE ok2 w B m d ks) (hs : Sl SyE ok3 w C m q ss) (hd : ∀ (j : Nat) (s : Sy) (t : Tr), ss[j]? = some s → ks[j]? = some t → Der g s t) (hm : m ≤ 1000000) :
    Calls Try.prog 83 #[.slice B m d, .slice C m q, .func (.func 84) #[] #[.pointer (some ⟨bg, 0, none⟩)]] w (TellB w true) := by
  have HG := Lib.hid hg
  have HL := Lib.hid hl
  have HK := Lib.hid hk
  have HS := Lib.hid hs
  have HD := Lib.hid hd
  clear hg hl hk hs hd
  go_enter Try.func83, Try.ntmps83
  go_wp2_with fail
  go_loopw [17] (fun i wr => ∃ k : Nat, i = .int .i64 k ∧ k ≤ m ∧ Below w.heap.size w wr) (fun i _ => m - (intOf i).toNat)
  case atStart => exact ⟨0, rfl, Nat.zero_le _, Below.refl _ _⟩
  case round =>
    obtain ⟨k, rfl, hkm, hb⟩ := hrel
    have HB := Lib.hid hb
    clear hb
    by_cases hlt : k < m
    · obtain ⟨b1, o1, ⟨xa, xb, xA, xn, xc⟩, y, rfl, -, hb1, hy, hxy, hc⟩ := (HK.out.via HB.out).at_ hlt
      have hxy' : TreeR ok2 wr (xa, xb, xA, xn, xc) y := hxy
      have c0 := hc 0 _ rfl
      have c1 := hc 1 _ rfl
      have c2 := hc 2 _ rfl
      simp only [TrE, Nat.add_zero] at c0 c1 c2
      obtain ⟨b2, o2, sx, sy, rfl, -, hb2, hz, hxz, hcs⟩ := (HS.out.via HB.out).at_ hlt
      obtain rfl : sx = sy := hxz
      have s0 := hcs 0 _ rfl
      have s1 := hcs 1 _ rfl
      simp only [SyE, Nat.add_zero] at s0 s1
      have i0 : (0 : Int) ≤ (k : Int) := by omega
      have i1 : (k : Int) < (m : Int) := by omega
      have hB2 := ((Below.refl wr.heap.size wr).al (.cells #[.int .i64 xa, .int .i64 xb, .slice xA xn xc] 36)).al (.cells #[.bool sx.1, .int .i64 (sx.2 : Int)] 48)
      have HB2 := Lib.hid hB2
      have HX := Lib.hid (hxy'.via hB2)
      have HDX := Lib.hid (HD.out k _ _ hz hy)
      have q0 := (hB2.cell (p := ⟨b2, o2 + k * 2, none⟩) hb2).trans s0
      have q1 := (hB2.cell (p := ⟨b2, o2 + k * 2 + 1, none⟩) hb2).trans s1
      clear hc hcs hxy hxy' hz hy hb1 hB2
      go_wp2_with fail
      refine (valid2_c bg ok ok2 g A n c (xa, xb, xA, xn, xc) y sx _ (HG.out.via (HB.out.via HB2.out)) (HL.out.via (HB.out.via HB2.out)) HX.out HDX.out).mono ?_
      rintro e w' ⟨rfl, hb3⟩
      have HF := Lib.hid ((HB.out.via HB2.out).via hb3)
      clear hb3 c0 c1 c2 s0 s1 q0 q1
      go_wp2_with fail
      exact ⟨⟨k + 1, by go_num, by omega, HF.out⟩, by simp [intOf]; omega⟩
    · go_wp2_with fail
      go_ret
      exact ⟨rfl, HB.out⟩

theorem okSy_term' {g : Gr} {t : Nat} : g.okSy (true, t) ↔ t < g.terms := by rw [Gr.okSy, if_pos rfl]
set_option maxRecDepth 100000 in
set_option maxHeartbeats 4000000 in
theorem valid1_c (bg : Nat) (ok ok2 : Nat → Prop) (g : Gr) (hgo : g.Ok) (A : Option Addr) (n c : Nat) (v : TrV) (t : Tr) (s : Sy) (w : World) (hg : Blk w bg 28 (grCells g A n c)) (hl : Sl RuE ok w A n c g.rules) (ht : TreeR ok2 w v t) (hd : Der g s t) (hs : g.okSy s) :
    Calls Try.prog 82 #[trVal v, .pointer (some ⟨bg, 0, none⟩)] w (TellB w true) := by
  have hlt := hg.lt
  obtain ⟨va, vb, vA, vn, vc⟩ := v
  have hB := (Below.refl w.heap.size w).al (.cells #[.int .i64 va, .int .i64 vb, .slice vA vn vc] 36)
  have HG := Lib.hid (hg.via hB)
  have Bg := hg.via hB
  unfold grCells at Bg
  have HL := Lib.hid (hl.via hB)
  have HBB := Lib.hid hB
  cases hd with
  | leaf k =>
    obtain ⟨rfl, rfl, rfl⟩ := ht.ofLeaf
    rw [okSy_term'] at hs
    have e1 : decide (k < g.terms) = true := by simpa using hs
    simp only [trVal]
    clear hl ht hg hB hs
    have cBg := Bg.cell
    have fBg := Bg.frozen
    have lBg := Bg.lt
    go_enter Try.func82, Try.ntmps82
    go_wp2_with fail
    go_ret
    exact ⟨rfl, HBB.out⟩
  | node r N rhs ks hr hk1 hk2 =>
    obtain ⟨rfl, rfl, hks⟩ := ht.kids
    have HK := Lib.hid (hks.via hB)
    have hrn : r < n := by rw [← hl.len]; exact (List.getElem?_eq_some_iff.1 hr).1
    obtain ⟨b1, o1, ⟨sl, sA, sn, sc⟩, ⟨x, xs⟩, rfl, -, hbb, hy, ⟨hx1, hx2⟩, hc⟩ := HL.out.at_ hrn
    rw [hr] at hy
    obtain ⟨rfl, rfl⟩ := Prod.mk.inj (Option.some.inj hy)
    have hvn : vn = sn := by
      have h1 := hks.len
      have h2 : rhs.length = sn := hx2.len
      omega
    subst hvn
    have c0 := hc 0 _ rfl
    have c1 := hc 1 _ rfl
    simp only [RuE, Nat.add_zero] at c0 c1
    have hx2' : Sl SyE ok _ sA vn sc rhs := hx2
    have HX := Lib.hid hx2'
    have HD := Lib.hid hk2
    have hvn4 : vn ≤ 1000000 := by
      have := (hgo.right _ (List.mem_of_getElem? hr)).1
      have h2 : rhs.length = vn := hx2'.len
      simp only at this
      omega
    have i0 : (0 : Int) ≤ (r : Int) := by omega
    have i1 : (r : Int) < (n : Int) := by omega
    have e0 : ((r : Int) == -1) = false := by simp
    have e1 : decide ((r : Int) < 0) = false := by simp
    have e2 : decide (n ≤ r) = false := by simp; omega
    have B0 := Blk.new w 36 #[.int .i64 (r : Int), .int .i64 0, .slice vA vn vc]
    simp only [trVal]
    clear hl ht hg hB hs hr hk1 hk2 hc hx2 hx2' hbb hy hks
    go_enter Try.func82, Try.ntmps82
    go_upto_region 1 with fail
    generalize w.alloc (.cells #[.int .i64 (r : Int), .int .i64 0, .slice vA vn vc] 36) = W at *
    have cB0 := B0.cell
    have fB0 := B0.frozen
    have lB0 := B0.lt
    have cBg := Bg.cell
    have fBg := Bg.frozen
    have lBg := Bg.lt
    go_upto_region 5 with fail
    go_region_law (first
      | (go_simp; go_at_call 83; refine (eqf_c bg ok ok2 ok g (some ⟨b1, o1, none⟩) n c vA vn vc ks sA sc rhs W.drew HG.out.dr HL.out.dr HK.out.dr HX.out.dr HD.out hvn4).mono ?_; rintro e w' ⟨rfl, hb2⟩))
    all_goals
      have HF := Lib.hid (HBB.out.via (((Below.refl W.heap.size W).drew).via hb2))
      clear hb2
      go_wp2_with fail
      go_ret
      exact ⟨rfl, HF.out⟩

set_option maxRecDepth 100000 in
set_option maxHeartbeats 4000000 in
theorem walkQ_n (fid : Nat) (he : ∀ (args : Array Value) (w : World), (callFunc fid args).run Try.prog w = .ok (.enter fid args) w) (cap : Value) (ok : Nat → Prop) (I : World → Prop) (hI : ∀ w w', I w → Below w.heap.size w w' → I w')
    (Q : Tr → Prop) (hQ : ∀ t x, Q t → x ∈ t.kids → Q x) (hf : ∀ w v x, I w → Q x → TreeR ok w v x → Calls Try.prog fid #[trVal v, cap] w (TellB w true)) (N : Nat) :
    ∀ (v : TrV) (t : Tr) (w : World), TreeR ok w v t → Q t → I w → t.size ≤ N → N ≤ 1000000 →
    Calls Try.prog 37 #[trVal v, .func (.func fid) #[] #[cap]] w (TellB w true) := by
  induction N with
  | zero => intro v t w _ _ _ h; have := t.size_pos; omega
  | succ N ih =>
    intro v t w hT hq hi hN hM
    obtain ⟨a, b, A, n, c⟩ := v
    simp only [trVal]
    have hB := (Below.refl w.heap.size w).al (.cells #[.int .i64 a, .int .i64 b, .slice A n c] 36)
    have B0 := Blk.new w 36 #[.int .i64 a, .int .i64 b, .slice A n c]
    have HT := Lib.hid (hT.via hB)
    have HI := Lib.hid (hI _ _ hi hB)
    have HQ := Lib.hid hq
    have HBB := Lib.hid hB
    have hps := t.size_pos
    clear hT hq hi hB
    go_enter Try.func37, Try.ntmps37
    go_wp2_with fail
    generalize w.alloc (.cells #[.int .i64 a, .int .i64 b, .slice A n c] 36) = W at *
    refine (hf W (a, b, A, n, c) t HI.out HQ.out HT.out).mono ?_
    rintro e w' ⟨rfl, hb1⟩
    have B1 := B0.via hb1
    have HT1 := Lib.hid (HT.out.via hb1)
    have HI1 := Lib.hid (hI _ _ HI.out hb1)
    have HB1 := Lib.hid (HBB.out.via hb1)
    clear hb1 HT HI HBB B0
    have cB1 := B1.cell
    have fB1 := B1.frozen
    have lB1 := B1.lt
    go_wp2_with fail
    clear cB1 fB1 lB1
    refine (kids_c ok (a, b, A, n, c) t w' HT1.out).mono ?_
    rintro e w2 ⟨A2, n2, c2, rfl, hS, hb2⟩
    have HS := Lib.hid hS
    have hln : n2 < t.size := by rw [← hS.len]; exact t.kids_len
    have HS := Lib.hid (hS.via hb2)
    have HI2 := Lib.hid (hI _ _ HI1.out hb2)
    have HB2 := Lib.hid (HB1.out.via hb2)
    clear hS hb2 HT1 HI1 HB1 B1
    go_wp2_with fail
    go_loopw [14] (fun i wr => ∃ k : Nat, i = .int .i64 k ∧ k ≤ n2 ∧ Below w2.heap.size w2 wr) (fun i _ => n2 - (intOf i).toNat)
    case atStart => exact ⟨0, rfl, Nat.zero_le _, Below.refl _ _⟩
    case round =>
      obtain ⟨k, rfl, hk, hb⟩ := hrel
      have HB := Lib.hid hb
      clear hb
      by_cases hlt : k < n2
      · obtain ⟨b1, o1, ⟨xa, xb, xA, xn, xc⟩, y, rfl, -, hb1, hy, hxy, hc⟩ := (HS.out.via HB.out).at_ hlt
        have hxy' : TreeR ok wr (xa, xb, xA, xn, xc) y := hxy
        have c0 := hc 0 _ rfl
        have c1 := hc 1 _ rfl
        have c2 := hc 2 _ rfl
        simp only [TrE, Nat.add_zero] at c0 c1 c2
        have i0 : (0 : Int) ≤ (k : Int) := by omega
        have i1 : (k : Int) < (n2 : Int) := by omega
        have hBx := (Below.refl wr.heap.size wr).al (.cells #[.int .i64 xa, .int .i64 xb, .slice xA xn xc] 36)
        have HBx := Lib.hid hBx
        have HX := Lib.hid (hxy'.via hBx)
        have hym := List.mem_of_getElem? hy
        have hsz := Tr.size_kid hym
        have HQY := Lib.hid (hQ t y HQ.out hym)
        clear hc hxy hxy' hy hb1 hBx hym
        go_wp2_with fail
        clear c0 c1 c2
        refine (ih (xa, xb, xA, xn, xc) y _ HX.out HQY.out (hI _ _ (hI _ _ HI2.out HB.out) HBx.out) (by omega) (by omega)).mono ?_
        rintro e w3 ⟨rfl, hb3⟩
        have HF := Lib.hid ((HB.out.via HBx.out).via hb3)
        clear hb3
        go_wp2_with fail
        exact ⟨⟨k + 1, by go_num, by omega, HF.out⟩, by simp [intOf]; omega⟩
      · have HF := Lib.hid (HB2.out.via HB.out)
        go_wp2_with fail
        go_ret
        exact ⟨rfl, HF.out⟩

set_option maxRecDepth 100000 in
set_option maxHeartbeats 4000000 in
theorem valid_c (ok ok2 : Nat → Prop) (g : Gr) (hgo : g.Ok) (A : Option Addr) (n c : Nat) (v : TrV) (t : Tr) (s : Sy) (w : World) (hl : Sl RuE ok w A n c g.rules) (ht : TreeR ok2 w v t) (hd : Der g s t) (hs : g.okSy s) (hM : t.size ≤ 1000000) :
    Calls Try.prog 69 #[grVal g A n c, trVal v] w (TellB w true) := by
  obtain ⟨va, vb, vA, vn, vc⟩ := v
  have hB := ((Below.refl w.heap.size w).al (.cells #[.int .i64 (g.terms : Int), .int .i64 (g.nons : Int), .int .i64 (g.start : Int), .slice A n c] 28)).al (.cells #[.int .i64 va, .int .i64 vb, .slice vA vn vc] 36)
  have B0 := (Blk.new w 28 #[.int .i64 (g.terms : Int), .int .i64 (g.nons : Int), .int .i64 (g.start : Int), .slice A n c]).al (.cells #[.int .i64 va, .int .i64 vb, .slice vA vn vc] 36)
  have HT := Lib.hid (ht.via hB)
  have HL := Lib.hid (hl.via hB)
  have HBB := Lib.hid hB
  simp only [trVal, grVal]
  clear hl ht hB
  go_enter Try.func69, Try.ntmps69
  go_wp2_with fail
  generalize (w.alloc (.cells #[.int .i64 (g.terms : Int), .int .i64 (g.nons : Int), .int .i64 (g.start : Int), .slice A n c] 28)).alloc (.cells #[.int .i64 va, .int .i64 vb, .slice vA vn vc] 36) = W at *
  refine (walkQ_n 82 (enters_c (c := _) (fn := Try.f82) rfl (by kernel_rfl) rfl) (.pointer (some ⟨w.heap.size, 0, none⟩)) ok2 (fun w' => Blk w' w.heap.size 28 (grCells g A n c) ∧ Sl RuE ok w' A n c g.rules) (fun w1 w2 h hb => ⟨h.1.via hb, h.2.via hb⟩) (fun x => ∃ s, Der g s x ∧ g.okSy s) ?_ ?_ 1000000 (va, vb, vA, vn, vc) t W HT.out ⟨s, hd, hs⟩ ⟨B0, HL.out⟩ hM (Nat.le_refl _)).mono ?_
  · rintro t x ⟨s, h1, h2⟩ hx
    cases h1 with
    | leaf k => cases hx
    | node r N rhs ks hr hk1 hk2 =>
      obtain ⟨j, hj⟩ := List.getElem?_of_mem hx
      have hj' : ks[j]? = some x := hj
      have hjl : j < rhs.length := by rw [← hk1]; exact (List.getElem?_eq_some_iff.1 hj').1
      have hsj := List.getElem?_eq_getElem hjl
      exact ⟨_, hk2 j _ x hsj hj', (hgo.right _ (List.mem_of_getElem? hr)).2 _ (List.mem_of_getElem? hsj)⟩
  · rintro w1 v1 x ⟨h1, h2⟩ ⟨s1, h3, h4⟩ h5
    exact valid1_c w.heap.size ok ok2 g hgo A n c v1 x s1 w1 h1 h2 h5 h3 h4
  · rintro e w' ⟨rfl, hb⟩
    have HF := Lib.hid (HBB.out.via hb)
    clear hb B0
    go_wp2_with fail
    go_ret
    exact ⟨rfl, HF.out⟩

set_option maxRecDepth 100000 in
set_option maxHeartbeats 4000000 in
theorem tcheck_c (ok ok2 : Nat → Prop) (g : Gr) (hgo : GrOk g) (A : Option Addr) (n c : Nat) (v : TrV) (t : Tr) (s : Sy) (w : World) (hl : Sl RuE ok w A n c g.rules) (ht : TreeR ok2 w v t) (hd : Der g s t) (hs : g.okSy s) (hM : t.size ≤ 5000) :
    Calls Try.prog 46 #[grVal g A n c, trVal v] w (IntO w 0) := by
  obtain ⟨va, vb, vA, vn, vc⟩ := v
  have hB := ((Below.refl w.heap.size w).al (.cells #[.int .i64 (g.terms : Int), .int .i64 (g.nons : Int), .int .i64 (g.start : Int), .slice A n c] 28)).al (.cells #[.int .i64 va, .int .i64 vb, .slice vA vn vc] 36)
  have HT := Lib.hid (ht.via hB)
  have HL := Lib.hid (hl.via hB)
  have HBB := Lib.hid hB
  have B0 := (Blk.new w 28 #[.int .i64 (g.terms : Int), .int .i64 (g.nons : Int), .int .i64 (g.start : Int), .slice A n c]).al (.cells #[.int .i64 va, .int .i64 vb, .slice vA vn vc] 36)
  have B1 := Blk.new (w.alloc (.cells #[.int .i64 (g.terms : Int), .int .i64 (g.nons : Int), .int .i64 (g.start : Int), .slice A n c] 28)) 36 #[.int .i64 va, .int .i64 vb, .slice vA vn vc]
  rw [World.size_alloc] at B1
  have e1 : decide (5000 < t.size) = false := by simp; omega
  simp only [trVal, grVal]
  clear hl ht hB
  go_enter Try.func46, Try.ntmps46
  go_wp2_with fail
  generalize (w.alloc (.cells #[.int .i64 (g.terms : Int), .int .i64 (g.nons : Int), .int .i64 (g.start : Int), .slice A n c] 28)).alloc (.cells #[.int .i64 va, .int .i64 vb, .slice vA vn vc] 36) = W at *
  refine (check_c ok g A n c W hgo HL.out).mono ?_
  rintro e w1 ⟨rfl, hb⟩
  replace B0 := B0.via hb
  replace B1 := B1.via hb
  have HT1 := Lib.hid (HT.out.via hb)
  have HL1 := Lib.hid (HL.out.via hb)
  have HB1 := Lib.hid (HBB.out.via hb)
  clear hb HT HL HBB
  have cB0 := B0.cell
  have fB0 := B0.frozen
  have lB0 := B0.lt
  have cB1 := B1.cell
  have fB1 := B1.frozen
  have lB1 := B1.lt
  go_wp2_with fail
  clear cB0 fB0 lB0 cB1 fB1 lB1
  refine (size_c ok2 (va, vb, vA, vn, vc) t w1 HT1.out (by omega)).mono ?_
  rintro e w2 ⟨rfl, hb⟩
  replace B0 := B0.via hb
  replace B1 := B1.via hb
  have HT2 := Lib.hid (HT1.out.via hb)
  have HL2 := Lib.hid (HL1.out.via hb)
  have HB2 := Lib.hid (HB1.out.via hb)
  clear hb HT1 HL1 HB1
  have cB0 := B0.cell
  have fB0 := B0.frozen
  have lB0 := B0.lt
  have cB1 := B1.cell
  have fB1 := B1.frozen
  have lB1 := B1.lt
  go_wp2_with fail
  clear cB0 fB0 lB0 cB1 fB1 lB1
  refine (valid_c ok ok2 g hgo.ok A n c (va, vb, vA, vn, vc) t s w2 HL2.out HT2.out hd hs (by omega)).mono ?_
  rintro e w3 ⟨rfl, hb⟩
  have HF := Lib.hid (HB2.out.via hb)
  clear hb B0 B1
  go_wp2_with fail
  go_ret
  exact ⟨rfl, HF.out⟩

def SymbolP (w : World) (s : Sy) (e : Ending) (w' : World) : Prop := e = .returned (.tuple #[.agg #[.bool s.1, .int .i64 (s.2 : Int)], .int .i64 0]) ∧ Below w.heap.size w w'
set_option maxRecDepth 100000 in
set_option maxHeartbeats 4000000 in
theorem symbol_t (ok ok2 : Nat → Prop) (g : Gr) (hgo : GrOk g) (A : Option Addr) (n c : Nat) (v : TrV) (t : Tr) (s : Sy) (w : World) (hl : Sl RuE ok w A n c g.rules) (ht : TreeR ok2 w v t) (hd : Der g s t) (hs : g.okSy s) (hM : t.size ≤ 5000) :
    Calls Try.prog 22 #[grVal g A n c, trVal v] w (SymbolP w s) := by
  obtain ⟨va, vb, vA, vn, vc⟩ := v
  have hB := (((Below.refl w.heap.size w).al (.cells #[.int .i64 (g.terms : Int), .int .i64 (g.nons : Int), .int .i64 (g.start : Int), .slice A n c] 28)).al (.cells #[.int .i64 va, .int .i64 vb, .slice vA vn vc] 36)).al (.cells #[.bool false, .int .i64 0] 48)
  have HT := Lib.hid (ht.via hB)
  have HL := Lib.hid (hl.via hB)
  have HBB := Lib.hid hB
  have B0 := ((Blk.new w 28 #[.int .i64 (g.terms : Int), .int .i64 (g.nons : Int), .int .i64 (g.start : Int), .slice A n c]).al (.cells #[.int .i64 va, .int .i64 vb, .slice vA vn vc] 36)).al (.cells #[.bool false, .int .i64 0] 48)
  have B1 := (Blk.new (w.alloc (.cells #[.int .i64 (g.terms : Int), .int .i64 (g.nons : Int), .int .i64 (g.start : Int), .slice A n c] 28)) 36 #[.int .i64 va, .int .i64 vb, .slice vA vn vc]).al (.cells #[.bool false, .int .i64 0] 48)
  have B2 := Blk.new ((w.alloc (.cells #[.int .i64 (g.terms : Int), .int .i64 (g.nons : Int), .int .i64 (g.start : Int), .slice A n c] 28)).alloc (.cells #[.int .i64 va, .int .i64 vb, .slice vA vn vc] 36)) 48 #[.bool false, .int .i64 0]
  simp only [World.size_alloc] at B1 B2
  simp only [trVal, grVal]
  clear hl ht hB
  go_enter Try.func22, Try.ntmps22
  go_wp2_with fail
  generalize ((w.alloc (.cells #[.int .i64 (g.terms : Int), .int .i64 (g.nons : Int), .int .i64 (g.start : Int), .slice A n c] 28)).alloc (.cells #[.int .i64 va, .int .i64 vb, .slice vA vn vc] 36)).alloc (.cells #[.bool false, .int .i64 0] 48) = W at *
  refine (tcheck_c ok ok2 g hgo A n c (va, vb, vA, vn, vc) t s W HL.out HT.out hd hs hM).mono ?_
  rintro e w1 ⟨rfl, hb⟩
  replace B0 := B0.via hb
  replace B1 := B1.via hb
  replace B2 := B2.via hb
  have HT1 := Lib.hid (HT.out.via hb)
  have HL1 := Lib.hid (HL.out.via hb)
  have HB1 := Lib.hid (HBB.out.via hb)
  clear hb HT HL HBB
  have cB0 := B0.cell
  have fB0 := B0.frozen
  have lB0 := B0.lt
  have cB1 := B1.cell
  have fB1 := B1.frozen
  have lB1 := B1.lt
  go_wp2_with fail
  clear cB0 fB0 lB0 cB1 fB1 lB1
  refine (root_c ok ok2 g A n c (va, vb, vA, vn, vc) t s w1 HL1.out HT1.out hd).mono ?_
  rintro e w2 ⟨rfl, hb⟩
  replace B2 := B2.via hb
  have HF := Lib.hid (HB1.out.via hb)
  clear hb B0 B1 HB1 HT1 HL1
  have cB2 := B2.cell
  have fB2 := B2.frozen
  have lB2 := B2.lt
  go_wp2_with fail
  refine bodyPost_ret (v := .tuple #[.agg #[.bool s.1, .int .i64 (s.2 : Int)], .int .i64 0]) (by simp [results, Try.results22, go_sem, cB2]) rfl ⟨rfl, ?_⟩
  exact (HF.out.setCell (p := ⟨w.heap.size + 2, 0, none⟩) (Nat.le_add_right _ 2) _).setCell (p := ⟨w.heap.size + 2, 1, none⟩) (Nat.le_add_right _ 2) _
end Go.Proofs.Ytghnkgbingcbcaa

