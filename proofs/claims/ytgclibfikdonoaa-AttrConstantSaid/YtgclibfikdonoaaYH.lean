/- slices.Max, attr.Calc. -/
import Derived.Test.YtgclibfikdonoaaYG
namespace Go.Proofs.Ytgclibfikdonoaa
open Go.RowKit

def nat2 (l : List Nat) : List Int := l.map (fun (x : Nat) => (x : Int))
theorem nat2_getD (l : List Nat) (k : Nat) : (nat2 l).getD k 0 = ((l.getD k 0 : Nat) : Int) := by
  simp only [nat2, List.getD_eq_getElem?_getD, List.getElem?_map]
  cases l[k]? <;> rfl
theorem Ints.atN {w : World} {A : Option Addr} {n c : Nat} {l : List Nat} (h : Ints w A n c (nat2 l)) {k : Nat} (hk : k < n) :
    ∃ b off, A = some ⟨b, off, none⟩ ∧ b < w.heap.size ∧ w.cell? ⟨b, off + k, none⟩ = some (.int .i64 ((l.getD k 0 : Nat) : Int)) := by
  obtain ⟨b, off, h1, h2, h3⟩ := h.at_ hk
  exact ⟨b, off, h1, h2, by rw [h3, nat2_getD]⟩
theorem take_getD {l : List Nat} {k : Nat} (h : k < l.length) : l.take (k + 1) = l.take k ++ [l.getD k 0] := by
  rw [List.take_succ_eq_append_getElem h, List.getD_eq_getElem?_getD, List.getElem?_eq_getElem h]; rfl

set_option maxRecDepth 100000 in
set_option maxHeartbeats 1000000 in
theorem max_c (A : Option Addr) (n c : Nat) (l : List Nat) (w : World) (h : Ints w A n c (nat2 l)) (hn : 1 ≤ n) (hm : n ≤ 1000000) :
    Calls Try.prog 12 #[.slice A n c] w fun e w' => e = .returned (.int .i64 ((maxL l : Nat) : Int)) ∧ w = w' := by
  have hl : l.length = n := by have := h.len; simpa [nat2] using this
  have H := Lib.hid h
  obtain ⟨b, off, rfl, -, c0⟩ := h.atN (k := 0) (by omega)
  simp only [Nat.add_zero] at c0
  have i0 : (0 : Int) < (n : Int) := by omega
  have i1 : ¬ (n : Int) < 1 := by omega
  clear h
  go_enter Try.func12, Try.ntmps12
  go_wp2_with fail
  clear i1
  go_loopw [3, 4] (fun v i wr => ∃ k : Nat, i = .int .i64 k ∧ 1 ≤ k ∧ k ≤ n ∧ v = .int .i64 ((maxL (l.take k) : Nat) : Int) ∧ w = wr) (fun _ i _ => n - (intOf i).toNat)
  case atStart =>
    refine ⟨1, rfl, Nat.le_refl _, hn, ?_, rfl⟩
    rw [take_getD (k := 0) (by omega)]
    simp [maxL]
  case round =>
    obtain ⟨k, rfl, hk1, hk, rfl, rfl⟩ := hrel
    by_cases hkl : k < n
    · obtain ⟨b2, o2, e2, -, c2⟩ := H.out.atN hkl
      cases e2
      have j0 : (0 : Int) ≤ (k : Int) := by omega
      have j1 : (k : Int) < (n : Int) := by omega
      have HM := Lib.hid (show maxL (l.take (k + 1)) = Nat.max (maxL (l.take k)) (l.getD k 0) by rw [take_getD (by omega), maxL_snoc])
      generalize maxL (l.take k) = m at *
      generalize l.getD k 0 = x at *
      go_wp2_with fail
      refine ⟨⟨k + 1, by go_num, by omega, by omega, ?_, trivial⟩, by simp [intOf]; omega⟩
      have e : (if m < x then (x : Int) else (m : Int)) = ((Nat.max m x : Nat) : Int) := by
        show _ = ((max m x : Nat) : Int)
        split <;> omega
      rw [HM.out, e]
    · rw [List.take_of_length_le (show l.length ≤ k by omega)]
      go_wp2_with fail
      go_ret
      exact ⟨rfl, rfl⟩

/-! ### Calc -/
def FunP (w : World) (x : Nat) (e : Ending) (w' : World) : Prop := e = .returned (.int .i64 (x : Int)) ∧ Below w.heap.size w w'
set_option maxRecDepth 100000 in
set_option maxHeartbeats 1000000 in
theorem calc_const (F : Value) (n : Nat) (w : World) : Calls Try.prog 4 #[exVal (0, n, 0, 0, none, 0, 0), F] w (FunP w n) := by
  simp only [exVal]
  go_enter Try.func4, Try.ntmps4
  go_wp2_with fail
  go_ret
  exact ⟨rfl, (Below.refl _ _).al _⟩

/-- behind k arguments -/
structure CalcR (I : World → Prop) (w : World) (ev : Array Value) (k : Nat) (v : Value) (l : List Nat) (wr : World) : Prop where
  own : OwnI wr (w.heap.size + 1) v k (nat2 l)
  b0 : Blk wr w.heap.size 28 ev
  bel : Below w.heap.size w wr
  size : w.heap.size + 1 ≤ wr.heap.size
  inv : I wr
section
variable {I : World → Prop} {w wr wa w1 : World} {ev : Array Value} {k : Nat} {v v' : Value} {l : List Nat}
theorem CalcR.via (hI : ∀ w w', I w → Below w.heap.size w w' → I w') (h : CalcR I w ev k v l wr) (hb : Below wr.heap.size wr wa) : CalcR I w ev k v l wa :=
  ⟨OwnI.keep h.own hb (Nat.le_refl _), h.b0.via hb, h.bel.via hb, Nat.le_trans h.size hb.size, hI _ _ h.inv hb⟩
theorem CalcR.push {x : Nat} (hI : ∀ w w', I w → Below w.heap.size w w' → I w') (hi : I w) (h : CalcR I w ev k v l wr) (ho : OwnI w1 (w.heap.size + 1) v' (k + 1) (nat2 l ++ [(x : Int)])) (hg : wr.grownBy w1 v.ownBlock) : CalcR I w ev (k + 1) v' (l ++ [x]) w1 := by
  have hb : Below w.heap.size w w1 := h.bel.grown hg (by have := h.size; omega) fun j hj => by have := (h.own.lt j hj).1; omega
  exact ⟨by rw [show nat2 (l ++ [x]) = nat2 l ++ [(x : Int)] by simp [nat2]]; exact ho, h.b0.grown hg (fun e => by have := (h.own.lt _ e.symm).1; omega), hb, Nat.le_trans h.size hg.size, hI _ _ hi hb⟩
end

set_option maxRecDepth 100000 in
set_option maxHeartbeats 4000000 in
theorem calc_n (fid : Nat) (he : ∀ (args : Array Value) (w : World), (callFunc fid args).run Try.prog w = .ok (.enter fid args) w) (cap : Value) (I : World → Prop) (hI : ∀ w w', I w → Below w.heap.size w w' → I w')
    (get : Nat → Nat → Nat) (hget : ∀ a b, get a b < 1000003) (hf : ∀ (a b : Nat) (w : World), I w → Calls Try.prog fid #[.agg #[.int .i64 (a : Int), .int .i64 (b : Int)], cap] w (FunP w (get a b))) (N : Nat) :
    ∀ (ok : Nat → Prop) (d : Nat) (v : ExV) (t : Ex) (w : World), ExR ok w v t → Ex.Ok d t → t.size ≤ N → I w →
    Calls Try.prog 4 #[exVal v, .func (.func fid) #[] #[cap]] w (FunP w (t.calc get)) := by
  induction N with
  | zero => intro ok d v t w _ _ h; have := t.size_pos; omega
  | succ N ih =>
    intro ok d v t w hT hO hN hi
    obtain ⟨K, m0, X, Y, A, n, cc⟩ := v
    obtain ⟨h1, h2, h3, h4, h5⟩ := hT.parts
    simp only at h1 h2 h3 h4 h5
    have hlen := h5.len
    have HS := Lib.hid h5
    have HI := Lib.hid hi
    simp only [exVal]
    clear hT h5 hi
    cases hO with
    | const d n' hn' =>
      simp only [Ex.kind, Ex.n, Ex.at_, Ex.attr] at h1 h2 h3 h4
      subst h1 h2 h3 h4
      go_enter Try.func4, Try.ntmps4
      go_wp2_with fail
      go_ret
      exact ⟨by simp [Ex.calc], (Below.refl _ _).al _⟩
    | value d x y =>
      simp only [Ex.kind, Ex.n, Ex.at_, Ex.attr] at h1 h2 h3 h4
      subst h1 h2 h3 h4
      go_enter Try.func4, Try.ntmps4
      go_wp2_with fail
      refine (hf X Y _ (hI _ _ HI.out ((Below.refl _ _).al _))).mono ?_
      rintro e w' ⟨rfl, hb⟩
      have hb' := ((Below.refl w.heap.size w).al (.cells #[.int .i64 1, .int .i64 0, .int .i64 (X : Int), .int .i64 (Y : Int), .slice A n cc] 28)).trans (hb.mono (by simp))
      clear hb
      go_wp2_with fail
      go_ret
      exact ⟨by simp [Ex.calc], hb'⟩
    | node d k args k2 k7 hn hm n5 n6 hk =>
      simp only [Ex.kind, Ex.n, Ex.at_, Ex.attr, Ex.args] at h1 h2 h3 h4 hlen HS
      subst h1 h2 h3 h4
      have e0 : ((K : Int) == 0) = false := by simp; omega
      have e1 : ((K : Int) == 1) = false := by simp; omega
      have hR : CalcR I w #[.int .i64 (K : Int), .int .i64 0, .int .i64 0, .int .i64 0, .slice A n cc] 0 (.slice none 0 0) ((args.map (Ex.calc get)).take 0) (w.alloc (.cells #[.int .i64 (K : Int), .int .i64 0, .int .i64 0, .int .i64 0, .slice A n cc] 28)) :=
        ⟨OwnI.nil _ _, Blk.new _ _ _, (Below.refl _ _).al _, by simp, hI _ _ HI.out ((Below.refl _ _).al _)⟩
      have HR0 := Lib.hid hR
      have N5 := Lib.hid n5
      have N6 := Lib.hid n6
      have HK := Lib.hid hk
      clear hR n5 n6 hk
      simp only [show ((0 : Nat) : Int) = 0 from rfl]
      go_enter Try.func4, Try.ntmps4
      go_wp2_with fail
      clear e0 e1
      go_loopw [5, 28] (fun v i wr => ∃ kk : Nat, i = .int .i64 kk ∧ kk ≤ n ∧ CalcR I w #[.int .i64 (K : Int), .int .i64 0, .int .i64 0, .int .i64 0, .slice A n cc] kk v ((args.map (Ex.calc get)).take kk) wr) (fun _ i _ => n - (intOf i).toNat)
      case atStart => exact ⟨0, rfl, Nat.zero_le _, HR0.out⟩
      case round =>
        obtain ⟨kk, rfl, hkk, hr⟩ := hrel
        clear HR0
        obtain ⟨Av, cv, rfl, hIn⟩ := hr.own.form
        by_cases hlt : kk < n
        · obtain ⟨b, off, x, y, rfl, -, hb, hy, hxy, hc⟩ := (HS.out.via hr.bel).at_ hlt
          have hxy' : ExR ok wr x y := hxy
          have c0 := hc 0 _ rfl
          have c1 := hc 1 _ rfl
          have c2 := hc 2 _ rfl
          have c3 := hc 3 _ rfl
          have c4 := hc 4 _ rfl
          obtain ⟨xa, xb, xc, xd, xA, xn, xcc⟩ := x
          simp only [ExE, Nat.add_zero] at c0 c1 c2 c3 c4
          have i0 : (0 : Int) ≤ (kk : Int) := by omega
          have i1 : (kk : Int) < (n : Int) := by omega
          have hym := List.mem_of_getElem? hy
          have hsy : y.size ≤ N := by have := Ex.size_mem hym; simp only [Ex.size] at hN; omega
          have HY := Lib.hid (show (args.map (Ex.calc get)).take (kk + 1) = (args.map (Ex.calc get)).take kk ++ [y.calc get] by
            have hl := List.getElem?_eq_some_iff.1 hy
            rw [List.take_succ_eq_append_getElem (by rw [List.length_map]; exact hl.1), List.getElem_map, hl.2])
          have hoy := HK.out y hym
          have HX := Lib.hid (hxy'.al (.cells #[.int .i64 (xa : Int), .int .i64 (xb : Int), .int .i64 (xc : Int), .int .i64 (xd : Int), .slice xA xn xcc] 28))
          have HR := Lib.hid (hr.via hI ((Below.refl wr.heap.size wr).alloc (Nat.le_refl _) (.cells #[.int .i64 (xa : Int), .int .i64 (xb : Int), .int .i64 (xc : Int), .int .i64 (xd : Int), .slice xA xn xcc] 28)))
          have hsz := hr.size
          clear hc hy hxy hxy' hr hIn
          go_wp2_with fail
          clear c0 c1 c2 c3 c4
          refine (ih ok d (xa, xb, xc, xd, xA, xn, xcc) y _ HX.out hoy hsy HR.out.inv).mono ?_
          rintro e w' ⟨rfl, hb2⟩
          have HR2 := Lib.hid (HR.out.via hI hb2)
          clear hb2
          go_wp2_with (at_builtin; refine wpList_append_ints _ rfl (.tmp 32) (.tmp 36) rfl (w.heap.size + 1) (.slice Av kk cv) kk (nat2 ((args.map (Ex.calc get)).take kk)) rfl (HR2.out.own.alloc _) (some ⟨w'.heap.size, 0, none⟩) 1 1 [((y.calc get : Nat) : Int)] rfl (Ints.one w' _ _) (by omega) (by have := HR2.out.size; simp; omega) ?_; intro Av1 cv1 w1 ho1 hg1 hat1)
          go_roundw
          case rel => exact ⟨kk + 1, by go_num, by omega, by rw [HY.out]; exact (HR2.out.via hI ((Below.refl _ _).al _)).push hI HI.out ho1 hg1⟩
          case measure => simp [intOf]; omega
        · have hk2 : kk = n := by omega
          have hll : (args.map (Ex.calc get)).length = n := by rw [List.length_map]; exact hlen
          rw [List.take_of_length_le (show (args.map (Ex.calc get)).length ≤ kk by omega)] at hIn
          have hB := Lib.hid hr.bel
          have hlt2 : ∀ z ∈ args.map (Ex.calc get), z < 1000003 := fun z hz => by
            obtain ⟨t, ht, rfl⟩ := List.mem_map.1 hz
            exact Ex.calc_lt hget (HK.out t ht)
          have HE := Lib.hid (show (Ex.mk K 0 0 0 args).calc get = calcOp K (args.map (Ex.calc get)) by rw [Ex.calc, if_neg (by omega), if_neg (by omega), Ex.calcs_map])
          have B0 := hr.b0
          have HL := Lib.hid hlt2
          clear hr hlt hlt2 HK HS
          generalize args.map (Ex.calc get) = l at *
          subst hk2
          have HIn := Lib.hid hIn
          clear hIn
          have hK : K = 2 ∨ K = 3 ∨ K = 4 ∨ K = 5 ∨ K = 6 := by omega
          rcases hK with rfl | rfl | rfl | rfl | rfl
          · have cB0 := B0.cell
            have fB0 := B0.frozen
            have lB0 := B0.lt
            go_wp2_with fail
            clear cB0 fB0 lB0
            clear B0
            go_loopw [8, 45] (fun o i w2 => ∃ k3 : Nat, i = .int .i64 k3 ∧ k3 ≤ kk ∧ o = .int .i64 ((addL (l.take k3) : Nat) : Int) ∧ wr = w2) (fun _ i _ => kk - (intOf i).toNat)
            case atStart => exact ⟨0, rfl, Nat.zero_le _, by simp [addL], rfl⟩
            case round =>
              obtain ⟨k3, rfl, hk3, rfl, rfl⟩ := hrel
              by_cases hlt3 : k3 < kk
              · obtain ⟨b, o, rfl, hb, hc⟩ := HIn.out.atN hlt3
                have i0 : (0 : Int) ≤ (k3 : Int) := by omega
                have i1 : (k3 : Int) < (kk : Int) := by omega
                have HS := Lib.hid (show addL (l.take (k3 + 1)) = (addL (l.take k3) + l.getD k3 0 % 1000003 + 1000003) % 1000003 by rw [take_getD (by omega), addL_snoc])
                have hax := addL_lt (l.take k3)
                generalize addL (l.take k3) = ax at *
                generalize l.getD k3 0 = x at *
                go_wp2_with fail
                exact ⟨⟨k3 + 1, by go_num, by omega, by rw [HS.out]; exact congrArg _ (by omega), trivial⟩, by simp [intOf]; omega⟩
              · rw [List.take_of_length_le (show l.length ≤ k3 by omega)]
                go_wp2_with fail
                go_ret
                exact ⟨by rw [HE.out]; rfl, hB.out⟩
          · have cB0 := B0.cell
            have fB0 := B0.frozen
            have lB0 := B0.lt
            go_wp2_with fail
            clear cB0 fB0 lB0
            clear B0
            go_loopw [8, 60] (fun o i w2 => ∃ k3 : Nat, i = .int .i64 k3 ∧ k3 ≤ kk ∧ o = .int .i64 ((mulL (l.take k3) : Nat) : Int) ∧ wr = w2) (fun _ i _ => kk - (intOf i).toNat)
            case atStart => exact ⟨0, rfl, Nat.zero_le _, by simp [mulL], rfl⟩
            case round =>
              obtain ⟨k3, rfl, hk3, rfl, rfl⟩ := hrel
              by_cases hlt3 : k3 < kk
              · obtain ⟨b, o, rfl, hb, hc⟩ := HIn.out.atN hlt3
                have i0 : (0 : Int) ≤ (k3 : Int) := by omega
                have i1 : (k3 : Int) < (kk : Int) := by omega
                have HS := Lib.hid (show mulL (l.take (k3 + 1)) = (mulL (l.take k3) * (l.getD k3 0 % 1000003) % 1000003 + 1000003) % 1000003 by rw [take_getD (by omega), mulL_snoc])
                have hax := mulL_lt (l.take k3)
                generalize mulL (l.take k3) = ax at *
                generalize l.getD k3 0 = x at *
                have hy := Nat.mod_lt x (show 0 < 1000003 by omega)
                have hxy : ((x : Int) % 1000003) = ((x % 1000003 : Nat) : Int) := by omega
                generalize x % 1000003 = y at *
                have hp : ax * y ≤ 1000002 * 1000002 := Nat.mul_le_mul (by omega) (by omega)
                have hpq : (ax : Int) * (y : Int) = ((ax * y : Nat) : Int) := by simp
                generalize ax * y = q at *
                have hw : IntKind.i64.wrap ((ax : Int) * (y : Int)) = (q : Int) := by rw [hpq]; exact IntWalk.i64_in _ (by omega)
                clear hpq
                go_wp2_with fail
                exact ⟨⟨k3 + 1, by go_num, by omega, by rw [HS.out]; exact congrArg _ (by omega), trivial⟩, by simp [intOf]; omega⟩
              · rw [List.take_of_length_le (show l.length ≤ k3 by omega)]
                go_wp2_with fail
                go_ret
                exact ⟨by rw [HE.out]; rfl, hB.out⟩
          · have cB0 := B0.cell
            have fB0 := B0.frozen
            have lB0 := B0.lt
            go_wp2_with fail
            refine (max_c Av kk cv l wr HIn.out (by omega) (by omega)).mono ?_
            rintro e w2 ⟨rfl, rfl⟩
            go_wp2_with fail
            go_ret
            exact ⟨by rw [HE.out]; rfl, hB.out⟩
          · have n5 := N5.out rfl
            obtain ⟨b, o, rfl, hb, d0⟩ := HIn.out.atN (k := 0) (by omega)
            obtain ⟨b2, o2, e2, -, d1⟩ := HIn.out.atN (k := 1) (by omega)
            cases e2
            have i0 : (0 : Int) < (kk : Int) := by omega
            have i1 : (1 : Int) < (kk : Int) := by omega
            have HC := Lib.hid (show calcOp 5 l = if l.getD 0 0 < l.getD 1 0 then 1 else 0 from rfl)
            generalize l.getD 0 0 = x at *
            generalize l.getD 1 0 = y at *
            simp only [Nat.add_zero] at d0
            by_cases hxy : x < y
            · have hxi : (x : Int) < (y : Int) := by omega
              have cB0 := B0.cell
              have fB0 := B0.frozen
              have lB0 := B0.lt
              go_wp2_with fail
              go_region
              go_wp2_with fail
              go_ret
              exact ⟨by rw [HE.out, HC.out, if_pos hxy]; rfl, hB.out.drew⟩
            · have hxi : ¬ (x : Int) < (y : Int) := by omega
              have cB0 := B0.cell
              have fB0 := B0.frozen
              have lB0 := B0.lt
              go_wp2_with fail
              go_region
              go_wp2_with fail
              go_ret
              exact ⟨by rw [HE.out, HC.out, if_neg hxy]; rfl, hB.out.drew⟩
          · have n6 := N6.out rfl
            obtain ⟨b, o, rfl, hb, d0⟩ := HIn.out.atN (k := 0) (by omega)
            obtain ⟨b2, o2, e2, -, d1⟩ := HIn.out.atN (k := 1) (by omega)
            obtain ⟨b3, o3, e3, -, d2⟩ := HIn.out.atN (k := 2) (by omega)
            cases e2
            cases e3
            have i0 : (0 : Int) < (kk : Int) := by omega
            have i1 : (1 : Int) < (kk : Int) := by omega
            have i2 : (2 : Int) < (kk : Int) := by omega
            have HC := Lib.hid (show calcOp 6 l = if l.getD 0 0 = 0 then l.getD 2 0 else l.getD 1 0 from rfl)
            generalize l.getD 0 0 = x at *
            generalize l.getD 1 0 = y at *
            generalize l.getD 2 0 = z at *
            simp only [Nat.add_zero] at d0
            cases hx0 : ((x : Int) == 0) with
            | true =>
              have cB0 := B0.cell
              have fB0 := B0.frozen
              have lB0 := B0.lt
              go_wp2_with fail
              go_ret
              exact ⟨by rw [HE.out, HC.out, if_pos (by simp at hx0; omega)]; rfl, hB.out⟩
            | false =>
              have cB0 := B0.cell
              have fB0 := B0.frozen
              have lB0 := B0.lt
              go_wp2_with fail
              go_ret
              exact ⟨by rw [HE.out, HC.out, if_neg (by simp at hx0; omega)]; rfl, hB.out⟩
end Go.Proofs.Ytgclibfikdonoaa
