/- parlkeep4.constant. -/
import Derived.Test.YtgclibfikdonoaaYH
import Derived.Test.YtgclibfikdonoaaYB
namespace Go.Proofs.Ytgclibfikdonoaa
open Go.RowKit

mutual
def Ex.konst (get : Nat → Nat → Nat) : Ex → Ex
  | .mk k n a b args => if k = 1 then .mk 0 (get a b) 0 0 [] else .mk k n a b (Ex.konsts get args)
def Ex.konsts (get : Nat → Nat → Nat) : List Ex → List Ex
  | [] => []
  | t :: ts => t.konst get :: Ex.konsts get ts
end
section
variable {get : Nat → Nat → Nat}
theorem Ex.konsts_map (l : List Ex) : Ex.konsts get l = l.map (Ex.konst get) := by
  induction l with
  | nil => rfl
  | cons t ts ih => simp only [Ex.konsts, ih, List.map_cons]
theorem Ex.konst_ok (hg : ∀ a b, get a b < 1000003) {d : Nat} {t : Ex} (h : Ex.Ok d t) : Ex.Ok d (t.konst get) ∧ (t.konst get).calc get = t.calc get := by
  induction h with
  | const d n h => exact ⟨by simpa [Ex.konst, Ex.konsts] using Ex.Ok.const d n h, by simp [Ex.konst, Ex.konsts]⟩
  | value d a b => exact ⟨by simpa [Ex.konst] using Ex.Ok.const d (get a b) (hg a b), by simp [Ex.konst, Ex.calc]⟩
  | node d k args h2 h7 hn hm h5 h6 hk ih =>
    have e : Ex.konst get (.mk k 0 0 0 args) = .mk k 0 0 0 (args.map (Ex.konst get)) := by rw [Ex.konst, if_neg (by omega), Ex.konsts_map]
    rw [e]
    refine ⟨.node d k _ h2 h7 (by simpa using hn) (by simpa using hm) (by simpa using h5) (by simpa using h6) fun t ht => ?_, ?_⟩
    · obtain ⟨t', ht', rfl⟩ := List.mem_map.1 ht
      exact (ih t' ht').1
    · rw [Ex.calc, Ex.calc, Ex.calcs_map, Ex.calcs_map, List.map_map]
      have : args.map (Ex.calc get ∘ Ex.konst get) = args.map (Ex.calc get) := List.map_congr_left fun t ht => (ih t ht).2
      rw [this]
/-- no occurrence is left -/
inductive Ex.NoV : Ex → Prop
  | mk (k n a b : Nat) (args : List Ex) (h : k ≠ 1) (hl : args.length ≤ 3) (hk : ∀ t ∈ args, Ex.NoV t) : Ex.NoV (.mk k n a b args)
theorem Ex.konst_noV {d : Nat} {t : Ex} (h : Ex.Ok d t) : Ex.NoV (t.konst get) := by
  induction h with
  | const d n h => exact .mk _ _ _ _ _ (by omega) (by simp [Ex.konsts]) fun t ht => by simp [Ex.konsts] at ht
  | value d a b => exact .mk _ _ _ _ _ (by omega) (by simp) fun t ht => by simp at ht
  | node d k args h2 h7 hn hm h5 h6 hk ih =>
    have e : Ex.konst get (.mk k 0 0 0 args) = .mk k 0 0 0 (args.map (Ex.konst get)) := by rw [Ex.konst, if_neg (by omega), Ex.konsts_map]
    rw [e]
    refine .mk _ _ _ _ _ (by omega) (by simpa using hm) fun t ht => ?_
    obtain ⟨t', ht', rfl⟩ := List.mem_map.1 ht
    exact ih t' ht'
end

def KonP (w : World) (t : Ex) (e : Ending) (w' : World) : Prop := ∃ v, e = .returned (exVal v) ∧ ExR (fun b => w.heap.size ≤ b) w' v t ∧ Below w.heap.size w w'
structure KRel (I : World → Prop) (w : World) (K m X Y : Nat) (k : Nat) (v : Value) (ks : List Ex) (wr : World) : Prop where
  b1 : Blk wr (w.heap.size + 1) 28 #[.int .i64 0, .int .i64 0, .int .i64 0, .int .i64 0, .slice none 0 0]
  b2 : Blk wr (w.heap.size + 1 + 1) 28 #[.int .i64 (K : Int), .int .i64 (m : Int), .int .i64 (X : Int), .int .i64 (Y : Int), v]
  own : Own ExE 28 (fun b => w.heap.size + 3 ≤ b) wr (w.heap.size + 3) v k ks
  bel : Below w.heap.size w wr
  size : w.heap.size + 3 ≤ wr.heap.size
  inv : I wr
section
variable {I : World → Prop} {w wr wa w1 : World} {K m X Y k : Nat} {v v' : Value} {ks : List Ex}
theorem KRel.via (hI : ∀ w w', I w → Below w.heap.size w w' → I w') (h : KRel I w K m X Y k v ks wr) (hb : Below wr.heap.size wr wa) : KRel I w K m X Y k v ks wa :=
  ⟨h.b1.via hb, h.b2.via hb, h.own.via hb, h.bel.via hb, Nat.le_trans h.size hb.size, hI _ _ h.inv hb⟩
theorem KRel.push {y : Ex} (hI : ∀ w w', I w → Below w.heap.size w w' → I w') (hi : I w) (h : KRel I w K m X Y k v ks wr) (ho : Own ExE 28 (fun b => w.heap.size + 3 ≤ b) w1 (w.heap.size + 3) v' (k + 1) (ks ++ [y])) (hg : wr.grownBy w1 v.ownBlock) :
    KRel I w K m X Y (k + 1) v' (ks ++ [y]) (w1.setCell ⟨w.heap.size + 1 + 1, 4, none⟩ v') := by
  have hne : ∀ j, j < w.heap.size + 3 → some j ≠ v.ownBlock := fun j hj e => by have := (h.own.lt j e.symm).1; omega
  have hsz := h.size
  have hb : Below w.heap.size w (w1.setCell ⟨w.heap.size + 1 + 1, 4, none⟩ v') := (h.bel.grown hg (by omega) fun j hj => by have := (h.own.lt j hj).1; omega).setCell (by simp; omega) _
  refine ⟨(h.b1.grown hg (hne _ (by omega))).far (by simp) _, ?_, ho.setCell _ (fun b hb => by show b ≠ w.heap.size + 1 + 1; omega) (by show w.heap.size + 1 + 1 < _; omega), hb, ?_, hI _ _ hi hb⟩
  · have := (h.b2.grown hg (hne _ (by omega))).set_ 4 v'; simpa using this
  · have := hg.size; simp; omega
end

theorem KonP.fin {w wr : World} {v : ExV} {t : Ex} {lo : Nat} (hlo : w.heap.size + 2 ≤ lo) (hb : Below w.heap.size w wr) (ht : ExR (fun b => lo ≤ b) wr v t) : KonP w t (.returned (exVal v)) (World.set5 wr (w.heap.size + 1) v) :=
  ⟨v, rfl, (ht.agr (agr_set5 fun b hb => by omega)).mono (fun b _ hb => by omega), below_set5 hb (by omega)⟩

set_option maxRecDepth 100000 in
set_option maxHeartbeats 4000000 in
theorem konst_n (fid : Nat) (he : ∀ (args : Array Value) (w : World), (callFunc fid args).run Try.prog w = .ok (.enter fid args) w) (cap : Value) (I : World → Prop) (hI : ∀ w w', I w → Below w.heap.size w w' → I w')
    (get : Nat → Nat → Nat) (hf : ∀ (a b : Nat) (w : World), I w → Calls Try.prog fid #[.agg #[.int .i64 (a : Int), .int .i64 (b : Int)], cap] w (FunP w (get a b))) (N : Nat) :
    ∀ (ok : Nat → Prop) (d : Nat) (v : ExV) (t : Ex) (w : World), ExR ok w v t → Ex.Ok d t → t.size ≤ N → I w →
    Calls Try.prog 10 #[exVal v, .func (.func fid) #[] #[cap]] w (KonP w (t.konst get)) := by
  induction N with
  | zero => intro ok d v t w _ _ h; have := t.size_pos; omega
  | succ N ih =>
    intro ok d v t w hT hO hN hi
    obtain ⟨K, m0, X, Y, A, n, cc⟩ := v
    obtain ⟨h1, h2, h3, h4, h5⟩ := hT.parts
    simp only at h1 h2 h3 h4 h5
    have hlen := h5.len
    have HS := Lib.hid h5
    have HI := Lib.hid hi
    simp only [exVal]
    clear hT h5 hi
    have main : ∀ (args : List Ex), K ≠ 1 → (∀ y ∈ args, ∃ d, Ex.Ok d y) → args.length ≤ 3 → (Ex.mk K m0 X Y args).size ≤ N + 1 → Hid (Sl ExE ok w A n cc args) →
        Calls Try.prog 10 #[.agg #[.int .i64 (K : Int), .int .i64 (m0 : Int), .int .i64 (X : Int), .int .i64 (Y : Int), .slice A n cc], .func (.func fid) #[] #[cap]] w (KonP w (.mk K m0 X Y (args.map (Ex.konst get)))) := by
      intro args hK hk ha hN2 HS
      have hlen := HS.out.len
      have hK1 : ((K : Int) == 1) = false := by simp; omega
      have HK := Lib.hid hk
      clear hk hN hO hK h1 h2 h3 h4
      go_enter Try.func10, Try.ntmps10
      go_wp2_with fail
      clear hK1
      go_loopw [26] (fun i wr => ∃ (kk : Nat) (v : Value), i = .int .i64 kk ∧ kk ≤ n ∧ KRel I w K m0 X Y kk v ((args.map (Ex.konst get)).take kk) wr) (fun i _ => n - (intOf i).toNat)
      case atStart =>
        refine ⟨0, _, rfl, Nat.zero_le _, ?_, ?_, Own.nil _ _, ?_, ?_, ?_⟩
        · have := (Blk.new (w.alloc (.cells #[.int .i64 (K : Int), .int .i64 (m0 : Int), .int .i64 (X : Int), .int .i64 (Y : Int), .slice A n cc] 28)) 28 #[.int .i64 0, .int .i64 0, .int .i64 0, .int .i64 0, .slice none 0 0]).al (.cells #[.int .i64 (K : Int), .int .i64 (m0 : Int), .int .i64 (X : Int), .int .i64 (Y : Int), .slice none 0 0] 28)
          simpa using this
        · exact Blk.newAt _ 28 #[.int .i64 (K : Int), .int .i64 (m0 : Int), .int .i64 (X : Int), .int .i64 (Y : Int), .slice none 0 0] _ (by simp)
        · exact (((Below.refl _ _).al _).al _).al _
        · simp
        · exact hI _ _ HI.out ((((Below.refl _ _).al _).al _).al _)
      case round =>
        obtain ⟨kk, v, rfl, hkk, hr⟩ := hrel
        obtain ⟨Av, cv, rfl, -⟩ := hr.own.form
        by_cases hlt : kk < n
        · obtain ⟨b, off, x, y, rfl, -, hb, hy, hxy, hc⟩ := (HS.out.via hr.bel).at_ hlt
          have hxy' : ExR ok wr x y := hxy
          have c0 := hc 0 _ rfl
          have c1 := hc 1 _ rfl
          have c2 := hc 2 _ rfl
          have c3 := hc 3 _ rfl
          have c4 := hc 4 _ rfl
          obtain ⟨xa, xb, xc, xd, xA, xn, xcc⟩ := x
          simp only [ExE, Nat.add_zero] at c0 c1 c2 c3 c4
          have i0 : (0 : Int) ≤ (kk : Int) := by omega
          have i1 : (kk : Int) < (n : Int) := by omega
          have hym := List.mem_of_getElem? hy
          have hsy : y.size ≤ N := by have := Ex.size_mem hym; simp only [Ex.size] at hN2; omega
          have HY := Lib.hid (show (args.map (Ex.konst get)).take (kk + 1) = (args.map (Ex.konst get)).take kk ++ [y.konst get] by
            have hl := List.getElem?_eq_some_iff.1 hy
            rw [List.take_succ_eq_append_getElem (by rw [List.length_map]; exact hl.1), List.getElem_map, hl.2])
          obtain ⟨dy, hoy⟩ := HK.out y hym
          have HX := Lib.hid (hxy'.al (.cells #[.int .i64 (xa : Int), .int .i64 (xb : Int), .int .i64 (xc : Int), .int .i64 (xd : Int), .slice xA xn xcc] 28))
          have HR := Lib.hid (hr.via hI ((Below.refl wr.heap.size wr).alloc (Nat.le_refl _) (.cells #[.int .i64 (xa : Int), .int .i64 (xb : Int), .int .i64 (xc : Int), .int .i64 (xd : Int), .slice xA xn xcc] 28)))
          have Bk := Blk.new wr 28 #[.int .i64 (xa : Int), .int .i64 (xb : Int), .int .i64 (xc : Int), .int .i64 (xd : Int), .slice xA xn xcc]
          have Bo := hr.b2.al (.cells #[.int .i64 (xa : Int), .int .i64 (xb : Int), .int .i64 (xc : Int), .int .i64 (xd : Int), .slice xA xn xcc] 28)
          have hsz := hr.size
          clear hc hy hxy hxy' hr hb
          go_wp2_with fail
          clear c0 c1 c2 c3 c4
          generalize wr.alloc (.cells #[.int .i64 (xa : Int), .int .i64 (xb : Int), .int .i64 (xc : Int), .int .i64 (xd : Int), .slice xA xn xcc] 28) = W at *
          generalize wr.heap.size = bk at *
          have cBk := Bk.cell
          have fBk := Bk.frozen
          have lBk := Bk.lt
          have cBo := Bo.cell
          have fBo := Bo.frozen
          have lBo := Bo.lt
          go_region_law (first
            | (go_simp; go_at_call 10; refine (ih ok dy (xa, xb, xc, xd, xA, xn, xcc) y W.drew HX.out.dr hoy hsy (hI _ _ HR.out.inv ((Below.refl _ _).drew))).mono ?_; rintro e w' ⟨v2, rfl, hT2, hb2⟩; have cP := (Bo.dr.via hb2).cell; have lP := (Bo.dr.via hb2).lt; dsimp only [exVal])
            | (have HA := (HR.out.via hI ((Below.refl W.heap.size W).drew)).via hI hb2
               have HB := HA.via hI ((Below.refl w'.heap.size w').alloc (Nat.le_refl _) (.cells #[.int .i64 (v2.1 : Int), .int .i64 (v2.2.1 : Int), .int .i64 (v2.2.2.1 : Int), .int .i64 (v2.2.2.2.1 : Int), .slice v2.2.2.2.2.1 v2.2.2.2.2.2.1 v2.2.2.2.2.2.2] 28))
               refine step_append_ex _ rfl (.tmp 31) (.tmp 35) rfl (fun b => w.heap.size + 3 ≤ b) (w.heap.size + 3) (.slice Av kk cv) kk ((args.map (Ex.konst get)).take kk) rfl HB.own w'.heap.size v2 (y.konst get) rfl (Blk.new w' 28 #[.int .i64 (v2.1 : Int), .int .i64 (v2.2.1 : Int), .int .i64 (v2.2.2.1 : Int), .int .i64 (v2.2.2.2.1 : Int), .slice v2.2.2.2.2.1 v2.2.2.2.2.2.1 v2.2.2.2.2.2.2]) ((hT2.al _).mono fun b _ hb => ⟨Nat.le_trans HR.out.size hb, fun e => Nat.lt_irrefl b (Nat.lt_of_lt_of_le (HR.out.own.lt b e.symm).2 hb)⟩) (by omega) HB.size ?_
               intro Av1 cv1 w1 ho1 hg1 hat1
               have B2g := HB.b2.grown hg1 (fun e => by have := (HB.own.lt _ e.symm).1; omega)
               have c2g := B2g.cell
               have f2g := B2g.frozen))
          all_goals
            have HP := Lib.hid (KRel.push hI HI.out HB ho1 hg1)
            clear HA HB
            go_wp2_with fail
            exact ⟨⟨kk + 1, _, by go_num, by omega, by rw [HY.out]; exact HP.out⟩, by simp [intOf]; omega⟩
        · have hk' : (args.map (Ex.konst get)).take kk = args.map (Ex.konst get) := List.take_of_length_le (by rw [List.length_map]; omega)
          rw [hk'] at hr
          have B1 := hr.b1
          have B2 := hr.b2
          have HR := Lib.hid hr
          have hkn : kk = n := by omega
          clear hr hk'
          subst hkn
          have cB1 := B1.cell
          have fB1 := B1.frozen
          have lB1 := B1.lt
          have cB2 := B2.cell
          have fB2 := B2.frozen
          have lB2 := B2.lt
          go_wp2_with fail
          refine bodyPost_ret (v := exVal (K, m0, X, Y, Av, kk, cv)) (by simp [results, Try.results10, go_sem, exVal, cB1]) rfl ?_
          exact KonP.fin (lo := w.heap.size + 3) (by omega) HR.out.bel (ExR.of K m0 X Y (HR.out.own.toSl (fun b _ hb => hb) (fun b hb => hb)))
    cases hO with
    | value d x y =>
      simp only [Ex.kind, Ex.n, Ex.at_, Ex.attr] at h1 h2 h3 h4
      subst h1 h2 h3 h4
      simp only [show ((0 : Nat) : Int) = 0 from rfl, show ((1 : Nat) : Int) = 1 from rfl]
      have B1 := Blk.new (w.alloc (.cells #[.int .i64 1, .int .i64 0, .int .i64 (X : Int), .int .i64 (Y : Int), .slice A n cc] 28)) 28 #[.int .i64 0, .int .i64 0, .int .i64 0, .int .i64 0, .slice none 0 0]
      have hB := (((Below.refl w.heap.size w).al (.cells #[.int .i64 1, .int .i64 0, .int .i64 (X : Int), .int .i64 (Y : Int), .slice A n cc] 28)).al (.cells #[.int .i64 0, .int .i64 0, .int .i64 0, .int .i64 0, .slice none 0 0] 28))
      rw [World.size_alloc] at B1
      go_enter Try.func10, Try.ntmps10
      go_wp2_with fail
      have hi2 := hI _ _ HI.out hB
      have hsz : w.heap.size + 2 ≤ ((w.alloc (.cells #[.int .i64 1, .int .i64 0, .int .i64 (X : Int), .int .i64 (Y : Int), .slice A n cc] 28)).alloc (.cells #[.int .i64 0, .int .i64 0, .int .i64 0, .int .i64 0, .slice none 0 0] 28)).heap.size := by simp
      generalize (w.alloc (.cells #[.int .i64 1, .int .i64 0, .int .i64 (X : Int), .int .i64 (Y : Int), .slice A n cc] 28)).alloc (.cells #[.int .i64 0, .int .i64 0, .int .i64 0, .int .i64 0, .slice none 0 0] 28) = W at *
      refine (hf X Y W hi2).mono ?_
      rintro e w' ⟨rfl, hb⟩
      replace B1 := B1.via hb
      have hB2 := Lib.hid (hB.trans (hb.mono (by omega)))
      clear hb hB hi2
      have cB1 := B1.cell
      have fB1 := B1.frozen
      have lB1 := B1.lt
      go_wp2_with fail
      refine bodyPost_ret (v := exVal (0, get X Y, 0, 0, none, 0, 0)) (by simp [results, Try.results10, go_sem, exVal, cB1]) rfl ?_
      rw [show Ex.konst get (.mk 1 0 X Y []) = .mk 0 (get X Y) 0 0 [] by simp [Ex.konst]]
      exact KonP.fin (w := w) (v := (0, get X Y, 0, 0, none, 0, 0)) (t := Ex.mk 0 (get X Y) 0 0 []) (lo := w.heap.size + 2) (Nat.le_refl _) hB2.out (ExR.of 0 (get X Y) 0 0 (Sl.nil 0))
    | const d n' hn' =>
      simp only [Ex.kind, Ex.n, Ex.at_, Ex.attr, Ex.args] at h1 h2 h3 h4 HS
      subst h1 h2 h3 h4
      have e : Ex.konst get (.mk 0 m0 0 0 []) = .mk 0 m0 0 0 (([] : List Ex).map (Ex.konst get)) := by simp [Ex.konst, Ex.konsts]
      rw [e]
      exact main [] (by omega) (fun y hy => by cases hy) (by simp) hN HS
    | node d k args k2 k7 hn hm n5 n6 hk =>
      simp only [Ex.kind, Ex.n, Ex.at_, Ex.attr, Ex.args] at h1 h2 h3 h4 HS
      subst h1 h2 h3 h4
      have e : Ex.konst get (.mk K 0 0 0 args) = .mk K 0 0 0 (args.map (Ex.konst get)) := by rw [Ex.konst, if_neg (by omega), Ex.konsts_map]
      rw [e]
      exact main args (by omega) (fun y hy => ⟨d, hk y hy⟩) hm hN HS
end Go.Proofs.Ytgclibfikdonoaa
