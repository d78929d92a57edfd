/- Texts WM, laid together. -/
import Derived.Test.YtghnkgbingcbcaaV1
import Derived.Test.YtghnkgbingcbcaaV2
import Derived.Test.YtghnkgbingcbcaaH3
import Derived.Test.YtghnkgbingcbcaaC2





namespace Go.Proofs.Ytghnkgbingcbcaa
open Go.RowKit

theorem tmsL_take {ks : List Tr} {k : Nat} {y : Tr} (h : ks[k]? = some y) : tmsL (ks.take (k + 1)) = tmsL (ks.take k) ++ tms y := by
  induction ks generalizing k with
  | nil => simp at h
  | cons a ks ih =>
    cases k with
    | zero => simp at h; subst h; simp [tmsL]
    | succ k =>
      have := ih (k := k) (by simpa using h)
      simp only [List.take_succ_cons, tmsL, this, List.append_assoc]
theorem froL_take {F : Tr → List Ce} {ks : List Tr} {k i : Nat} {y : Tr} (h : ks[k]? = some y) : froL F (ks.take (k + 1)) i = froL F (ks.take k) i ++ (if k = i then F y else tms y) := by
  induction ks generalizing k i with
  | nil => simp at h
  | cons a ks ih =>
    cases k with
    | zero =>
      simp at h; subst h
      cases i with
      | zero => simp [froL, tmsL]
      | succ i => simp [froL]
    | succ k =>
      have h' : ks[k]? = some y := by simpa using h
      cases i with
      | zero => simp only [List.take_succ_cons, froL, tmsL_take h', List.append_assoc]; simp
      | succ i =>
        simp only [List.take_succ_cons, froL, ih h', List.append_assoc, Nat.add_right_cancel_iff]
theorem Tr.word_size (t : Tr) : t.word.length ≤ t.size := by
  have h := congrArg List.length t.pre_word
  rw [List.length_map] at h
  rw [← h, ← t.pre_len]
  exact Tr.terms_len _
theorem tms_len (t : Tr) : (tms t).length ≤ t.size := by
  have := t.word_size
  simpa [tms] using this
theorem tmsL_len (ks : List Tr) : (tmsL ks).length ≤ Tr.sizes ks := by
  induction ks with
  | nil => simp [tmsL]
  | cons t ks ih => have := tms_len t; simp only [tmsL, Tr.sizes, List.length_append]; omega
theorem froL_len {F : Tr → List Ce} (hF : ∀ t, (F t).length ≤ t.size) (ks : List Tr) : ∀ i, (froL F ks i).length ≤ Tr.sizes ks := by
  induction ks with
  | nil => intro i; simp [froL]
  | cons t ks ih =>
    intro i
    cases i with
    | zero => have h1 := hF t; have h2 := tmsL_len ks; simp only [froL, Tr.sizes, List.length_append]; omega
    | succ i => have h1 := tms_len t; have h2 := ih i; simp only [froL, Tr.sizes, List.length_append]; omega
theorem fro_len (y : Ce) : ∀ (p : List Nat) (t : Tr), (fro y p t).length ≤ t.size
  | [], t => by have := t.size_pos; simp only [fro, List.length_singleton]; omega
  | i :: p, t => by have h1 := froL_len (fro_len y p) t.kids i; have h2 := t.size_eq; simp only [fro]; omega
theorem sizes_take_le (ks : List Tr) (k : Nat) : Tr.sizes (ks.take k) ≤ Tr.sizes ks := by
  have e : Tr.sizes (ks.take k) + Tr.sizes (ks.drop k) = Tr.sizes ks := by rw [← Tr.sizes_append, List.take_append_drop]
  omega
theorem tms_pre (t : Tr) : (t.pre.flatMap Tr.term).map (fun x => ((true, x) : Ce)) = tms t := by rw [Tr.pre_word]; rfl

theorem Sl.oneC (w : World) (x : Ce) : Sl CeE (fun _ => True) (w.alloc (.cells #[.bool x.1, .int .i64 x.2] 48)) (some ⟨w.heap.size, 0, none⟩) 1 1 [x] :=
  Sl.ofBlk (ok := fun _ => True) (Blk.new w _ _) [x] rfl rfl rfl trivial fun i r y hr hx => by rw [hr] at hx; exact Option.some.inj hx
theorem step_append_ces {ops : Array Oper} {o : Oper} {a : Act} {K : Act → World → Prop} {Q : Exit → Act → World → Prop} {F : Prop} (w : World) (hgd : o.guard = none) (s x : Operand)
    (ho : o.op = .call { callee := .builtin .append, args := #[s, x], argTypes := #[49, 49] })
    (ok oks : Nat → Prop) (base : Nat) (v : Value) (n : Nat) (xs : List Ce) (hs : a.eval s = v) (hown : Own CeE 48 ok w base v n xs)
    (A : Option Addr) (m c : Nat) (ys : List Ce) (hx : a.eval x = .slice A m c) (hr : Sl CeE oks w A m c ys) (hb : n + m ≤ 1000000) (hbase : base ≤ w.heap.size)
    (h : ∀ A' c' w', Own CeE 48 ok w' base (.slice A' (n + m) c') (n + m) (xs ++ ys) → w.grownBy w' v.ownBlock → ((Value.slice A' (n + m) c').ownBlock = v.ownBlock ∨ (Value.slice A' (n + m) c').ownBlock = some w.heap.size) → K (a.put o.dst (.slice A' (n + m) c')) w') :
    if Region.wanted o (yielded ops a.tmps) = true then Oper.wp Try.prog o a w K Q else F := by
  rw [if_pos (by simp [Region.wanted, hgd])]
  exact wp_append_ces w s x ho ok oks base v n xs hs hown A m c ys hx hr hb hbase h

def FroP (w : World) (l : List Ce) (e : Ending) (w' : World) : Prop := ∃ B n d, e = .returned (.slice B n d) ∧ Sl CeE (fun _ => True) w' B n d l ∧ Below w.heap.size w w'
structure FroR (w : World) (y : Sy) (F : Tr → List Ce) (ks : List Tr) (i k m : Nat) (v : Value) (wr : World) : Prop where
  own : Own CeE 48 (fun _ => False) wr (w.heap.size + 2) v m (froL F (ks.take k) i)
  b1 : Blk wr (w.heap.size + 1) 48 #[.bool y.1, .int .i64 (y.2 : Int)]
  bel : Below w.heap.size w wr
  size : w.heap.size + 2 ≤ wr.heap.size
theorem FroR.via {w : World} {y : Sy} {F : Tr → List Ce} {ks : List Tr} {i k m : Nat} {v : Value} {wr wa : World} (h : FroR w y F ks i k m v wr) (hb : Below wr.heap.size wr wa) : FroR w y F ks i k m v wa :=
  ⟨h.own.via hb, h.b1.via hb, h.bel.via hb, Nat.le_trans h.size hb.size⟩
theorem FroR.push {w : World} {y : Sy} {F : Tr → List Ce} {ks : List Tr} {i k m j : Nat} {v v' : Value} {wr w1 : World} {t : Tr} {l : List Ce} (h : FroR w y F ks i k m v wr) (hk : ks[k]? = some t) (hl : l = if k = i then F t else tms t)
    (ho : Own CeE 48 (fun _ => False) w1 (w.heap.size + 2) v' (m + j) (froL F (ks.take k) i ++ l)) (hg : wr.grownBy w1 v.ownBlock) : FroR w y F ks i (k + 1) (m + j) v' w1 := by
  have hsz := h.size
  subst hl
  refine ⟨by rw [froL_take hk]; exact ho, h.b1.grown hg (fun e => by have := (h.own.lt _ e.symm).1; omega), h.bel.grown hg (by omega) fun b hb => by have := (h.own.lt b hb).1; omega, Nat.le_trans hsz hg.size⟩

set_option maxRecDepth 100000 in
set_option maxHeartbeats 4000000 in
theorem frontier_n (y : Sy) : ∀ (p : List Nat) (ok : Nat → Prop) (t : Tr) (v : TrV) (w : World) (A : Option Addr) (n c : Nat), TreeR ok w v t → t.size ≤ 100000 → Ints w A n c (p.map fun i : Nat => (i : Int)) →
    Calls Try.prog 23 #[trVal v, .slice A n c, .agg #[.bool y.1, .int .i64 (y.2 : Int)]] w (FroP w (fro (symC y) p t)) := by
  intro p
  induction p with
  | nil =>
    intro ok t v w A n c ht hM hI
    obtain ⟨va, vb, vA, vn, vc⟩ := v
    have hn : n = 0 := by have := hI.len; simpa using this.symm
    subst hn
    have hB := ((Below.refl w.heap.size w).al (.cells #[.int .i64 va, .int .i64 vb, .slice vA vn vc] 36)).al (.cells #[.bool y.1, .int .i64 (y.2 : Int)] 48)
    have HB := Lib.hid (hB.al (.cells #[.bool y.1, .int .i64 (y.2 : Int)] 48))
    have hS1 := Sl.oneC ((w.alloc (.cells #[.int .i64 va, .int .i64 vb, .slice vA vn vc] 36)).alloc (.cells #[.bool y.1, .int .i64 (y.2 : Int)] 48)) (symC y)
    simp only [World.size_alloc] at hS1
    have HS := Lib.hid hS1
    clear hS1
    simp only [trVal]
    clear ht hI hB
    go_enter Try.func23, Try.ntmps23
    go_wp2_with fail
    go_ret
    refine ⟨_, _, _, rfl, HS.out, HB.out⟩
  | cons i p ih =>
    intro ok t v w A n c ht hM hI
    obtain ⟨va, vb, vA, vn, vc⟩ := v
    obtain ⟨h1, h2, h3⟩ := ht.parts
    simp only at h1 h2 h3
    have hnp : n = p.length + 1 := by have := hI.len; simpa using this.symm
    have hB := ((Below.refl w.heap.size w).al (.cells #[.int .i64 va, .int .i64 vb, .slice vA vn vc] 36)).al (.cells #[.bool y.1, .int .i64 (y.2 : Int)] 48)
    have B1 := Blk.new (w.alloc (.cells #[.int .i64 va, .int .i64 vb, .slice vA vn vc] 36)) 48 #[.bool y.1, .int .i64 (y.2 : Int)]
    rw [World.size_alloc] at B1
    have hks : t.kids.length = vn := h3.len
    have hss := t.size_eq
    have H3 := Lib.hid h3
    have HI := Lib.hid hI
    have HR := Lib.hid (show FroR w y (fro (symC y) p) t.kids i 0 0 (.slice none 0 0) _ from ⟨Own.nil _ _, B1, hB, by simp⟩)
    simp only [trVal]
    clear ht hI hB h1 h2 h3 B1
    have n0 : ((n : Int) == 0) = false := by simp; omega
    have hn1 : 1 ≤ n := by omega
    have hvn : vn ≤ 100000 := by have := t.kids_len; omega
    have HKS := Lib.hid hks
    have HSS := Lib.hid hss
    clear hks hss hnp
    go_enter Try.func23, Try.ntmps23
    go_wp2_with fail
    clear n0
    go_loopw [7, 18] (fun a q wr => ∃ (k m : Nat) (Ab : Option Addr) (cb : Nat), q = .int .i64 k ∧ k ≤ vn ∧ a = .slice Ab m cb ∧ FroR w y (fro (symC y) p) t.kids i k m (.slice Ab m cb) wr) (fun _ q _ => vn - (intOf q).toNat)
    case atStart => exact ⟨0, 0, none, 0, rfl, Nat.zero_le _, rfl, HR.out⟩
    case round =>
      obtain ⟨k, m, Ab, cb, rfl, hk, rfl, hr⟩ := hrel
      clear HR
      by_cases hlt : k < vn
      · obtain ⟨b1, o1, ⟨xa, xb, xA, xn, xc⟩, z, rfl, -, hbb, hz, hxy, hc⟩ := (H3.out.via hr.bel).at_ hlt
        have hxy' : TreeR ok wr (xa, xb, xA, xn, xc) z := hxy
        have c0 := hc 0 _ rfl
        have c1 := hc 1 _ rfl
        have c2 := hc 2 _ rfl
        simp only [TrE, Nat.add_zero] at c0 c1 c2
        obtain ⟨bq, oq, rfl, hbq, hxq⟩ := HI.out.at_ (k := 0) (by omega)
        have hgd : ((i :: p).map fun i : Nat => (i : Int)).getD 0 0 = (i : Int) := rfl
        rw [hgd] at hxq
        have xq := (hr.bel.cell (p := ⟨bq, oq + 0, none⟩) hbq).trans hxq
        simp only [Nat.add_zero] at xq
        have i0 : (0 : Int) ≤ (k : Int) := by omega
        have i1 : (k : Int) < (vn : Int) := by omega
        have j0 : (0 : Int) < (n : Int) := by omega
        have hzs := Tr.sizes_take hz
        have hks := HKS.out
        have hss := HSS.out
        have hzl : z.size ≤ 100000 := by omega
        have hsm : Tr.sizes (t.kids.take k) + z.size ≤ 100000 := by omega
        have hml : m ≤ Tr.sizes (t.kids.take k) := by
          have h1 := hr.own.len
          have h2 := froL_len (fro_len (symC y) p) (t.kids.take k) i
          omega
        have hB2 := (Below.refl wr.heap.size wr).al (.cells #[.int .i64 xa, .int .i64 xb, .slice xA xn xc] 36)
        have HR2 := Lib.hid (hr.via hB2)
        have HX := Lib.hid (hxy'.via hB2)
        have HZ := Lib.hid hz
        have Bk := Blk.new wr 36 #[.int .i64 xa, .int .i64 xb, .slice xA xn xc]
        have HI2 := Lib.hid (HI.out.via (hr.bel.via hB2))
        have b1r := (hr.via hB2).b1
        have xq2 := (hB2.cell (p := ⟨bq, oq, none⟩) (by have := hr.bel.size; show bq < _; omega)).trans xq
        have hsr := (hr.via hB2).size
        clear hc hxy hxy' hz hbb hr hB2 hgd hxq hbq hks hss hzs
        go_upto_region 7 with fail
        clear c0 c1 c2 xq
        generalize wr.alloc (.cells #[.int .i64 xa, .int .i64 xb, .slice xA xn xc] 36) = W at *
        by_cases hki : k = i
        · subst hki
          obtain ⟨A', hA0, hI'⟩ := HI2.out.tail (l := 1) (by omega)
          have hA' : (if c = 1 then some (⟨bq, oq, none⟩ : Addr) else some ⟨bq, oq + 1, none⟩) = A' := by rw [← hA0]; rfl
          clear hA0
          have HIT := Lib.hid (show Ints W A' (n - 1) (c - 1) (p.map fun i : Nat => (i : Int)) from by simpa using hI')
          have jn : (1 : Int) ≤ (n : Int) := by omega
          have jn1 : 1 ≤ n := by omega
          have jn2 : n ≤ c := HI2.out.le
          have jn3 : (n : Int) ≤ (c : Int) := by omega
          clear hI'
          have cBk := Bk.cell
          have fBk := Bk.frozen
          have lBk := Bk.lt
          have cb1r := b1r.cell
          have fb1r := b1r.frozen
          have lb1r := b1r.lt
          go_upto_region 8 with fail
          go_region_law (first
            | (go_simp; go_at_call 23; refine (ih ok z (xa, xb, xA, xn, xc) W.drew A' (n - 1) (c - 1) HX.out.dr hzl HIT.out.dr).mono ?_; rintro e w' ⟨B, mm, d, rfl, hS, hb2⟩)
            | (have HA := (HR2.out.via ((Below.refl W.heap.size W).drew)).via hb2
               have hmm : mm ≤ z.size := by have h1 := hS.len; have h2 := fro_len (symC y) p z; omega
               refine step_append_ces _ rfl (.tmp 28) (.tmp 33) rfl (fun _ => False) (fun _ => True) (w.heap.size + 2) (.slice Ab m cb) m _ rfl HA.own B mm d _ rfl hS (by omega) HA.size ?_
               intro Av1 cv1 w1 ho1 hg1 hat1))
          all_goals
            have HP := Lib.hid (FroR.push HA HZ.out (by rw [if_pos rfl]) ho1 hg1)
            clear HA hS
            go_wp2_with fail
            exact ⟨⟨k + 1, m + mm, _, _, by go_num, by omega, rfl, HP.out⟩, by simp [intOf]; omega⟩
        · have hkf : ((k : Int) == (i : Int)) = false := by simp; omega
          have cBk := Bk.cell
          have fBk := Bk.frozen
          have lBk := Bk.lt
          have cb1r := b1r.cell
          have fb1r := b1r.frozen
          have lb1r := b1r.lt
          go_wp2_with fail
          clear cBk fBk lBk cb1r fb1r lb1r
          refine (word_t ok (xa, xb, xA, xn, xc) z W HX.out (by omega)).mono ?_
          rintro e w2 ⟨A2, n2, c2, rfl, ho, hb2⟩
          have hn2 : n2 ≤ z.size := by
            have h1 := ho.toInts.len
            have h2 := Tr.terms_len z.pre
            have h3 := z.pre_len
            omega
          have HI3 := Lib.hid ho.toInts
          have HR3 := Lib.hid (HR2.out.via hb2)
          clear ho hb2 HR2
          go_wp2_with fail
          refine (terminals_c A2 n2 c2 _ w2 HI3.out (by omega)).mono ?_
          rintro e w3 ⟨B, d, rfl, how, hb3⟩
          rw [tms_pre] at how
          have HS := Lib.hid (show Sl CeE (fun _ => True) w3 B n2 d (tms z) from how.toSl (fun _ _ _ => trivial) (fun _ _ => trivial))
          have HR4 := Lib.hid (HR3.out.via hb3)
          clear how hb3 HR3
          go_wp2_with (at_builtin; refine wpList_append_ces _ rfl (.tmp 35) (.tmp 38) rfl (fun _ => False) (fun _ => True) (w.heap.size + 2) (.slice Ab m cb) m _ rfl HR4.out.own B n2 d (tms z) rfl HS.out (by omega) HR4.out.size ?_; intro A' c' w7 ho1 hg1 ha1)
          have HP := Lib.hid (FroR.push HR4.out HZ.out (by rw [if_neg hki]) ho1 hg1)
          exact ⟨⟨k + 1, m + n2, _, _, by go_num, by omega, rfl, HP.out⟩, by simp [intOf]; omega⟩
      · obtain rfl : k = vn := by omega
        have HS := Lib.hid (hr.own.toSl (ok' := fun _ => True) (fun _ _ _ => trivial) (fun _ _ => trivial))
        have HBF := Lib.hid hr.bel
        have HE := Lib.hid (show t.kids.take k = t.kids from List.take_of_length_le (by have := HKS.out; omega))
        clear hr
        go_wp2_with fail
        go_ret
        have hs := HS.out
        rw [HE.out] at hs
        exact ⟨_, _, _, rfl, hs, HBF.out⟩
end Go.Proofs.Ytghnkgbingcbcaa

