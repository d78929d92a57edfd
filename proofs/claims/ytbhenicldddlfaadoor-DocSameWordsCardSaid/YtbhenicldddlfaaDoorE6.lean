/- Texts DT, laid together. -/
import Derived.Test.YtbhenicldddlfaaDoorE5


namespace Go.Proofs.YtbhenicldddlfaaDoor
open Go.RowKit

/-- the order of All: excess, lines, choices -/
def lzC (x y : Lz) : Int := orL [cmpI (x.ex : Int) (y.ex : Int), cmpI (x.ln : Int) (y.ln : Int), cmpL x.ch y.ch]
def SortP (base n : Nat) (A : Option Addr) (c : Nat) (l : List Lz) (w : World) (e : Ending) (w' : World) : Prop :=
  e = .returned (.tuple #[]) ∧ ∃ ys : List Lz, ys.Perm l ∧ ys.Pairwise (fun x y => lzC x y ≤ 0) ∧ Own LzE 34 (fun _ => True) w' base (.slice A n c) n ys ∧ Below base w w'
def SortOk : Prop := ∀ (w : World) (base n : Nat) (A : Option Addr) (c : Nat) (l : List Lz), base ≤ w.heap.size → 0 < n → n ≤ 4096 → (∀ x ∈ l, x.ch.length ≤ 400) → Own LzE 34 (fun _ => True) w base (.slice A n c) n l →
  Calls Tryd.prog 14 #[.slice A n c, .func (.func 15) #[] #[]] w (SortP base n A c l w)
def AllP (W : Nat) (t : Dc) (w : World) (e : Ending) (w' : World) : Prop :=
  if 12 < grpN (t.ops 0 0) then e = .returned (.tuple #[.slice none 0 0, .int .i64 2]) ∧ Below w.heap.size w w'
  else ∃ A n c ys, e = .returned (.tuple #[.slice A n c, .int .i64 0]) ∧ ys.Perm (allN W (t.ops 0 0) (2 ^ grpN (t.ops 0 0))) ∧ ys.Pairwise (fun x y => lzC x y ≤ 0) ∧ Sl LzE (fun _ => True) w' A n c ys ∧ Below w.heap.size w w'
theorem setF_len {W : Nat} {p : Nat → Nat → Nat → Bool} {ops : List Opr} (ho : OpsOk ops) : ∀ (m i col k : Nat), ops.length - i ≤ m → (setF W p ops i col k).ch.length ≤ m ∧ (setF W p ops i col k).k ≤ k + m := by
  intro m
  induction m with
  | zero => intro i col k h; rw [setF_end (by omega)]; simp
  | succ m ih =>
    intro i col k h
    by_cases hi : i < ops.length
    · have hs : ops[i]? = some ops[i] := List.getElem?_eq_getElem hi
      generalize ops[i] = o at hs
      obtain ⟨-, -, -, hfin⟩ := ho i o hs
      cases hg : o.grp
      · by_cases hn : 0 ≤ o.ind
        · rw [setF_line hs hg hn]
          have := ih (i + 1) o.ind.toNat k (by omega)
          simp only [Ly.after, List.nil_append]; omega
        · rw [setF_text hs hg hn]
          have := ih (i + 1) (col + o.text.size) k (by omega)
          simp only [Ly.after, List.nil_append]; omega
      · obtain ⟨hf1, hf2⟩ := hfin hg
        cases hc : o.can
        · rw [setF_cannot hs hg hc]
          have := ih (i + 1) col k (by omega)
          simp only [Ly.after, List.length_append, List.length_singleton]; omega
        · cases hp : p k i col
          · rw [setF_brk hs hg hc hp]
            have := ih (i + 1) col (k + 1) (by omega)
            simp only [Ly.after, List.length_append, List.length_singleton]; omega
          · rw [setF_flat hs hg hc hp hf1]
            have := ih o.fin (col + o.text.size) (k + 1) (by omega)
            simp only [Ly.after, List.length_append, List.length_singleton]; omega
    · rw [setF_end (by omega)]; simp
theorem allN_pos (W : Nat) (ops : List Opr) : ∀ n, 0 < (allN W ops (n + 1)).length := by
  intro n
  induction n with
  | zero => rw [allN_succ]; simp [okM]
  | succ n ih => rw [allN_succ, List.length_append]; omega
theorem bel_grown {B : Nat} {w0 w w' : World} {v : Value} (h : Below B w0 w) (hg : w.grownBy w' v.ownBlock) (hv : ∀ k, v.ownBlock = some k → B ≤ k) (hs : B ≤ w.heap.size) : Below B w0 w' :=
  h.trans ⟨hg.os, hg.tape, hg.output, hg.size, fun k hk => hg.block k (by omega) (fun e => by have := hv k e.symm; omega)⟩
theorem shr_eq (mask k : Nat) (hm : mask < 4096) : (((mask : Int) / 2 ^ min k 64) == 0) = decide (mask / 2 ^ k = 0) := by
  have e0 : ((mask : Int) / 2 ^ min k 64) = ((mask / 2 ^ k : Nat) : Int) := by
    rcases Nat.lt_or_ge k 64 with h | h
    · rw [Nat.min_eq_left (by omega)]; simp
    · rw [Nat.min_eq_right h]
      have h1 : mask / 2 ^ k = 0 := Nat.div_eq_of_lt (Nat.lt_of_lt_of_le hm (Nat.le_trans (by decide : 4096 ≤ 2 ^ 12) (Nat.pow_le_pow_right (by omega) (by omega))))
      rw [h1]
      have h2 : (mask : Int) / 2 ^ 64 = 0 := by omega
      simpa using h2
  rw [e0]
  by_cases h : mask / 2 ^ k = 0
  · simp [h]
  · rw [decide_eq_false h, beq_eq_false_iff_ne]; omega
theorem AllI.inv {W : Nat} {ops : List Opr} {bs bm B nb mb mask lo z : Nat} {A : Option Addr} {c : Nat} (hB : B ≤ nb) (h1 : nb < z) (h2 : mb < z) (hm : bm < B) (hlo : lo ≤ nb) : Inv z lo (fun b => b = nb) (AllI W ops bs bm B nb mb mask A c) := by
  refine ⟨?_, fun b hb => by rw [hb]; exact h1, by omega⟩
  rintro k w1 w2 ⟨q1, q2, q3⟩ h3 h4
  obtain ⟨f, h5, h6⟩ := q1.mp
  have hl := q1.lt
  exact ⟨⟨(h3 bs (by omega)).trans q1.str, q1.sl.agr (fun b hb _ => h3 b (by have := hb.1; omega)), ⟨f, h5.agr_ (h3 bm (by omega)), h6⟩, q1.ne, q1.lt, Nat.le_trans q1.le h4⟩, (h3 nb h1).trans q2, (h3 mb h2).trans q3⟩

set_option maxRecDepth 100000 in
set_option maxHeartbeats 8000000 in
theorem all_n (hsort : SortOk) (ok : Nat → Prop) (v : DcV) (t : Dc) (W : Nat) (w : World) (hT : DcR ok w v t) (ho : t.Ok) (hs : t.size ≤ 400) (h1 : 1 ≤ W) (h2 : W ≤ 200) :
    Calls Tryd.prog 4 #[dcVal v, .int .i64 (W : Int)] w (AllP W t w) := by
  obtain ⟨a, s, b, D, n, d⟩ := v
  simp only [dcVal]
  have B0 := Blk.new w 29 #[.int .i64 (a : Int), .string s, .int .i64 (b : Int), .slice D n d]
  have hB := (Below.refl w.heap.size w).al (.cells #[.int .i64 (a : Int), .string s, .int .i64 (b : Int), .slice D n d] 29)
  have HT := Lib.hid (hT.via hB)
  have HB := Lib.hid hB
  clear hT hB
  have HSO := Lib.hid hsort
  clear hsort
  have cB0 := B0.cell
  have fB0 := B0.frozen
  have lB0 := B0.lt
  go_enter Tryd.func4, Tryd.ntmps4
  go_wp2_with fail
  clear cB0 fB0 lB0
  generalize w.alloc (.cells #[.int .i64 (a : Int), .string s, .int .i64 (b : Int), .slice D n d] 29) = W1 at *
  refine (start_c ok (a, s, b, D, n, d) t W W1 HT.out ho hs h1 h2).mono ?_
  rintro e W2 ⟨bs, bm, B, A, c, rfl, h3, h4, h5, hb⟩
  have HB2 := Lib.hid (HB.out.via hb)
  have HF := Lib.hid h3
  have Bs := h3.str
  replace h4 := Nat.le_trans HB.out.size h4
  replace h5 := Nat.le_trans HB.out.size h5
  have HOO := Lib.hid (Dc.opsOk ho hs)
  have HLL := Lib.hid (Nat.le_trans (Dc.ops_len 0 t 0) hs)
  have HGL := Lib.hid (grpN_le (t.ops 0 0))
  obtain ⟨ops, hops⟩ : ∃ ops, ops = t.ops 0 0 := ⟨_, rfl⟩
  rw [← hops] at HF HOO HLL HGL Bs
  have HOPS := Lib.hid hops
  have hz : w.heap.size ≤ W2.heap.size := HB2.out.size
  have hll : ops.length ≤ 400 := HLL.out
  clear hb h3 HB HT B0 hops
  clear W1
  have cBs := Bs.cell
  have fBs := Bs.frozen
  have lBs := Bs.lt
  go_wp2_with fail
  clear cBs fBs lBs
  go_loopw [29, 8] (fun s29 s8 wr => ∃ j : Nat, s29 = .int .i64 j ∧ j ≤ ops.length ∧ s8 = .int .i64 (grpN (ops.take j) : Int) ∧ Hid (Below W2.heap.size W2 wr)) (fun s29 _ _ => ops.length - (intOf s29).toNat)
  case atStart => exact ⟨0, rfl, Nat.zero_le _, rfl, Lib.hid (Below.refl _ _)⟩
  case round =>
    obtain ⟨j, rfl, hj, rfl, HBR⟩ := hrel
    by_cases hjl : j < ops.length
    · as_aux_lemma =>
      obtain ⟨b1, o1, r, o, rfl, hob, hb1, hy, hxy, hcc⟩ := (HF.out.via HBR.out).sl.at_ hjl
      obtain rfl : r = o := hxy
      have hgt := grpN_take hy
      have hgl := Nat.le_trans (grpN_le (ops.take j)) (List.length_take_le _ _)
      obtain ⟨ot, oi, og, oc, oe⟩ := r
      have c0 := hcc 0 _ rfl
      have c1 := hcc 1 _ rfl
      have c2 := hcc 2 _ rfl
      have c3 := hcc 3 _ rfl
      have c4 := hcc 4 _ rfl
      simp only [OpE, Nat.add_zero] at c0 c1 c2 c3 c4
      have i0 : (0 : Int) ≤ (j : Int) := by omega
      have i1 : (j : Int) < (ops.length : Int) := by omega
      have HBA := Lib.hid (HBR.out.via ((Below.refl wr.heap.size wr).al (.cells #[.string ot, .int .i64 oi, .bool og, .bool oc, .int .i64 (oe : Int)] 49)))
      simp only at hgt
      generalize grpN (ops.take j) = g at *
      have HG2 := Lib.hid hgt
      clear hcc hy hob hb1 hgt
      cases og
      case false =>
        have HG3 := Lib.hid (show grpN (ops.take (j + 1)) = g by have := HG2.out; simpa using this)
        go_wp2_with fail
        exact ⟨⟨j + 1, by go_num, by omega, by rw [HG3.out], HBA⟩, by simp [intOf]; omega⟩
      case true =>
        have HG3 := Lib.hid (show grpN (ops.take (j + 1)) = g + 1 by have := HG2.out; simpa using this)
        go_wp2_with fail
        exact ⟨⟨j + 1, by go_num, by omega, by rw [HG3.out]; go_num, HBA⟩, by simp [intOf]; omega⟩
    · as_aux_lemma =>
      have HJ := Lib.hid (show grpN (ops.take j) = grpN ops by rw [List.take_of_length_le (by omega)])
      have hgl := HGL.out
      obtain ⟨g, hg⟩ : ∃ g, g = grpN ops := ⟨_, rfl⟩
      rw [← hg] at HJ hgl
      rw [HJ.out]
      have HG := Lib.hid hg
      clear hg HGL HJ
      by_cases hg12 : 12 < g
      · have hgd : decide ((g : Int) > 12) = true := by simp; omega
        go_wp2_with fail
        go_ret2
        show (if _ then _ else _)
        rw [← HOPS.out, ← HG.out, if_pos hg12]
        exact ⟨rfl, HB2.out.via HBR.out⟩
      · have hgd : decide ((g : Int) > 12) = false := by simp; omega
        obtain ⟨N, hN⟩ : ∃ N : Nat, N = 2 ^ g := ⟨_, rfl⟩
        have hN2 : N ≤ 4096 := by rw [hN]; exact Nat.le_trans (Nat.pow_le_pow_right (by omega) (by omega : g ≤ 12)) (by decide)
        have hNc : ((2 : Int) ^ g) = (N : Int) := by rw [hN]; simp
        have wN : wrap64 ((2 : Int) ^ g) = (N : Int) := by rw [hNc]; unfold wrap64; omega
        have HN := Lib.hid hN
        have hb0 : W2.heap.size ≤ wr.heap.size := HBR.out.size
        have HFR := Lib.hid (HF.out.via HBR.out)
        have HNC := Lib.hid hNc
        clear hN hNc hgl
        go_wp2_with fail
        rw [wN]
        clear wN hgd
        generalize hwo : wr = wo at *
        clear hwo
        go_loopw [42, 11] (fun s42 s11 wx => ∃ (m q co : Nat) (Aq : Option Addr), s42 = .int .i64 m ∧ m ≤ N ∧ s11 = .slice Aq q co ∧ q ≤ m ∧ Hid (Own LzE 34 (fun _ => True) wx wo.heap.size (.slice Aq q co) q (allN W ops m)) ∧ Hid (Below wo.heap.size wo wx)) (fun s42 _ _ => N - (intOf s42).toNat)
        case atStart => exact ⟨0, 0, 0, none, rfl, Nat.zero_le _, rfl, Nat.le_refl _, Lib.hid (Own.nil _ _), Lib.hid (Below.refl _ _)⟩
        case round =>
          as_aux_lemma =>
          obtain ⟨m, q, co, Aq, rfl, hm, rfl, hq, HOW, HBX⟩ := hrel
          by_cases hmN : m < N
          · have hb1 := ((Below.refl wr.heap.size wr).al (.cells #[.int .i64 (m : Int)] 3)).al (.cells #[.int .i64 0] 3)
            have B1 := (Blk.new wr 3 #[.int .i64 (m : Int)]).al (.cells #[.int .i64 0] 3)
            have B2 := Blk.new1 wr (.cells #[.int .i64 (m : Int)] 3) 3 #[.int .i64 0]
            have hz1 : ((wr.alloc (.cells #[.int .i64 (m : Int)] 3)).alloc (.cells #[.int .i64 0] 3)).heap.size = wr.heap.size + 2 := by simp
            have HFX := Lib.hid ((HFR.out.via HBX.out).via hb1)
            have HOW2 := Lib.hid (HOW.out.via hb1)
            have hbl := HF.out.le
            have hbm := HF.out.lt
            have hsx := HBX.out.size
            go_wp2_with fail
            generalize (wr.alloc (.cells #[.int .i64 (m : Int)] 3)).alloc (.cells #[.int .i64 0] 3) = W3 at *
            refine (set_n 13 (enters_c rfl rfl rfl) #[.pointer (some ⟨wr.heap.size + 1, 0, none⟩), .pointer (some ⟨wr.heap.size, 0, none⟩)] W (by omega) (maskP m) ops HOO.out hll bs (.map (some bm)) A c wr.heap.size (fun b => b = wr.heap.size + 1) (AllI W ops bs bm B (wr.heap.size + 1) wr.heap.size m A c) W3 (AllI.inv (by omega) (by omega) (by omega) hbm.2 (by omega)) ?_ ?_ ⟨HFX.out, B2, B1⟩).mono ?_
            · rintro k w' ⟨q1, q2, q3⟩
              exact ⟨q1.str, q1.sl.mono fun b _ q => by have := q.1; omega⟩
            · intro k i col w' o q1 q2 q3 q4 q5 q6 q7
              exact all1_c W ops bs bm B (wr.heap.size + 1) wr.heap.size m wr.heap.size (by omega) (by omega) (by omega) (by omega) A c k i col w' (by have := (List.getElem?_eq_some_iff.1 q4).1; omega) q1
            rintro e W4 ⟨A4, n4, c4, rfl, q1, ⟨-, q2, q3⟩, -, q4, q5⟩
            have hlen := (setF_len (W := W) (p := maskP m) HOO.out ops.length 0 0 0 (by omega)).1
            obtain ⟨L, hL⟩ : ∃ L, L = layM W ops m := ⟨_, rfl⟩
            have hL2 : setF W (maskP m) ops 0 0 0 = L := hL.symm
            rw [hL2] at q1 q2 hlen
            rw [hL2]
            have HL := Lib.hid hL
            clear hL hL2
            have hsh := shr_eq m L.k (by omega)
            have HOK := Lib.hid (show okM W ops m = decide (m / 2 ^ L.k = 0) by rw [okM, ← HL.out])
            obtain ⟨ex, ln, xs, tx, k⟩ := L
            dsimp only at q1 q2 hlen hsh HOK ⊢
            have hbe := (Below.refl W4.heap.size W4).al (.cells #[.int .i64 (ex : Int), .int .i64 (ln : Int), .slice A4 n4 c4, .string ⟨tx.toArray⟩] 34)
            have hz4 : wr.heap.size + 2 ≤ W4.heap.size := by have := q4.size; omega
            have HX4 := Lib.hid ((hb1.trans q4))
            have HQ1 := Lib.hid q1
            have hwo : wo.heap.size ≤ wr.heap.size := hsx
            have hz3 : wr.heap.size ≤ W3.heap.size := by omega
            clear hb1 B1 B2 hz1 HFX HOW2 q4 q5 q1
            by_cases hd : m / 2 ^ k = 0
            · have hd2 : (((m : Int) / 2 ^ min k 64) == 0) = true := by rw [hsh]; simpa using hd
              have HAL := Lib.hid (show allN W ops (m + 1) = allN W ops m ++ [⟨ex, ln, xs, ⟨tx.toArray⟩⟩] by
                rw [allN_succ, HOK.out, decide_eq_true hd, ← HL.out]; rfl)
              have hbf := (hbe.al (.cells #[.int .i64 (ex : Int), .int .i64 (ln : Int), .slice A4 n4 c4, .string ⟨tx.toArray⟩] 34))
              have B6 := Blk.new1 W4 (.cells #[.int .i64 (ex : Int), .int .i64 (ln : Int), .slice A4 n4 c4, .string ⟨tx.toArray⟩] 34) 34 #[.int .i64 (ex : Int), .int .i64 (ln : Int), .slice A4 n4 c4, .string ⟨tx.toArray⟩]
              have HX6 := Lib.hid (HX4.out.trans (hbf.mono (by omega : wr.heap.size ≤ W4.heap.size)))
              have HOW6 := Lib.hid (HOW.out.via HX6.out)
              have hlt := HOW.out.lt
              have hlt2 := HQ1.out.lt
              have HREL := Lib.hid (show LzE.rel (fun b => (fun _ => True) b ∧ some b ≠ (Value.slice Aq q co).ownBlock) ((W4.alloc (.cells #[.int .i64 (ex : Int), .int .i64 (ln : Int), .slice A4 n4 c4, .string ⟨tx.toArray⟩] 34)).alloc (.cells #[.int .i64 (ex : Int), .int .i64 (ln : Int), .slice A4 n4 c4, .string ⟨tx.toArray⟩] 34)) (ex, ln, (A4, n4, c4), ⟨tx.toArray⟩) ⟨ex, ln, xs, ⟨tx.toArray⟩⟩ from
                ⟨rfl, rfl, rfl, (HQ1.out.toInts.via hbf).sl fun b off e _ => ⟨trivial, fun e2 => by
                  have k1 := hlt b e2.symm
                  have k2 := hlt2 b (by rw [e]; rfl)
                  omega⟩⟩)
              have hz6 : wo.heap.size ≤ ((W4.alloc (.cells #[.int .i64 (ex : Int), .int .i64 (ln : Int), .slice A4 n4 c4, .string ⟨tx.toArray⟩] 34)).alloc (.cells #[.int .i64 (ex : Int), .int .i64 (ln : Int), .slice A4 n4 c4, .string ⟨tx.toArray⟩] 34)).heap.size := by simp; omega
              have HLT := Lib.hid hlt
              clear hd hsh hlt hlt2 hbe hbf
              have cq2 := q2.cell
              have fq2 := q2.frozen
              have lq2 := q2.lt
              have cq3 := q3.cell
              have fq3 := q3.frozen
              have lq3 := q3.lt
              go_wp2_with (at_builtin; refine wpList_append_lz _ rfl (.tmp 52) (.tmp 54) rfl (fun _ => True) wo.heap.size (.slice Aq q co) q (allN W ops m) rfl HOW6.out (W4.heap.size + 1) (ex, ln, (A4, n4, c4), ⟨tx.toArray⟩) ⟨ex, ln, xs, ⟨tx.toArray⟩⟩ rfl (fun j u hu => by rw [B6.cell]; simpa [LzE] using hu) HREL.out (by omega) hz6 ?_; intro A7 c7 w7 ho7 hg7 hn7)
              exact ⟨⟨m + 1, q + 1, c7, A7, by go_num, by omega, rfl, by omega, Lib.hid (by rw [HAL.out]; exact ho7), Lib.hid (bel_grown ((HBX.out.trans (HX6.out.mono hwo))) hg7 (fun k e => (HLT.out k e).1) hz6)⟩, by simp [intOf]; omega⟩
            · have hd2 : (((m : Int) / 2 ^ min k 64) == 0) = false := by rw [hsh]; simpa using hd
              have HAL := Lib.hid (show allN W ops (m + 1) = allN W ops m by
                rw [allN_succ, HOK.out, decide_eq_false hd]; simp)
              have HX6 := Lib.hid (HX4.out.trans (hbe.mono (by omega : wr.heap.size ≤ W4.heap.size)))
              have HOW6 := Lib.hid (HOW.out.via HX6.out)
              clear hd hsh hbe
              have cq2 := q2.cell
              have fq2 := q2.frozen
              have lq2 := q2.lt
              have cq3 := q3.cell
              have fq3 := q3.frozen
              have lq3 := q3.lt
              go_wp2_with fail
              exact ⟨⟨m + 1, q, co, Aq, by go_num, by omega, rfl, by omega, Lib.hid (by rw [HAL.out]; exact HOW6.out), Lib.hid (HBX.out.trans (HX6.out.mono hwo))⟩, by simp [intOf]; omega⟩
          · have HM := Lib.hid (show m = N by omega)
            have hzz := HBX.out.size
            have hown := HOW.out
            rw [HM.out] at hown
            have HO := Lib.hid hown
            clear hown HOW
            go_wp2_with fail
            refine (HSO.out wr wo.heap.size q Aq co (allN W ops N) hzz ?_ (by omega) ?_ HO.out).mono ?_
            · have q1 := HO.out.len
              obtain ⟨N', hN'⟩ : ∃ N', N = N' + 1 := ⟨N - 1, by
                have hN1 := HN.out
                have hN3 : 0 < 2 ^ g := Nat.pow_pos (by omega)
                omega⟩
              have q2 := allN_pos W ops N'
              rw [← hN'] at q2
              omega
            · intro x hx
              obtain ⟨m', -, rfl⟩ := List.mem_map.1 hx
              exact Nat.le_trans (setF_len HOO.out ops.length 0 0 0 (by omega)).1 hll
            rintro e W9 ⟨rfl, ys, hp, hso, hoy, hby⟩
            have HP := Lib.hid hp
            have HS := Lib.hid hso
            have HY := Lib.hid (hoy.toSl (ok' := fun _ => True) (fun _ _ _ => trivial) (fun _ _ => trivial))
            have HBY := Lib.hid (HB2.out.via (HBR.out.via (HBX.out.trans hby)))
            clear hp hso hoy hby
            go_wp2_with fail
            go_ret2
            show (if _ then _ else _)
            rw [← HOPS.out, ← HG.out, if_neg hg12]
            exact ⟨Aq, q, co, ys, rfl, by rw [← HN.out]; exact HP.out, HS.out, HY.out, HBY.out⟩
end Go.Proofs.YtbhenicldddlfaaDoor

