/- Texts DO, laid together. -/
import Derived.Test.YtbhenicldddlfaaDoorD9


namespace Go.Proofs.YtbhenicldddlfaaDoor
open Go.RowKit

def StartP (W : Nat) (t : Dc) (w : World) (e : Ending) (w' : World) : Prop :=
  ∃ bs bm B A c, e = .returned (.tuple #[.pointer (some ⟨bs, 0, none⟩), .int .i64 0]) ∧ FS W (t.ops 0 0) bs bm B A c w' ∧ w.heap.size ≤ bm ∧ w.heap.size ≤ bs ∧ Below w.heap.size w w'
set_option maxRecDepth 100000 in
set_option maxHeartbeats 4000000 in
theorem start_c (ok : Nat → Prop) (v : DcV) (t : Dc) (W : Nat) (w : World) (hT : DcR ok w v t) (ho : t.Ok) (hs : t.size ≤ 400) (h1 : 1 ≤ W) (h2 : W ≤ 200) :
    Calls Tryd.prog 11 #[dcVal v, .int .i64 (W : Int)] w (StartP W t w) := by
  obtain ⟨a, s, b, D, n, d⟩ := v
  simp only [dcVal]
  have B0 := Blk.new w 29 #[.int .i64 (a : Int), .string s, .int .i64 (b : Int), .slice D n d]
  have hB := (Below.refl w.heap.size w).al (.cells #[.int .i64 (a : Int), .string s, .int .i64 (b : Int), .slice D n d] 29)
  have HT := Lib.hid (hT.via hB)
  have HB := Lib.hid hB
  have k1 : decide ((W : Int) < 1) = false := by simp; omega
  have k2 : decide ((W : Int) > 200) = false := by simp; omega
  clear hT hB
  have cB0 := B0.cell
  have fB0 := B0.frozen
  have lB0 := B0.lt
  go_enter Tryd.func11, Tryd.ntmps11
  go_wp2_with fail
  clear cB0 fB0 lB0
  generalize w.alloc (.cells #[.int .i64 (a : Int), .string s, .int .i64 (b : Int), .slice D n d] 29) = W1 at *
  refine (dcheck_c ok (a, s, b, D, n, d) t W1 HT.out ho hs).mono ?_
  rintro e W2 ⟨rfl, hb⟩
  replace B0 := B0.via hb
  have HT2 := Lib.hid ((HT.out.via hb).mono (ok' := fun b => b < W2.heap.size) fun b h _ => h)
  replace HB := Lib.hid (HB.out.via hb)
  clear hb HT
  clear W1
  have cB0 := B0.cell
  have fB0 := B0.frozen
  have lB0 := B0.lt
  go_wp2_with fail
  clear cB0 fB0 lB0
  clear k1 k2
  refine (list_n W2.heap.size 400 (a, s, b, D, n, d) t W2 0 0 none 0 [] HT2.out ho hs (by omega) (by omega) (Own.nil _ _) (by omega) (Nat.le_refl _)).mono ?_
  rintro e W3 ⟨A, c, rfl, h3, h4⟩
  have h5 : 0 + (t.ops 0 0).length = (t.ops 0 0).length := Nat.zero_add _
  simp only [h5, List.nil_append] at h3 h4
  have hl := Dc.ops_len 0 t 0
  obtain ⟨ops, hops⟩ : ∃ ops, ops = t.ops 0 0 := ⟨_, rfl⟩
  rw [← hops] at h3 h4 hl
  rw [h5, ← hops]
  have HOPS := Lib.hid hops
  have HS := Lib.hid ((h3.toSl (ok' := fun _ => True) (fun _ _ _ => trivial) (fun _ _ => trivial)).mono (ok' := fun b => b < W3.heap.size) fun b h _ => h)
  have HB3 := Lib.hid (HB.out.via h4.bel)
  have hz := h4.bel.size
  have hz2 := HB.out.size
  clear h3 h4 h5 hops HB HT2 B0
  have hmk : (Instr.makeMap 45 none).run Tryd.prog W3 = .ok (.map (some W3.heap.size)) (W3.alloc (.map #[] 0)) := rfl
  have hMK := Lib.hid (MapK.made W3 Tryd.prog 52 kk)
  obtain ⟨q, hq⟩ : ∃ q, q = ops.length := ⟨_, rfl⟩
  rw [← hq]
  rw [← hq] at HS
  have HQ := Lib.hid hq
  clear hq hl
  have hb4 := ((Below.refl W3.heap.size W3).al (.map #[] 0)).al (.cells #[.slice A q c, .int .i64 (W : Int), .map (some W3.heap.size)] 47)
  have B5 := Blk.new (W3.alloc (.map #[] 0)) 47 #[.slice A q c, .int .i64 (W : Int), .map (some W3.heap.size)]
  have h6 := hMK.out.al (.cells #[.slice A q c, .int .i64 (W : Int), .map (some W3.heap.size)] 47)
  have hz6 : ((W3.alloc (.map #[] 0)).alloc (.cells #[.slice A q c, .int .i64 (W : Int), .map (some W3.heap.size)] 47)).heap.size = W3.heap.size + 2 := by simp
  have H4 := Lib.hid hb4
  have H5 := Lib.hid B5
  have H6 := Lib.hid h6
  have H7 := Lib.hid hz6
  clear hb4 B5 h6 hz6
  go_wp2_with fail
  go_ret2
  refine ⟨W3.heap.size + 1, W3.heap.size, W3.heap.size + 2, A, c, rfl, ⟨?_, ?_, ⟨_, H6.out, fun x v h => by cases h⟩, by omega, by omega, by rw [H7.out]; exact Nat.le_refl _⟩, by omega, by omega, HB3.out.via H4.out⟩
  · rw [← HOPS.out, ← HQ.out]
    have h := H5.out
    rw [World.size_alloc] at h
    exact h
  · rw [← HOPS.out, ← HQ.out]
    exact (HS.out.mono (ok' := fun b => b < W3.heap.size + 2 ∧ b ≠ W3.heap.size) fun b h1 h2 => ⟨by omega, by omega⟩).via H4.out

/-! ### Best -/
def BestI (W : Nat) (ops : List Opr) (bs bm B sb : Nat) (A : Option Addr) (c : Nat) (_ : Nat) (w : World) : Prop := FS W ops bs bm B A c w ∧ Blk w sb 41 #[.pointer (some ⟨bs, 0, none⟩)]
theorem BestI.inv {W : Nat} {ops : List Opr} {bs bm B sb lo z : Nat} {A : Option Addr} {c : Nat} (hB : B ≤ z) (hs : sb < z) (hm : bm < B) (hlo : lo ≤ bm) : Inv z lo (fun b => b = bm) (BestI W ops bs bm B sb A c) := by
  refine ⟨?_, fun b hb => by rw [hb]; omega, by omega⟩
  rintro k w1 w2 ⟨h1, h2⟩ h3 h4
  obtain ⟨f, h5, h6⟩ := h1.mp
  have hl := h1.lt
  refine ⟨⟨(h3 bs (by omega)).trans h1.str, h1.sl.agr (fun b hb _ => h3 b (by have := hb.1; omega)), ⟨f, h5.agr_ (h3 bm (by omega)), h6⟩, h1.ne, h1.lt, Nat.le_trans h1.le h4⟩, (h3 sb hs).trans h2⟩
set_option maxRecDepth 100000 in
set_option maxHeartbeats 4000000 in
theorem best1_c (W : Nat) (hW : W ≤ 1000) (ops : List Opr) (ho : OpsOk ops) (hl : ops.length ≤ 400) (bs bm B sb lo : Nat) (hlo : lo ≤ bm) (hsb : sb ≠ bm) (A : Option Addr) (c : Nat) (k i col : Nat) (w : World) (hI : BestI W ops bs bm B sb A c k w) (hi : i ≤ ops.length) (hc : col ≤ 24000 * (i + 1)) :
    Calls Tryd.prog 23 #[.agg #[.int .i64 (i : Int), .int .i64 (col : Int)], .pointer (some ⟨sb, 0, none⟩)] w (VisS lo (fun b => b = bm) (BestI W ops bs bm B sb A c) (bestP W ops k i col) k w) := by
  obtain ⟨hF, hS⟩ := hI
  have hB := (Below.refl w.heap.size w).al (.cells #[.int .i64 (i : Int), .int .i64 (col : Int)] 52)
  have B1 := hS.via hB
  have HF := Lib.hid (hF.via hB)
  have HB := Lib.hid hB
  have B2 := Blk.new w 52 #[.int .i64 (i : Int), .int .i64 (col : Int)]
  have hBl := hF.le
  have hlt := hF.lt
  clear hF hS hB
  have cB1 := B1.cell
  have fB1 := B1.frozen
  have lB1 := B1.lt
  have cB2 := B2.cell
  have fB2 := B2.frozen
  have lB2 := B2.lt
  go_enter Tryd.func23, Tryd.ntmps23
  go_wp2_with fail
  clear cB1 fB1 lB1 cB2 fB2 lB2
  refine (find_n W hW ops ho hl bs bm B lo hlo A c (ops.length + 1) i col _ (by omega) hi hc HF.out).mono ?_
  rintro e w1 ⟨rfl, h1, h2, h3, h4⟩
  have HF1 := Lib.hid h1
  have B3 := Lib.hid (B1.agr h2 (show sb ≠ bm from hsb))
  have HA := Lib.hid ((Agr.below HB.out).trans h2)
  have hz : w.heap.size ≤ w1.heap.size := Nat.le_trans HB.out.size h3
  have HL := Lib.hid ((HB.out.mono (by omega)).trans h4)
  clear h1 h2 h3 h4 B1 B2
  obtain ⟨v1, hv1⟩ : ∃ v1, v1 = findV W ops i col := ⟨_, rfl⟩
  have HV := Lib.hid (show v1.fl = bestP W ops k i col by rw [hv1]; rfl)
  rw [← hv1]
  clear hv1
  obtain ⟨ex, ln, fl⟩ := v1
  simp only at HV
  dsimp only [vlVal]
  have hfld : (Instr.field 66 (.agg #[.int .i64 (ex : Int), .int .i64 (ln : Int), .bool fl]) 2).run Tryd.prog w1 = .ok (.bool fl) w1 := by kernel_rfl
  go_wp2_with fail
  go_ret
  exact ⟨by rw [← HV.out]; rfl, ⟨HF1.out, B3.out⟩, HA.out, hz, HL.out⟩

def LyV (L : Ly) (A : Option Addr) (n c : Nat) : Value := .agg #[.int .i64 (L.ex : Int), .int .i64 (L.ln : Int), .slice A n c, .string ⟨L.tx.toArray⟩]
def BestR (W : Nat) (t : Dc) : Ly := setF W (bestP W (t.ops 0 0)) (t.ops 0 0) 0 0 0
def BestP (W : Nat) (t : Dc) (w : World) (e : Ending) (w' : World) : Prop := ∃ A n c, e = .returned (.tuple #[LyV (BestR W t) A n c, .int .i64 0]) ∧ Below w.heap.size w w'
set_option maxRecDepth 100000 in
set_option maxHeartbeats 4000000 in
theorem Best_c (ok : Nat → Prop) (v : DcV) (t : Dc) (W : Nat) (w : World) (hT : DcR ok w v t) (ho : t.Ok) (hs : t.size ≤ 400) (h1 : 1 ≤ W) (h2 : W ≤ 200) :
    Calls Tryd.prog 10 #[dcVal v, .int .i64 (W : Int)] w (BestP W t w) := by
  obtain ⟨a, s, b, D, n, d⟩ := v
  simp only [dcVal]
  have B0 := (Blk.new w 29 #[.int .i64 (a : Int), .string s, .int .i64 (b : Int), .slice D n d]).al (.cells #[.int .i64 0, .int .i64 0, .slice none 0 0, .string ⟨#[]⟩] 34)
  have B1 := Blk.new1 w (.cells #[.int .i64 (a : Int), .string s, .int .i64 (b : Int), .slice D n d] 29) 34 #[.int .i64 0, .int .i64 0, .slice none 0 0, .string ⟨#[]⟩]
  have hB := ((Below.refl w.heap.size w).al (.cells #[.int .i64 (a : Int), .string s, .int .i64 (b : Int), .slice D n d] 29)).al (.cells #[.int .i64 0, .int .i64 0, .slice none 0 0, .string ⟨#[]⟩] 34)
  have HT := Lib.hid (hT.via hB)
  have HB := Lib.hid hB
  have hz : w.heap.size + 2 ≤ ((w.alloc (.cells #[.int .i64 (a : Int), .string s, .int .i64 (b : Int), .slice D n d] 29)).alloc (.cells #[.int .i64 0, .int .i64 0, .slice none 0 0, .string ⟨#[]⟩] 34)).heap.size := by simp
  clear hT hB
  have cB0 := B0.cell
  have fB0 := B0.frozen
  have lB0 := B0.lt
  go_enter Tryd.func10, Tryd.ntmps10
  go_wp2_with fail
  clear cB0 fB0 lB0
  generalize (w.alloc (.cells #[.int .i64 (a : Int), .string s, .int .i64 (b : Int), .slice D n d] 29)).alloc (.cells #[.int .i64 0, .int .i64 0, .slice none 0 0, .string ⟨#[]⟩] 34) = W1 at *
  refine (start_c ok (a, s, b, D, n, d) t W W1 HT.out ho hs h1 h2).mono ?_
  rintro e W2 ⟨bs, bm, B, A, c, rfl, h3, h4, h5, hb⟩
  have hz2 : w.heap.size + 2 ≤ W2.heap.size := Nat.le_trans hz hb.size
  replace B1 := (B1.via hb).al (.cells #[.pointer (some ⟨bs, 0, none⟩)] 41)
  have hb2 := (Below.refl W2.heap.size W2).al (.cells #[.pointer (some ⟨bs, 0, none⟩)] 41)
  have HF := Lib.hid (h3.via hb2)
  have B2 := Blk.new W2 41 #[.pointer (some ⟨bs, 0, none⟩)]
  have HB2 := Lib.hid ((HB.out.via hb).via hb2)
  have hbm := h3.lt
  have hBl := h3.le
  have hbm2 : w.heap.size + 2 ≤ bm := by omega
  have hz3 : W2.heap.size < (W2.alloc (.cells #[.pointer (some ⟨bs, 0, none⟩)] 41)).heap.size := by simp
  clear hb h3 hb2 HB HT B0
  have HOO := Lib.hid (Dc.opsOk ho hs)
  have HLL := Lib.hid (Nat.le_trans (Dc.ops_len 0 t 0) hs)
  have cB2 := B2.cell
  have fB2 := B2.frozen
  have lB2 := B2.lt
  go_wp2_with fail
  clear cB2 fB2 lB2
  generalize W2.alloc (.cells #[.pointer (some ⟨bs, 0, none⟩)] 41) = W3 at *
  generalize W2.heap.size = sb at *
  refine (set_n 23 (enters_c rfl rfl rfl) #[.pointer (some ⟨sb, 0, none⟩)] W (by omega) (bestP W (t.ops 0 0)) (t.ops 0 0) HOO.out HLL.out bs (.map (some bm)) A c (w.heap.size + 2) (fun b => b = bm) (BestI W (t.ops 0 0) bs bm B sb A c) W3 (BestI.inv (by omega) hz3 hbm.2 hbm2) ?_ ?_ ⟨HF.out, B2⟩).mono ?_
  · rintro k w' ⟨q1, q2⟩
    exact ⟨q1.str, q1.sl.mono fun b _ q => by have := q.1; omega⟩
  · intro k i col w' o q1 q2 q3 q4 q5 q6 q7
    exact best1_c W (by omega) _ HOO.out HLL.out bs bm B sb (w.heap.size + 2) hbm2 (by omega) A c k i col w' q1 (Nat.le_of_lt (List.getElem?_eq_some_iff.1 q4).1) q7
  rintro e W4 ⟨A4, n4, c4, rfl, -, -, q3, q4, q5⟩
  have B3 := B1.below q4 (by omega)
  have HL := Lib.hid (HB2.out.trans (q4.mono (by omega)))
  obtain ⟨L, hL⟩ : ∃ L, L = setF W (bestP W (t.ops 0 0)) (t.ops 0 0) 0 0 0 := ⟨_, rfl⟩
  have HLY := Lib.hid (show BestR W t = L from hL.symm)
  rw [← hL]
  clear hL q3 q4 q5 HF HB2 HOO HLL B1 B2
  obtain ⟨ex, ln, xs, tx, k⟩ := L
  dsimp only
  have cB3 := B3.cell
  have fB3 := B3.frozen
  have lB3 := B3.lt
  go_wp2_with fail
  refine bodyPost_ret (v := .tuple #[.agg #[.int .i64 (ex : Int), .int .i64 (ln : Int), .slice A4 n4 c4, .string ⟨tx.toArray⟩], .int .i64 0]) (by simp [results, Tryd.results10, go_sem, cB3]) rfl ⟨A4, n4, c4, by rw [HLY.out]; rfl, ?_⟩
  exact (((HL.out.setCell (by show w.heap.size ≤ w.heap.size + 1; omega) _).setCell (by show w.heap.size ≤ w.heap.size + 1; omega) _).setCell (by show w.heap.size ≤ w.heap.size + 1; omega) _).setCell (by show w.heap.size ≤ w.heap.size + 1; omega) _

end Go.Proofs.YtbhenicldddlfaaDoor

