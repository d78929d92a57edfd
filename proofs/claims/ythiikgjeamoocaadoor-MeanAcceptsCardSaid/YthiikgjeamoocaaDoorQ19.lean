/- Texts TM, TN, laid together. -/
import Derived.Test.YthiikgjeamoocaaDoorQ18


namespace Go.Proofs.YthiikgjeamoocaaDoor
open Go.RowKit

theorem wrapnil (t u : TypeId) (a : Addr) (s m : String) (w : World) : (Builtin.ssaWrapNilChk_ #[t] u #[.pointer (some a), strVal s, strVal m]).run Tryd.prog w = .ok (.pointer (some a)) w := rfl
theorem meth_val {w : World} {bl g n c : Nat} (hcl : w.cell? ⟨bl, 6, none⟩ = some (.slice (some ⟨g, 0, none⟩) n c)) (name : String) (f : FuncId) (h : (Tryd.prog.info? 117).map (fun i => (i.methods.find? (fun m => m.name == name)).map fun m => (m.path, m.func)) = some (some (#[], some (f, false)))) (F : Nat) : (method (F + 1) 117 (.pointer (some ⟨bl, 6, none⟩)) name).run Tryd.prog w = .ok (f, .slice (some ⟨g, 0, none⟩) n c) w := by
  obtain ⟨i, hi, hm⟩ := Option.map_eq_some_iff.1 h
  obtain ⟨m, hm1, hm2⟩ := Option.map_eq_some_iff.1 hm
  simp only [Prod.mk.injEq] at hm2
  have hu : Tryd.prog.underlying 117 = some (.pointer 104) := by kernel_rfl
  unfold method
  simp [go_sem, typeInfo, receiverAt, follow, hi, hm1, hm2.1, hm2.2, Place.get, wrapnil, hcl]
theorem meth_ptr {w : World} {bl : Nat} (name : String) (f : FuncId) (h : (Tryd.prog.info? 117).map (fun i => (i.methods.find? (fun m => m.name == name)).map fun m => (m.path, m.func)) = some (some (#[], some (f, true)))) (F : Nat) : (method (F + 1) 117 (.pointer (some ⟨bl, 6, none⟩)) name).run Tryd.prog w = .ok (f, .pointer (some ⟨bl, 6, none⟩)) w := by
  obtain ⟨i, hi, hm⟩ := Option.map_eq_some_iff.1 h
  obtain ⟨m, hm1, hm2⟩ := Option.map_eq_some_iff.1 hm
  simp only [Prod.mk.injEq] at hm2
  have hu : Tryd.prog.underlying 117 = some (.pointer 104) := by kernel_rfl
  unfold method
  simp [go_sem, typeInfo, receiverAt, follow, hi, hm1, hm2.1, hm2.2, Place.get]
theorem meth_less {w : World} {bl g n c : Nat} (hcl : w.cell? ⟨bl, 6, none⟩ = some (.slice (some ⟨g, 0, none⟩) n c)) (F : Nat) : (method (F + 1) 117 (.pointer (some ⟨bl, 6, none⟩)) "Less").run Tryd.prog w = .ok (112, .slice (some ⟨g, 0, none⟩) n c) w := meth_val hcl "Less" 112 (by kernel_rfl) F
theorem meth_pop {w : World} {bl : Nat}  (F : Nat) : (method (F + 1) 117 (.pointer (some ⟨bl, 6, none⟩)) "Pop").run Tryd.prog w = .ok (115, .pointer (some ⟨bl, 6, none⟩)) w := meth_ptr "Pop" 115 (by kernel_rfl) F
theorem meth_swap {w : World} {bl g n c : Nat} (hcl : w.cell? ⟨bl, 6, none⟩ = some (.slice (some ⟨g, 0, none⟩) n c)) (F : Nat) : (method (F + 1) 117 (.pointer (some ⟨bl, 6, none⟩)) "Swap").run Tryd.prog w = .ok (113, .slice (some ⟨g, 0, none⟩) n c) w := meth_val hcl "Swap" 113 (by kernel_rfl) F
theorem meth_len {w : World} {bl g n c : Nat} (hcl : w.cell? ⟨bl, 6, none⟩ = some (.slice (some ⟨g, 0, none⟩) n c)) (F : Nat) : (method (F + 1) 117 (.pointer (some ⟨bl, 6, none⟩)) "Len").run Tryd.prog w = .ok (111, .slice (some ⟨g, 0, none⟩) n c) w := meth_val hcl "Len" 111 (by kernel_rfl) F
theorem meth_push {w : World} {bl : Nat} (F : Nat) : (method (F + 1) 117 (.pointer (some ⟨bl, 6, none⟩)) "Push").run Tryd.prog w = .ok (116, .pointer (some ⟨bl, 6, none⟩)) w := meth_ptr "Push" 116 (by kernel_rfl) F
noncomputable def upQ (q : List QE) (j : Nat) : List QE := if h : j = 0 then q else if lessQ q j ((j - 1) / 2) = true then upQ (swapQ q ((j - 1) / 2) j) ((j - 1) / 2) else q
termination_by j
decreasing_by omega
theorem upQ_zero (q : List QE) : upQ q 0 = q := by rw [upQ]; simp
theorem upQ_step {q : List QE} {j : Nat} (h : j ≠ 0) : upQ q j = if lessQ q j ((j - 1) / 2) = true then upQ (swapQ q ((j - 1) / 2) j) ((j - 1) / 2) else q := by
  conv => lhs; rw [upQ]
  rw [dif_neg h]
theorem cellGrown {w w' : World} {row : Option Nat} {b i : Nat} {v : Value} (h : w.grownBy w' row) (hne : some b ≠ row) (hc : w.cell? ⟨b, i, none⟩ = some v) : w'.cell? ⟨b, i, none⟩ = some v :=
  (World.cell?_of_block (w := w) (a := ⟨b, i, none⟩) (h.block b (World.block_lt_of_cell? w _ hc) hne)).trans hc
/-- the queue's row, and the cell that holds it -/
structure QuM (base bl g c : Nat) (ok : Nat → Prop) (n : Nat) (q : List QE) (w : World) : Prop where
  own : Own QuE 114 ok w base (.slice (some ⟨g, 0, none⟩) n c) n q
  cell : w.cell? ⟨bl, 6, none⟩ = some (.slice (some ⟨g, 0, none⟩) n c)
  ne : bl ≠ g
  okq : QOk q
theorem QuM.via {base bl g c : Nat} {ok : Nat → Prop} {n : Nat} {q : List QE} {w w' : World} (h : QuM base bl g c ok n q w) (hb : Below w.heap.size w w') : QuM base bl g c ok n q w' :=
  ⟨h.own.via hb, (hb.cell (p := ⟨bl, 6, none⟩) (World.block_lt_of_cell? w _ h.cell)).trans h.cell, h.ne, h.okq⟩
theorem QuM.toSl {base bl g c : Nat} {ok : Nat → Prop} {n : Nat} {q : List QE} {w : World} (h : QuM base bl g c ok n q w) : Sl QuE (fun _ => True) w (some ⟨g, 0, none⟩) n c q := h.own.toSl (fun _ _ _ => trivial) (fun _ _ => trivial)
def UpP (base bl g c : Nat) (ok : Nat → Prop) (n : Nat) (q : List QE) (w : World) (e : Ending) (w' : World) : Prop := e = .returned (.tuple #[]) ∧ QuM base bl g c ok n q w' ∧ w.grownBy w' (some g)
set_option maxRecDepth 100000 in
set_option maxHeartbeats 4000000 in
theorem up_c (base bl g c : Nat) (ok : Nat → Prop) (n : Nat) (hn : n ≤ 17592186044416) (q : List QE) (j : Nat) (w : World) (h : QuM base bl g c ok n q w) (hj : j < n) :
    Calls Tryd.prog 85 #[.iface 117 (.pointer (some ⟨bl, 6, none⟩)), .int .i64 (j : Int)] w (UpP base bl g c ok n (upQ q j) w) := by
  have H := Lib.hid h
  have HJ := Lib.hid hj
  clear h hj
  go_enter Tryd.func85, Tryd.ntmps85
  go_wp2_with fail
  go_loopw [1] (fun jv wr => ∃ (k : Nat) (p : List QE), jv = .int .i64 (k : Int) ∧ k < n ∧ Hid (QuM base bl g c ok n p wr) ∧ Hid (w.grownBy wr (some g)) ∧ Hid (upQ p k = upQ q j)) (fun jv _ => (intOf jv).toNat)
  case atStart => exact ⟨j, q, rfl, HJ.out, H, Lib.hid (World.grownBy.refl _ _), Lib.hid rfl⟩
  case round =>
    obtain ⟨k, p, rfl, hk, HQ, HG, HE⟩ := hrel
    rcases k with _ | k
    · have e1 : ((0 : Nat) : Int) = 0 := rfl
      rw [e1]
      go_wp2_with fail
      refine bodyPost_end (v := .tuple #[]) (by simp [results, Tryd.results85, go_sem]) rfl ⟨rfl, ?_, HG.out⟩
      rw [← HE.out, upQ_zero]; exact HQ.out
    · have hcl := HQ.out.cell
      go_upto_region 1 with fail
      have hup := upQ_step (q := p) (j := k + 1) (by omega)
      rw [Nat.add_sub_cancel] at hup
      obtain ⟨m, hm⟩ : ∃ m, m = k / 2 := ⟨_, rfl⟩
      have hmi : (k : Int) / 2 = (m : Int) := by omega
      have hmk : m < k + 1 := by omega
      rw [hmi]
      rw [← hm] at hup
      have HUP := Lib.hid hup
      clear hm hmi hup
      have e1 : ((m : Int) == ((k + 1 : Nat) : Int)) = false := by simp; omega
      obtain ⟨k1, hk1⟩ : ∃ k1, k1 = k + 1 := ⟨_, rfl⟩
      rw [← hk1] at hk HE HUP hmk e1 ⊢
      have HK1 := Lib.hid hk1
      clear hk1
      have HL := Lib.hid (less_c (fun _ => True) (some ⟨g, 0, none⟩) n c k1 m p wr HQ.out.toSl HQ.out.okq hk (by omega))
      have hml := fun F => meth_less hcl F
      go_wp2_with fail
      refine HL.out.mono ?_
      clear HL hml hcl
      rintro e w2 ⟨rfl, hb2⟩
      have HQ2 := Lib.hid (HQ.out.via hb2)
      have HG2 := Lib.hid (HG.out.trans (grownOfT hb2 (some g)))
      clear hb2
      cases hv : lessQ p k1 m with
      | false =>
        have HUF := Lib.hid (show upQ p k1 = p from by rw [HUP.out, hv]; rfl)
        clear hv
        go_wp2_with fail
        refine bodyPost_end (v := .tuple #[]) (by simp [results, Tryd.results85, go_sem]) rfl ⟨rfl, ?_, HG2.out⟩
        rw [← HE.out, HUF.out]; exact HQ2.out
      | true =>
        have HUF := Lib.hid (show upQ p k1 = upQ (swapQ p m k1) m from by rw [HUP.out, hv]; rfl)
        clear hv
        have hcl := HQ2.out.cell
        have hms := fun F => meth_swap hcl F
        have HSW := Lib.hid (swap_c 114 ok base g n c m k1 p w2 HQ2.out.own (by omega) hk)
        go_wp2_with fail
        refine HSW.out.mono ?_
        clear HSW hms
        rintro e w3 ⟨rfl, ho3, hg3⟩
        have HQ3 : Hid (QuM base bl g c ok n (swapQ p m k1) w3) := Lib.hid ⟨ho3, (cellGrown hg3 (fun e => HQ2.out.ne (Option.some.inj e)) hcl), HQ2.out.ne, fun x hx => HQ2.out.okq x (swapQ_mem x hx)⟩
        have HG3 := Lib.hid (HG2.out.trans hg3)
        clear ho3 hg3 hcl
        go_wp2_with fail
        exact ⟨⟨m, swapQ p m k1, rfl, by omega, HQ3, HG3, Lib.hid (by rw [← HUF.out]; exact HE.out)⟩, by have := HK1.out; simp [intOf]; omega⟩
noncomputable def downQ (m : Nat) (q : List QE) (i : Nat) : List QE :=
  if h : m ≤ 2 * i + 1 then q else if lessQ q (if 2 * i + 2 < m ∧ lessQ q (2 * i + 2) (2 * i + 1) = true then 2 * i + 2 else 2 * i + 1) i = true then
    downQ m (swapQ q i (if 2 * i + 2 < m ∧ lessQ q (2 * i + 2) (2 * i + 1) = true then 2 * i + 2 else 2 * i + 1)) (if 2 * i + 2 < m ∧ lessQ q (2 * i + 2) (2 * i + 1) = true then 2 * i + 2 else 2 * i + 1) else q
termination_by m - i
decreasing_by split <;> omega
theorem downQ_end {m : Nat} {q : List QE} {i : Nat} (h : m ≤ 2 * i + 1) : downQ m q i = q := by rw [downQ, dif_pos h]
theorem downQ_step {m : Nat} {q : List QE} {i j : Nat} (h : ¬ m ≤ 2 * i + 1) (hj : j = if 2 * i + 2 < m ∧ lessQ q (2 * i + 2) (2 * i + 1) = true then 2 * i + 2 else 2 * i + 1) : downQ m q i = if lessQ q j i = true then downQ m (swapQ q i j) j else q := by
  conv => lhs; rw [downQ]
  rw [dif_neg h, ← hj]
def DnP (base bl g c : Nat) (ok : Nat → Prop) (n : Nat) (q : List QE) (w : World) (e : Ending) (w' : World) : Prop := ∃ b : Bool, e = .returned (.bool b) ∧ QuM base bl g c ok n q w' ∧ w.grownBy w' (some g)
set_option maxRecDepth 100000 in
set_option maxHeartbeats 8000000 in
theorem down_c (base bl g c : Nat) (ok : Nat → Prop) (n m : Nat) (hn : n ≤ 17592186044416) (hm : m ≤ n) (q : List QE) (i : Nat) (w : World) (h : QuM base bl g c ok n q w) (hi : i ≤ m) :
    Calls Tryd.prog 64 #[.iface 117 (.pointer (some ⟨bl, 6, none⟩)), .int .i64 (i : Int), .int .i64 (m : Int)] w (DnP base bl g c ok n (downQ m q i) w) := by
  have H := Lib.hid h
  have HI := Lib.hid hi
  clear h hi
  go_enter Tryd.func64, Tryd.ntmps64
  go_wp2_with fail
  go_loopw [7] (fun iv wr => ∃ (k : Nat) (p : List QE), iv = .int .i64 (k : Int) ∧ k ≤ m ∧ Hid (QuM base bl g c ok n p wr) ∧ Hid (w.grownBy wr (some g)) ∧ Hid (downQ m p k = downQ m q i)) (fun iv _ => m - (intOf iv).toNat)
  case atStart => exact ⟨i, q, rfl, HI.out, H, Lib.hid (World.grownBy.refl _ _), Lib.hid rfl⟩
  case round =>
    obtain ⟨k, p, rfl, hk, HQ, HG, HE⟩ := hrel
    have hw1 : IntKind.i64.wrap (2 * (k : Int)) = 2 * (k : Int) := IntWalk.i64_in _ (by omega)
    have hw2 : IntKind.i64.wrap (2 * (k : Int) + 1) = 2 * (k : Int) + 1 := IntWalk.i64_in _ (by omega)
    go_upto_region 3 with fail
    obtain ⟨l1, hl1⟩ : ∃ l, l = 2 * k + 1 := ⟨_, rfl⟩
    have hli : 2 * (k : Int) + 1 = (l1 : Int) := by omega
    rw [hli]
    have HL1 := Lib.hid hl1
    clear hw1 hw2 hli hl1
    by_cases hlm : m ≤ l1
    · have h1 : (m : Int) ≤ (l1 : Int) := by omega
      have HLM := Lib.hid hlm
      clear hlm
      go_wp2_with fail
      go_ret
      refine ⟨_, rfl, ?_, HG.out⟩
      rw [← HE.out, downQ_end (by have := HL1.out; have := HLM.out; omega)]; exact HQ.out
    · have h1 : ¬ (m : Int) ≤ (l1 : Int) := by omega
      have h2 : ¬ (l1 : Int) < 0 := by omega
      have hw3 : IntKind.i64.wrap ((l1 : Int) + 1) = (l1 : Int) + 1 := IntWalk.i64_in _ (by have := HL1.out; omega)
      have HLM := Lib.hid hlm
      clear hlm
      go_upto_region 6 with fail
      obtain ⟨l2, hl2⟩ : ∃ l, l = l1 + 1 := ⟨_, rfl⟩
      have hli : (l1 : Int) + 1 = (l2 : Int) := by omega
      rw [hli]
      have HL2 := Lib.hid hl2
      clear hw3 hli hl2 h1 h2
      by_cases hlm : l2 < m
      · have h1 : (l2 : Int) < (m : Int) := by omega
        have HLN := Lib.hid hlm
        have HLE := Lib.hid (less_c (fun _ => True) (some ⟨g, 0, none⟩) n c l2 l1 p wr HQ.out.toSl HQ.out.okq (by omega) (by have := HL2.out; omega))
        have hcl := HQ.out.cell
        have hml := fun F => meth_less hcl F
        clear hlm
        go_wp2_with fail
        refine HLE.out.mono ?_
        clear HLE hml hcl h1
        rintro e w2 ⟨rfl, hb2⟩
        have HQ2 := Lib.hid (HQ.out.via hb2)
        have HG2 := Lib.hid (HG.out.trans (grownOfT hb2 (some g)))
        clear hb2
        cases hv : lessQ p l2 l1 with
        | true =>
          have HJE := Lib.hid (show l2 = if 2 * k + 2 < m ∧ lessQ p (2 * k + 2) (2 * k + 1) = true then 2 * k + 2 else 2 * k + 1 from by
            have e1 := HL1.out
            have e2 := HL2.out
            rw [show 2 * k + 2 = l2 by omega, show 2 * k + 1 = l1 by omega, if_pos ⟨HLN.out, hv⟩])
          have HJM := Lib.hid (show l2 < m ∧ k < l2 from by have := HLN.out; have := HL1.out; have := HL2.out; omega)
          clear hv
          go_upto_region 8 with fail
          have HST := Lib.hid (downQ_step (m := m) (q := p) (i := k) (j := l2) (by have := HL1.out; have := HLM.out; omega) HJE.out)
          have HLX := Lib.hid (less_c (fun _ => True) (some ⟨g, 0, none⟩) n c l2 k p w2 HQ2.out.toSl HQ2.out.okq (by have := HJM.out; omega) (by have := HJM.out; omega))
          have hcl := HQ2.out.cell
          have hml := fun F => meth_less hcl F
          go_wp2_with fail
          refine HLX.out.mono ?_
          clear HLX hml hcl
          rintro e w4 ⟨rfl, hb4⟩
          have HQ4 := Lib.hid (HQ2.out.via hb4)
          have HG4 := Lib.hid (HG2.out.trans (grownOfT hb4 (some g)))
          clear hb4
          cases hv : lessQ p l2 k with
          | false =>
            have HUF := Lib.hid (show downQ m p k = p from by rw [HST.out, hv]; rfl)
            clear hv
            go_wp2_with fail
            go_ret
            refine ⟨_, rfl, ?_, HG4.out⟩
            rw [← HE.out, HUF.out]; exact HQ4.out
          | true =>
            have HUF := Lib.hid (show downQ m p k = downQ m (swapQ p k l2) l2 from by rw [HST.out, hv]; rfl)
            clear hv
            have hcl := HQ4.out.cell
            have hms := fun F => meth_swap hcl F
            have HSW := Lib.hid (swap_c 114 ok base g n c k l2 p w4 HQ4.out.own (by have := HJM.out; omega) (by have := HJM.out; omega))
            go_wp2_with fail
            refine HSW.out.mono ?_
            clear HSW hms
            rintro e w5 ⟨rfl, ho5, hg5⟩
            have HQ5 : Hid (QuM base bl g c ok n (swapQ p k l2) w5) := Lib.hid ⟨ho5, (cellGrown hg5 (fun e => HQ4.out.ne (Option.some.inj e)) hcl), HQ4.out.ne, fun x hx => HQ4.out.okq x (swapQ_mem x hx)⟩
            have HG5 := Lib.hid (HG4.out.trans hg5)
            clear ho5 hg5 hcl
            go_wp2_with fail
            have hjm := HJM.out
            exact ⟨⟨l2, swapQ p k l2, rfl, by omega, HQ5, HG5, Lib.hid (by rw [← HUF.out]; exact HE.out)⟩, by simp [intOf]; omega⟩
        | false =>
          have HJE := Lib.hid (show l1 = if 2 * k + 2 < m ∧ lessQ p (2 * k + 2) (2 * k + 1) = true then 2 * k + 2 else 2 * k + 1 from by
            have e1 := HL1.out
            have e2 := HL2.out
            rw [show 2 * k + 2 = l2 by omega, show 2 * k + 1 = l1 by omega, if_neg (by rw [hv]; simp)])
          have HJM := Lib.hid (show l1 < m ∧ k < l1 from by have := HLN.out; have := HL1.out; have := HL2.out; omega)
          clear hv
          go_upto_region 8 with fail
          have HST := Lib.hid (downQ_step (m := m) (q := p) (i := k) (j := l1) (by have := HL1.out; have := HLM.out; omega) HJE.out)
          have HLX := Lib.hid (less_c (fun _ => True) (some ⟨g, 0, none⟩) n c l1 k p w2 HQ2.out.toSl HQ2.out.okq (by have := HJM.out; omega) (by have := HJM.out; omega))
          have hcl := HQ2.out.cell
          have hml := fun F => meth_less hcl F
          go_wp2_with fail
          refine HLX.out.mono ?_
          clear HLX hml hcl
          rintro e w4 ⟨rfl, hb4⟩
          have HQ4 := Lib.hid (HQ2.out.via hb4)
          have HG4 := Lib.hid (HG2.out.trans (grownOfT hb4 (some g)))
          clear hb4
          cases hv : lessQ p l1 k with
          | false =>
            have HUF := Lib.hid (show downQ m p k = p from by rw [HST.out, hv]; rfl)
            clear hv
            go_wp2_with fail
            go_ret
            refine ⟨_, rfl, ?_, HG4.out⟩
            rw [← HE.out, HUF.out]; exact HQ4.out
          | true =>
            have HUF := Lib.hid (show downQ m p k = downQ m (swapQ p k l1) l1 from by rw [HST.out, hv]; rfl)
            clear hv
            have hcl := HQ4.out.cell
            have hms := fun F => meth_swap hcl F
            have HSW := Lib.hid (swap_c 114 ok base g n c k l1 p w4 HQ4.out.own (by have := HJM.out; omega) (by have := HJM.out; omega))
            go_wp2_with fail
            refine HSW.out.mono ?_
            clear HSW hms
            rintro e w5 ⟨rfl, ho5, hg5⟩
            have HQ5 : Hid (QuM base bl g c ok n (swapQ p k l1) w5) := Lib.hid ⟨ho5, (cellGrown hg5 (fun e => HQ4.out.ne (Option.some.inj e)) hcl), HQ4.out.ne, fun x hx => HQ4.out.okq x (swapQ_mem x hx)⟩
            have HG5 := Lib.hid (HG4.out.trans hg5)
            clear ho5 hg5 hcl
            go_wp2_with fail
            have hjm := HJM.out
            exact ⟨⟨l1, swapQ p k l1, rfl, by omega, HQ5, HG5, Lib.hid (by rw [← HUF.out]; exact HE.out)⟩, by simp [intOf]; omega⟩
      · have h1 : ¬ (l2 : Int) < (m : Int) := by omega
        have HJE := Lib.hid (show l1 = if 2 * k + 2 < m ∧ lessQ p (2 * k + 2) (2 * k + 1) = true then 2 * k + 2 else 2 * k + 1 from by
          have e1 := HL1.out
          have e2 := HL2.out
          rw [show 2 * k + 2 = l2 by omega, show 2 * k + 1 = l1 by omega, if_neg (fun h => hlm h.1)])
        have HJM := Lib.hid (show l1 < m ∧ k < l1 from by have := HLM.out; have := HL1.out; omega)
        clear hlm
        go_upto_region 8 with fail
        clear h1
        have HST := Lib.hid (downQ_step (m := m) (q := p) (i := k) (j := l1) (by have := HL1.out; have := HLM.out; omega) HJE.out)
        have HLX := Lib.hid (less_c (fun _ => True) (some ⟨g, 0, none⟩) n c l1 k p wr HQ.out.toSl HQ.out.okq (by have := HJM.out; omega) (by have := HJM.out; omega))
        have hcl := HQ.out.cell
        have hml := fun F => meth_less hcl F
        go_wp2_with fail
        refine HLX.out.mono ?_
        clear HLX hml hcl
        rintro e w4 ⟨rfl, hb4⟩
        have HQ4 := Lib.hid (HQ.out.via hb4)
        have HG4 := Lib.hid (HG.out.trans (grownOfT hb4 (some g)))
        clear hb4
        cases hv : lessQ p l1 k with
        | false =>
          have HUF := Lib.hid (show downQ m p k = p from by rw [HST.out, hv]; rfl)
          clear hv
          go_wp2_with fail
          go_ret
          refine ⟨_, rfl, ?_, HG4.out⟩
          rw [← HE.out, HUF.out]; exact HQ4.out
        | true =>
          have HUF := Lib.hid (show downQ m p k = downQ m (swapQ p k l1) l1 from by rw [HST.out, hv]; rfl)
          clear hv
          have hcl := HQ4.out.cell
          have hms := fun F => meth_swap hcl F
          have HSW := Lib.hid (swap_c 114 ok base g n c k l1 p w4 HQ4.out.own (by have := HJM.out; omega) (by have := HJM.out; omega))
          go_wp2_with fail
          refine HSW.out.mono ?_
          clear HSW hms
          rintro e w5 ⟨rfl, ho5, hg5⟩
          have HQ5 : Hid (QuM base bl g c ok n (swapQ p k l1) w5) := Lib.hid ⟨ho5, (cellGrown hg5 (fun e => HQ4.out.ne (Option.some.inj e)) hcl), HQ4.out.ne, fun x hx => HQ4.out.okq x (swapQ_mem x hx)⟩
          have HG5 := Lib.hid (HG4.out.trans hg5)
          clear ho5 hg5 hcl
          go_wp2_with fail
          have hjm := HJM.out
          exact ⟨⟨l1, swapQ p k l1, rfl, by omega, HQ5, HG5, Lib.hid (by rw [← HUF.out]; exact HE.out)⟩, by simp [intOf]; omega⟩
end Go.Proofs.YthiikgjeamoocaaDoor



namespace Go.Proofs.YthiikgjeamoocaaDoor
open Go.RowKit

theorem qe_info : (Tryd.prog.info? 114).map (fun i => (i.zero, i.size, i.bytes)) = some (some (.agg #[.int .i64 0, .int .i64 0, .int .i64 0, .int .i64 0, .int .i64 0, .int .i64 0, .pointer none]), 7, 56) := by kernel_rfl
theorem step_append_qe {ops : Array Oper} {o : Oper} {a : Act} {K : Act → World → Prop} {Q : Exit → Act → World → Prop} {F : Prop} (w : World) (hgd : o.guard = none) (s y : Operand)
    (ho : o.op = .call { callee := .builtin .append, args := #[s, y], argTypes := #[104, 104] })
    (ok : Nat → Prop) (base : Nat) (v : Value) (n : Nat) (l : List QE) (hv : a.eval s = v) (hown : Own QuE 114 ok w base v n l)
    (b : Nat) (r : (Cand × Nat)) (x : QE) (hy : a.eval y = .slice (some ⟨b, 0, none⟩) 1 1) (hcell : Blk w b 114 (QuE.cells r).toArray) (hrel : QuE.rel (fun b => ok b ∧ some b ≠ v.ownBlock) w r x)
    (h63 : n + 1 ≤ 2000000000000) (hbase : base ≤ w.heap.size)
    (h : ∀ A' c' w', Own QuE 114 ok w' base (.slice A' (n + 1) c') (n + 1) (l ++ [x]) → w.grownBy w' v.ownBlock → ((Value.slice A' (n + 1) c').ownBlock = v.ownBlock ∨ (Value.slice A' (n + 1) c').ownBlock = some w.heap.size) → K (a.put o.dst (.slice A' (n + 1) c')) w') :
    if Region.wanted o (yielded ops a.tmps) = true then Oper.wp Tryd.prog o a w K Q else F := by
  obtain ⟨i, hi, hz⟩ := Option.map_eq_some_iff.1 qe_info
  simp only [Prod.mk.injEq] at hz
  refine step_append_E (E := QuE) w hgd s y 104 114 ho i (.agg #[.int .i64 0, .int .i64 0, .int .i64 0, .int .i64 0, .int .i64 0, .int .i64 0, .pointer none]) 56 (by kernel_rfl) hi hz.1 hz.2.1 hz.2.2 rfl ok base v n l hv hown b r x hy (fun j u hu => ?_) hrel (by simp [maxLen]; omega) (by omega) hbase h
  rw [hcell.cell j, List.getElem?_toArray]; exact hu
/-- what a call leaves alone: all but the blocks of S -/
structure Frq (S : Nat → Prop) (w w' : World) : Prop where
  os : w'.os = w.os
  tape : w'.tape = w.tape
  output : w'.output = w.output
  size : w.heap.size ≤ w'.heap.size
  block : ∀ b, b < w.heap.size → ¬ S b → w'.heap[b]? = w.heap[b]?
section
variable {S : Nat → Prop} {w w' w'' : World}
theorem Frq.refl (w : World) : Frq S w w := ⟨rfl, rfl, rfl, Nat.le_refl _, fun _ _ _ => rfl⟩
theorem Frq.trans (h : Frq S w w') (k : Frq S w' w'') : Frq S w w'' :=
  ⟨k.os.trans h.os, k.tape.trans h.tape, k.output.trans h.output, Nat.le_trans h.size k.size, fun b hb hs => (k.block b (Nat.lt_of_lt_of_le hb h.size) hs).trans (h.block b hb hs)⟩
/-- new blocks may be in S as well -/
theorem Frq.trans2 {T : Nat → Prop} (h : Frq S w w') (k : Frq T w' w'') (hT : ∀ b, b < w.heap.size → T b → S b) : Frq S w w'' :=
  ⟨k.os.trans h.os, k.tape.trans h.tape, k.output.trans h.output, Nat.le_trans h.size k.size, fun b hb hs => (k.block b (Nat.lt_of_lt_of_le hb h.size) (fun ht => hs (hT b hb ht))).trans (h.block b hb hs)⟩
theorem Frq.bel (h : Below w.heap.size w w') : Frq S w w' := ⟨h.os, h.tape, h.output, h.size, fun b hb _ => h.block b hb⟩
theorem Frq.row {row : Option Nat} (h : w.grownBy w' row) (hr : ∀ b, row = some b → b < w.heap.size → S b) : Frq S w w' := ⟨h.os, h.tape, h.output, h.size, fun b hb hs => h.block b hb fun e => hs (hr b e.symm hb)⟩
theorem Frq.agr {ok : Nat → Prop} (h : Frq S w w') (hk : ∀ b, ok b → ¬ S b) : Agr ok w w' := fun b hb hlt => h.block b hlt (hk b hb)
theorem Frq.mono {T : Nat → Prop} (h : Frq S w w') (hT : ∀ b, b < w.heap.size → S b → T b) : Frq T w w' := ⟨h.os, h.tape, h.output, h.size, fun b hb hs => h.block b hb fun hx => hs (hT b hb hx)⟩
end
/-- the queue behind the lister's last cell -/
structure QuV (base bl : Nat) (x0 x1 x2 x3 x4 x5 : Value) (ok : Nat → Prop) (n : Nat) (q : List QE) (qv : Value) (w : World) : Prop where
  own : Own QuE 114 ok w base qv n q
  blk : Blk w bl 106 #[x0, x1, x2, x3, x4, x5, qv]
  ne : qv.ownBlock ≠ some bl
  okq : QOk q
theorem Own.addrT {α ρ : Type} {E : Elem α ρ} {e : TypeId} {ok : Nat → Prop} {w : World} {base n c : Nat} {A : Option Addr} {l : List α} (h : Own E e ok w base (.slice A n c) n l) (hn : 0 < n) : ∃ gb, A = some (⟨gb, 0, none⟩ : Addr) := by
  obtain ⟨-, raw, -, h3, -⟩ := h
  rcases h3.2 with ⟨h0, hn0⟩ | ⟨gb, cap, cur, hv, _⟩
  · omega
  · cases hv; exact ⟨gb, rfl⟩
def PuP (base bl : Nat) (x0 x1 x2 x3 x4 x5 : Value) (ok : Nat → Prop) (n : Nat) (q : List QE) (qv : Value) (w : World) (e : Ending) (w' : World) : Prop :=
  ∃ g c, e = .returned (.tuple #[]) ∧ QuV base bl x0 x1 x2 x3 x4 x5 ok n q (.slice (some ⟨g, 0, none⟩) n c) w' ∧ (some g = qv.ownBlock ∨ w.heap.size ≤ g) ∧ Frq (fun b => b = bl ∨ some b = qv.ownBlock) w w'
set_option maxRecDepth 100000 in
set_option maxHeartbeats 4000000 in
theorem qpush_c (base bl : Nat) (x0 x1 x2 x3 x4 x5 : Value) (ok : Nat → Prop) (n : Nat) (q : List QE) (qv : Value) (c : Cand) (t : CT) (p : Nat) (w : World) (h : QuV base bl x0 x1 x2 x3 x4 x5 ok n q qv w) (hn : n + 1 ≤ 1000000000000) (hb : base ≤ w.heap.size)
    (ht : PtR (fun b => ok b ∧ some b ≠ qv.ownBlock ∧ b ≠ bl) w p t) (hw : t.Wf) (hs : t.size ≤ 100000) (hok : ∀ b, ok b → b ≠ bl) :
    Calls Tryd.prog 116 #[.pointer (some ⟨bl, 6, none⟩), .iface 114 (cdVal c (ptA p))] w (PuP base bl x0 x1 x2 x3 x4 x5 ok (n + 1) (q ++ [(c, t)]) qv w) := by
  have H := Lib.hid h
  have HT := Lib.hid ht
  have HB := Lib.hid hb
  have HOK := Lib.hid hok
  have HQO := Lib.hid (show QOk (q ++ [(c, t)]) from fun x hx => by
    rcases List.mem_append.1 hx with hx | hx
    · exact h.okq x hx
    · rw [List.mem_singleton.1 hx]; exact ⟨hw, hs⟩)
  clear h ht hb hok hw hs
  have hta : ∀ (v : Value) (w : World), (Instr.typeAssert (.iface 114 v) 20 114 false).run Tryd.prog w = .ok v w := fun _ _ => by kernel_rfl
  simp only [cdVal]
  go_enter Tryd.func116, Tryd.ntmps116
  go_upto_region 0 with fail
  have hdr := (Below.refl w.heap.size w).drew
  have hown := Lib.hid (H.out.own.via hdr)
  have hblk := Lib.hid (H.out.blk.via hdr)
  have HT2 := Lib.hid (PtR.via HT.out hdr)
  have HSZ := Lib.hid hdr
  have hHeld := hblk.out.cell 6
  have hfz := hblk.out.frozen
  clear hdr
  refine wp_region_noPanic ?_
  refine wp_region_N 7 (fun w' => w'.cell? ⟨bl, 6, none⟩ = some qv) (by kernel_rfl) ?_
  generalize w.drew = w2 at *
  simp only [List.getElem?_toArray, List.getElem?_cons_succ, List.getElem?_cons_zero] at hHeld
  refine wpAnyN.free (i := 0) (d := some 4) (v := ?_) rfl (by decide) (by kernel_rfl) (by kernel_rfl) (by kernel_rfl) rfl (fun _ _ _ h => h) (Or.inl ⟨by rfl, ?_⟩) (fun _ => by assumption) ?_
  rotate_left
  · intro w hSw; go_simp; try with_reducible rfl
  simp only [Act.put, List.setIfInBounds_toArray, List.set_cons_zero, List.set_cons_succ]
  refine wpAnyN.free (i := 1) (d := some 5) (v := ?_) rfl (by decide) (by kernel_rfl) (by kernel_rfl) (by kernel_rfl) rfl (fun _ _ _ h => h) (Or.inl ⟨by rfl, ?_⟩) (fun _ => by assumption) ?_
  rotate_left
  · intro w hSw; go_simp; try with_reducible rfl
  simp only [Act.put, List.setIfInBounds_toArray, List.set_cons_zero, List.set_cons_succ]
  refine wpAnyN.free (i := 2) (d := some 6) (v := ?_) rfl (by decide) (by kernel_rfl) (by kernel_rfl) (by kernel_rfl) rfl (fun _ _ _ h => h) (Or.inl ⟨by rfl, ?_⟩) (fun _ => by assumption) ?_
  rotate_left
  · intro w hSw; go_simp; try with_reducible rfl
  simp only [Act.put, List.setIfInBounds_toArray, List.set_cons_zero, List.set_cons_succ]
  refine wpAnyN.take (i := 3) (d := some 7) (v := ?_) rfl (by decide) (by kernel_rfl) (by kernel_rfl) (by kernel_rfl) (by kernel_rfl) (by kernel_rfl) rfl (fun _ _ _ h => h) (Or.inl ⟨by rfl, ?_⟩) (by assumption) ?_
  rotate_left
  · intro w hSw; (try dsimp only at hSw); go_simp; try with_reducible rfl
  simp only [Act.put, List.setIfInBounds_toArray, List.set_cons_zero, List.set_cons_succ]
  refine wpAnyN.free (i := 4) (d := some 8) (v := ?_) rfl (by decide) (by kernel_rfl) (by kernel_rfl) (by kernel_rfl) rfl (fun _ _ _ h => h) (Or.inl ⟨by rfl, ?_⟩) (fun _ => by assumption) ?_
  rotate_left
  · intro w hSw; go_simp; try with_reducible rfl
  simp only [Act.put, List.setIfInBounds_toArray, List.set_cons_zero, List.set_cons_succ]
  refine wpAnyN.free (i := 5) (d := some 9) (v := ?_) rfl (by decide) (by kernel_rfl) (by kernel_rfl) (by kernel_rfl) rfl (fun _ _ _ h => h) (Or.inl ⟨by rfl, ?_⟩) (fun _ => by assumption) ?_
  rotate_left
  · intro w hSw; go_simp; try with_reducible rfl
  simp only [Act.put, List.setIfInBounds_toArray, List.set_cons_zero, List.set_cons_succ]
  refine wpAnyN.ready (rs := [6]) (by kernel_rfl) (by simp) ?_
  refine AllN.cons rfl (fun K hK => ?_) AllN.nil
  go_simp
  have hal := (Below.refl w2.heap.size w2).al (.cells #[.int .i64 (c.1 : Int), .int .i64 (c.2.1 : Int), .int .i64 (c.2.2.1 : Int), .int .i64 (c.2.2.2.1 : Int), .int .i64 (c.2.2.2.2.1 : Int), .int .i64 (c.2.2.2.2.2 : Int), .pointer (ptA p)] 114)
  have BN := Blk.new w2 114 #[.int .i64 (c.1 : Int), .int .i64 (c.2.1 : Int), .int .i64 (c.2.2.1 : Int), .int .i64 (c.2.2.2.1 : Int), .int .i64 (c.2.2.2.2.1 : Int), .int .i64 (c.2.2.2.2.2 : Int), .pointer (ptA p)]
  have HO3 := Lib.hid (hown.out.via hal)
  have HB3 := Lib.hid (hblk.out.via hal)
  have HT3 := Lib.hid (PtR.via HT2.out hal)
  have HSZ3 := Lib.hid (HSZ.out.via hal)
  have h6 := HB3.out.cell 6
  simp only [List.getElem?_toArray, List.getElem?_cons_succ, List.getElem?_cons_zero] at h6
  refine hK.out _ _ (fun _ => h6) ?_
  clear hK K hal hHeld hfz h6
  try dsimp only [Act.put]
  generalize w2.alloc (.cells #[.int .i64 (c.1 : Int), .int .i64 (c.2.1 : Int), .int .i64 (c.2.2.1 : Int), .int .i64 (c.2.2.2.1 : Int), .int .i64 (c.2.2.2.2.1 : Int), .int .i64 (c.2.2.2.2.2 : Int), .pointer (ptA p)] 114) = w3 at *
  generalize w2.heap.size = b3 at *
  refine wpAnyN.ready (rs := [7]) (by kernel_rfl) (by simp) ?_
  refine AllN.cons rfl (fun K hK => ?_) AllN.nil
  refine step_append_qe _ rfl (.tmp 7) (.tmp 10) rfl ok base qv n q rfl HO3.out b3 (c, p) (c, t) rfl BN ⟨rfl, PtR.mono HT3.out fun b _ hb => ⟨hb.1, hb.2.1⟩⟩ (by omega) (Nat.le_trans HB.out HSZ3.out.size) ?_
  intro A4 c4 w4 ho4 hg4 hat4
  refine hK.out _ _ (fun h => absurd h (by decide)) ?_
  clear hK K
  obtain ⟨g4, rfl⟩ := ho4.addrT (by omega)
  have hga : some g4 = qv.ownBlock ∨ g4 = w3.heap.size := by
    rcases hat4 with e | e
    · exact Or.inl e
    · exact Or.inr (Option.some.inj e)
  have hgb : g4 ≠ bl := by
    intro e
    rcases hga with h1 | h1
    · exact H.out.ne (by rw [← h1, e])
    · have := HB3.out.lt; omega
  have HGA := Lib.hid hga
  have HGB := Lib.hid hgb
  have B4 := HB3.out.grown hg4 (fun e => H.out.ne e.symm)
  have HB4 := Lib.hid B4
  have HO4 := Lib.hid ho4
  have HG4 := Lib.hid hg4
  clear ho4 hg4 hat4 hga hgb BN
  try simp only [Act.put, List.setIfInBounds_toArray]
  refine wpAnyN.ready (rs := [8]) (by kernel_rfl) (by simp) ?_
  refine AllN.cons rfl (fun K hK => ?_) AllN.nil
  go_simp
  refine hK.out _ _ (fun h => absurd h (by decide)) ?_
  clear hK K
  try simp only [Act.put, List.setIfInBounds_toArray, List.set_cons_zero, List.set_cons_succ]
  refine wpAnyN.ready (rs := [9]) (by kernel_rfl) (by simp) ?_
  refine AllN.cons rfl (fun K hK => ?_) AllN.nil
  have cB4 := B4.cell
  have fB4 := B4.frozen
  have lB4 := B4.lt
  go_simp
  refine hK.out _ _ (fun h => absurd h (by decide)) ?_
  clear hK K
  clear cB4 fB4 lB4
  refine wpAnyN.done (by kernel_rfl) ?_ _
  refine NoPanic.normal ?_
  go_wp2_with fail
  refine bodyPost_end (v := .tuple #[]) (by simp [results, Tryd.results116, go_sem]) rfl ⟨g4, c4, rfl, ⟨?_, ?_, ?_, HQO.out⟩, ?_, ?_⟩
  · refine HO4.out.agr (Agr.setCell (p := ⟨bl, 6, none⟩) _ fun b hb => ?_)
    rcases hb with hb | hb
    · exact HOK.out b hb
    · intro e
      have : b = g4 := by simpa [Value.ownBlock] using hb
      exact HGB.out (by rw [← this]; exact e)
  · have := B4.set_ 6 (.slice (some ⟨g4, 0, none⟩) (n + 1) c4)
    simpa using this
  · exact fun e => HGB.out (Option.some.inj e)
  · rcases HGA.out with h1 | h1
    · exact Or.inl h1
    · exact Or.inr (by have := HSZ3.out.size; omega)
  · refine ((Frq.bel HSZ3.out).trans2 (Frq.row (S := fun b => some b = qv.ownBlock) HG4.out (fun b e _ => e.symm)) (fun b _ h => Or.inr h)).trans2 (Frq.row (S := fun b => b = bl) (grownSetT w4 bl 6 _) (fun b e _ => (Option.some.inj e).symm)) (fun b _ h => Or.inl h)
theorem QuV.toM {base bl n g c : Nat} {x0 x1 x2 x3 x4 x5 : Value} {ok : Nat → Prop} {q : List QE} {w : World} (h : QuV base bl x0 x1 x2 x3 x4 x5 ok n q (.slice (some ⟨g, 0, none⟩) n c) w) : QuM base bl g c ok n q w :=
  ⟨h.own, by have := h.blk.cell 6; simpa using this, fun e => h.ne (by rw [e]; rfl), h.okq⟩
theorem QuM.toV {base bl n g c : Nat} {x0 x1 x2 x3 x4 x5 : Value} {ok : Nat → Prop} {q : List QE} {w : World} (h : QuM base bl g c ok n q w) (hb : Blk w bl 106 #[x0, x1, x2, x3, x4, x5, .slice (some ⟨g, 0, none⟩) n c]) : QuV base bl x0 x1 x2 x3 x4 x5 ok n q (.slice (some ⟨g, 0, none⟩) n c) w :=
  ⟨h.own, hb, fun e => h.ne (Option.some.inj e).symm, h.okq⟩
theorem qlen_c (A : Option Addr) (n c : Nat) (w : World) : Calls Tryd.prog 111 #[.slice A n c] w (fun e w' => e = .returned (.int .i64 (n : Int)) ∧ w = w') := by
  go_enter Tryd.func111, Tryd.ntmps111
  go_wp2_with fail
  go_ret
  exact ⟨rfl, rfl⟩
set_option maxRecDepth 100000 in
set_option maxHeartbeats 4000000 in
theorem push_c (base bl : Nat) (x0 x1 x2 x3 x4 x5 : Value) (ok : Nat → Prop) (n : Nat) (q : List QE) (qv : Value) (c : Cand) (t : CT) (p : Nat) (w : World) (h : QuV base bl x0 x1 x2 x3 x4 x5 ok n q qv w) (hn : n + 1 ≤ 1000000000000) (hb : base ≤ w.heap.size)
    (ht : PtR (fun b => ok b ∧ some b ≠ qv.ownBlock ∧ b ≠ bl) w p t) (hw : t.Wf) (hs : t.size ≤ 100000) (hok : ∀ b, ok b → b ≠ bl) :
    Calls Tryd.prog 72 #[.iface 117 (.pointer (some ⟨bl, 6, none⟩)), .iface 114 (cdVal c (ptA p))] w (PuP base bl x0 x1 x2 x3 x4 x5 ok (n + 1) (upQ (q ++ [(c, t)]) n) qv w) := by
  have HP := Lib.hid (qpush_c base bl x0 x1 x2 x3 x4 x5 ok n q qv c t p w h hn hb ht hw hs hok)
  have hmp : ∀ (F : Nat) (w : World), (method (F + 1) 117 (.pointer (some ⟨bl, 6, none⟩)) "Push").run Tryd.prog w = .ok (116, .pointer (some ⟨bl, 6, none⟩)) w := fun F w => meth_push F
  have hlt := h.blk.lt
  clear h hb ht hw hs hok
  go_enter Tryd.func72, Tryd.ntmps72
  go_wp2_with fail
  refine HP.out.mono ?_
  clear HP hmp
  rintro e w2 ⟨g, d, rfl, hV, hg, hF⟩
  have HV := Lib.hid hV
  have HG := Lib.hid hg
  have HF := Lib.hid hF
  have hcl := hV.toM.cell
  have hml := fun F => meth_len hcl F
  have hw1 : IntKind.i64.wrap (n : Int) = (n : Int) := IntWalk.i64_in _ (by omega)
  have HU := Lib.hid (up_c base bl g d ok (n + 1) (by omega) (q ++ [(c, t)]) n w2 hV.toM (by omega))
  clear hV hg hF
  go_wp2_with fail
  refine (qlen_c _ _ _ _).mono ?_
  rintro e w3 ⟨rfl, rfl⟩
  go_wp2_with fail
  refine HU.out.mono ?_
  rintro e w4 ⟨rfl, hM, hgr⟩
  have HM := Lib.hid hM
  have HGR := Lib.hid hgr
  clear HU hml hcl hM hgr
  go_wp2_with fail
  refine bodyPost_end (v := .tuple #[]) (by simp [results, Tryd.results72, go_sem]) rfl ⟨g, d, rfl, HM.out.toV (HV.out.blk.grown HGR.out (fun e => HM.out.ne (Option.some.inj e))), HG.out, ?_⟩
  refine HF.out.trans2 (Frq.row (S := fun b => b = g) HGR.out (fun b e _ => (Option.some.inj e).symm)) fun b hb e => ?_
  rcases HG.out with h1 | h1
  · exact Or.inr (by rw [e, h1])
  · omega
def PoP (base bl : Nat) (x0 x1 x2 x3 x4 x5 : Value) (ok : Nat → Prop) (n g d : Nat) (q : List QE) (x : QE) (w : World) (e : Ending) (w' : World) : Prop :=
  ∃ p, e = .returned (.iface 114 (cdVal x.1 (ptA p))) ∧ PtR (fun b => ok b ∧ b ≠ g) w' p x.2 ∧ QuV base bl x0 x1 x2 x3 x4 x5 ok n q (.slice (some ⟨g, 0, none⟩) n d) w' ∧ Frq (fun b => b = bl) w w'
set_option maxRecDepth 100000 in
set_option maxHeartbeats 4000000 in
theorem qpop_c (base bl : Nat) (x0 x1 x2 x3 x4 x5 : Value) (ok : Nat → Prop) (n g d : Nat) (q : List QE) (x : QE) (w : World) (h : QuV base bl x0 x1 x2 x3 x4 x5 ok (n + 1) (q ++ [x]) (.slice (some ⟨g, 0, none⟩) (n + 1) d) w) (hn : n + 1 ≤ 1000000000000) (hd : n + 1 ≤ d) (hok : ∀ b, ok b → b ≠ bl) :
    Calls Tryd.prog 115 #[.pointer (some ⟨bl, 6, none⟩)] w (PoP base bl x0 x1 x2 x3 x4 x5 ok n g d q x w) := by
  have hql : q.length = n := by have := h.own.len; simpa using this
  obtain ⟨⟨r, p⟩, x', hx, ⟨hr, ht⟩, hc, hbg, hgl, -⟩ := h.own.elt (q := n) (by omega)
  obtain rfl : x' = x := by
    rw [List.getElem?_append_right (by omega), hql, Nat.sub_self] at hx
    exact (Option.some.inj hx).symm
  simp only at hr
  subst hr
  have d0 := hc 0 _ rfl
  have d1 := hc 1 _ rfl
  have d2 := hc 2 _ rfl
  have d3 := hc 3 _ rfl
  have d4 := hc 4 _ rfl
  have d5 := hc 5 _ rfl
  have d6 := hc 6 _ rfl
  simp only [QuE, Nat.add_zero] at d0 d1 d2 d3 d4 d5 d6
  have HT := Lib.hid ht
  have H := Lib.hid h
  have HOK := Lib.hid hok
  have B := h.blk
  have hw1 : IntKind.i64.wrap (n : Int) = (n : Int) := IntWalk.i64_in _ (by omega)
  have hdi : n ≤ d := by omega
  clear hc ht h hx hok
  go_enter Tryd.func115, Tryd.ntmps115
  have hal := (Below.refl (w.setCell ⟨bl, 6, none⟩ (.slice (some ⟨g, 0, none⟩) n d)).heap.size (w.setCell ⟨bl, 6, none⟩ (.slice (some ⟨g, 0, none⟩) n d))).al (.cells #[.int .i64 (x'.1.1 : Int), .int .i64 (x'.1.2.1 : Int), .int .i64 (x'.1.2.2.1 : Int), .int .i64 (x'.1.2.2.2.1 : Int), .int .i64 (x'.1.2.2.2.2.1 : Int), .int .i64 (x'.1.2.2.2.2.2 : Int), .pointer (ptA p)] 114)
  have hgb : g ≠ bl := fun e => H.out.ne (by rw [← e]; rfl)
  have hag : Agr (fun b => ok b ∨ some b = (Value.slice (some ⟨g, 0, none⟩) n d).ownBlock) w (w.setCell ⟨bl, 6, none⟩ (.slice (some ⟨g, 0, none⟩) n d)) := Agr.setCell (p := ⟨bl, 6, none⟩) _ (by
    intro b hb
    rcases hb with hb | hb
    · exact HOK.out b hb
    · intro e
      have h1 : b = g := by simpa [Value.ownBlock] using hb
      exact hgb (by rw [← h1]; exact e))
  have hBs : Blk (w.setCell ⟨bl, 6, none⟩ (.slice (some ⟨g, 0, none⟩) n d)) bl 106 #[x0, x1, x2, x3, x4, x5, .slice (some ⟨g, 0, none⟩) n d] := by
    have := B.set_ 6 (.slice (some ⟨g, 0, none⟩) n d); simpa using this
  have hV : QuV base bl x0 x1 x2 x3 x4 x5 ok n q (.slice (some ⟨g, 0, none⟩) n d) (w.setCell ⟨bl, 6, none⟩ (.slice (some ⟨g, 0, none⟩) n d)) :=
    ⟨(Own.popT H.out.own).agr hag, hBs, fun e => hgb (Option.some.inj e), fun y hy => H.out.okq y (List.mem_append_left _ hy)⟩
  have HV := Lib.hid (show QuV base bl x0 x1 x2 x3 x4 x5 ok n q (.slice (some ⟨g, 0, none⟩) n d) _ from ⟨hV.own.via hal, hV.blk.via hal, hV.ne, hV.okq⟩)
  have HTV := Lib.hid (PtR.via (PtR.agr HT.out (Agr.setCell (p := ⟨bl, 6, none⟩) (.slice (some ⟨g, 0, none⟩) n d) fun b hb => HOK.out b hb.1)) hal)
  have HF := Lib.hid ((Frq.row (S := fun b => b = bl) (grownSetT w bl 6 (.slice (some ⟨g, 0, none⟩) n d)) (fun b e _ => (Option.some.inj e).symm)).trans (Frq.bel hal))
  clear hV hal hag hBs
  have cB := B.cell
  have fB := B.frozen
  have lB := B.lt
  go_wp2_with fail
  go_ret
  exact ⟨p, rfl, HTV.out, HV.out, HF.out⟩
/-- what heap.Pop hands back: what is left, and the least -/
noncomputable def popQ (q : List QE) : List QE := downQ (q.length - 1) (swapQ q 0 (q.length - 1)) 0
theorem downQ_len (m : Nat) : ∀ (k i : Nat) (q : List QE), m - i ≤ k → (downQ m q i).length = q.length
  | 0, i, q, h => by rw [downQ_end (by omega)]
  | k + 1, i, q, h => by
    by_cases h1 : m ≤ 2 * i + 1
    · rw [downQ_end h1]
    · obtain ⟨j, hj⟩ : ∃ j, j = if 2 * i + 2 < m ∧ lessQ q (2 * i + 2) (2 * i + 1) = true then 2 * i + 2 else 2 * i + 1 := ⟨_, rfl⟩
      have hij : i < j := by rw [hj]; split <;> omega
      rw [downQ_step h1 hj]
      by_cases hl : lessQ q j i = true
      · rw [if_pos hl, downQ_len m k j _ (by omega), swapQ_len]
      · rw [if_neg hl]
theorem popQ_len (q : List QE) : (popQ q).length = q.length := by unfold popQ; rw [downQ_len _ _ _ _ (Nat.le_refl _), swapQ_len]
set_option maxRecDepth 100000 in
set_option maxHeartbeats 4000000 in
theorem pop_c (base bl : Nat) (x0 x1 x2 x3 x4 x5 : Value) (ok : Nat → Prop) (n g d : Nat) (q : List QE) (w : World) (h : QuV base bl x0 x1 x2 x3 x4 x5 ok (n + 1) q (.slice (some ⟨g, 0, none⟩) (n + 1) d) w) (hn : n + 1 ≤ 1000000000000) (hd : n + 1 ≤ d) (hok : ∀ b, ok b → b ≠ bl) :
    Calls Tryd.prog 48 #[.iface 117 (.pointer (some ⟨bl, 6, none⟩))] w fun e w' => ∃ p x q', popQ q = q' ++ [x] ∧ e = .returned (.iface 114 (cdVal x.1 (ptA p))) ∧ PtR (fun b => ok b ∧ b ≠ g) w' p x.2 ∧ QuV base bl x0 x1 x2 x3 x4 x5 ok n q' (.slice (some ⟨g, 0, none⟩) n d) w' ∧ Frq (fun b => b = bl ∨ b = g) w w' := by
  have hql : q.length = n + 1 := by have := h.own.len; simpa using this
  have hpq : popQ q = downQ n (swapQ q 0 n) 0 := by unfold popQ; rw [hql]; rfl
  obtain ⟨q', x, hqx⟩ : ∃ q' x, popQ q = q' ++ [x] := by
    rcases List.eq_nil_or_concat (popQ q) with e | ⟨q', x, e⟩
    · have := popQ_len q; rw [e] at this; simp at this; omega
    · exact ⟨q', x, by rw [e]; simp⟩
  have hM := h.toM
  have H := Lib.hid h
  have HQX := Lib.hid (And.intro hqx (And.intro hpq hql))
  have HOK := Lib.hid hok
  have HD := Lib.hid hd
  have hcl := hM.cell
  have hml := fun F => meth_len hcl F
  have hms := fun F => meth_swap hcl F
  have hmp : ∀ (F : Nat) (w : World), (method (F + 1) 117 (.pointer (some ⟨bl, 6, none⟩)) "Pop").run Tryd.prog w = .ok (115, .pointer (some ⟨bl, 6, none⟩)) w := fun F w => meth_pop F
  have hw1 : IntKind.i64.wrap (n : Int) = (n : Int) := IntWalk.i64_in _ (by omega)
  have HSW := Lib.hid (swap_c 114 ok base g (n + 1) d 0 n q w h.own (by omega) (by omega))
  clear h hM hqx hpq hql hok hd
  go_enter Tryd.func48, Tryd.ntmps48
  go_wp2_with fail
  refine (qlen_c _ _ _ _).mono ?_
  rintro e w3 ⟨rfl, rfl⟩
  go_wp2_with fail
  refine HSW.out.mono ?_
  clear HSW hms hml
  rintro e w4 ⟨rfl, ho4, hg4⟩
  have HM4 : Hid (QuM base bl g d ok (n + 1) (swapQ q 0 n) w4) := Lib.hid ⟨ho4, cellGrown hg4 (fun e => H.out.toM.ne (Option.some.inj e)) hcl, H.out.toM.ne, fun y hy => H.out.okq y (swapQ_mem y hy)⟩
  have HB4 := Lib.hid (H.out.blk.grown hg4 (fun e => H.out.toM.ne (Option.some.inj e)))
  have HG4 := Lib.hid hg4
  clear ho4 hg4 hcl
  have HDN := Lib.hid (down_c base bl g d ok (n + 1) n (by omega) (by omega) (swapQ q 0 n) 0 w4 HM4.out (Nat.zero_le _))
  go_wp2_with fail
  refine HDN.out.mono ?_
  clear HDN
  rintro e w5 ⟨b, rfl, hM5, hg5⟩
  have hqe : downQ n (swapQ q 0 n) 0 = q' ++ [x] := by rw [← HQX.out.2.1]; exact HQX.out.1
  rw [hqe] at hM5
  have hB5 := HB4.out.grown hg5 (fun e => HM4.out.ne (Option.some.inj e))
  have HPO := Lib.hid (qpop_c base bl x0 x1 x2 x3 x4 x5 ok n g d q' x w5 (hM5.toV hB5) hn HD.out HOK.out)
  have HF5 := Lib.hid ((Frq.row (S := fun b => b = bl ∨ b = g) HG4.out (fun b e _ => Or.inr (Option.some.inj e).symm)).trans (Frq.row hg5 (fun b e _ => Or.inr (Option.some.inj e).symm)))
  clear hM5 hg5 hB5 hqe
  go_wp2_with fail
  refine HPO.out.mono ?_
  rintro e w6 ⟨p, rfl, hp, hV, hF⟩
  have HP6 := Lib.hid hp
  have HV6 := Lib.hid hV
  have HF6 := Lib.hid (HF5.out.trans (hF.mono fun b _ h => Or.inl h))
  clear HPO hp hV hF
  go_wp2_with fail
  go_ret
  exact ⟨p, x, q', HQX.out.1, rfl, HP6.out, HV6.out, HF6.out⟩
end Go.Proofs.YthiikgjeamoocaaDoor

