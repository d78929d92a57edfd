/- Texts SJ, laid together. -/
import Derived.Test.YtbfcnfgkccgbiaaGreatDoorQ31



namespace Go.Proofs.YtbfcnfgkccgbiaaGreatDoor
open Go.RowKit

def SpFoP (w : World) (D : Ky → Bool) (R : List Ru) (root : Ky) (most : Nat) (e : Ending) (w' : World) : Prop :=
  ∃ f v b, e = .returned (.tuple #[v, .bool b]) ∧ IsFo D R root most f b ∧ FoR (fun b => w.heap.size ≤ b) w' v f ∧ Below w.heap.size w w'
theorem Own.kyF {e : TypeId} {ok : Nat → Prop} {w : World} {base n : Nat} {v : Value} {l : List Ky} (h : Own KyE e ok w base v n l) : Own KyE e (fun _ => False) w base v n l := by
  obtain ⟨h1, raw, h3, h4, h5⟩ := h
  exact ⟨h1, raw, h3, h4, fun i r x hr hx => h5 i r x hr hx⟩
theorem GwM.aside {te tb : TypeId} {cs : Value → Array Value} {W wr w' : World} {b : Nat} {v : Value} {l : List Ky} {r : Nat} (h : GwM KyE te tb cs W b v l wr) (hg : wr.grownBy w' (some r)) (hr : b < r) (hne : some r ≠ v.ownBlock) : GwM KyE te tb cs W b v l w' :=
  ⟨h.bel.grown hg (Nat.le_of_lt h.lt) (fun j e => by have := Option.some.inj e; omega), h.blk.grown hg (fun e => by have := Option.some.inj e; omega),
    (h.own.kyF.agr (Agr.grown hg fun x hx => by
      rcases hx with hx | hx
      · exact hx.elim
      · rw [hx]; exact fun e => hne e.symm)).mono fun _ _ h => h.elim⟩
theorem WsM.noRow {w0 wr : World} {R : List Ru} {D : Ky → Bool} {b2 bw : Nat} {M : List Ky} {v : Value} {F : Ky → Option Value} (h : WsM w0 R D b2 bw [] v M F wr) : WsM w0 R D b2 bw [] (.slice none 0 0) M F wr :=
  ⟨h.bel, h.fb, Own.nil _ _, h.pk, h.fok, fun k V hV => by
    obtain ⟨A, c, h1, h2⟩ := h.rows k V hV
    exact ⟨A, c, h1, h2.mono fun b _ hb => ⟨hb.1, hb.2.1, hb.2.2.1, by simp [Value.ownBlock]⟩⟩, h.ge, h.ne, by simp [Value.ownBlock]⟩
/-- for all, out of simp's sight -/
def AllK {κ : Type} (p : κ → Prop) : Prop := ∀ y, p y
theorem wpList_next_A {κ : Type} [DecidableEq κ] {P : Program} {kk : κ → Value} {f : κ → Option Value} {ops : Array Oper} {rest : List Oper} {o : Oper} {a : Act} {Q : Exit → Act → World → Prop} {w : World} (hg : o.guard = none) (it : Operand) (hop : o.op = Op.next it false) (r bm : Nat) (left : κ → Bool) (cnt : Nat) (hit : a.eval it = .pointer (some ⟨r, 0, none⟩)) (h : RngK kk f w r bm left cnt) (hinj : ∀ x y, kk x = kk y → x = y) (hne : r ≠ bm)
    (hDone : AllK (fun n => left n = false) → wpList P ops Q rest (a.put o.dst (.tuple #[.bool false])) w)
    (hMore : AllK (fun y => ∀ (v : Value) (w' : World) (cnt' : Nat), left y = true → f y = some v → RngK kk f w' r bm (fun z => left z && decide (z ≠ y)) cnt' → cnt' < cnt → w.grownBy w' (some r) → w'.heap.size = w.heap.size → (Instr.entry (.pointer (some ⟨r, 0, none⟩))).run P w' = .ok (.tuple #[kk y, v]) w' →
      wpList P ops Q rest (a.put o.dst (.tuple #[.bool true, kk y, v])) w')) : wpList P ops Q (o :: rest) a w :=
  wpList_next_K hg it hop r bm left cnt hit h hinj hne hDone hMore
theorem rows_lt {D : Ky → Bool} {R : List Ru} {root : Ky} {L : List Ky} (h : IsNds D R root L) {k : Ky} (hk : k ∈ L) : ((packsF D R k).map (rowI L)).Pairwise fun a b => pkCmp a b < 0 := by
  have hs := packs_sorted (D := D) (idx := idxK L) (P := fun q => q ∈ L) (fun a b ha hb hab => idxK_mono h.sorted ha hb hab) (R := R) (k := k) (fun p hp q hq => (h.mem q).2 (.kid ((h.mem k).1 hk) hp hq))
  rw [List.pairwise_map] at hs ⊢
  exact hs.imp fun h => by rw [pkCmp_key]; exact h
theorem KyOk.skey {g : Gr} {n : Nat} {k : Ky} (h : KyOk g n k) (hg : g.Ok) (hn : n ≤ 12) : ∃ l, keyOf Tryz.prog 68 (kyVal k) = some l := by
  have h1 := h.ok hg hn
  obtain ⟨h2, h3, h4⟩ := h1
  exact span_k k.1 k.2.1 k.2.2 (by omega) (by omega) (by omega)
theorem GwM.sorted {te tb : TypeId} {α ρ : Type} {Y : Elem α ρ} {cs : Value → Array Value} {W wr w' : World} {b : Nat} {v : Value} {l : List α} (h : GwM Y te tb cs W b v l wr) (ho : Own Y te (fun x => b < x) w' (b + 1) v l.length l) (hb : Below (b + 1) wr w') : GwM Y te tb cs W b v l w' :=
  ⟨h.bel.trans (hb.mono (Nat.le_succ _)), (hb.block b (Nat.lt_succ_self b)).trans h.blk, ho⟩
theorem wpList_appends_sp {ops : Array Oper} {rest : List Oper} {o : Oper} {a : Act} {Q : Exit → Act → World → Prop} (w : World) (hgd : o.guard = none) (s y : Operand)
    (ho : o.op = .call { callee := .builtin .append, args := #[s, y], argTypes := #[105, 105] })
    (base : Nat) (v : Value) (n : Nat) (l : List Ky) (hv : a.eval s = v) (hown : Own KyE 68 (fun _ => False) w base v n l)
    (B : Option Addr) (m d : Nat) (ys : List Ky) (hy : a.eval y = .slice B m d) (hsl : Sl KyE (fun b => some b ≠ v.ownBlock) w B m d ys)
    (h63 : n + m ≤ 1000000) (hbase : base ≤ w.heap.size)
    (h : ∀ A' c' w', Own KyE 68 (fun _ => False) w' base (.slice A' (n + m) c') (n + m) (l ++ ys) → w.grownBy w' v.ownBlock → ((Value.slice A' (n + m) c').ownBlock = v.ownBlock ∨ (Value.slice A' (n + m) c').ownBlock = some w.heap.size) → wpList Tryz.prog ops Q rest (a.put o.dst (.slice A' (n + m) c')) w') :
    wpList Tryz.prog ops Q (o :: rest) a w := by
  obtain ⟨i, hi, hz⟩ := Option.map_eq_some_iff.1 sp_info
  simp only [Prod.mk.injEq] at hz
  exact wpList_appends_E w hgd s y 105 68 ho i _ 32 (by kernel_rfl) hi hz.1 hz.2.1 hz.2.2 rfl (fun _ => True) base v n l hv (hown.mono fun _ _ h => h.elim) B m d ys hy (hsl.mono fun b _ hb => ⟨trivial, hb⟩) (by simp [maxLen]; omega) (by omega) hbase fun A' c' w' h1 h2 h3 => h A' c' w' h1.kyF h2 h3
theorem wsm_room {w0 wr : World} {g : Gr} {n : Nat} {D : Ky → Bool} {b2 bw : Nat} {Sk M : List Ky} {v : Value} {F : Ky → Option Value} (h : WsM w0 g.rules D b2 bw Sk v M F wr) (hM : ∀ k ∈ M, KyOk g n k) (hg : g.Ok) (hn : n ≤ 12) : ∀ es clock, wr.heap[bw]? = some (.map es clock) → es.size < maxLen := fun es clock he =>
  Nat.lt_of_le_of_lt (h.pk.room kyC2 3400 (fun y hy => kyC2_lt (hM y ((h.fok y).1 hy)) hg hn) (fun x y hx hy e => kyC2_inj (hM x ((h.fok x).1 hx)) (hM y ((h.fok y).1 hy)) hg hn e) es clock he) (by simp [maxLen])
set_option maxRecDepth 100000 in
set_option maxHeartbeats 8000000 in
theorem spforest_c (ok : Nat → Prop) (g : Gr) (Ag : Option Addr) (ng cg : Nat) (A : Option Addr) (n c bs bm : Nat) (S : Ky → Bool) (w : World) (hg : g.Ok) (hl : Sl RuE ok w Ag ng cg g.rules) (hR : SpR w g Ag ng cg A n c bs bm S) (hn : n ≤ 12) :
    Calls Tryz.prog 17 #[.pointer (some ⟨bs, 0, none⟩)] w (SpFoP w S g.rules ((false, g.start), 0, n) 20000) := by
  have hst := hg.start
  have HO := Lib.hid hl
  have HR := Lib.hid hR
  have HG := Lib.hid hg
  clear hl hg
  go_enter Tryz.func17, Tryz.ntmps17
  go_upto_region 1 with fail
  have BF := Blk.new w 34 #[.slice none 0 0, .int .i64 0]
  have hal := (Below.refl w.heap.size w).al (.cells #[.slice none 0 0, .int .i64 0] 34)
  have HR1 := Lib.hid (hR.via hal)
  have HBW := Lib.hid hal
  clear hR hal
  generalize w.alloc (.cells #[.slice none 0 0, .int .i64 0] 34) = W at *
  obtain ⟨kl, hkl⟩ := span_k (false, g.start) 0 n (by show g.start ≤ 1000; have := HG.out.nons; omega) (by omega) (by omega)
  have HKL := Lib.hid hkl
  clear hkl
  have SOF := Lib.hid (show ∀ w', Below W.heap.size W w' → ((∀ x, w'.cell? ⟨bs, x, none⟩ = #[.int .i64 (g.terms : Int), .int .i64 (g.nons : Int), .int .i64 (g.start : Int), .slice Ag ng cg, .slice A n c, .map (some bm)][x]?) ∧ ((Instr.lookup 62 (.map (some bm)) (kyVal ((false, g.start), 0, n)) false).run Tryz.prog w' = .ok (.bool (S ((false, g.start), 0, n))) w') ∧ Below W.heap.size W w') from fun w' hb => ⟨((HR1.out.via hb).blk).cell, spm_look ((HR1.out.via hb).map) _ HKL.out, hb⟩)
  have JR := Lib.hid (show ∀ w', Below W.heap.size W w' → Calls Tryz.prog 42 #[.pointer (some ⟨bs, 0, none⟩)] w' (RootP w' g n) from fun w' hb => root_c g Ag ng cg A n c bs bm S w' (HR1.out.via hb))
  have hb0 := (Below.refl W.heap.size W).drew
  go_region_held3 (fun w' => (∀ x, w'.cell? ⟨bs, x, none⟩ = #[.int .i64 (g.terms : Int), .int .i64 (g.nons : Int), .int .i64 (g.start : Int), .slice Ag ng cg, .slice A n c, .map (some bm)][x]?) ∧ ((Instr.lookup 62 (.map (some bm)) (kyVal ((false, g.start), 0, n)) false).run Tryz.prog w' = .ok (.bool (S ((false, g.start), 0, n))) w') ∧ Below W.heap.size W w') (exact SOF.out _ (by assumption)) (first
    | (go_at_call 42; (with_reducible refine (JR.out _ (by assumption)).mono ?_); rintro ee wk ⟨rfl, hbk⟩; have hbm : Below W.heap.size W wk := Below.via (by assumption) hbk))
  have HBM := Lib.hid hbm
  have HF1 := Lib.hid (BF.via hbm)
  have HBW2 := Lib.hid (HBW.out.via hbm)
  clear hb0 SOF JR hbm hbk BF
  cases hd : S ((false, g.start), 0, n) with
  | false =>
    have HD := Lib.hid hd
    clear hd
    have B1 := HF1.out
    have cB1 := B1.cell
    have fB1 := B1.frozen
    have lB1 := B1.lt
    go_wp2_with fail
    have B2 := (HF1.out.set_ 0 (.slice none 0 0)).set_ 1 (.int .i64 (-1))
    simp only [List.setIfInBounds_toArray, List.set_cons_zero, List.set_cons_succ] at B2
    have c2 := B2.cell
    refine bodyPost_ret (v := .tuple #[.agg #[.slice none 0 0, .int .i64 (-1)], .bool true]) (by simp [results, Tryz.results17, go_sem, c2]) rfl ⟨_, _, _, rfl, .none HD.out, FoR.nil _ _ _, ?_⟩
    exact (HBW2.out.setCell (p := ⟨w.heap.size, 0, none⟩) (Nat.le_refl _) _).setCell (p := ⟨w.heap.size, 1, none⟩) (Nat.le_refl _) _
  | true =>
    have HD := Lib.hid hd
    clear hd
    have hmm := @run_makeMap Tryz.prog
    have JR := Lib.hid (show ∀ w', Below W.heap.size W w' → Calls Tryz.prog 42 #[.pointer (some ⟨bs, 0, none⟩)] w' (RootP w' g n) from fun w' hb => root_c g Ag ng cg A n c bs bm S w' (HR1.out.via hb))
    go_upto_region 4 with fail
    clear hmm
    have hm1 := (Below.refl wk.heap.size wk).al (.map #[] 0)
    have HMP0 := Lib.hid (MapK.made wk Tryz.prog 68 kyVal)
    have HM1 := Lib.hid hm1
    have HJR := Lib.hid (JR.out (wk.alloc (.map #[] 0)) (HBM.out.via hm1))
    clear hm1 JR
    go_wp2_with fail
    refine HJR.out.mono ?_
    rintro ee w5 ⟨rfl, hb5⟩
    dsimp only
    simp only [kyVal]
    have hal := (Below.refl w5.heap.size w5).al (.cells #[.bool false, .int .i64 (g.start : Int), .int .i64 0, .int .i64 (n : Int)] 68)
    have hOL : Own KyE 68 (fun _ => False) (w5.alloc (.cells #[.bool false, .int .i64 (g.start : Int), .int .i64 0, .int .i64 (n : Int)] 68)) w.heap.size (.slice (some ⟨w5.heap.size, 0, none⟩) 1 1) 1 [((false, g.start), 0, n)] := by
      have h := World.ownsRow_lit (base := w.heap.size) (e := 68) (size := KyE.k) w5 #[.bool false, .int .i64 (g.start : Int), .int .i64 0, .int .i64 (n : Int)] 1 (by have h1 := HBW2.out.size; have h2 := HM1.out.size; have h3 := hb5.size; omega) (by simp [maxLen]) rfl
      exact ⟨rfl, [((false, g.start), 0, n)], rfl, h, fun i r x hr hx => by rw [hr] at hx; exact Option.some.inj hx⟩
    have h5s : wk.heap.size + 1 ≤ w5.heap.size := by have h3 := hb5.size; simp at h3; omega
    have hbk : w.heap.size < wk.heap.size := HF1.out.lt
    have hb15 := HM1.out.via hb5
    have HW0 := Lib.hid (show WsM w g.rules S w.heap.size wk.heap.size [((false, g.start), 0, n)] (.slice (some ⟨w5.heap.size, 0, none⟩) 1 1) [] (fun _ => none) _ from
      ⟨(HBW2.out.via hb15).via hal, (HF1.out.via hb15).via hal, hOL, (HMP0.out.via hb5).via hal, fun k => by simp, fun k V h => (by cases h), by omega, by omega, by simp [Value.ownBlock]; omega⟩)
    have HBS := Lib.hid (((HBM.out.via hb15).via hal))
    clear hOL hb15 hal hb5 HMP0 HM1 HJR
    have HK0 := Lib.hid (Stk.start S g.rules ((false, g.start), 0, n) 20000)
    obtain ⟨W6, hW6⟩ : ∃ W6, W6 = w5.alloc (.cells #[.bool false, .int .i64 (g.start : Int), .int .i64 0, .int .i64 (n : Int)] 68) := ⟨_, rfl⟩
    rw [← hW6] at HW0 HBS
    have HBW6 := Lib.hid hW6
    go_wp2_with fail
    rw [← hW6]
    clear hW6 HBW6
    have HROK := Lib.hid (show KyOk g n ((false, g.start), 0, n) from ⟨by simpa [Gr.okSy] using hst, Nat.zero_le _, Nat.le_refl _⟩)
    have HSUP := Lib.hid (show ∀ k, S k = true → k.2.1 ≤ k.2.2 ∧ k.2.2 ≤ n from fun k h => (HR.out.map.2 k h).2)
    obtain ⟨bw, hbwe⟩ : ∃ bw, bw = wk.heap.size := ⟨_, rfl⟩
    rw [← hbwe] at HW0 ⊢
    have HBWL := Lib.hid (show w.heap.size < bw by rw [hbwe]; exact hbk)
    clear hbwe h5s hbk HBS HBM HF1 HBW2 HBW HR1
    go_loopg [5, 6] (3400 * 90000 + 1) (fun gk v lf wr => ∃ (M Sk : List Ky) (left : Nat) (F : Ky → Option Value), lf = .int .i64 (left : Int) ∧ Hid (WsM w g.rules S w.heap.size bw Sk v M F wr ∧ Stk S g.rules ((false, g.start), 0, n) 20000 M Sk left) ∧ gk = (3400 - M.length) * 90000 + Sk.length)
    case atStart => exact ⟨[], [((false, g.start), 0, n)], 20000, _, rfl, Lib.hid ⟨HW0.out, HK0.out⟩, by simp⟩
    case round =>
      obtain ⟨M, Sk, left, F, rfl, HQ, hgk⟩ := hrel
      clear HW0 HK0
      have HGK := Lib.hid hgk
      clear hgk
      have HMOK := Lib.hid (show ∀ k ∈ M, KyOk g n k from fun k hk => RchK.ok HG.out HSUP.out HROK.out (HQ.out.2.sndM k hk))
      have HLEN := Lib.hid (nodup_len HQ.out.2.nodup HMOK.out HG.out hn)
      have hleft : left ≤ 20000 := by have := HQ.out.2.cnt; omega
      rcases List.eq_nil_or_concat Sk with rfl | ⟨S1, x, rfl⟩
      · obtain ⟨va, vc, rfl, hvc⟩ := HQ.out.1.own.form
        have HTOT0 := Lib.hid HQ.out.2
        go_upto_region 21 with fail
        have hal := (Below.refl wr.heap.size wr).al (.cells #[.slice none 0 0] 105)
        have HPK6 := Lib.hid (HQ.out.1.pk.via hal)
        have HWZ := Lib.hid HQ.out.1.noRow
        have HGA := Lib.hid (GwM.start (Y := KyE) (te := 68) (tb := 105) (cs := fun v => #[v]) (n := wr.heap.size) wr #[.slice none 0 0] rfl rfl)
        have HLT := Lib.hid (And.intro HQ.out.1.pk.lt (And.intro HQ.out.1.fb.lt HQ.out.1.size))
        clear hal HQ hvc
        generalize wr.alloc (.cells #[.slice none 0 0] 105) = W6 at *
        obtain ⟨w9, hw9⟩ : ∃ w9 : World, w9 = wr := ⟨_, rfl⟩
        obtain ⟨ba, hba⟩ : ∃ ba, ba = wr.heap.size := ⟨_, rfl⟩
        rw [← hba] at HGA HLT ⊢
        rw [← hw9] at HGA HWZ
        have HBA := Lib.hid (show ba = w9.heap.size by rw [hw9]; exact hba)
        clear hba hw9
        have hpk := HPK6.out
        go_wp2_with (at_range; refine wpList_range_K rfl 104 106 Tryz.underlying104 _ rfl bw rfl hpk ?_)
        intro w7 cnt0 hrg0 hb7 hz7
        go_wp2_with fail
        have HRG := Lib.hid hrg0
        have HGA7 := Lib.hid (HGA.out.via hb7)
        have HNR := Lib.hid (show ba < W6.heap.size from HGA.out.lt)
        have HNB := Lib.hid (show bw < W6.heap.size from hpk.lt)
        clear hpk hrg0 hb7 hz7 HGA HPK6
        generalize W6.heap.size = br at *
        go_loopw [15] (fun _ wr => ∃ (left : Ky → Bool) (cnt : Nat) (va : Value) (L : List Ky), Hid (RngK kyVal F wr br bw left cnt ∧ GwM KyE 68 105 (fun v => #[v]) w9 ba va L wr ∧ L.Nodup ∧ (∀ k, k ∈ L ↔ F k ≠ none ∧ left k = false) ∧ some br ≠ va.ownBlock)) (fun _ wr => World.rngLeftK wr br)
        case atStart => exact ⟨_, _, _, [], Lib.hid ⟨HRG.out, HGA7.out, List.nodup_nil, fun k => by cases hk : F k <;> simp, by simp [Value.ownBlock]⟩⟩
        case round =>
          obtain ⟨left, cnt, vA, L, HQ⟩ := hrel
          clear HRG HGA7
          have hnb := HNB.out
          have hnr := HNR.out
          have hL34 : L.length ≤ 3400 := nodup_len (g := g) (n := n) HQ.out.2.2.1 (fun k hk => HMOK.out k ((HWZ.out.fok k).1 ((HQ.out.2.2.2.1 k).1 hk).1)) HG.out hn
          go_wp2_with (at_next; refine wpList_next_A rfl _ rfl br bw left cnt rfl HQ.out.1 kyVal_inj (by omega) ?_ ?_)
          · intro hd
            obtain ⟨vr, vc2, rfl, hvc2⟩ := HQ.out.2.1.own.form
            have HPM := Lib.hid (show L.Perm M from (List.perm_ext_iff_of_nodup HQ.out.2.2.1 HTOT0.out.nodup).2 fun k => by rw [HQ.out.2.2.2.1 k, ← HWZ.out.fok k]; simp [hd k])
            have HG6 := Lib.hid HQ.out.2.1
            have HL34 := Lib.hid hL34
            have BA := HG6.out.blk
            clear HQ hd hvc2
            have cBA := BA.cell
            have fBA := BA.frozen
            have lBA := BA.lt
            go_wp2_with fail
            clear cBA fBA lBA
            clear BA
            refine (sortSpan_c (fun _ => False) wr (ba + 1) L.length vr vc2 L (by omega) (fun x hx => by have h1 := (HMOK.out x (HPM.out.mem_iff.1 hx)).ok HG.out hn; have := h1.2.2; omega) HG6.out.own.kyF).mono ?_
            rintro e w5b ⟨rfl, L', hperm, hsort, hown, hbel, hagr, hsz⟩
            have hpm := hperm.trans HPM.out
            have HND := Lib.hid (HTOT0.out.nds hpm (hsort.imp_of_mem fun {a b} ha hb h => befCmp_le ((HMOK.out a (hpm.mem_iff.1 ha)).ok HG.out hn) ((HMOK.out b (hpm.mem_iff.1 hb)).ok HG.out hn) h) (fun k hk => (HMOK.out k hk).ok HG.out hn))
            have HTOT := Lib.hid (show totP S g.rules L' ≤ 20000 by rw [totP_perm hpm]; have := HTOT0.out.cnt; unfold totP; omega)
            have HOKL := Lib.hid (show ∀ q ∈ L', KyOk g n q from fun q hq => HMOK.out q (hpm.mem_iff.1 hq))
            have HFALL := Lib.hid (show ∀ q ∈ L', F q ≠ none from fun q hq => (HWZ.out.fok q).2 (hpm.mem_iff.1 hq))
            have hll : L'.length = L.length := hperm.length_eq
            have hb9 : Below w9.heap.size w9 w5b := by rw [← HBA.out]; exact HG6.out.bel.trans (hbel.mono (Nat.le_succ _))
            have HRL := Lib.hid (hown.toSl (ok' := fun b => ba < b) (fun _ _ h => h.elim) (fun b hb => hb))
            have HRP := Lib.hid (HWZ.out.pk.via hb9)
            have HRR := Lib.hid (show ∀ k V, F k = some V → ∃ A c, V = .slice A (packsF S g.rules k).length c ∧ Sl PkE (fun _ => True) w5b A (packsF S g.rules k).length c (packsF S g.rules k) from fun k V hV => by
              obtain ⟨A, c, h1, h2⟩ := HWZ.out.rows k V hV
              exact ⟨A, c, h1, (h2.via hb9).mono fun _ _ _ => trivial⟩)
            have HB5 := Lib.hid (HWZ.out.bel.via hb9)
            have HBA5 := Lib.hid (show Blk w5b ba 105 #[.slice vr L.length vc2] from (hbel.block ba (by omega)).trans HG6.out.blk)
            have HB85 := Lib.hid (HWZ.out.fb.via hb9)
            have HLTZ := Lib.hid (show w.heap.size ≤ w5b.heap.size from HB5.out.size)
            have HROOT := Lib.hid ((HND.out.mem _).2 RchK.root)
            have JAT := Lib.hid (show ∀ k ∈ L', ∀ W', Below w5b.heap.size w5b W' → Calls Tryz.prog 46 #[kyVal k, .pointer (some ⟨ba, 0, none⟩)] W' (IdxP W' (idxK L' k)) from fun k hk W' hb => at_c (fun b => ba < b) ba vr L.length vc2 L' k W' (HBA5.out.via hb) (HRL.out.via hb) hk (by have := HL34.out; omega))
            clear hpm hperm hsort hown hbel hagr hsz hb9 HG6 HTOT0 HPM HGK
            dsimp only
            have hmf : ∀ (fn : Fn) (first cap : Array Value) (w : World), (Instr.makeFunc fn first cap).run Tryz.prog w = .ok (.func fn first cap) w := fun _ _ _ _ => rfl
            go_upto_region 27 with fail
            clear hmf
            have JR := Lib.hid (root_c g Ag ng cg A n c bs bm S w5b (HR.out.via HB5.out))
            go_wp2_with (go_at_call 42; (with_reducible refine JR.out.mono ?_); rintro ee w6 ⟨rfl, hb6⟩; simp only [kyVal, Int.natCast_zero])
            refine (JAT.out _ HROOT.out w6 hb6).mono ?_
            rintro e w7x ⟨rfl, hb7⟩
            have hbz := hb6.via hb7
            have HRL2 := Lib.hid (HRL.out.via hbz)
            have HRP2 := Lib.hid (HRP.out.via hbz)
            have HRR2 := Lib.hid (show ∀ k V, F k = some V → ∃ A c, V = .slice A (packsF S g.rules k).length c ∧ Sl PkE (fun _ => True) w7x A (packsF S g.rules k).length c (packsF S g.rules k) from fun k V hV => by
              obtain ⟨A, c, h1, h2⟩ := HRR.out k V hV
              exact ⟨A, c, h1, h2.via hbz⟩)
            have HB82 := Lib.hid (HB85.out.via hbz)
            have HBA2 := Lib.hid (HBA5.out.via hbz)
            have HBW2 := Lib.hid (HB5.out.trans (hbz.mono HLTZ.out))
            have HLT2 := Lib.hid (show w.heap.size ≤ w7x.heap.size from Nat.le_trans HLTZ.out hbz.size)
            have JAT2 := Lib.hid (show ∀ k ∈ L', ∀ W', Below w7x.heap.size w7x W' → Calls Tryz.prog 46 #[kyVal k, .pointer (some ⟨ba, 0, none⟩)] W' (IdxP W' (idxK L' k)) from fun k hk W' hb => JAT.out k hk W' (hbz.via hb))
            obtain ⟨ir, hir⟩ : ∃ ir, ir = idxK L' ((false, g.start), 0, n) := ⟨_, rfl⟩
            rw [← hir]
            have HIR := Lib.hid hir
            clear hir hb6 hb7 hbz JAT JR HRL HRP HRR HB85 HBA5 HB5
            dsimp only
            go_upto_region 28 with fail
            have HGW := Lib.hid (GwM.start (Y := NdE) (te := 89) (tb := 34) (cs := fun v => #[v, .int .i64 (ir : Int)]) (n := w7x.heap.size) w7x #[.slice none 0 0, .int .i64 (ir : Int)] rfl rfl)
            generalize w7x.alloc (.cells #[.slice none 0 0, .int .i64 (ir : Int)] 34) = W7 at *
            obtain ⟨bf, hbf⟩ : ∃ bf, bf = w7x.heap.size := ⟨_, rfl⟩
            rw [← hbf] at HGW ⊢
            have HBFE := Lib.hid hbf
            clear hbf
            have BA := HBA2.out.via (by have h1 := HGW.out.bel; rw [HBFE.out] at h1; exact h1)
            have cBA := BA.cell
            have fBA := BA.frozen
            have lBA := BA.lt
            go_wp2_with fail
            clear cBA fBA lBA
            clear BA
            go_loopw [112] (fun q wr => ∃ (j : Nat) (vN : Value), q = .int .i64 (j : Int) ∧ j ≤ L.length ∧ Hid (GwM NdE 89 34 (fun v => #[v, .int .i64 (ir : Int)]) w7x bf vN ((L'.take j).map fun k => ndI (ndF (S) g.rules L' k)) wr)) (fun q _ => L.length - (intOf q).toNat)
            case atStart => exact ⟨0, _, rfl, Nat.zero_le _, HGW⟩
            case round =>
              obtain ⟨j, vN, rfl, hjl, HGF⟩ := hrel
              clear HGW
              have HB9 := Lib.hid (show Below w7x.heap.size w7x wr from by rw [← HBFE.out]; exact HGF.out.bel)
              by_cases hjL : j < L.length
              · obtain ⟨b1, o1, k0, k, hva, -, hb1, hk, hkk, hcl⟩ := HRL2.out.at_ hjL
                obtain rfl : k0 = k := hkk
                subst hva
                obtain ⟨⟨kb, kN⟩, ki, kj⟩ := k0
                have d1 := (HB9.out.cell (p := ⟨b1, o1 + j * KyE.k + 0, none⟩) hb1).trans (hcl 0 _ rfl)
                have d2 := (HB9.out.cell (p := ⟨b1, o1 + j * KyE.k + 1, none⟩) hb1).trans (hcl 1 _ rfl)
                have d3 := (HB9.out.cell (p := ⟨b1, o1 + j * KyE.k + 2, none⟩) hb1).trans (hcl 2 _ rfl)
                have d4 := (HB9.out.cell (p := ⟨b1, o1 + j * KyE.k + 3, none⟩) hb1).trans (hcl 3 _ rfl)
                simp only [KyE, Nat.add_zero] at d1 d2 d3 d4
                have i0 : (0 : Int) ≤ (j : Int) := by omega
                have i1 : (j : Int) < (L.length : Int) := by omega
                have HK := Lib.hid hk
                have hkin := List.mem_of_getElem? hk
                have HKIN := Lib.hid hkin
                have HKO := Lib.hid (HOKL.out _ hkin)
                obtain ⟨kl, hkl⟩ := HKO.out.skey HG.out hn
                obtain ⟨V, hV⟩ := Option.ne_none_iff_exists'.1 (HFALL.out _ hkin)
                obtain ⟨Ap, cp, rfl, hSP⟩ := HRR2.out _ _ hV
                obtain ⟨pl, hpl⟩ : ∃ pl, pl = (packsF (S) g.rules ((kb, kN), ki, kj)).length := ⟨_, rfl⟩
                rw [← hpl] at hSP hV
                have HPL := Lib.hid hpl
                have HSP := Lib.hid hSP
                have hlp := packs_len (D := S) (k := ((kb, kN), ki, kj)) (fun u hu => (HG.out.right u hu).1) HG.out.count (show kj ≤ 12 by have := HKO.out.2.2; simp only at this; omega)
                rw [← hpl] at hlp
                have hal := ((Below.refl wr.heap.size wr).al (.cells #[.bool kb, .int .i64 (kN : Int), .int .i64 (ki : Int), .int .i64 (kj : Int)] 68))
                have hal2 := hal.al (.cells #[.bool kb, .int .i64 (kN : Int), .int .i64 (ki : Int), .int .i64 (kj : Int), .slice none 0 0] 89)
                have BQ := Blk.new wr 68 #[.bool kb, .int .i64 (kN : Int), .int .i64 (ki : Int), .int .i64 (kj : Int)]
                have BQ2 := BQ.al (.cells #[.bool kb, .int .i64 (kN : Int), .int .i64 (ki : Int), .int .i64 (kj : Int), .slice none 0 0] 89)
                have hlk := ((HRP2.out.via HB9.out).via hal2).look false span_keyed Tryz.underlying104 (z := .slice none 0 0) (by kernel_rfl) ((kb, kN), ki, kj) hkl
                rw [hV] at hlk
                simp only [kyVal, Option.getD_some, Bool.false_eq_true, if_false] at hlk
                clear hcl hk hkl hpl hSP hV
                have cBQ := BQ.cell
                have fBQ := BQ.frozen
                have lBQ := BQ.lt
                have cBQ2 := BQ2.cell
                have fBQ2 := BQ2.frozen
                have lBQ2 := BQ2.lt
                go_wp2_with fail
                clear cBQ fBQ lBQ cBQ2 fBQ2 lBQ2
                clear BQ BQ2 hlk hal hal2 d1 d2 d3 d4
                have HGN := Lib.hid (GwM.start (Y := FpE) (te := 91) (tb := 89) (cs := fun v => #[.bool kb, .int .i64 (kN : Int), .int .i64 (ki : Int), .int .i64 (kj : Int), v]) (n := wr.heap.size + 1) (wr.alloc (.cells #[.bool kb, .int .i64 (kN : Int), .int .i64 (ki : Int), .int .i64 (kj : Int)] 68)) #[.bool kb, .int .i64 (kN : Int), .int .i64 (ki : Int), .int .i64 (kj : Int), .slice none 0 0] (by simp) rfl)
                generalize hW11 : (wr.alloc (.cells #[.bool kb, .int .i64 (kN : Int), .int .i64 (ki : Int), .int .i64 (kj : Int)] 68)).alloc (.cells #[.bool kb, .int .i64 (kN : Int), .int .i64 (ki : Int), .int .i64 (kj : Int), .slice none 0 0] 89) = W11 at *
                clear hW11
                obtain ⟨w10, hw10⟩ : ∃ w10, w10 = wr.alloc (.cells #[.bool kb, .int .i64 (kN : Int), .int .i64 (ki : Int), .int .i64 (kj : Int)] 68) := ⟨_, rfl⟩
                rw [← hw10] at HGN
                have HGF10 := Lib.hid (HGF.out.via ((Below.refl wr.heap.size wr).al (.cells #[.bool kb, .int .i64 (kN : Int), .int .i64 (ki : Int), .int .i64 (kj : Int)] 68)))
                rw [← hw10] at HGF10
                have hbk1 : w10.heap.size = wr.heap.size + 1 := by rw [hw10]; simp
                have HB10 := Lib.hid (show Below w7x.heap.size w7x w10 from by rw [← HBFE.out]; exact HGF10.out.bel)
                clear hw10 HB9 HGF
                generalize hbk : wr.heap.size + 1 = bk at *
                clear hbk
                have HBK1 := Lib.hid hbk1
                clear hbk1
                obtain ⟨wo, rfl⟩ : ∃ wo : World, wo = wr := ⟨_, rfl⟩
                go_loopw [127] (fun q wr => ∃ (m : Nat) (vP : Value), q = .int .i64 (m : Int) ∧ m ≤ pl ∧ Hid (GwM FpE 91 89 (fun v => #[.bool kb, .int .i64 (kN : Int), .int .i64 (ki : Int), .int .i64 (kj : Int), v]) w10 bk vP (((packsF (S) g.rules ((kb, kN), ki, kj)).take m).map (rowI L')) wr)) (fun q _ => pl - (intOf q).toNat)
                case atStart => exact ⟨0, _, rfl, Nat.zero_le _, HGN⟩
                case round =>
                  obtain ⟨m, vP, rfl, hmp, HGP⟩ := hrel
                  clear HGN
                  have HBP := Lib.hid (show Below w10.heap.size w10 wr from by rw [HBK1.out]; exact HGP.out.bel)
                  by_cases hml : m < pl
                  · obtain ⟨b2, o2, ⟨pr, KA, kn, kc⟩, ⟨pr', ks⟩, hAp, -, hb2, hps, ⟨hp1, hp2⟩, hcl⟩ := HSP.out.at_ hml
                    simp only at hp1 hp2
                    obtain rfl : pr = pr' := hp1
                    subst hAp
                    have hb9 := HB10.out.trans (HBP.out.mono HB10.out.size)
                    have d1 := (hb9.cell (p := ⟨b2, o2 + m * PkE.k + 0, none⟩) hb2).trans (hcl 0 _ rfl)
                    have d2 := (hb9.cell (p := ⟨b2, o2 + m * PkE.k + 1, none⟩) hb2).trans (hcl 1 _ rfl)
                    simp only [PkE, Nat.add_zero] at d1 d2
                    have m0 : (0 : Int) ≤ (m : Int) := by omega
                    have m1 : (m : Int) < (pl : Int) := by omega
                    have hkn := hp2.len
                    have hkn4 : kn ≤ 4 := by
                      obtain ⟨-, u, hu, -, hw⟩ := packs_mem (List.mem_of_getElem? hps)
                      have h1 := hw.len
                      have h2 := (HG.out.right u (List.mem_of_getElem? hu)).1
                      simp only at h1
                      omega
                    have HKS := Lib.hid hp2
                    have HPS := Lib.hid hps
                    have HB9 := Lib.hid hb9
                    obtain ⟨zs, hzs⟩ : ∃ zs, zs = ((packsF (S) g.rules ((kb, kN), ki, kj)).take m).map (rowI L') := ⟨_, rfl⟩
                    have HZE := Lib.hid (show ((packsF (S) g.rules ((kb, kN), ki, kj)).take (m + 1)).map (rowI L') = zs ++ [rowI L' (pr, ks)] by rw [hzs, List.take_add_one, hps]; simp)
                    have HZL := Lib.hid (show zs.length ≤ 913952 by rw [hzs, List.length_map, List.length_take]; omega)
                    rw [← hzs] at HGP
                    clear hzs
                    have BP := (Blk.new wr 110 #[.int .i64 (pr : Int), .slice KA kn kc])
                    have BP2 := BP.al (.cells #[.int .i64 (pr : Int), .slice none 0 0] 91)
                    clear hcl hp2 hps hb9 hb2
                    have cBP := BP.cell
                    have fBP := BP.frozen
                    have lBP := BP.lt
                    have cBP2 := BP2.cell
                    have fBP2 := BP2.frozen
                    have lBP2 := BP2.lt
                    go_wp2_with fail
                    clear cBP fBP lBP cBP2 fBP2 lBP2
                    clear BP BP2 d1 d2
                    have HGX := Lib.hid (GwM.start (Y := InE) (te := 3) (tb := 91) (cs := fun v => #[.int .i64 (pr : Int), v]) (n := wr.heap.size + 1) (wr.alloc (.cells #[.int .i64 (pr : Int), .slice KA kn kc] 110)) #[.int .i64 (pr : Int), .slice none 0 0] (by simp) rfl)
                    generalize hW13 : (wr.alloc (.cells #[.int .i64 (pr : Int), .slice KA kn kc] 110)).alloc (.cells #[.int .i64 (pr : Int), .slice none 0 0] 91) = W13 at *
                    clear hW13
                    obtain ⟨w12, hw12⟩ : ∃ w12, w12 = wr.alloc (.cells #[.int .i64 (pr : Int), .slice KA kn kc] 110) := ⟨_, rfl⟩
                    rw [← hw12] at HGX
                    have HGP12 := Lib.hid (HGP.out.via ((Below.refl wr.heap.size wr).al (.cells #[.int .i64 (pr : Int), .slice KA kn kc] 110)))
                    rw [← hw12] at HGP12
                    have hbx1 : w12.heap.size = wr.heap.size + 1 := by rw [hw12]; simp
                    have HB12 := Lib.hid (show Below w7x.heap.size w7x w12 from by
                      have h1 : Below bk w10 w12 := HGP12.out.bel
                      have h2 := HBK1.out
                      exact HB10.out.trans (h1.mono (by rw [← h2]; exact HB10.out.size)))
                    clear hw12 HBP HGP HB9
                    generalize hbx : wr.heap.size + 1 = bx at *
                    clear hbx
                    have HBX1 := Lib.hid hbx1
                    clear hbx1
                    obtain ⟨wo, rfl⟩ : ∃ wo : World, wo = wr := ⟨_, rfl⟩
                    go_loopw [137] (fun q wr => ∃ (t : Nat) (vK : Value), q = .int .i64 (t : Int) ∧ t ≤ kn ∧ Hid (GwM InE 3 91 (fun v => #[.int .i64 (pr : Int), v]) w12 bx vK (intsN ((ks.take t).map (idxK L'))) wr)) (fun q _ => kn - (intOf q).toNat)
                    case atStart => exact ⟨0, _, rfl, Nat.zero_le _, HGX⟩
                    case round =>
                      obtain ⟨t, vK, rfl, htk, HGI⟩ := hrel
                      clear HGX
                      have HBI := Lib.hid (show Below w12.heap.size w12 wr from by rw [HBX1.out]; exact HGI.out.bel)
                      by_cases htl : t < kn
                      · obtain ⟨b3, o3, q0, q, hKA, -, hb3, hq, hqq, hcl⟩ := HKS.out.at_ htl
                        obtain rfl : q0 = q := hqq
                        subst hKA
                        obtain ⟨⟨qb, qN⟩, qi, qj⟩ := q0
                        have hb9 := HB12.out.trans (HBI.out.mono HB12.out.size)
                        have d1 := (hb9.cell (p := ⟨b3, o3 + t * KyE.k + 0, none⟩) hb3).trans (hcl 0 _ rfl)
                        have d2 := (hb9.cell (p := ⟨b3, o3 + t * KyE.k + 1, none⟩) hb3).trans (hcl 1 _ rfl)
                        have d3 := (hb9.cell (p := ⟨b3, o3 + t * KyE.k + 2, none⟩) hb3).trans (hcl 2 _ rfl)
                        have d4 := (hb9.cell (p := ⟨b3, o3 + t * KyE.k + 3, none⟩) hb3).trans (hcl 3 _ rfl)
                        simp only [KyE, Nat.add_zero] at d1 d2 d3 d4
                        have m0 : (0 : Int) ≤ (t : Int) := by omega
                        have m1 : (t : Int) < (kn : Int) := by omega
                        have hqin : ((qb, qN), qi, qj) ∈ L' := (HND.out.mem _).2 (.kid ((HND.out.mem _).1 HKIN.out) (List.mem_of_getElem? HPS.out) (List.mem_of_getElem? hq))
                        have HQIN := Lib.hid hqin
                        have HEQ := Lib.hid (show intsN ((ks.take (t + 1)).map (idxK L')) = intsN ((ks.take t).map (idxK L')) ++ [(idxK L' ((qb, qN), qi, qj) : Int)] by
                          rw [List.take_add_one, hq]; simp [intsN])
                        have HTL := Lib.hid (show (intsN ((ks.take t).map (idxK L'))).length = t by
                          have h1 := HKS.out.len
                          simp [intsN]; omega)
                        obtain ⟨ys, hys⟩ : ∃ ys, ys = intsN ((ks.take t).map (idxK L')) := ⟨_, rfl⟩
                        rw [← hys] at HGI HEQ HTL
                        clear hys
                        have HB9R := Lib.hid hb9
                        have HQV := Lib.hid (show some wr.heap.size ≠ vK.ownBlock from fun e => by have := (HGI.out.own.lt _ e.symm).2; omega)
                        clear hcl hb9 hq hqin hb3
                        go_upto_region 39 with fail
                        clear d1 d2 d3 d4
                        have HG2 := Lib.hid (HGI.out.via ((Below.refl wr.heap.size wr).al (.cells #[.bool qb, .int .i64 (qN : Int), .int .i64 (qi : Int), .int .i64 (qj : Int)] 68)))
                        have HB14 := Lib.hid (HB9R.out.via ((Below.refl wr.heap.size wr).al (.cells #[.bool qb, .int .i64 (qN : Int), .int .i64 (qi : Int), .int .i64 (qj : Int)] 68)))
                        have BQ := Blk.new wr 68 #[.bool qb, .int .i64 (qN : Int), .int .i64 (qi : Int), .int .i64 (qj : Int)]
                        generalize wr.alloc (.cells #[.bool qb, .int .i64 (qN : Int), .int .i64 (qi : Int), .int .i64 (qj : Int)] 68) = W14 at *
                        generalize wr.heap.size = bq at *
                        clear HGI HB9R HBI
                        obtain ⟨ix, hix⟩ : ∃ ix, ix = idxK L' ((qb, qN), qi, qj) := ⟨_, rfl⟩
                        have HIX := Lib.hid hix
                        have JQ := Lib.hid (show Calls Tryz.prog 46 #[.agg #[.bool qb, .int .i64 (qN : Int), .int .i64 (qi : Int), .int .i64 (qj : Int)], .pointer (some ⟨ba, 0, none⟩)] W14.drew (IdxP W14.drew ix) from by rw [HIX.out]; exact JAT2.out _ HQIN.out W14.drew (HB14.out.via (Below.refl W14.heap.size W14).drew))
                        have SO := Lib.hid (show ∀ w', Below W14.heap.size W14 w' → ((∀ x, w'.cell? ⟨bx, x, none⟩ = #[.int .i64 (pr : Int), vK][x]?) ∧ (∀ x, w'.cell? ⟨bq, x, none⟩ = #[.bool qb, .int .i64 (qN : Int), .int .i64 (qi : Int), .int .i64 (qj : Int)][x]?)) from fun w' hb => ⟨(HG2.out.blk.via hb).cell, (BQ.via hb).cell⟩)
                        have hdr := (Below.refl W14.heap.size W14).drew
                        have hHeld := SO.out _ hdr
                        have HBQ := Lib.hid BQ
                        clear BQ hix
                        refine wp_region_L 8 (fun w' => (∀ x, w'.cell? ⟨bx, x, none⟩ = #[.int .i64 (pr : Int), vK][x]?) ∧ (∀ x, w'.cell? ⟨bq, x, none⟩ = #[.bool qb, .int .i64 (qN : Int), .int .i64 (qi : Int), .int .i64 (qj : Int)][x]?)) (by kernel_rfl) ?_
                        refine wpAnyL.take (i := 0) (d := some 141) (v := ?_) rfl (by kernel_rfl) (by kernel_rfl) (by kernel_rfl) (by kernel_rfl) rfl (fun _ _ _ h => h) (Or.inl ⟨by rfl, ?_⟩) (by assumption) ?_
                        rotate_left
                        · intro w hSw; (try dsimp only at hSw); go_simp; try with_reducible rfl
                        simp only [Act.put, List.setIfInBounds_toArray, List.set_cons_zero, List.set_cons_succ]
                        refine wpAnyL.take (i := 1) (d := some 142) (v := ?_) rfl (by kernel_rfl) (by kernel_rfl) (by kernel_rfl) (by kernel_rfl) rfl (fun _ _ _ h => h) (Or.inl ⟨by rfl, ?_⟩) (by assumption) ?_
                        rotate_left
                        · intro w hSw; (try dsimp only at hSw); go_simp; try with_reducible rfl
                        simp only [Act.put, List.setIfInBounds_toArray, List.set_cons_zero, List.set_cons_succ]
                        refine wpAnyL.take (i := 2) (d := some 143) (v := ?_) rfl (by kernel_rfl) (by kernel_rfl) (by kernel_rfl) (by kernel_rfl) rfl (fun _ _ _ h => h) (Or.inl ⟨by rfl, ?_⟩) (by assumption) ?_
                        rotate_left
                        · intro w hSw; (try dsimp only at hSw); go_simp; try with_reducible rfl
                        simp only [Act.put, List.setIfInBounds_toArray, List.set_cons_zero, List.set_cons_succ]
                        refine wpAnyL.take (i := 3) (d := some 144) (v := ?_) rfl (by kernel_rfl) (by kernel_rfl) (by kernel_rfl) (by kernel_rfl) rfl (fun _ _ _ h => h) (Or.inl ⟨by rfl, ?_⟩) (by assumption) ?_
                        rotate_left
                        · intro w hSw; (try dsimp only at hSw); go_simp; try with_reducible rfl
                        simp only [Act.put, List.setIfInBounds_toArray, List.set_cons_zero, List.set_cons_succ]
                        refine wpAnyL.ready (rs := [4]) (by kernel_rfl) (by simp) ?_
                        refine AllL.cons rfl (fun K hK => ?_) AllL.nil
                        go_simp
                        go_at_call 46
                        refine JQ.out.mono ?_
                        rintro e w15 ⟨rfl, hb15⟩
                        dsimp only
                        go_wp2_with fail
                        replace hdr := hdr.via hb15
                        refine hK.out _ _ (fun _ => SO.out _ hdr) ?_
                        clear hK K hb15 JQ
                        try dsimp only [Act.put]
                        refine wpAnyL.ready (rs := [5]) (by kernel_rfl) (by simp) ?_
                        refine AllL.cons rfl (fun K hK => ?_) AllL.nil
                        go_simp
                        have hal := (hdr.al (.cells #[.int .i64 (ix : Int)] 3))
                        refine hK.out _ _ (fun _ => SO.out _ hal) ?_
                        clear hK K
                        try simp only [Act.put, List.setIfInBounds_toArray, List.set_cons_zero, List.set_cons_succ]
                        have HG15 := Lib.hid (HG2.out.via hal)
                        have HBY := Lib.hid (Blk.new w15 3 #[.int .i64 (ix : Int)])
                        have hkl3 : t ≤ 4 := by omega
                        refine wpAnyL.ready (rs := [6]) (by kernel_rfl) (by simp) ?_
                        refine AllL.cons rfl (fun K hK => ?_) AllL.nil
                        refine step_append_in _ rfl (.tmp 142) (.tmp 146) rfl (fun x => bx < x) (bx + 1) vK ys.length ys rfl HG15.out.own w15.heap.size (ix : Int) (ix : Int) rfl HBY.out rfl (by have := HTL.out; omega) (Nat.succ_le_of_lt HG15.out.lt) ?_
                        intro A16 c16 w16 ho16 hg16 hat16
                        have hr16 : some bx ≠ vK.ownBlock := fun e => by have := (HG15.out.own.lt bx e.symm).1; omega
                        have BX := HG15.out.blk.grown hg16 hr16
                        have HPU := Lib.hid (HG15.out.push (x := (ix : Int)) ho16 hg16 (o := 1) rfl)
                        have BQ16 := (HBQ.out.via hal).grown hg16 HQV.out
                        refine hK.out _ _ (fun _ => ⟨BX.cell, BQ16.cell⟩) ?_
                        clear hK K
                        try dsimp only [Act.put]
                        refine wpAnyL.ready (rs := [7]) (by kernel_rfl) (by simp) ?_
                        refine AllL.cons rfl (fun K hK => ?_) AllL.nil
                        go_simp
                        refine hK.out _ _ (fun _ => ⟨BX.cell, BQ16.cell⟩) ?_
                        clear hK K BQ16
                        try simp only [Act.put, List.setIfInBounds_toArray, List.set_cons_zero, List.set_cons_succ]
                        refine wpAnyL.ready (rs := [8]) (by kernel_rfl) (by simp) ?_
                        refine AllL.cons rfl (fun K hK => ?_) AllL.nil
                        have cBX := BX.cell
                        have fBX := BX.frozen
                        have lBX := BX.lt
                        go_simp
                        refine hK.out _ _ (fun h => absurd rfl h) ?_
                        clear hK K
                        refine wpAnyL.done (by kernel_rfl) ?_ _
                        clear cBX fBX lBX
                        clear BX ho16 hg16 hat16 hHeld hdr hal SO
                        generalize w16.setCell ⟨bx, 1, none⟩ (.slice A16 (ys.length + 1) c16) = W18 at *
                        go_wp2_with fail
                        go_roundw
                        case rel => exact ⟨t + 1, _, by go_num, by omega, Lib.hid (by rw [HEQ.out, ← HIX.out]; exact HPU.out)⟩
                        case measure => simp [intOf]; omega
                      · obtain rfl : kn = t := by omega
                        have hkt : ks.take kn = ks := List.take_of_length_le (by have := HKS.out.len; omega)
                        have HGI2 := Lib.hid (show GwM InE 3 91 (fun v => #[.int .i64 (pr : Int), v]) w12 bx vK (intsN (ks.map (idxK L'))) wr from by have := HGI.out; rw [hkt] at this; exact this)
                        have HGP2 := Lib.hid (HGP12.out.via HBI.out)
                        obtain ⟨AK, cK, rfl, hcK⟩ := HGI2.out.own.form
                        obtain ⟨nk, hnk⟩ : ∃ nk, nk = (intsN (ks.map (idxK L'))).length := ⟨_, rfl⟩
                        rw [← hnk] at HGI2
                        have HKSL := Lib.hid (HGI2.out.own.toSl (ok' := fun b => bx ≤ b) (fun b _ hb => Nat.le_of_lt hb) (fun b hb => by omega))
                        rw [← hnk] at HKSL
                        clear hnk hkt
                        have BX : Blk wr bx 91 #[.int .i64 (pr : Int), .slice AK nk cK] := HGI2.out.blk
                        have BN : Blk wr bk 89 #[.bool kb, .int .i64 (kN : Int), .int .i64 (ki : Int), .int .i64 (kj : Int), vP] := HGP2.out.blk
                        clear HGI hcK
                        have cBX := BX.cell
                        have fBX := BX.frozen
                        have lBX := BX.lt
                        have cBN := BN.cell
                        have fBN := BN.frozen
                        have lBN := BN.lt
                        have HGP3 := Lib.hid (HGP2.out.via ((Below.refl wr.heap.size wr).al (.cells #[.int .i64 (pr : Int), .slice AK nk cK] 91)))
                        have HBL := Lib.hid (Blk.new wr 91 #[.int .i64 (pr : Int), .slice AK nk cK])
                        have HREL := Lib.hid (show FpE.rel (fun b => bk < b ∧ some b ≠ vP.ownBlock) (wr.alloc (.cells #[.int .i64 (pr : Int), .slice AK nk cK] 91)) ((pr : Int), AK, nk, cK) (rowI L' (pr, ks)) from ⟨rfl, (HKSL.out.al (.cells #[.int .i64 (pr : Int), .slice AK nk cK] 91)).mono fun b _ hb => ⟨by have := HGP12.out.lt; have := HBX1.out; omega, fun e => by have := (HGP12.out.own.lt b e.symm).2; have := HBX1.out; omega⟩⟩)
                        have hzl := HZL.out
                        go_upto_region 42 with (at_builtin; refine wpList_append_fp _ rfl (.tmp 151) (.tmp 153) rfl (fun x => bk < x) (bk + 1) vP zs.length zs rfl HGP3.out.own wr.heap.size ((pr : Int), AK, nk, cK) (rowI L' (pr, ks)) rfl HBL.out HREL.out (by omega) (Nat.succ_le_of_lt HGP3.out.lt) ?_; intro A17 c17 w17 ho17 hg17 hat17; have BN17 := HGP3.out.blk.grown hg17 (fun e => by have := (HGP3.out.own.lt bk e.symm).1; omega); have cB17 := BN17.cell; have fB17 := BN17.frozen; have lB17 := BN17.lt)
                        have HPU := Lib.hid (HGP3.out.push (x := rowI L' (pr, ks)) ho17 hg17 (o := 4) rfl)
                        clear BX BN cBX fBX lBX cBN fBN lBN BN17 cB17 fB17 lB17 ho17 hg17 hat17
                        generalize w17.setCell ⟨bk, 4, none⟩ (.slice A17 (zs.length + 1) c17) = W18 at *
                        go_wp2_with fail
                        go_roundw
                        case rel => exact ⟨m + 1, _, by go_num, by omega, Lib.hid (by rw [HZE.out]; exact HPU.out)⟩
                        case measure => simp [intOf]; omega
                  · obtain rfl : pl = m := by omega
                    have hall : (packsF (S) g.rules ((kb, kN), ki, kj)).take pl = packsF (S) g.rules ((kb, kN), ki, kj) := List.take_of_length_le (by rw [HPL.out]; exact Nat.le_refl _)
                    have HGP2 := Lib.hid (show GwM FpE 91 89 (fun v => #[.bool kb, .int .i64 (kN : Int), .int .i64 (ki : Int), .int .i64 (kj : Int), v]) w10 bk vP ((packsF (S) g.rules ((kb, kN), ki, kj)).map (rowI L')) wr from by have := HGP.out; rw [hall] at this; exact this)
                    have HGF2 := Lib.hid (HGF10.out.via HBP.out)
                    obtain ⟨zs, hzs⟩ : ∃ zs, zs = (packsF (S) g.rules ((kb, kN), ki, kj)).map (rowI L') := ⟨_, rfl⟩
                    have HSOP := Lib.hid (show zs.Pairwise fun a b => pkCmp a b < 0 by rw [hzs]; exact rows_lt HND.out HKIN.out)
                    have HZL := Lib.hid (show zs.length ≤ 913952 by rw [hzs, List.length_map, ← HPL.out]; exact hlp)
                    have HZK := Lib.hid (show ∀ x ∈ zs, x.2.length ≤ 999999 from by
                      intro x hx
                      rw [hzs] at hx
                      obtain ⟨p, hp, rfl⟩ := List.mem_map.1 hx
                      obtain ⟨-, u, hu, -, hw⟩ := packs_mem hp
                      have h1 := hw.len
                      have h2 := (HG.out.right u (List.mem_of_getElem? hu)).1
                      simp [rowI, intsN]; omega)
                    rw [← hzs] at HGP2
                    have HZS := Lib.hid hzs
                    clear hzs hall HGP
                    obtain ⟨AP, cP, rfl, hcP⟩ := HGP2.out.own.form
                    have BN : Blk wr bk 89 #[.bool kb, .int .i64 (kN : Int), .int .i64 (ki : Int), .int .i64 (kj : Int), .slice AP zs.length cP] := HGP2.out.blk
                    clear hcP
                    have cBN := BN.cell
                    have fBN := BN.frozen
                    have lBN := BN.lt
                    go_wp2_with fail
                    refine (sortPk_c (fun b => bk < b) wr (bk + 1) zs.length AP cP zs (by have := HZL.out; omega) HZK.out HSOP.out HGP2.out.own).mono ?_
                    rintro e w18 ⟨rfl, ho18, hb18, hz18⟩
                    have HGP4 := Lib.hid (HGP2.out.sorted ho18 hb18)
                    have HGF4 := Lib.hid (HGF10.out.via (show Below w10.heap.size w10 w18 from by rw [HBK1.out]; exact HGP4.out.bel))
                    clear cBN fBN lBN
                    clear BN ho18 hb18 hz18 HGP2 HGF2
                    have BN : Blk w18 bk 89 #[.bool kb, .int .i64 (kN : Int), .int .i64 (ki : Int), .int .i64 (kj : Int), .slice AP zs.length cP] := HGP4.out.blk
                    have BF : Blk w18 bf 34 #[vN, .int .i64 (ir : Int)] := HGF4.out.blk
                    have HBL := Lib.hid (Blk.new w18 89 #[.bool kb, .int .i64 (kN : Int), .int .i64 (ki : Int), .int .i64 (kj : Int), .slice AP zs.length cP])
                    have HGF5 := Lib.hid (HGF4.out.via ((Below.refl w18.heap.size w18).al (.cells #[.bool kb, .int .i64 (kN : Int), .int .i64 (ki : Int), .int .i64 (kj : Int), .slice AP zs.length cP] 89)))
                    have HNE := Lib.hid (show ndI (ndF (S) g.rules L' ((kb, kN), ki, kj)) = ((kb, (kN : Int), (ki : Int), (kj : Int)), zs) from by rw [ndI_eq, HZS.out])
                    have HREL := Lib.hid (show NdE.rel (fun b => bf < b ∧ some b ≠ vN.ownBlock) (w18.alloc (.cells #[.bool kb, .int .i64 (kN : Int), .int .i64 (ki : Int), .int .i64 (kj : Int), .slice AP zs.length cP] 89)) ((kb, (kN : Int), (ki : Int), (kj : Int)), AP, zs.length, cP) (ndI (ndF (S) g.rules L' ((kb, kN), ki, kj))) from by
                      rw [HNE.out]
                      exact ⟨rfl, ((HGP4.out.own.toSl (ok' := fun b => bk ≤ b) (fun b _ hb => Nat.le_of_lt hb) (fun b hb => by omega)).al (.cells #[.bool kb, .int .i64 (kN : Int), .int .i64 (ki : Int), .int .i64 (kj : Int), .slice AP zs.length cP] 89)).mono fun b _ hb => ⟨by have := HGF10.out.lt; have := HBK1.out; omega, fun e => by have := (HGF10.out.own.lt b e.symm).2; have := HBK1.out; omega⟩⟩)
                    obtain ⟨ns, hns⟩ : ∃ ns, ns = (L'.take j).map fun k => ndI (ndF (S) g.rules L' k) := ⟨_, rfl⟩
                    have HNX := Lib.hid (show ((L'.take (j + 1)).map fun k => ndI (ndF (S) g.rules L' k)) = ns ++ [ndI (ndF (S) g.rules L' ((kb, kN), ki, kj))] by rw [hns, List.take_add_one, HK.out]; simp)
                    have HNL := Lib.hid (show ns.length ≤ 3400 by rw [hns, List.length_map, List.length_take]; omega)
                    rw [← hns] at HGF5 HGF4
                    clear hns
                    have hnl := HNL.out
                    dsimp only
                    have cBN := BN.cell
                    have fBN := BN.frozen
                    have lBN := BN.lt
                    have cBF := BF.cell
                    have fBF := BF.frozen
                    have lBF := BF.lt
                    go_upto_region 45 with (at_builtin; refine wpList_append_nd _ rfl (.tmp 161) (.tmp 163) rfl (fun x => bf < x) (bf + 1) vN ns.length ns rfl HGF5.out.own w18.heap.size ((kb, (kN : Int), (ki : Int), (kj : Int)), AP, zs.length, cP) (ndI (ndF (S) g.rules L' ((kb, kN), ki, kj))) rfl HBL.out HREL.out (by omega) (Nat.succ_le_of_lt HGF5.out.lt) ?_; intro A19 c19 w19 ho19 hg19 hat19; have BF19 := HGF5.out.blk.grown hg19 (fun e => by have := (HGF5.out.own.lt bf e.symm).1; omega); have cB19 := BF19.cell; have fB19 := BF19.frozen; have lB19 := BF19.lt)
                    have HPU := Lib.hid (HGF5.out.push (x := ndI (ndF (S) g.rules L' ((kb, kN), ki, kj))) ho19 hg19 (o := 0) rfl)
                    clear BN BF cBN fBN lBN cBF fBF lBF BF19 cB19 fB19 lB19 ho19 hg19 hat19
                    generalize w19.setCell ⟨bf, 0, none⟩ (.slice A19 (ns.length + 1) c19) = W20 at *
                    go_wp2_with fail
                    go_roundw
                    case rel => exact ⟨j + 1, _, by go_num, by omega, Lib.hid (by rw [HNX.out]; exact HPU.out)⟩
                    case measure => simp [intOf]; omega
              · obtain rfl : L.length = j := by omega
                have hall : L'.take L.length = L' := List.take_of_length_le (by omega)
                obtain ⟨ns, hns⟩ : ∃ ns, ns = L'.map fun k => ndI (ndF (S) g.rules L' k) := ⟨_, rfl⟩
                have HGF2 := Lib.hid (show GwM NdE 89 34 (fun v => #[v, .int .i64 (ir : Int)]) w7x bf vN ns wr from by have := HGF.out; rw [hall, ← hns] at this; exact this)
                have HNS := Lib.hid hns
                clear hall hns HGF
                obtain ⟨AN, cN, rfl, hcN⟩ := HGF2.out.own.form
                have BF : Blk wr bf 34 #[.slice AN ns.length cN, .int .i64 (ir : Int)] := HGF2.out.blk
                have B8 := HB82.out.via HB9.out
                clear hcN
                have cBF := BF.cell
                have fBF := BF.frozen
                have lBF := BF.lt
                have cB8 := B8.cell
                have fB8 := B8.frozen
                have lB8 := B8.lt
                go_wp2_with fail
                have B2 := ((HB82.out.via HB9.out).set_ 0 (.slice AN ns.length cN)).set_ 1 (.int .i64 (ir : Int))
                simp only [List.setIfInBounds_toArray, List.set_cons_zero, List.set_cons_succ] at B2
                have cc2 := B2.cell
                have hbf := HBFE.out
                have hlt2 := HLT2.out
                have HLT3 := Lib.hid (show w.heap.size < bf from by rw [HBFE.out]; exact HB82.out.lt)
                refine bodyPost_ret (v := .tuple #[.agg #[.slice AN ns.length cN, .int .i64 (ir : Int)], .bool true]) (by simp [results, Tryz.results17, go_sem, cc2]) rfl ⟨_, _, _, rfl, .fits HD.out HND.out HTOT.out, ⟨AN, ns.length, cN, ?_, ?_⟩, ?_⟩
                · show _ = Value.agg #[_, .int .i64 (foI (S) g.rules L' ((false, g.start), 0, n)).1]
                  rw [foI, HIR.out]
                · have h1 := HGF2.out.own.toSl (ok' := fun b => bf ≤ b) (fun b _ hb => Nat.le_of_lt hb) (fun b hb => by omega)
                  have h2 := (h1.agr (Agr.setCell (p := ⟨w.heap.size, 0, none⟩) (.slice AN ns.length cN) fun b hb => by show b ≠ w.heap.size; have := HLT3.out; omega)).agr (Agr.setCell (p := ⟨w.heap.size, 1, none⟩) (.int .i64 (ir : Int)) fun b hb => by show b ≠ w.heap.size; have := HLT3.out; omega)
                  have h3 := h2.mono (ok' := fun b => w.heap.size ≤ b) fun b _ hb => by omega
                  have e : (foI (S) g.rules L' ((false, g.start), 0, n)).2 = ns := by rw [foI, HNS.out]
                  rw [e]
                  exact h3
                · exact ((HBW2.out.trans (HB9.out.mono hlt2)).setCell (p := ⟨w.heap.size, 0, none⟩) (Nat.le_refl _) _).setCell (p := ⟨w.heap.size, 1, none⟩) (Nat.le_refl _) _
          · intro y V w6 cnt1 hlt1 hFy hrg1 hlt2 hg1 hz1 hen
            have HRG1 := Lib.hid hrg1
            have HG6 := Lib.hid (HQ.out.2.1.aside hg1 (by omega) HQ.out.2.2.2.2)
            have HLY := Lib.hid (And.intro hlt1 hFy)
            have HCN := Lib.hid hlt2
            have HRGE := Lib.hid HQ.out.1.left_eq
            obtain ⟨⟨kb, kN⟩, ki, kj⟩ := y
            simp only [kyVal] at hen
            have hal := (Below.refl w6.heap.size w6).al (.cells #[.bool kb, .int .i64 (kN : Int), .int .i64 (ki : Int), .int .i64 (kj : Int)] 68)
            have hbrw : br < w6.heap.size := hrg1.lt.1
            clear hrg1 hg1 hz1 hlt1 hFy hlt2
            go_upto_region 24 with fail
            have HG8 := Lib.hid (HG6.out.via hal)
            have HRG8 := Lib.hid (HRG1.out.via hal)
            have BX := Blk.new w6 68 #[.bool kb, .int .i64 (kN : Int), .int .i64 (ki : Int), .int .i64 (kj : Int)]
            have hbrw8 : br < (w6.alloc (.cells #[.bool kb, .int .i64 (kN : Int), .int .i64 (ki : Int), .int .i64 (kj : Int)] 68)).heap.size := by simp; omega
            clear hen hal
            generalize w6.alloc (.cells #[.bool kb, .int .i64 (kN : Int), .int .i64 (ki : Int), .int .i64 (kj : Int)] 68) = W8 at *
            generalize w6.heap.size = bx at *
            have BA := HG8.out.blk
            have hal := (Below.refl W8.heap.size W8).al (.cells #[.bool kb, .int .i64 (kN : Int), .int .i64 (ki : Int), .int .i64 (kj : Int)] 68)
            have HBY := Lib.hid (Blk.new W8 68 #[.bool kb, .int .i64 (kN : Int), .int .i64 (ki : Int), .int .i64 (kj : Int)])
            have HG9 := Lib.hid (HG8.out.via hal)
            have HRG9 := Lib.hid (HRG8.out.via hal)
            have HL34 := Lib.hid hL34
            have HNO := Lib.hid HQ.out.2.2
            have HBR8 := Lib.hid hbrw8
            clear hal HQ
            have cBX := BX.cell
            have fBX := BX.frozen
            have lBX := BX.lt
            have cBA := BA.cell
            have fBA := BA.frozen
            have lBA := BA.lt
            go_wp2_with (at_builtin; refine wpList_append_sp _ rfl (.tmp 98) (.tmp 100) rfl (fun x => ba < x) (ba + 1) vA L.length L rfl HG9.out.own W8.heap.size ((kb, kN), ki, kj) ((kb, kN), ki, kj) rfl HBY.out rfl (by have := HL34.out; omega) (Nat.succ_le_of_lt HG9.out.lt) ?_; intro A19 c19 w19 ho19 hg19 hat19; have BA19 := HG9.out.blk.grown hg19 (fun e => by have := (HG9.out.own.lt ba e.symm).1; omega); have cA19 := BA19.cell; have fA19 := BA19.frozen; have lA19 := BA19.lt)
            have hbrw := HBR8.out
            have HPU := Lib.hid (HG9.out.push (x := ((kb, kN), ki, kj)) ho19 hg19 (o := 0) rfl)
            have hrF : RngK kyVal F (w19.setCell ⟨ba, 0, none⟩ (.slice A19 (L.length + 1) c19)) br bw (fun z => left z && !decide (z = ((kb, kN), ki, kj))) cnt1 :=
              (HRG9.out.grown hg19 HNO.out.2.2 (fun e => by have := (HG9.out.own.lt bw e.symm).1; have := HLT.out.1; omega)).agr_ (Below.heap_setCell w19 ⟨ba, 0, none⟩ _ br (by show br ≠ ba; omega)) (Below.heap_setCell w19 ⟨ba, 0, none⟩ _ bw (by show bw ≠ ba; have := HLT.out.1; omega))
            have e1 := hrF.left_eq
            have hyn : ((kb, kN), ki, kj) ∉ L := fun hy => by
              have := ((HNO.out.2.1 _).1 hy).2
              rw [HLY.out.1] at this; cases this
            refine ⟨⟨_, cnt1, _, L ++ [((kb, kN), ki, kj)], Lib.hid ⟨hrF, HPU.out, ?_, fun k => ?_, ?_⟩⟩, by rw [HRGE.out, e1]; exact HCN.out⟩
            · rw [List.nodup_append]
              exact ⟨HNO.out.1, by simp, fun a ha b hb e => by rw [List.mem_singleton.1 hb] at e; rw [e] at ha; exact hyn ha⟩
            · rw [List.mem_append, List.mem_singleton, HNO.out.2.1 k]
              by_cases e : k = ((kb, kN), ki, kj)
              · subst e
                simp [HLY.out.2]
              · simp [e]
            · rcases hat19 with e | e
              · rw [e]; exact HNO.out.2.2
              · rw [e]; intro e2; have := Option.some.inj e2
                simp at this; omega
      · rw [List.concat_eq_append] at *
        obtain ⟨va, vc, rfl, hvc⟩ := HQ.out.1.own.form
        obtain ⟨m, hm⟩ : ∃ m, m = S1.length := ⟨_, rfl⟩
        have hsl : (S1 ++ [x]).length = m + 1 := by simp [hm]
        have hm8 : m ≤ 80001 := by have := HQ.out.2.len; omega
        have HGK2 := Lib.hid (show gk = (3400 - M.length) * 90000 + (m + 1) by rw [HGK.out, hsl])
        simp only [hsl] at HQ hvc ⊢
        have hmx : (S1 ++ [x])[m]? = some x := by rw [hm]; simp
        obtain ⟨b1, o1, k0, k, hva, -, hb1, hk, hkk, hcl⟩ := (HQ.out.1.own.toSl (ok' := fun _ => True) (fun _ _ h => h.elim) (fun _ _ => trivial)).at_ (i := m) (by rw [hsl]; omega)
        obtain rfl : k0 = k := hkk
        rw [hmx] at hk
        obtain rfl := Option.some.inj hk
        subst hva
        have hxok := RchK.ok HG.out HSUP.out HROK.out (HQ.out.2.sndS x (by simp))
        obtain ⟨⟨kb, kN⟩, ki, kj⟩ := x
        have d1 := hcl 0 _ rfl
        have d2 := hcl 1 _ rfl
        have d3 := hcl 2 _ rfl
        have d4 := hcl 3 _ rfl
        simp only [KyE, Nat.add_zero] at d1 d2 d3 d4
        have m0 : (0 : Int) ≤ (m : Int) := by omega
        have m1 : (m : Int) < (m : Int) + 1 := by omega
        have HXOK := Lib.hid hxok
        have HM := Lib.hid hm
        clear hcl hk hmx hxok hsl hm HGK
        have hal := (Below.refl wr.heap.size wr).al (.cells #[.bool kb, .int .i64 (kN : Int), .int .i64 (ki : Int), .int .i64 (kj : Int)] 68)
        have HQ7 := Lib.hid ((HQ.out.1.pop HM.out.symm).via hal)
        have HBX := Lib.hid (Blk.new wr 68 #[.bool kb, .int .i64 (kN : Int), .int .i64 (ki : Int), .int .i64 (kj : Int)])
        have HST := Lib.hid HQ.out.2
        clear hal HQ hb1
        go_upto_region 8 with fail
        have BX := HBX.out
        generalize wr.alloc (.cells #[.bool kb, .int .i64 (kN : Int), .int .i64 (ki : Int), .int .i64 (kj : Int)] 68) = W7 at *
        generalize wr.heap.size = bx at *
        obtain ⟨kl, hkl⟩ : ∃ l, keyOf Tryz.prog 68 (kyVal ((kb, kN), ki, kj)) = some l := by
          have h1 := HXOK.out.ok HG.out hn
          have h2 := h1.1
          have h3 := h1.2.1
          have h4 := h1.2.2
          simp only at h2 h3 h4
          exact span_k (kb, kN) ki kj (by show kN ≤ 1000; omega) (by omega) (by omega)
        have HKL := Lib.hid hkl
        have hlk := HQ7.out.pk.look true span_keyed Tryz.underlying104 (z := .slice none 0 0) (by kernel_rfl) ((kb, kN), ki, kj) hkl
        simp only [if_true, kyVal] at hlk
        clear hkl
        by_cases hxm : ((kb, kN), ki, kj) ∈ M
        · obtain ⟨V, hV⟩ := Option.ne_none_iff_exists'.1 ((HQ7.out.fok _).2 hxm)
          have HXM := Lib.hid hxm
          rw [hV] at hlk
          simp only [Option.getD_some, Option.isSome_some] at hlk
          clear hV hxm
          have cBX := BX.cell
          have fBX := BX.frozen
          have lBX := BX.lt
          go_wp2_with fail
          go_roundg ((3400 - M.length) * 90000 + m)
          case measure => rw [HGK2.out]; omega
          case rel => exact ⟨M, S1, left, F, rfl, Lib.hid ⟨HQ7.out, HST.out.skip HXM.out⟩, by rw [HM.out]⟩
        · have hF : F ((kb, kN), ki, kj) = none := by
            cases hf : F ((kb, kN), ki, kj) with
            | none => rfl
            | some V => exact absurd ((HQ7.out.fok _).1 (by rw [hf]; exact fun h => by cases h)) hxm
          have HXM := Lib.hid hxm
          rw [hF] at hlk
          simp only [Option.getD_none, Option.isSome_none] at hlk
          clear hF hxm
          have cBX := BX.cell
          have fBX := BX.frozen
          have lBX := BX.lt
          go_wp2_with fail
          clear cBX fBX lBX
          clear BX hlk
          refine (ways_c ok g Ag ng cg A n c bs bm S ((kb, kN), ki, kj) left W7 HG.out (HO.out.via HQ7.out.bel) (HR.out.via HQ7.out.bel) ⟨HXOK.out.2.1, Nat.le_trans HXOK.out.2.2 hn⟩).mono ?_
          rintro e w8 ⟨hb8, hW⟩
          have HQ8 := Lib.hid (HQ7.out.via hb8)
          by_cases hle : (packsF S g.rules ((kb, kN), ki, kj)).length ≤ left
          · rw [if_pos hle] at hW
            obtain ⟨Ap, cp, rfl, hop⟩ := hW
            obtain ⟨pl, hpl⟩ : ∃ pl, pl = (packsF S g.rules ((kb, kN), ki, kj)).length := ⟨_, rfl⟩
            rw [← hpl] at hle
            simp only [← hpl] at hop ⊢
            obtain ⟨l2, hl2⟩ : ∃ l2, l2 = left - pl := ⟨_, rfl⟩
            have hl3 : left = l2 + pl := by omega
            have HLL := Lib.hid hl3
            have hsub : (left : Int) - (pl : Int) = (l2 : Int) := by omega
            have hl0 : (0 : Int) ≤ (l2 : Int) := by omega
            have hpl2 : pl ≤ 20000 := by omega
            have HPL := Lib.hid hpl
            have HOP := Lib.hid hop
            have HPK := Lib.hid HQ8.out.pk
            have HRM := Lib.hid (wsm_room HQ8.out HMOK.out HG.out hn)
            have BX := HBX.out.via hb8
            have HS78 := Lib.hid (And.intro HQ7.out.pk.lt (And.intro HQ7.out.fb.lt HQ7.out.own.lt))
            have HSZ7 := Lib.hid (And.intro HQ7.out.size hb8.size)
            clear hl2 hl3 hpl hop hle HQ7 hb8
            have cBX := BX.cell
            have fBX := BX.frozen
            have lBX := BX.lt
            go_wp2_with (at_mapUpdate; refine wpList_put_K rfl span_keyed 104 Tryz.underlying104 kyVal_inj _ _ _ rfl bw ((kb, kN), ki, kj) (.slice Ap pl cp) rfl rfl rfl HPK.out HKL.out HRM.out ?_; intro w9 hp9 hg9 hz9)
            have hokB : ∀ b, W7.heap.size ≤ b → okB w.heap.size w.heap.size bw (.slice (some ⟨b1, o1, none⟩) m vc) b := fun b hb => ⟨by have := HSZ7.out.1; omega, by have := HS78.out.2.1; omega, by have := HS78.out.1; omega, fun e => by have := HS78.out.2.2 b e.symm; omega⟩
            have hRS := HOP.out.toSl (ok' := okB w.heap.size w.heap.size bw (.slice (some ⟨b1, o1, none⟩) m vc)) (fun b _ hb => hokB b hb) hokB
            rw [HPL.out] at hRS hp9
            have HW9 := Lib.hid (HQ8.out.putp hRS hp9 hg9)
            obtain ⟨F2, hF2⟩ : ∃ F2 : Ky → Option Value, F2 = fun k => if k = ((kb, kN), ki, kj) then some (.slice Ap (packsF S g.rules ((kb, kN), ki, kj)).length cp) else F k := ⟨_, rfl⟩
            rw [← hF2] at HW9
            have HRS9 := Lib.hid (hRS.agr (Agr.grown hg9 fun b hb e => hb.2.2.1 (Option.some.inj e)))
            rw [← HPL.out] at HRS9
            have HTK := Lib.hid (HST.out.take HXM.out (fun u hu => (HG.out.right u hu).1) (left' := l2) (by rw [HLL.out, HPL.out]))
            have HKN := Lib.hid (show (kidsF S g.rules ((kb, kN), ki, kj)).length ≤ 4 * pl by rw [HPL.out]; exact kids_len4 fun u hu => (HG.out.right u hu).1)
            have HML := Lib.hid (show M.length + 1 ≤ 3400 by
              have := nodup_len HTK.out.nodup (fun k hk => RchK.ok HG.out HSUP.out HROK.out (HTK.out.sndM k hk)) HG.out hn
              simpa using this)
            clear hp9 hg9 hz9 hokB hRS hF2 HPK HRM HQ8 HOP BX hsub hl0 HS78 HSZ7 HBX HKL hvc m1
            have hm0 := HM.out
            generalize (Value.slice (some ⟨b1, o1, none⟩) m vc) = va at *
            obtain ⟨wo, rfl⟩ : ∃ wo : World, wo = wr := ⟨_, rfl⟩
            go_loopw [5, 83] (fun v x wr2 => ∃ m2 : Nat, x = .int .i64 (m2 : Int) ∧ m2 ≤ pl ∧ Hid (WsM w g.rules S w.heap.size bw (S1 ++ ((packsF S g.rules ((kb, kN), ki, kj)).take m2).flatMap (·.2)) v (M ++ [((kb, kN), ki, kj)]) F2 wr2 ∧ Sl PkE (okB w.heap.size w.heap.size bw v) wr2 Ap pl cp (packsF S g.rules ((kb, kN), ki, kj)))) (fun _ x _ => pl - (intOf x).toNat)
            case atStart => exact ⟨0, rfl, Nat.zero_le _, Lib.hid ⟨by simpa using HW9.out, HRS9.out⟩⟩
            case round =>
              obtain ⟨m2, rfl, hmp, HR2⟩ := hrel
              clear HW9 HRS9
              obtain ⟨va2, vc2, rfl, hvc2⟩ := HR2.out.1.own.form
              by_cases hml : m2 < pl
              · obtain ⟨b2, o2, ⟨pr, KA, kn, kc⟩, ⟨pr', ks⟩, hAp, -, hb2, hps, ⟨hp1, hp2⟩, hcl⟩ := HR2.out.2.at_ hml
                simp only at hp1 hp2
                obtain rfl : pr = pr' := hp1
                subst hAp
                have d1 := hcl 0 _ rfl
                have d2 := hcl 1 _ rfl
                simp only [PkE, Nat.add_zero] at d1 d2
                have m0 : (0 : Int) ≤ (m2 : Int) := by omega
                have m1 : (m2 : Int) < (pl : Int) := by omega
                have hal := (Below.refl wr.heap.size wr).al (.cells #[.int .i64 (pr : Int), .slice KA kn kc] 110)
                have BP := Blk.new wr 110 #[.int .i64 (pr : Int), .slice KA kn kc]
                have HW8 := Lib.hid (HR2.out.1.via hal)
                have HR8 := Lib.hid (HR2.out.2.via hal)
                have HKS := Lib.hid ((hp2.via hal).mono (ok' := fun b => some b ≠ (Value.slice va2 (S1 ++ ((packsF S g.rules ((kb, kN), ki, kj)).take m2).flatMap (·.2)).length vc2).ownBlock) fun b _ hb => hb.2.2.2)
                have hkn := hp2.len
                have HNX := Lib.hid (kids_next hps)
                obtain ⟨L2, hL2⟩ : ∃ L2, L2 = S1 ++ ((packsF S g.rules ((kb, kN), ki, kj)).take m2).flatMap (·.2) := ⟨_, rfl⟩
                have hll : L2.length + kn ≤ 1000000 := by
                  have h1 := HKN.out
                  have h2 : (((packsF S g.rules ((kb, kN), ki, kj)).take (m2 + 1)).flatMap (·.2)).length ≤ (kidsF S g.rules ((kb, kN), ki, kj)).length := by
                    unfold kidsF
                    conv => rhs; rw [← List.take_append_drop (m2 + 1) (packsF S g.rules ((kb, kN), ki, kj)), List.flatMap_append]
                    simp
                  rw [HNX.out] at h2
                  simp only [List.length_append] at h2
                  rw [hL2, List.length_append]
                  omega
                have HNL := Lib.hid (show S1 ++ ((packsF S g.rules ((kb, kN), ki, kj)).take (m2 + 1)).flatMap (·.2) = L2 ++ ks by rw [HNX.out, hL2, List.append_assoc])
                rw [← hL2] at HW8 HR8 HKS ⊢
                have HLL2 := Lib.hid hll
                have HSZ := Lib.hid HW8.out.size
                have HKN2 := Lib.hid hkn
                clear hcl hp2 hps hal HR2 hb2 hL2 hvc2 hkn hll
                go_upto_region 18 with fail
                clear d1 d2
                generalize wr.alloc (.cells #[.int .i64 (pr : Int), .slice KA kn kc] 110) = W8 at *
                generalize wr.heap.size = bq at *
                have cBP := BP.cell
                have fBP := BP.frozen
                have lBP := BP.lt
                go_wp2_with (at_builtin; refine wpList_appends_sp _ rfl (.tmp 87) (.tmp 89) rfl w.heap.size (.slice va2 L2.length vc2) L2.length L2 rfl HW8.out.own KA kn kc ks rfl HKS.out HLL2.out HSZ.out ?_; intro A12 c12 w12 ho12 hg12 hat12)
                exact ⟨⟨_, _, _, ⟨m2 + 1, by go_num, by omega, Lib.hid ⟨by rw [HNL.out]; exact HW8.out.push (by rw [HKN2.out]; exact ho12) hg12 hat12, HR8.out.okPush hg12 hat12⟩⟩, rfl, rfl, rfl⟩, by simp [intOf]; omega⟩
              · obtain rfl : pl = m2 := by omega
                have HALL := Lib.hid (show ((packsF S g.rules ((kb, kN), ki, kj)).take pl).flatMap (·.2) = kidsF S g.rules ((kb, kN), ki, kj) by rw [List.take_of_length_le (by rw [HPL.out]; exact Nat.le_refl _)]; rfl)
                go_wp2_with fail
                go_roundg ((3400 - (M.length + 1)) * 90000 + (S1.length + (kidsF S g.rules ((kb, kN), ki, kj)).length))
                case measure => rw [HGK2.out]; have := HKN.out; have := HML.out; have := HM.out; omega
                case rel => exact ⟨M ++ [((kb, kN), ki, kj)], _, l2, F2, rfl, Lib.hid ⟨HR2.out.1, by rw [HALL.out]; exact HTK.out⟩, by rw [HALL.out]; simp⟩
          · rw [if_neg hle] at hW
            subst hW
            have HLE := Lib.hid hle
            clear hle
            have BF := HQ8.out.fb
            have cBF := BF.cell
            have fBF := BF.frozen
            have lBF := BF.lt
            dsimp only
            go_wp2_with fail
            have B2 := (BF.set_ 0 (.slice none 0 0)).set_ 1 (.int .i64 0)
            simp only [List.setIfInBounds_toArray, List.set_cons_zero, List.set_cons_succ] at B2
            have cc2 := B2.cell
            refine bodyPost_ret (v := .tuple #[.agg #[.slice none 0 0, .int .i64 0], .bool false]) (by simp [results, Tryz.results17, go_sem, cc2]) rfl ⟨_, _, _, rfl, .large HD.out (fun L' hL' => HST.out.large HXM.out (by have := HLE.out; omega) L' hL'), FoR.nil _ _ _, ?_⟩
            exact (HQ8.out.bel.setCell (p := ⟨w.heap.size, 0, none⟩) (Nat.le_refl _) _).setCell (p := ⟨w.heap.size, 1, none⟩) (Nat.le_refl _) _
end Go.Proofs.YtbfcnfgkccgbiaaGreatDoor

