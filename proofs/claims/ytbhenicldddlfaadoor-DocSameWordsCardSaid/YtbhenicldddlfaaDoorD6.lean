/- Texts DK, laid together. -/
import Derived.Test.YtbhenicldddlfaaDoorD5
import Derived.Deep.CutBlock



namespace Go.Proofs.YtbhenicldddlfaaDoor
open Go.RowKit

theorem Ints.two (w : World) (x y : Int) (t : TypeId) : Ints (w.alloc (.cells #[.int .i64 x, .int .i64 y] t)) (some ⟨w.heap.size, 0, none⟩) 2 2 [x, y] :=
  ⟨rfl, Nat.le_refl _, fun _ => ⟨w.heap.size, 0, rfl, fun i hi => by
    rw [Nat.zero_add]
    match i, hi with
    | 0, _ => rw [World.cell?_alloc_new]; rfl
    | 1, _ => rw [World.cell?_alloc_new]; rfl⟩⟩
theorem cmp2_le (a b c d : Nat) : orL [cmpI (a : Int) (b : Int), cmpI (c : Int) (d : Int)] ≤ 0 ↔ (a < b ∨ a = b ∧ c ≤ d) := by
  simp only [orL, cmpI]
  repeat' split
  all_goals omega
def spotCode (x : Nat × Nat) : Nat := x.1 * 10000001 + x.2
theorem Memo.code {W : Nat} {ops : List Opr} {f : Nat × Nat → Option Value} (h : Memo W ops f) {y : Nat × Nat} (hy : f y ≠ none) : spotCode y < 5000000000 := by
  obtain ⟨v, hv⟩ := Option.ne_none_iff_exists'.1 hy
  obtain ⟨-, h1, h2⟩ := h y v hv
  unfold spotCode; omega
theorem Memo.inj {W : Nat} {ops : List Opr} {f : Nat × Nat → Option Value} (h : Memo W ops f) {x y : Nat × Nat} (hx : f x ≠ none) (hy : f y ≠ none) (e : spotCode x = spotCode y) : x = y := by
  obtain ⟨v, hv⟩ := Option.ne_none_iff_exists'.1 hx
  obtain ⟨u, hu⟩ := Option.ne_none_iff_exists'.1 hy
  obtain ⟨-, h1, h2⟩ := h x v hv
  obtain ⟨-, h3, h4⟩ := h y u hu
  unfold spotCode at e
  exact Prod.ext (by omega) (by omega)
/-- find under way: the setter's state, and the blocks of the spot and of the result -/
structure FM (W : Nat) (ops : List Opr) (bs bm B base : Nat) (A : Option Addr) (c : Nat) (w : World) (i col : Nat) (wt : World) : Prop where
  fs : FS W ops bs bm B A c wt
  agr : Agr (fun b => b ≠ bm) w wt
  bel : Below base w wt
  sz : w.heap.size + 2 ≤ wt.heap.size
  spot : Blk wt w.heap.size 52 #[.int .i64 (i : Int), .int .i64 (col : Int)]
  res : Blk wt (w.heap.size + 1) 66 #[.int .i64 0, .int .i64 0, .bool false]
section
variable {W : Nat} {ops : List Opr} {bs bm B base : Nat} {A : Option Addr} {c i col : Nat} {w wt wa : World}
theorem FM.lt (h : FM W ops bs bm B base A c w i col wt) (hB : B ≤ w.heap.size) : bm < w.heap.size := Nat.lt_of_lt_of_le h.fs.lt.2 hB
theorem FM.via (h : FM W ops bs bm B base A c w i col wt) (hb : Below wt.heap.size wt wa) (hB : base ≤ w.heap.size) : FM W ops bs bm B base A c w i col wa :=
  ⟨h.fs.via hb, h.agr.trans (Agr.below hb), h.bel.trans (hb.mono (by have := h.sz; omega)), Nat.le_trans h.sz hb.size, h.spot.via hb, h.res.via hb⟩
theorem FM.al (h : FM W ops bs bm B base A c w i col wt) (hB : base ≤ w.heap.size) (o : Obj) : FM W ops bs bm B base A c w i col (wt.alloc o) := h.via ((Below.refl _ _).alloc (Nat.le_refl _) o) hB
theorem FM.dr (h : FM W ops bs bm B base A c w i col wt) : FM W ops bs bm B base A c w i col wt.drew := ⟨h.fs.dr, h.agr, h.bel.drew, h.sz, h.spot, h.res⟩
theorem FM.far (h : FM W ops bs bm B base A c w i col wt) (hB : B ≤ w.heap.size) (hb : base ≤ w.heap.size) {p : Addr} (hp : w.heap.size + 2 ≤ p.block) (u : Value) : FM W ops bs bm B base A c w i col (wt.setCell p u) :=
  ⟨h.fs.far (by omega) u, h.agr.newCell (by omega) u, h.bel.setCell (by omega) u, by simpa using h.sz, h.spot.far (by omega) u, h.res.far (by omega) u⟩
theorem FM.setV (h : FM W ops bs bm B base A c w i col wt) (hB : B ≤ w.heap.size) (hb : base ≤ w.heap.size) {r : Nat} (hr : w.heap.size + 2 ≤ r) (v : Vl) : FM W ops bs bm B base A c w i col (World.setV wt r v) :=
  ((h.far hB hb hr _).far hB hb hr _).far hB hb hr _
theorem FM.call (h : FM W ops bs bm B base A c w i col wt) (hB : B ≤ w.heap.size) (h1 : FS W ops bs bm B A c wa) (h2 : Agr (fun b => b ≠ bm) wt wa) (h3 : wt.heap.size ≤ wa.heap.size) (h4 : Below base wt wa) : FM W ops bs bm B base A c w i col wa :=
  ⟨h1, h.agr.trans h2, h.bel.trans h4, Nat.le_trans h.sz h3, h.spot.agr h2 (by have := h.lt hB; show _ ≠ _; omega), h.res.agr h2 (by have := h.lt hB; show _ ≠ _; omega)⟩
end
theorem Blk.setV {w : World} {r : Nat} {t : TypeId} {a b c : Value} (h : Blk w r t #[a, b, c]) (v : Vl) : Blk (World.setV w r v) r t #[.int .i64 (v.ex : Int), .int .i64 (v.ln : Int), .bool v.fl] := by
  have := ((h.set_ 0 (.int .i64 (v.ex : Int))).set_ 1 (.int .i64 (v.ln : Int))).set_ 2 (.bool v.fl)
  simpa [World.setV] using this
theorem Agr.setV_ {ok : Nat → Prop} {w w' : World} (h : Agr ok w w') {r : Nat} (hr : ∀ b, ok b → b ≠ r) (v : Vl) : Agr ok w (World.setV w' r v) :=
  ((h.trans (Agr.setCell _ hr)).trans (Agr.setCell _ hr)).trans (Agr.setCell _ hr)

theorem grown_bel {w0 w w' : World} {base g : Nat} (h : Below base w0 w) (hg : w.grownBy w' (some g)) (hb : base ≤ g) (hs : base ≤ w.heap.size) : Below base w0 w' :=
  h.trans ⟨hg.os, hg.tape, hg.output, hg.size, fun k hk => hg.block k (by omega) (by simp; omega)⟩
/-- the end: what was found is remembered and handed back -/
theorem FM.fin {W : Nat} {ops : List Opr} {bs bm B base : Nat} {A : Option Addr} {c i col : Nat} {w wt wm : World} (h : FM W ops bs bm B base A c w i col wt) (hB : B ≤ w.heap.size) (hb : base ≤ bm) (v : Vl) (hv : v = findV W ops i col) (hi : i < 400) (hcol : col ≤ 10000000)
    {f : Nat × Nat → Option Value} (hm : Memo W ops f) (hk : MapK Tryd.prog 52 kk wm bm (fun x => if x = (i, col) then some (vlVal v) else f x)) (hg : wt.drew.grownBy wm (some bm)) (hs : wm.heap.size = wt.drew.heap.size) :
    FindP W ops bs bm B base A c i col w (.returned (vlVal v)) (World.setV wm (w.heap.size + 1) v) := by
  have hlt := h.lt hB
  have hz := h.sz
  have hne := h.fs.ne
  have hs' : wm.heap.size = wt.heap.size := hs
  have hfs : FS W ops bs bm B A c wm := ⟨h.fs.dr.str.grown hg (by simpa using hne), h.fs.dr.sl.agr (Agr.grown hg (by rintro b ⟨-, h1⟩; simpa using h1)), ⟨_, hk, fun x u hx => by
    split at hx
    · rename_i hx'
      subst hx'
      simp only [Option.some.injEq] at hx
      subst hx
      exact ⟨by rw [hv], hi, hcol⟩
    · exact hm x u hx⟩, hne, h.fs.lt, by have := h.fs.le; omega⟩
  have hag : Agr (fun b => b ≠ bm) w wm := h.dr.agr.trans (Agr.grown hg (by intro b hb; simpa using hb))
  exact ⟨by rw [hv], hfs.setV (by omega) v, hag.setV (by omega) v, by rw [size_setV]; omega, below_setV (grown_bel h.dr.bel hg hb (show base ≤ wt.heap.size by omega)) (by omega) v⟩
set_option maxRecDepth 100000 in
set_option maxHeartbeats 8000000 in
theorem find_n (W : Nat) (hW : W ≤ 1000) (ops : List Opr) (ho : OpsOk ops) (hl : ops.length ≤ 400) (bs bm B base : Nat) (hbb : base ≤ bm) (A : Option Addr) (c : Nat) (m : Nat) : ∀ (i col : Nat) (w : World), ops.length - i < m → i ≤ ops.length → col ≤ 24000 * (i + 1) → FS W ops bs bm B A c w →
    Calls Tryd.prog 24 #[.pointer (some ⟨bs, 0, none⟩), .agg #[.int .i64 (i : Int), .int .i64 (col : Int)]] w (FindP W ops bs bm B base A c i col w) := by
  induction m with
  | zero => intro i col w h; omega
  | succ m ih =>
    intro i col w hm hi hcol hF
    have hBl := hF.le
    have hlt := hF.lt
    have hB := ((Below.refl w.heap.size w).al (.cells #[.int .i64 (i : Int), .int .i64 (col : Int)] 52)).al (.cells #[.int .i64 0, .int .i64 0, .bool false] 66)
    have B3 := (Blk.new w 52 #[.int .i64 (i : Int), .int .i64 (col : Int)]).al (.cells #[.int .i64 0, .int .i64 0, .bool false] 66)
    have B4 := Blk.new1 w (.cells #[.int .i64 (i : Int), .int .i64 (col : Int)] 52) 66 #[.int .i64 0, .int .i64 0, .bool false]
    have HF := Lib.hid (hF.via hB)
    have HB := Lib.hid hB
    have hz : w.heap.size + 2 ≤ ((w.alloc (.cells #[.int .i64 (i : Int), .int .i64 (col : Int)] 52)).alloc (.cells #[.int .i64 0, .int .i64 0, .bool false] 66)).heap.size := by simp
    have HFW := Lib.hid hF
    clear hB hF
    go_enter Tryd.func24, Tryd.ntmps24
    go_upto_region 1 with fail
    generalize (w.alloc (.cells #[.int .i64 (i : Int), .int .i64 (col : Int)] 52)).alloc (.cells #[.int .i64 0, .int .i64 0, .bool false] 66) = W1 at *
    have Bs := HF.out.str
    have cB3 := B3.cell
    have fB3 := B3.frozen
    have lB3 := B3.lt
    have cBs := Bs.cell
    have fBs := Bs.frozen
    have lBs := Bs.lt
    by_cases hie : i = ops.length
    · have hbe : ((i : Int) == (ops.length : Int)) = true := by simp; omega
      have HIE := Lib.hid hie
      clear hie
      go_region
      clear cB3 fB3 lB3 cBs fBs lBs
      replace HF := Lib.hid HF.out.dr
      replace B3 := B3.dr
      replace B4 := B4.dr
      replace HB := Lib.hid HB.out.dr
      replace hz : w.heap.size + 2 ≤ W1.drew.heap.size := hz
      clear Bs
      generalize W1.drew = W2 at *
      have cB3 := B3.cell
      have fB3 := B3.frozen
      have lB3 := B3.lt
      have cB4 := B4.cell
      have fB4 := B4.frozen
      have lB4 := B4.lt
      go_wp2_with fail
      exact bodyPost_ret (v := vlVal ⟨0, 0, false⟩) (by simp [results, Tryd.results24, go_sem, vlVal, cB4]) rfl (FindP.end HF.out (Agr.below HB.out) (by omega) (HB.out.mono (by omega)) (by omega) hBl _ (findV_end (by have := HIE.out; omega)).symm)
    · have hbe : ((i : Int) == (ops.length : Int)) = false := by simp; omega
      go_region
      clear cB3 fB3 lB3 cBs fBs lBs
      replace HF := Lib.hid HF.out.dr
      replace B3 := B3.dr
      replace B4 := B4.dr
      replace Bs := Bs.dr
      replace HB := Lib.hid HB.out.dr
      replace hz : w.heap.size + 2 ≤ W1.drew.heap.size := hz
      go_upto_region 3 with fail
      generalize W1.drew = W2 at *
      obtain ⟨f, hmp, hmemo⟩ := HF.out.mp
      obtain ⟨kl, hkl⟩ := kk_key (i, col) (by simp only; omega) (by simp only; omega)
      have hlk1 := MapK.look (w := W2.drew) hmp.dr true spot_keyed Tryd.underlying45 (value_zero _) (i, col) hkl
      have hlk2 := MapK.look (w := (W2.alloc (.cells #[.int .i64 0, .int .i64 0, .bool false] 66)).drew) (hmp.al _).dr true spot_keyed Tryd.underlying45 (value_zero _) (i, col) hkl
      simp only [if_true, kk] at hlk1 hlk2
      have B5 := Blk.new W2 66 #[.int .i64 0, .int .i64 0, .bool false]
      cases hf : f (i, col) with
      | some v =>
        obtain ⟨hv, -, -⟩ := hmemo _ _ hf
        simp only at hv
        rw [hf] at hlk1 hlk2
        simp only [Option.getD_some, Option.isSome_some, hv, vlVal] at hlk1 hlk2
        clear hf hkl hmemo hmp hv
        have cB3 := B3.cell
        have fB3 := B3.frozen
        have lB3 := B3.lt
        have cB4 := B4.cell
        have fB4 := B4.frozen
        have lB4 := B4.lt
        have cBs := Bs.cell
        have fBs := Bs.frozen
        have lBs := Bs.lt
        have cB5 := B5.cell
        have fB5 := B5.frozen
        have lB5 := B5.lt
        go_region
        all_goals
          go_wp2_with fail
          exact bodyPost_ret (v := vlVal (findV W ops i col)) (by simp [results, Tryd.results24, go_sem, vlVal, cB4, lB4]) rfl (FindP.end2 HF.out (Agr.below HB.out) (by omega) (HB.out.mono (by omega)) (by omega) hBl _ rfl _)
      | none =>
        rw [hf] at hlk1 hlk2
        simp only [Option.getD_none, Option.isSome_none] at hlk1 hlk2
        clear hf hkl hmemo hmp
        have cB3 := B3.cell
        have fB3 := B3.frozen
        have lB3 := B3.lt
        have cBs := Bs.cell
        have fBs := Bs.frozen
        have lBs := Bs.lt
        have cB5 := B5.cell
        have fB5 := B5.frozen
        have lB5 := B5.lt
        go_cut [6] (fun s6 wx => s6 = .bool false ∧ Below W2.heap.size W2 wx)
        case first =>
          as_aux_lemma =>
          go_region
          all_goals
            go_wp2_with fail
            go_meet
            exact ⟨rfl, ((Below.refl W2.heap.size W2).al _).dr⟩
        case rest =>
        as_aux_lemma =>
        obtain ⟨rfl, hcut⟩ := hcut
        clear cB3 fB3 lB3 cBs fBs lBs cB5 fB5 lB5
        replace HF := Lib.hid (HF.out.via hcut)
        replace B3 := B3.via hcut
        replace B4 := B4.via hcut
        replace Bs := Bs.via hcut
        replace HB := Lib.hid (HB.out.via hcut)
        replace hz : w.heap.size + 2 ≤ wc.heap.size := Nat.le_trans hz hcut.size
        clear hcut hlk1 hlk2 B5
        clear W2
        have hil : i < ops.length := by omega
        obtain ⟨b1, o1, r, o, rfl, hob, hb1, hy, hxy, hc⟩ := HF.out.sl.at_ hil
        obtain rfl : r = o := hxy
        obtain ⟨ot, oi, og, oc, oe⟩ := r
        have c0 := hc 0 _ rfl
        have c1 := hc 1 _ rfl
        have c2 := hc 2 _ rfl
        have c3 := hc 3 _ rfl
        have c4 := hc 4 _ rfl
        simp only [OpE, Nat.add_zero] at c0 c1 c2 c3 c4
        have HY := Lib.hid hy
        obtain ⟨ot1, oi1, oi2, of1⟩ := ho i _ hy
        simp only at ot1 oi1 oi2 of1
        have i0 : (0 : Int) ≤ (i : Int) := by omega
        have i1 : (i : Int) < (ops.length : Int) := by omega
        clear hc hy hob
        have cB3 := B3.cell
        have fB3 := B3.frozen
        have lB3 := B3.lt
        have cBs := Bs.cell
        have fBs := Bs.frozen
        have lBs := Bs.lt
        go_upto_region 6 with fail
        go_region
        clear cB3 fB3 lB3 cBs fBs lBs
        clear c0 c1 c2 c3 c4 Bs
        have hB6 := ((Below.refl wc.heap.size wc).al (.cells #[.string ot, .int .i64 oi, .bool og, .bool oc, .int .i64 (oe : Int)] 49)).dr
        have B7 := (Blk.new wc 49 #[.string ot, .int .i64 oi, .bool og, .bool oc, .int .i64 (oe : Int)]).dr
        have hbw : base ≤ w.heap.size := by omega
        have HM := Lib.hid ((FM.mk HF.out (Agr.below HB.out) (HB.out.mono hbw) hz B3 B4 : FM W ops bs bm B base (some ⟨b1, o1, none⟩) c w i col wc).via hB6 hbw)
        have hz6 : wc.heap.size + 1 ≤ (wc.alloc (.cells #[.string ot, .int .i64 oi, .bool og, .bool oc, .int .i64 (oe : Int)] 49)).drew.heap.size := by simp [go_sem]
        have hz7 : w.heap.size + 2 ≤ wc.heap.size := hz
        clear HF HB B3 B4 hb1 hB6 hz HFW
        generalize (wc.alloc (.cells #[.string ot, .int .i64 oi, .bool og, .bool oc, .int .i64 (oe : Int)] 49)).drew = W6 at *
        generalize wc.heap.size = b7 at *
        clear wc
        have B8 := Blk.new W6 66 #[.int .i64 0, .int .i64 0, .bool false]
        replace B7 := B7.al (.cells #[.int .i64 0, .int .i64 0, .bool false] 66)
        replace HM := Lib.hid (HM.out.al hbw (.cells #[.int .i64 0, .int .i64 0, .bool false] 66))
        have B3 := HM.out.spot
        obtain ⟨i2, hi2⟩ : ∃ i2, i2 = i + 1 := ⟨_, rfl⟩
        have wi : IntKind.i64.wrap ((i : Int) + 1) = (i2 : Int) := (IntWalk.i64_in _ (by omega)).trans (by omega)
        obtain ⟨to_, hto⟩ : ∃ to_, to_ = col + ot.size := ⟨_, rfl⟩
        have wt : IntKind.i64.wrap ((col : Int) + (ot.size : Int)) = (to_ : Int) := (IntWalk.i64_in _ (by omega)).trans (by omega)
        have hi3 : i2 ≤ ops.length := by omega
        have hi4 : ops.length - i2 < m := by omega
        have hto2 : to_ ≤ 24000 * (i2 + 1) := by omega
        have hto3 : to_ ≤ 1000000000 := by omega
        have hcol3 : col ≤ 1000000000 := by omega
        have hcol2 : col ≤ 24000 * (i2 + 1) := by omega
        have HTO := Lib.hid hto
        have HI2 := Lib.hid hi2
        have hot : (ot.size : Int) ≤ 24000 := by omega
        have hmb : bm < w.heap.size := by omega
        clear hto hi2
        have hW3 : W ≤ 1000000000 := by omega
        go_upto_block 0 with fail
        generalize hW7 : W6.alloc (.cells #[.int .i64 0, .int .i64 0, .bool false] 66) = W7 at *
        have hz8 : b7 + 2 ≤ W7.heap.size := by rw [← hW7]; simp; omega
        clear hW7
        generalize W6.heap.size = b8 at *
        clear W6
        go_cut [9] (fun _ wx => ∃ v : Vl, v = findV W ops i col ∧ FM W ops bs bm B base (some ⟨b1, o1, none⟩) c w i col wx ∧ Blk wx b8 66 #[.int .i64 (v.ex : Int), .int .i64 (v.ln : Int), .bool v.fl])
        case rest =>
          as_aux_lemma =>
          obtain ⟨⟨ve, vl, vf⟩, hv, hm1, B8⟩ := hcut
          simp only at B8
          have HM1 := Lib.hid hm1
          have HV := Lib.hid hv
          clear hm1 hv B3 B7 HM hz8 ih HTO
          generalize wc = Wt at *
          go_upto_region 25 with fail
          have B3 := HM1.out.spot
          have Bs := HM1.out.fs.str
          obtain ⟨f, hmp, hmemo⟩ := HM1.out.fs.mp
          obtain ⟨kl, hkl⟩ := kk_key (i, col) (by simp only; omega) (by simp only; omega)
          obtain ⟨wm, hrun, hmk, hgr, hsz⟩ := MapK.store (w := Wt.drew) hmp.dr spot_keyed Tryd.underlying45 kk_inj (i, col) (vlVal ⟨ve, vl, vf⟩) hkl (fun es clock he => Nat.lt_of_le_of_lt (hmp.room spotCode 5000000000 (fun y hy => hmemo.code hy) (fun x y hx hy => hmemo.inj hx hy) es clock he) (by simp [maxLen]))
          simp only [kk, vlVal] at hrun
          have HFIN := Lib.hid (HM1.out.fin hBl hbb ⟨ve, vl, vf⟩ HV.out (by omega) (by omega) hmemo hmk hgr hsz)
          have B4 := HM1.out.res.dr.grown hgr (by simp; omega)
          have B9 := B8.dr.grown hgr (by simp; omega)
          clear hmp hmemo hkl hmk hgr hsz
          have cB3 := B3.cell
          have fB3 := B3.frozen
          have lB3 := B3.lt
          have cBs := Bs.cell
          have fBs := Bs.frozen
          have lBs := Bs.lt
          have cB8 := B8.cell
          have fB8 := B8.frozen
          have lB8 := B8.lt
          as_aux_lemma =>
          go_region
          clear cB3 fB3 lB3 cBs fBs lBs cB8 fB8 lB8
          clear B3 Bs B8
          have cB4 := B4.cell
          have fB4 := B4.frozen
          have lB4 := B4.lt
          have cB9 := B9.cell
          have fB9 := B9.frozen
          have lB9 := B9.lt
          go_wp2_with fail
          exact bodyPost_ret (v := vlVal ⟨ve, vl, vf⟩) (by simp [results, Tryd.results24, go_sem, vlVal, cB4]) rfl HFIN.out
        case first =>
        as_aux_lemma =>
        cases og
        case true =>
          obtain ⟨of2, of3⟩ := of1 rfl
          clear of1
          have cB3 := B3.cell
          have fB3 := B3.frozen
          have lB3 := B3.lt
          have cB7 := B7.cell
          have fB7 := B7.frozen
          have lB7 := B7.lt
          go_wp2_with fail
          clear cB3 fB3 lB3 cB7 fB7 lB7
          refine (ih i2 col W7 hi4 hi3 hcol2 HM.out.fs).mono ?_
          rintro e w1 ⟨rfl, hF1, hA1, hs1, hb1⟩
          as_aux_lemma =>
          have HM1 := Lib.hid (HM.out.call hBl hF1 hA1 hs1 hb1)
          replace B7 := B7.agr hA1 (show b7 ≠ bm by omega)
          replace B8 := B8.agr hA1 (show b8 ≠ bm by omega)
          have hb8 : b8 < w1.heap.size := B8.lt
          have HSM := findV_small (W := W) ho 400 i2 col (by omega)
          obtain ⟨v1, hv1⟩ : ∃ v1, v1 = findV W ops i2 col := ⟨_, rfl⟩
          rw [← hv1] at HSM
          rw [← hv1]
          have HV1 := Lib.hid hv1
          clear hv1 hF1 hA1 hs1 hb1 HM B3
          obtain ⟨ex1, ln1, fl1⟩ := v1
          simp only at HSM
          dsimp only [vlVal]
          have cB8 := B8.cell
          have fB8 := B8.frozen
          have lB8 := B8.lt
          go_upto_region 13 with fail
          clear cB8 fB8 lB8
          replace HM1 := Lib.hid (HM1.out.setV hBl hbw (show w.heap.size + 2 ≤ b8 by omega) ⟨ex1, ln1, fl1⟩)
          replace B7 := B7.agr (Agr.refl.setV_ (ok := fun b => b ≠ b8) (fun b h => h) ⟨ex1, ln1, fl1⟩) (show b7 ≠ b8 by omega)
          replace B8 := B8.setV ⟨ex1, ln1, fl1⟩
          simp only [World.setV] at HM1 B7 B8
          clear hz8 hb8
          clear W7
          generalize ((w1.setCell ⟨b8, 0, none⟩ (.int .i64 (ex1 : Int))).setCell ⟨b8, 1, none⟩ (.int .i64 (ln1 : Int))).setCell ⟨b8, 2, none⟩ (.bool fl1) = W8 at *
          clear w1
          cases oc
          case false =>
            as_aux_lemma =>
            have hv : (⟨ex1, ln1, false⟩ : Vl) = findV W ops i col := by
              rw [findV_grp HY.out rfl rfl, ← HI2.out]
              simp only [← HV1.out]
            have HV := Lib.hid hv
            clear hv
            have cB7 := B7.cell
            have fB7 := B7.frozen
            have lB7 := B7.lt
            have cB8 := B8.cell
            have fB8 := B8.frozen
            have lB8 := B8.lt
            go_wp2_with fail
            clear cB7 fB7 lB7 cB8 fB8 lB8
            replace HM1 := Lib.hid (HM1.out.far hBl hbw (p := ⟨b8, 2, none⟩) (show w.heap.size + 2 ≤ b8 by omega) (.bool false))
            replace B8 : Blk (W8.setCell ⟨b8, 2, none⟩ (.bool false)) b8 66 #[.int .i64 (ex1 : Int), .int .i64 (ln1 : Int), .bool false] := by simpa using (B8.set_ 2 (.bool false))
            clear B7
            generalize W8.setCell ⟨b8, 2, none⟩ (.bool false) = Wt at *
            clear W8
            go_meet
            exact ⟨⟨ex1, ln1, false⟩, HV.out, HM1.out, B8⟩
          case true =>
            as_aux_lemma =>
            have B3 := HM1.out.spot
            have cB3 := B3.cell
            have fB3 := B3.frozen
            have lB3 := B3.lt
            have cB7 := B7.cell
            have fB7 := B7.frozen
            have lB7 := B7.lt
            have cB8 := B8.cell
            have fB8 := B8.frozen
            have lB8 := B8.lt
            go_wp2_with fail
            clear cB3 fB3 lB3 cB7 fB7 lB7 cB8 fB8 lB8
            clear B3
            replace HM1 := Lib.hid (HM1.out.far hBl hbw (p := ⟨b8, 2, none⟩) (show w.heap.size + 2 ≤ b8 by omega) (.bool false))
            replace B8 : Blk (W8.setCell ⟨b8, 2, none⟩ (.bool false)) b8 66 #[.int .i64 (ex1 : Int), .int .i64 (ln1 : Int), .bool false] := by simpa using (B8.set_ 2 (.bool false))
            replace B7 := B7.far (p := ⟨b8, 2, none⟩) (show b7 ≠ b8 by omega) (.bool false)
            generalize W8.setCell ⟨b8, 2, none⟩ (.bool false) = W9 at *
            clear W8
            refine (ih oe to_ W9 (by omega) of3 (by have := HI2.out; omega) HM1.out.fs).mono ?_
            rintro e w2 ⟨rfl, hF1, hA1, hs1, hb1⟩
            as_aux_lemma =>
            have HM2 := Lib.hid (HM1.out.call hBl hF1 hA1 hs1 hb1)
            replace B7 := B7.agr hA1 (show b7 ≠ bm by omega)
            replace B8 := B8.agr hA1 (show b8 ≠ bm by omega)
            have hb8 : b8 < w2.heap.size := B8.lt
            have HSM2 := findV_small (W := W) ho 400 oe to_ (by omega)
            obtain ⟨v2, hv2⟩ : ∃ v2, v2 = findV W ops oe to_ := ⟨_, rfl⟩
            rw [← hv2] at HSM2
            rw [← hv2]
            have HV2 := Lib.hid hv2
            clear hv2 hF1 hA1 hs1 hb1 HM1
            clear W9
            obtain ⟨ex2, ln2, fl2⟩ := v2
            simp only at HSM2
            dsimp only [vlVal]
            have B10 := Blk.new w2 66 #[.int .i64 (ex2 : Int), .int .i64 (ln2 : Int), .bool fl2]
            replace B7 := B7.al (.cells #[.int .i64 (ex2 : Int), .int .i64 (ln2 : Int), .bool fl2] 66)
            replace B8 := B8.al (.cells #[.int .i64 (ex2 : Int), .int .i64 (ln2 : Int), .bool fl2] 66)
            replace HM2 := Lib.hid (HM2.out.al hbw (.cells #[.int .i64 (ex2 : Int), .int .i64 (ln2 : Int), .bool fl2] 66))
            go_upto_region 17 with fail
            as_aux_lemma =>
            generalize w2.alloc (.cells #[.int .i64 (ex2 : Int), .int .i64 (ln2 : Int), .bool fl2] 66) = W3 at *
            generalize w2.heap.size = b10 at *
            clear w2
            have B3 := HM2.out.spot
            have Bs := HM2.out.fs.str.dr
            obtain ⟨d1, hd1⟩ : ∃ d, d = ovr W to_ - ovr W col := ⟨_, rfl⟩
            have hm1 : ovr W col ≤ ovr W to_ := ovr_mono (by have := HTO.out; omega)
            have hm2 := ovr_le W to_
            have wd : IntKind.i64.wrap ((ovr W to_ : Int) - (ovr W col : Int)) = (d1 : Int) := (IntWalk.i64_in _ (by omega)).trans (by omega)
            obtain ⟨e1, he1⟩ : ∃ e, e = ex2 + d1 := ⟨_, rfl⟩
            have we : IntKind.i64.wrap ((ex2 : Int) + (d1 : Int)) = (e1 : Int) := (IntWalk.i64_in _ (by omega)).trans (by omega)
            have HD1 := Lib.hid hd1
            have HE1 := Lib.hid he1
            clear hd1 he1 hm1 hm2
            have cB3 := B3.cell
            have fB3 := B3.frozen
            have lB3 := B3.lt
            have cB10 := B10.cell
            have fB10 := B10.frozen
            have lB10 := B10.lt
            go_cut [101] (fun _ wx => wx = (W3.setCell ⟨b10, 0, none⟩ (.int .i64 (e1 : Int))).drew)
            case first =>
              as_aux_lemma =>
              go_region_law (first
                | (go_simp; go_at_call 28; (with_reducible refine (over_c W bs _ _ to_ _ Bs hto3 hW3).mono ?_); rintro ee wn ⟨rfl, rfl⟩)
                | (go_simp; go_at_call 28; (with_reducible refine (over_c W bs _ _ col _ Bs hcol3 hW3).mono ?_); rintro ee wn ⟨rfl, rfl⟩))
              all_goals
                go_wp2_with fail
                go_meet
                exact rfl
            case rest =>
            as_aux_lemma =>
            subst hcut
            clear cB3 fB3 lB3 cB10 fB10 lB10
            replace HM2 := Lib.hid ((HM2.out.far hBl hbw (p := ⟨b10, 0, none⟩) (show w.heap.size + 2 ≤ b10 by omega) (.int .i64 (e1 : Int))).dr)
            replace B8 := (B8.far (p := ⟨b10, 0, none⟩) (show b8 ≠ b10 by omega) (.int .i64 (e1 : Int))).dr
            replace B10 : Blk (W3.setCell ⟨b10, 0, none⟩ (.int .i64 (e1 : Int))).drew b10 66 #[.int .i64 (e1 : Int), .int .i64 (ln2 : Int), .bool fl2] := by simpa using (B10.set_ 0 (.int .i64 (e1 : Int))).dr
            clear Bs B3 B7 wd we
            generalize (W3.setCell ⟨b10, 0, none⟩ (.int .i64 (e1 : Int))).drew = W4 at *
            clear W3
            go_upto_region 18 with fail
            have SOF := Lib.hid (show ∀ w', Below W4.heap.size W4 w' → ((∀ i, w'.cell? ⟨b8, i, none⟩ = #[.int .i64 (ex1 : Int), .int .i64 (ln1 : Int), .bool false][i]?) ∧ (∀ i, w'.cell? ⟨b10, i, none⟩ = #[.int .i64 (e1 : Int), .int .i64 (ln2 : Int), .bool fl2][i]?) ∧ Below W4.heap.size W4 w') from fun w' hb => ⟨(B8.via hb).cell, (B10.via hb).cell, hb⟩)
            have hb0 := (Below.refl W4.heap.size W4).drew
            have HB8 := Lib.hid B8
            have HB10 := Lib.hid B10
            clear B8 B10
            go_cut [115] (fun s wx => s = .bool (decide (orL [cmpI (e1 : Int) (ex1 : Int), cmpI (ln2 : Int) (ln1 : Int)] ≤ 0)) ∧ Below W4.heap.size W4 wx)
            case first =>
              as_aux_lemma =>
              clear ih ho HTO HI2 HY HV1 HV2 HD1 HE1 HM2 HB8 HB10 HSM HSM2 wi wt hto2 hto3 hcol2 hcol3 hi3 hi4 of2 of3 hz6 hz7 hb8 hmb hot i0 i1 hie hbe hm hi hcol hBl hlt ot1 oi1 oi2 hil
              go_region_held3 (fun w' => (∀ i, w'.cell? ⟨b8, i, none⟩ = #[.int .i64 (ex1 : Int), .int .i64 (ln1 : Int), .bool false][i]?) ∧ (∀ i, w'.cell? ⟨b10, i, none⟩ = #[.int .i64 (e1 : Int), .int .i64 (ln2 : Int), .bool fl2][i]?) ∧ Below W4.heap.size W4 w') (exact SOF.out _ (by first | assumption | exact Below.al (by assumption) _)) (first
                | (go_at_call 17; (with_reducible refine (cmp_c _ _ _).mono ?_); rintro ee wk ⟨rfl, rfl⟩)
                | (go_at_call 16; (with_reducible refine (or_c (some ⟨_, 0, none⟩) 2 2 [_, _] _ (Ints.two _ _ _ _).dr (by omega)).mono ?_); rintro ee wk ⟨rfl, rfl⟩))
              have HFB := Lib.hid (hb0.al (.cells #[.int .i64 (cmpI (e1 : Int) (ex1 : Int)), .int .i64 (cmpI (ln2 : Int) (ln1 : Int))] 3))
              go_wp2_with fail
              go_meet
              exact ⟨rfl, HFB.out⟩
            case rest =>
            as_aux_lemma =>
            obtain ⟨rfl, hcut⟩ := hcut
            have hpick : findV W ops i col = pickV ⟨ex2, ln2, fl2⟩ ⟨ex1, ln1, fl1⟩ d1 := by
              rw [findV_can HY.out rfl rfl of2, ← HI2.out]
              simp only [← HTO.out, ← HV1.out, ← HV2.out, ← HD1.out]
            have hcmp := cmp2_le e1 ex1 ln2 ln1
            have B8 := HB8.out.via hcut
            have B10 := HB10.out.via hcut
            replace HM2 := Lib.hid (HM2.out.via hcut hbw)
            have HP := Lib.hid hpick
            have HCM := Lib.hid hcmp
            clear SOF hb0 HB8 HB10 hcut hpick hcmp
            generalize orL [cmpI (e1 : Int) (ex1 : Int), cmpI (ln2 : Int) (ln1 : Int)] = xx at *
            have HM1 := HM2
            clear HM2
            clear W4
            cases hd : decide (xx ≤ 0)
            case false =>
              as_aux_lemma =>
              have hv : (⟨ex1, ln1, false⟩ : Vl) = findV W ops i col := by
                rw [HP.out, pickV, if_neg]
                have h1 := of_decide_eq_false hd
                have h2 := HE1.out
                simp only
                rw [← h2]
                exact fun h => h1 (HCM.out.2 h)
              have HV := Lib.hid hv
              clear hv B10
              go_wp2_with fail
              go_meet
              exact ⟨⟨ex1, ln1, false⟩, HV.out, HM1.out, B8⟩
            case true =>
              as_aux_lemma =>
              have hv : (⟨e1, ln2, true⟩ : Vl) = findV W ops i col := by
                rw [HP.out, pickV, if_pos]
                · simp only; rw [HE1.out]
                · have h1 := of_decide_eq_true hd
                  have h2 := HE1.out
                  simp only
                  rw [← h2]
                  exact HCM.out.1 h1
              have HV := Lib.hid hv
              clear hv
              have cB8 := B8.cell
              have fB8 := B8.frozen
              have lB8 := B8.lt
              have cB10 := B10.cell
              have fB10 := B10.frozen
              have lB10 := B10.lt
              go_wp2_with fail
              clear cB8 fB8 lB8 cB10 fB10 lB10
              clear B10
              replace HM1 := Lib.hid (((HM1.out.setV hBl hbw (show w.heap.size + 2 ≤ b8 by omega) ⟨e1, ln2, fl2⟩)).far hBl hbw (p := ⟨b8, 2, none⟩) (show w.heap.size + 2 ≤ b8 by omega) (.bool true))
              replace B8 : Blk ((World.setV wc b8 ⟨e1, ln2, fl2⟩).setCell ⟨b8, 2, none⟩ (.bool true)) b8 66 #[.int .i64 (e1 : Int), .int .i64 (ln2 : Int), .bool true] := by simpa using ((B8.setV ⟨e1, ln2, fl2⟩).set_ 2 (.bool true))
              simp only [World.setV] at HM1 B8
              generalize (((wc.setCell ⟨b8, 0, none⟩ (.int .i64 (e1 : Int))).setCell ⟨b8, 1, none⟩ (.int .i64 (ln2 : Int))).setCell ⟨b8, 2, none⟩ (.bool fl2)).setCell ⟨b8, 2, none⟩ (.bool true) = Wt at *
              clear wc
              go_meet
              exact ⟨⟨e1, ln2, true⟩, HV.out, HM1.out, B8⟩
        case false =>
          by_cases hn : 0 ≤ oi
          · obtain ⟨nn, rfl⟩ : ∃ nn : Nat, oi = (nn : Int) := ⟨oi.toNat, by omega⟩
            have hnn : decide ((nn : Int) ≥ 0) = true := by simp
            have hn3 : nn ≤ 1000000000 := by omega
            clear hn
            have cB3 := B3.cell
            have fB3 := B3.frozen
            have lB3 := B3.lt
            have cB7 := B7.cell
            have fB7 := B7.frozen
            have lB7 := B7.lt
            go_wp2_with fail
            clear cB3 fB3 lB3 cB7 fB7 lB7
            clear hnn
            refine (ih i2 nn W7 hi4 hi3 (by omega) HM.out.fs).mono ?_
            rintro e w1 ⟨rfl, hF1, hA1, hs1, hb1⟩
            as_aux_lemma =>
            have HM1 := Lib.hid (HM.out.call hBl hF1 hA1 hs1 hb1)
            replace B7 := B7.agr hA1 (show b7 ≠ bm by omega)
            replace B8 := B8.agr hA1 (show b8 ≠ bm by omega)
            have hb8 : b8 < w1.heap.size := B8.lt
            have HSM := findV_small (W := W) ho 400 i2 nn (by omega)
            obtain ⟨v1, hv1⟩ : ∃ v1, v1 = findV W ops i2 nn := ⟨_, rfl⟩
            rw [← hv1] at HSM
            rw [← hv1]
            have HV1 := Lib.hid hv1
            clear hv1 hF1 hA1 hs1 hb1 HM B3
            obtain ⟨ex1, ln1, fl1⟩ := v1
            simp only at HSM
            dsimp only [vlVal]
            have cB8 := B8.cell
            have fB8 := B8.frozen
            have lB8 := B8.lt
            go_upto_region 23 with fail
            clear cB8 fB8 lB8
            replace HM1 := Lib.hid (HM1.out.setV hBl hbw (show w.heap.size + 2 ≤ b8 by omega) ⟨ex1, ln1, fl1⟩)
            replace B7 := B7.agr (Agr.refl.setV_ (ok := fun b => b ≠ b8) (fun b h => h) ⟨ex1, ln1, fl1⟩) (show b7 ≠ b8 by omega)
            replace B8 := B8.setV ⟨ex1, ln1, fl1⟩
            simp only [World.setV] at HM1 B7 B8
            clear hz8 hb8
            clear W7
            generalize ((w1.setCell ⟨b8, 0, none⟩ (.int .i64 (ex1 : Int))).setCell ⟨b8, 1, none⟩ (.int .i64 (ln1 : Int))).setCell ⟨b8, 2, none⟩ (.bool fl1) = W8 at *
            clear w1
            have Bs := HM1.out.fs.str.dr
            have hm2 := ovr_le W nn
            obtain ⟨e1, he1⟩ : ∃ e, e = ex1 + ovr W nn := ⟨_, rfl⟩
            have we : IntKind.i64.wrap ((ex1 : Int) + (ovr W nn : Int)) = (e1 : Int) := (IntWalk.i64_in _ (by omega)).trans (by omega)
            have HE1 := Lib.hid he1
            clear he1 hm2
            have cB7 := B7.cell
            have fB7 := B7.frozen
            have lB7 := B7.lt
            have cB8 := B8.cell
            have fB8 := B8.frozen
            have lB8 := B8.lt
            go_cut [136] (fun _ wx => wx = (W8.setCell ⟨b8, 0, none⟩ (.int .i64 (e1 : Int))).drew)
            case first =>
              as_aux_lemma =>
              go_region_law (first
                | (go_simp; go_at_call 28; (with_reducible refine (over_c W bs _ _ nn _ Bs hn3 hW3).mono ?_); rintro ee wn ⟨rfl, rfl⟩))
              all_goals
                go_wp2_with fail
                go_meet
                exact rfl
            case rest =>
            as_aux_lemma =>
            subst hcut
            clear cB7 fB7 lB7 cB8 fB8 lB8
            replace HM1 := Lib.hid ((HM1.out.far hBl hbw (p := ⟨b8, 0, none⟩) (show w.heap.size + 2 ≤ b8 by omega) (.int .i64 (e1 : Int))).dr)
            replace B8 : Blk (W8.setCell ⟨b8, 0, none⟩ (.int .i64 (e1 : Int))).drew b8 66 #[.int .i64 (e1 : Int), .int .i64 (ln1 : Int), .bool fl1] := by simpa using (B8.set_ 0 (.int .i64 (e1 : Int))).dr
            clear Bs B7 we
            generalize (W8.setCell ⟨b8, 0, none⟩ (.int .i64 (e1 : Int))).drew = W9 at *
            clear W8
            obtain ⟨l1, hl1⟩ : ∃ l1, l1 = ln1 + 1 := ⟨_, rfl⟩
            have wl : IntKind.i64.wrap ((ln1 : Int) + 1) = (l1 : Int) := (IntWalk.i64_in _ (by omega)).trans (by omega)
            have hv : (⟨e1, l1, fl1⟩ : Vl) = findV W ops i col := by
              rw [findV_line HY.out rfl (by simp), ← HI2.out]
              simp only [Int.toNat_natCast, ← HV1.out]
              rw [HE1.out, hl1]
            have HV := Lib.hid hv
            clear hv hl1
            have cB8 := B8.cell
            have fB8 := B8.frozen
            have lB8 := B8.lt
            go_wp2_with fail
            clear cB8 fB8 lB8
            clear wl
            replace HM1 := Lib.hid (HM1.out.far hBl hbw (p := ⟨b8, 1, none⟩) (show w.heap.size + 2 ≤ b8 by omega) (.int .i64 (l1 : Int)))
            replace B8 : Blk (W9.setCell ⟨b8, 1, none⟩ (.int .i64 (l1 : Int))) b8 66 #[.int .i64 (e1 : Int), .int .i64 (l1 : Int), .bool fl1] := by simpa using (B8.set_ 1 (.int .i64 (l1 : Int)))
            generalize W9.setCell ⟨b8, 1, none⟩ (.int .i64 (l1 : Int)) = Wt at *
            clear W9
            go_meet
            exact ⟨⟨e1, l1, fl1⟩, HV.out, HM1.out, B8⟩
          · have hnn : decide (oi ≥ 0) = false := by simp; omega
            have HN := Lib.hid hn
            clear hn
            have cB3 := B3.cell
            have fB3 := B3.frozen
            have lB3 := B3.lt
            have cB7 := B7.cell
            have fB7 := B7.frozen
            have lB7 := B7.lt
            go_wp2_with fail
            clear cB3 fB3 lB3 cB7 fB7 lB7
            clear hnn
            refine (ih i2 to_ W7 hi4 hi3 hto2 HM.out.fs).mono ?_
            rintro e w1 ⟨rfl, hF1, hA1, hs1, hb1⟩
            as_aux_lemma =>
            have HM1 := Lib.hid (HM.out.call hBl hF1 hA1 hs1 hb1)
            replace B7 := B7.agr hA1 (show b7 ≠ bm by omega)
            replace B8 := B8.agr hA1 (show b8 ≠ bm by omega)
            have hb8 : b8 < w1.heap.size := B8.lt
            have HSM := findV_small (W := W) ho 400 i2 to_ (by omega)
            obtain ⟨v1, hv1⟩ : ∃ v1, v1 = findV W ops i2 to_ := ⟨_, rfl⟩
            rw [← hv1] at HSM
            rw [← hv1]
            have HV1 := Lib.hid hv1
            clear hv1 hF1 hA1 hs1 hb1 HM B3
            obtain ⟨ex1, ln1, fl1⟩ := v1
            simp only at HSM
            dsimp only [vlVal]
            have cB8 := B8.cell
            have fB8 := B8.frozen
            have lB8 := B8.lt
            go_upto_region 10 with fail
            clear cB8 fB8 lB8
            replace HM1 := Lib.hid (HM1.out.setV hBl hbw (show w.heap.size + 2 ≤ b8 by omega) ⟨ex1, ln1, fl1⟩)
            replace B7 := B7.agr (Agr.refl.setV_ (ok := fun b => b ≠ b8) (fun b h => h) ⟨ex1, ln1, fl1⟩) (show b7 ≠ b8 by omega)
            replace B8 := B8.setV ⟨ex1, ln1, fl1⟩
            simp only [World.setV] at HM1 B7 B8
            clear hz8 hb8
            clear W7
            generalize ((w1.setCell ⟨b8, 0, none⟩ (.int .i64 (ex1 : Int))).setCell ⟨b8, 1, none⟩ (.int .i64 (ln1 : Int))).setCell ⟨b8, 2, none⟩ (.bool fl1) = W8 at *
            clear w1
            have B3 := HM1.out.spot
            have Bs := HM1.out.fs.str.dr
            obtain ⟨d1, hd1⟩ : ∃ d, d = ovr W to_ - ovr W col := ⟨_, rfl⟩
            have hm1 : ovr W col ≤ ovr W to_ := ovr_mono (by have := HTO.out; omega)
            have hm2 := ovr_le W to_
            have wd : IntKind.i64.wrap ((ovr W to_ : Int) - (ovr W col : Int)) = (d1 : Int) := (IntWalk.i64_in _ (by omega)).trans (by omega)
            obtain ⟨e1, he1⟩ : ∃ e, e = ex1 + d1 := ⟨_, rfl⟩
            have we : IntKind.i64.wrap ((ex1 : Int) + (d1 : Int)) = (e1 : Int) := (IntWalk.i64_in _ (by omega)).trans (by omega)
            have HD1 := Lib.hid hd1
            have HE1 := Lib.hid he1
            clear hd1 he1 hm1 hm2
            have hv : (⟨e1, ln1, fl1⟩ : Vl) = findV W ops i col := by
              rw [findV_text HY.out rfl (by have := HN.out; simp only; omega), ← HI2.out]
              simp only [← HTO.out, ← HV1.out]
              rw [← HD1.out, HE1.out]
            have HFIN := Lib.hid (show ∃ v : Vl, v = findV W ops i col ∧ FM W ops bs bm B base (some ⟨b1, o1, none⟩) c w i col (W8.setCell ⟨b8, 0, none⟩ (.int .i64 (e1 : Int))).drew ∧ Blk (W8.setCell ⟨b8, 0, none⟩ (.int .i64 (e1 : Int))).drew b8 66 #[.int .i64 (v.ex : Int), .int .i64 (v.ln : Int), .bool v.fl] from
              ⟨⟨e1, ln1, fl1⟩, hv, (HM1.out.far hBl hbw (p := ⟨b8, 0, none⟩) (show w.heap.size + 2 ≤ b8 by omega) (.int .i64 (e1 : Int))).dr, by simpa using (B8.set_ 0 (.int .i64 (e1 : Int))).dr⟩)
            clear hv
            have cB3 := B3.cell
            have fB3 := B3.frozen
            have lB3 := B3.lt
            have cB7 := B7.cell
            have fB7 := B7.frozen
            have lB7 := B7.lt
            have cB8 := B8.cell
            have fB8 := B8.frozen
            have lB8 := B8.lt
            as_aux_lemma =>
            go_region_law (first
              | (go_simp; go_at_call 28; (with_reducible refine (over_c W bs _ _ to_ _ Bs hto3 hW3).mono ?_); rintro ee wn ⟨rfl, rfl⟩)
              | (go_simp; go_at_call 28; (with_reducible refine (over_c W bs _ _ col _ Bs hcol3 hW3).mono ?_); rintro ee wn ⟨rfl, rfl⟩))
            all_goals
              go_wp2_with fail
              go_meet
              exact HFIN.out
end Go.Proofs.YtbhenicldddlfaaDoor

