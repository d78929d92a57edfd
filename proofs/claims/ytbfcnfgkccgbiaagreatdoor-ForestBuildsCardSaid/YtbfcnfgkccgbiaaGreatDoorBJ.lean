/- Texts BJ, laid together. -/
import Derived.Test.YtbfcnfgkccgbiaaGreatDoorBH
import Derived.Test.YtbfcnfgkccgbiaaGreatDoorBK



namespace Go.Proofs.YtbfcnfgkccgbiaaGreatDoor
open Go.RowKit

set_option maxRecDepth 100000 in
theorem enters_pk : ∀ (args : Array Value) (w : World), (callFunc 150 args).run Tryz.prog w = .ok (.enter 150 args) w :=
  enters_c (c := _) (fn := Tryz.f150) rfl (by kernel_rfl) rfl
theorem Own.lower {α ρ : Type} {E : Elem α ρ} {e : TypeId} {ok : Nat → Prop} {w : World} {B B' n : Nat} {v : Value} {l : List α} (h : Own E e ok w B v n l) (hb : B' ≤ B) : Own E e ok w B' v n l := by
  obtain ⟨h1, raw, h3, h4, h5⟩ := h
  refine ⟨h1, raw, h3, ⟨h4.1, ?_⟩, h5⟩
  rcases h4.2 with h0 | ⟨g, cap, cur, hv, hg, hr⟩
  · exact Or.inl h0
  · exact Or.inr ⟨g, cap, cur, hv, Nat.le_trans hb hg, hr⟩
/-- between the rounds of core.Packs -/
structure PkB (W0 w : World) (bk bo bw be : Nat) (k : Ky) (A : Option Addr) (n c ob oo N oc : Nat) (base : Nat) (v : Value) (out : List (Nat × List Ky)) : Prop where
  bel : Below W0.heap.size W0 w
  kb : Blk w bk 180 (kyC k)
  wb : Blk w bw 25 #[.slice A n c]
  eb : Blk w be 56 #[.slice (some ⟨ob, oo, none⟩) N oc]
  outb : Blk w bo 184 #[v]
  own : Own PkE 187 (fun b => base ≤ b) w base v out.length out
  ne : bk ≠ bo ∧ bw ≠ bo ∧ be ≠ bo
  lt : bo < base
  nr : some bk ≠ v.ownBlock ∧ some bw ≠ v.ownBlock ∧ some be ≠ v.ownBlock ∧ some bo ≠ v.ownBlock
  ge : W0.heap.size ≤ bo ∧ W0.heap.size ≤ base ∧ base ≤ w.heap.size
section
variable {W0 w w' : World} {fid bk bo bi bw be bf : Nat} {k : Ky} {rn : Nat} {A : Option Addr} {n c ob oo N oc base : Nat} {v v' : Value} {out : List (Nat × List Ky)}
theorem PkB.via (h : PkB W0 w bk bo bw be k A n c ob oo N oc base v out) (hb : Below w.heap.size w w') : PkB W0 w' bk bo bw be k A n c ob oo N oc base v out :=
  ⟨h.bel.via hb, h.kb.via hb, h.wb.via hb, h.eb.via hb, h.outb.via hb, h.own.via hb, h.ne, h.lt, h.nr, h.ge.1, h.ge.2.1, Nat.le_trans h.ge.2.2 hb.size⟩
theorem PkB.toM (h : PkB W0 w bk bo bw be k A n c ob oo N oc base v out) (hi : Blk w bi 3 #[.int .i64 (rn : Int)]) (hf : Blk w bf 209 #[.func (.func fid) #[] #[.pointer (some ⟨bk, 0, none⟩), .pointer (some ⟨bo, 0, none⟩), .pointer (some ⟨bi, 0, none⟩), .pointer (some ⟨bw, 0, none⟩), .pointer (some ⟨be, 0, none⟩), .pointer (some ⟨bf, 0, none⟩)]])
    (n1 : bi ≠ bo) (n2 : bf ≠ bo) (n3 : some bi ≠ v.ownBlock) (n4 : some bf ≠ v.ownBlock) : PkM W0 w fid bk bo bi bw be bf k rn A n c ob oo N oc base v out :=
  ⟨h.bel, h.kb, hi, h.wb, h.eb, hf, h.outb, h.own, ⟨h.ne.1, n1, h.ne.2.1, h.ne.2.2, n2⟩, h.lt, ⟨h.nr.1, n3, h.nr.2.1, h.nr.2.2.1, n4, h.nr.2.2.2⟩, h.ge⟩
theorem PkM.toB (h : PkM W0 w fid bk bo bi bw be bf k rn A n c ob oo N oc base v out) : PkB W0 w bk bo bw be k A n c ob oo N oc base v out :=
  ⟨h.bel, h.kb, h.wb, h.eb, h.outb, h.own, ⟨h.ne.1, h.ne.2.2.1, h.ne.2.2.2.1⟩, h.lt, ⟨h.nr.1, h.nr.2.2.1, h.nr.2.2.2.1, h.nr.2.2.2.2.2⟩, h.ge⟩
end
def PacksP (w : World) (ps : List (Nat × List Ky)) (e : Ending) (w' : World) : Prop :=
  ∃ A c, e = .returned (.slice A ps.length c) ∧ Own PkE 187 (fun b => w.heap.size ≤ b) w' w.heap.size (.slice A ps.length c) ps.length ps ∧ Below w.heap.size w w'
set_option maxRecDepth 100000 in
set_option maxHeartbeats 4000000 in
theorem packs_c (ok : Nat → Prop) (g : Gr) (Ag : Option Addr) (ng cg : Nat) (A : Option Addr) (n c ob oo N oc : Nat) (rb ro rc : Nat → Nat) (xs : List Int) (E : EnS) (k : Ky) (w : World) (hg : g.Ok) (hN : g.nons = N) (hl : Sl RuE ok w Ag ng cg g.rules) (hx : Ints w A n c xs) (hE : EnV w ob oo N n rb ro rc E) (hT : TabW w) (hsup : SupE n E) (hn : n ≤ 12) (hk : k.2.1 ≤ n ∧ k.2.2 ≤ n) :
    Calls Tryz.prog 121 #[grVal g Ag ng cg, .slice A n c, .slice (some ⟨ob, oo, none⟩) N oc, kyVal k] w (PacksP w (packsF (dOf xs E) g.rules k)) := by
  subst hN
  obtain ⟨⟨kb, kN⟩, ki, kj⟩ := k
  have hng := hl.len
  have hgc := hg.count
  have hlen : ∀ m, m < ng → (packT (dOf xs E) g.rules ((kb, kN), ki, kj) m).length + 28561 ≤ 1000000 := fun m hm => by
    have := packT_len (D := dOf xs E) (k := ((kb, kN), ki, kj)) m (fun u hu => (hg.right u hu).1) (by simpa using (show kj ≤ 12 by have := hk.2; simp only at this; omega))
    omega
  have HO := Lib.hid (hl.mono (ok' := fun b => b < w.heap.size) fun b hb _ => hb)
  have HX := Lib.hid hx
  have HE := Lib.hid hE
  have HT := Lib.hid hT
  have HS := Lib.hid hsup
  have HLEN := Lib.hid hlen
  have HG := Lib.hid hg
  have HKI := Lib.hid hk
  simp only at hk
  obtain ⟨w1, hw1⟩ : ∃ w1, w1 = w.alloc (.cells #[.int .i64 (g.terms : Int), .int .i64 (g.nons : Int), .int .i64 (g.start : Int), .slice Ag ng cg] 24) := ⟨_, rfl⟩
  have hb5 := (((((Below.refl w.heap.size w).al (.cells #[.int .i64 (g.terms : Int), .int .i64 (g.nons : Int), .int .i64 (g.start : Int), .slice Ag ng cg] 24)).al (.cells #[.slice A n c] 25)).al (.cells #[.slice (some ⟨ob, oo, none⟩) g.nons oc] 56)).al (.cells (kyC ((kb, kN), ki, kj)) 180)).al (.cells #[.slice none 0 0] 184)
  have BW := (((Blk.newAt (w.alloc (.cells #[.int .i64 (g.terms : Int), .int .i64 (g.nons : Int), .int .i64 (g.start : Int), .slice Ag ng cg] 24)) 25 #[.slice A n c] (w.heap.size + 1) (by simp)).al (.cells #[.slice (some ⟨ob, oo, none⟩) g.nons oc] 56)).al (.cells (kyC ((kb, kN), ki, kj)) 180)).al (.cells #[.slice none 0 0] 184)
  have BE := ((Blk.newAt ((w.alloc (.cells #[.int .i64 (g.terms : Int), .int .i64 (g.nons : Int), .int .i64 (g.start : Int), .slice Ag ng cg] 24)).alloc (.cells #[.slice A n c] 25)) 56 #[.slice (some ⟨ob, oo, none⟩) g.nons oc] (w.heap.size + 1 + 1) (by simp)).al (.cells (kyC ((kb, kN), ki, kj)) 180)).al (.cells #[.slice none 0 0] 184)
  have BK := (Blk.newAt (((w.alloc (.cells #[.int .i64 (g.terms : Int), .int .i64 (g.nons : Int), .int .i64 (g.start : Int), .slice Ag ng cg] 24)).alloc (.cells #[.slice A n c] 25)).alloc (.cells #[.slice (some ⟨ob, oo, none⟩) g.nons oc] 56)) 180 (kyC ((kb, kN), ki, kj)) (w.heap.size + 1 + 1 + 1) (by simp)).al (.cells #[.slice none 0 0] 184)
  have BO := Blk.newAt ((((w.alloc (.cells #[.int .i64 (g.terms : Int), .int .i64 (g.nons : Int), .int .i64 (g.start : Int), .slice Ag ng cg] 24)).alloc (.cells #[.slice A n c] 25)).alloc (.cells #[.slice (some ⟨ob, oo, none⟩) g.nons oc] 56)).alloc (.cells (kyC ((kb, kN), ki, kj)) 180)) 184 #[.slice none 0 0] (w.heap.size + 1 + 1 + 1 + 1) (by simp)
  have HM := Lib.hid (show PkB w _ (w.heap.size + 1 + 1 + 1) (w.heap.size + 1 + 1 + 1 + 1) (w.heap.size + 1) (w.heap.size + 1 + 1) ((kb, kN), ki, kj) A n c ob oo g.nons oc (w.heap.size + 5) (.slice none 0 0) (packT (dOf xs E) g.rules ((kb, kN), ki, kj) 0) from
    ⟨hb5, BK, BW, BE, BO, Own.nil _ _, by omega, by omega, by simp [Value.ownBlock], by omega, by omega, by simp⟩)
  simp only [kyC] at HM
  clear hl hx hE hT hsup hb5 BW BE BK BO hw1 hlen hg
  simp only [grVal, kyVal]
  go_enter Tryz.func121, Tryz.ntmps121
  go_wp2_with fail
  have HSZ := Lib.hid (show (((((w.alloc (.cells #[.int .i64 (g.terms : Int), .int .i64 (g.nons : Int), .int .i64 (g.start : Int), .slice Ag ng cg] 24)).alloc (.cells #[.slice A n c] 25)).alloc (.cells #[.slice (some ⟨ob, oo, none⟩) g.nons oc] 56)).alloc (.cells #[.bool kb, .int .i64 (kN : Int), .int .i64 (ki : Int), .int .i64 (kj : Int)] 180)).alloc (.cells #[.slice none 0 0] 184)).heap.size = w.heap.size + 5 by simp)
  generalize (((((w.alloc (.cells #[.int .i64 (g.terms : Int), .int .i64 (g.nons : Int), .int .i64 (g.start : Int), .slice Ag ng cg] 24)).alloc (.cells #[.slice A n c] 25)).alloc (.cells #[.slice (some ⟨ob, oo, none⟩) g.nons oc] 56)).alloc (.cells #[.bool kb, .int .i64 (kN : Int), .int .i64 (ki : Int), .int .i64 (kj : Int)] 180)).alloc (.cells #[.slice none 0 0] 184)) = W at *
  generalize w.heap.size + 1 + 1 + 1 + 1 = bo at *
  generalize w.heap.size + 1 + 1 + 1 = bk at *
  generalize w.heap.size + 1 + 1 = be at *
  generalize w.heap.size + 1 = bw at *
  generalize w.heap.size + 5 = base at *
  go_loopw [16] (fun q wr => ∃ (i : Nat) (v : Value), q = .int .i64 i ∧ i ≤ ng ∧ PkB w wr bk bo bw be ((kb, kN), ki, kj) A n c ob oo g.nons oc base v (packT (dOf xs E) g.rules ((kb, kN), ki, kj) i)) (fun q _ => ng - (intOf q).toNat)
  case atStart => exact ⟨0, _, rfl, Nat.zero_le _, HM.out⟩
  case round =>
    obtain ⟨i, v, rfl, hi, hM⟩ := hrel
    clear HM HSZ
    by_cases him : i < ng
    · obtain ⟨b1, o1, ⟨sl, sA, sn, sc⟩, ⟨sl', rhs⟩, hAg, -, hbb, hy, ⟨hx1, hx2⟩, hcel⟩ := HO.out.at_ him
      simp only at hx1 hx2
      obtain rfl : sl = sl' := hx1
      subst hAg
      have d0 := (hM.bel.cell (p := ⟨b1, o1 + i * RuE.k + 0, none⟩) hbb).trans (hcel 0 _ rfl)
      have d1 := (hM.bel.cell (p := ⟨b1, o1 + i * RuE.k + 1, none⟩) hbb).trans (hcel 1 _ rfl)
      simp only [RuE, Nat.add_zero] at d0 d1
      have i0 : (0 : Int) ≤ (i : Int) := by omega
      have i1 : (i : Int) < (ng : Int) := by omega
      have BK0 := hM.kb
      simp only [kyC] at BK0
      have hbx := ((Below.refl wr.heap.size wr).al (.cells #[.int .i64 (i : Int)] 3)).al (.cells #[.int .i64 (sl : Int), .slice sA sn sc] 97)
      have BK := BK0.via hbx
      have BI := (Blk.new wr 3 #[.int .i64 (i : Int)]).al (.cells #[.int .i64 (sl : Int), .slice sA sn sc] 97)
      have BR := Blk.newAt (wr.alloc (.cells #[.int .i64 (i : Int)] 3)) 97 #[.int .i64 (sl : Int), .slice sA sn sc] (wr.heap.size + 1) (by simp)
      have HM2 := Lib.hid (hM.via hbx)
      have HY := Lib.hid hy
      have HR := Lib.hid hx2
      have HWR := Lib.hid (show bo < wr.heap.size ∧ (∀ b, v.ownBlock = some b → b < wr.heap.size) from ⟨hM.outb.lt, fun b e => (hM.own.lt b e).2⟩)
      have HBK := Lib.hid BK
      have HBI := Lib.hid BI
      have HBR := Lib.hid BR
      have hpn := packT_next (D := dOf xs E) g.rules ((kb, kN), ki, kj) i
      clear hcel hx2 hM BK0 hbx
      by_cases hcond : sl = kN ∧ kb = false
      · obtain ⟨rfl, rfl⟩ := hcond
        have e1 : ((sl : Int) != (sl : Int)) = false := by simp
        have HPN := Lib.hid (show packT (dOf xs E) g.rules ((false, sl), ki, kj) (i + 1) = packT (dOf xs E) g.rules ((false, sl), ki, kj) i ++ (waysF (dOf xs E) rhs ki kj).map fun p => (i, [] ++ p) from by
          rw [hpn, packN, hy]; simp)
        clear hpn hy
        have cBK := BK.cell
        have fBK := BK.frozen
        have lBK := BK.lt
        have cBR := BR.cell
        have fBR := BR.frozen
        have lBR := BR.lt
        have cBI := BI.cell
        have fBI := BI.frozen
        have lBI := BI.lt
        go_upto_region 6 with fail
        clear cBK fBK lBK cBR fBR lBR cBI fBI lBI
        clear BK BR BI d0 d1
        have HS4 := Lib.hid (show ((wr.alloc (.cells #[.int .i64 (i : Int)] 3)).alloc (.cells #[.int .i64 (sl : Int), .slice sA sn sc] 97)).heap.size = wr.heap.size + 2 by simp)
        generalize (wr.alloc (.cells #[.int .i64 (i : Int)] 3)).alloc (.cells #[.int .i64 (sl : Int), .slice sA sn sc] 97) = W4 at *
        have hmf : ∀ (fn : Fn) (first cap : Array Value) (w : World), (Instr.makeFunc fn first cap).run Tryz.prog w = .ok (.func fn first cap) w := fun _ _ _ _ => rfl
        go_upto_region 8 with fail
        clear hmf
        have hax := (Below.refl W4.heap.size W4).al (.cells #[.func (.func 150) #[] #[.pointer (some ⟨bk, 0, none⟩), .pointer (some ⟨bo, 0, none⟩), .pointer (some ⟨wr.heap.size, 0, none⟩), .pointer (some ⟨bw, 0, none⟩), .pointer (some ⟨be, 0, none⟩), .pointer (some ⟨W4.heap.size, 0, none⟩)]] 209)
        have BF := Blk.new W4 209 #[.func (.func 150) #[] #[.pointer (some ⟨bk, 0, none⟩), .pointer (some ⟨bo, 0, none⟩), .pointer (some ⟨wr.heap.size, 0, none⟩), .pointer (some ⟨bw, 0, none⟩), .pointer (some ⟨be, 0, none⟩), .pointer (some ⟨W4.heap.size, 0, none⟩)]]
        have HM5 := Lib.hid (HM2.out.via hax)
        have HBI5 := Lib.hid (HBI.out.via hax)
        have BR := HBR.out.via hax
        have BK := HBK.out.via hax
        have HBF := Lib.hid BF
        have HAX := Lib.hid hax
        clear hax HM2 HBI HBR HBK
        generalize W4.alloc (.cells #[.func (.func 150) #[] #[.pointer (some ⟨bk, 0, none⟩), .pointer (some ⟨bo, 0, none⟩), .pointer (some ⟨wr.heap.size, 0, none⟩), .pointer (some ⟨bw, 0, none⟩), .pointer (some ⟨be, 0, none⟩), .pointer (some ⟨W4.heap.size, 0, none⟩)]] 209) = W5 at *
        generalize hbf : W4.heap.size = bf at *
        have HBFE := Lib.hid hbf
        clear hbf
        have cBF := BF.cell
        have fBF := BF.frozen
        have lBF := BF.lt
        have cBR := BR.cell
        have fBR := BR.frozen
        have lBR := BR.lt
        have cBK := BK.cell
        have fBK := BK.frozen
        have lBK := BK.lt
        iterate 18 go_step
        clear cBF fBF lBF cBR fBR lBR cBK fBK lBK
        have hru := HG.out.right _ (List.mem_of_getElem? HY.out)
        have hM := HM5.out.toM (fid := 150) HBI5.out HBF.out (by have := HWR.out.1; omega) (by have := HWR.out.1; have := HS4.out; omega) (fun e => by have := HWR.out.2 _ e.symm; omega) (fun e => by have := HWR.out.2 _ e.symm; have := HS4.out; omega)
        refine (pk1_n w 150 (Lib.hid rfl) enters_pk bk bo wr.heap.size bw be bf ((false, sl), ki, kj) i A n c ob oo g.nons oc rb ro rc xs E base HX.out HE.out HT.out HS.out hn hk.2 rhs W5 sA sn sc ki none 0 0 [] v _ (fun s hs hf => by have := hru.2 s hs; simpa [Gr.okSy, hf] using this) hk.1 HR.out (Sl.nil 0) ?_ (by have h1 := hru.1; simp only [List.length_nil] at h1 ⊢; omega) hM).mono ?_
        · have h1 := HLEN.out i him
          have h2 := ways_len (D := dOf xs E) (l := rhs) (i := ki) (j := kj) (by omega)
          have h3 : 13 ^ rhs.length ≤ 28561 := Nat.le_trans (Nat.pow_le_pow_right (by omega) hru.1) (by decide)
          simp only
          omega
        rintro e w6 ⟨⟨u, rfl⟩, v6, hM6, -⟩
        have HM6 := Lib.hid hM6.toB
        rw [← HPN.out] at HM6
        clear hM6 hM hru HM5 HBI5 HBF HAX BF BR BK HPN
        go_wp2_with fail
        exact ⟨⟨i + 1, v6, by go_num, by omega, HM6.out⟩, by simp [intOf]; omega⟩
      · have HPN := Lib.hid (show packT (dOf xs E) g.rules ((kb, kN), ki, kj) (i + 1) = packT (dOf xs E) g.rules ((kb, kN), ki, kj) i from by
          rw [hpn, packN, hy]; simp only [hcond, if_false, List.append_nil])
        have hcc : ((sl : Int) != (kN : Int)) = true ∨ (((sl : Int) != (kN : Int)) = false ∧ kb = true) := by
          by_cases e : sl = kN
          · right
            refine ⟨by simp [e], ?_⟩
            cases kb with
            | true => rfl
            | false => exact absurd ⟨e, rfl⟩ hcond
          · left; simp; omega
        clear hpn hy hcond
        rcases hcc with e1 | ⟨e1, rfl⟩
        · have cBK := BK.cell
          have fBK := BK.frozen
          have lBK := BK.lt
          have cBR := BR.cell
          have fBR := BR.frozen
          have lBR := BR.lt
          have cBI := BI.cell
          have fBI := BI.frozen
          have lBI := BI.lt
          go_wp2_with fail
          exact ⟨⟨i + 1, v, by go_num, by omega, by rw [HPN.out]; exact HM2.out⟩, by simp [intOf]; omega⟩
        · have cBK := BK.cell
          have fBK := BK.frozen
          have lBK := BK.lt
          have cBR := BR.cell
          have fBR := BR.frozen
          have lBR := BR.lt
          have cBI := BI.cell
          have fBI := BI.frozen
          have lBI := BI.lt
          go_wp2_with fail
          exact ⟨⟨i + 1, v, by go_num, by omega, by rw [HPN.out]; exact HM2.out⟩, by simp [intOf]; omega⟩
    · obtain rfl : i = ng := by omega
      have HMF := Lib.hid hM
      have BO := hM.outb
      clear hM
      have cBO := BO.cell
      have fBO := BO.frozen
      have lBO := BO.lt
      go_wp2_with fail
      go_ret
      have hw := HMF.out.own
      obtain ⟨A', c', rfl, hc'⟩ := hw.form
      have he : packsF (dOf xs E) g.rules ((kb, kN), ki, kj) = packT (dOf xs E) g.rules ((kb, kN), ki, kj) i := by unfold packsF; rw [hng]
      rw [PacksP, he]
      have hge := HMF.out.ge
      exact ⟨A', c', rfl, (hw.mono (ok' := fun b => w.heap.size ≤ b) fun b _ hb => by omega).lower (by omega), HMF.out.bel⟩
end Go.Proofs.YtbfcnfgkccgbiaaGreatDoor

