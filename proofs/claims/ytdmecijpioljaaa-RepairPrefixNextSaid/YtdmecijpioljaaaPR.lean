/- Texts PR, laid together. -/
import Derived.Test.YtdmecijpioljaaaPO


namespace Go.Proofs.Ytdmecijpioljaaa
open Go.RowKit

section
variable {w w' : World} {base bf : Nat} {c0 c1 c2 : Value} {AR : Option Addr} {nR cR : Nat} {R : List Ru} {s : ChSt} {L : List (List It3)}
theorem ChS.via (h : ChS w base bf c0 c1 c2 AR nR cR R s L) (hb : Below w.heap.size w w') : ChS w' base bf c0 c1 c2 AR nR cR R s L := ChM.via h hb
theorem ChS.rules (h : ChS w base bf c0 c1 c2 AR nR cR R s L) : Sl RuE (fun b => b < base) w AR nR cR R := ChM.rules h
theorem ChS.bs (h : ChS w base bf c0 c1 c2 AR nR cR R s L) : base ≤ w.heap.size := ChM.base h
theorem ChS.c3 (h : ChS w base bf c0 c1 c2 AR nR cR R s L) : w.cell? ⟨bf, 3, none⟩ = some (.slice AR nR cR) := (ChM.blk h).cell 3
theorem ChS.cm (h : ChS w base bf c0 c1 c2 AR nR cR R s L) : w.cell? ⟨bf, 4, none⟩ = some s.2.2.1 := (ChM.blk h).cell 4
theorem ChS.cv (h : ChS w base bf c0 c1 c2 AR nR cR R s L) : w.cell? ⟨bf, 5, none⟩ = some s.1 := (ChM.blk h).cell 5
theorem ChS.lt (h : ChS w base bf c0 c1 c2 AR nR cR R s L) : bf < w.heap.size := (ChM.blk h).lt
theorem ChS.no_ge (h : ChS w base bf c0 c1 c2 AR nR cR R s L) {k b : Nat} {i : Bool} (hb : w.heap.size ≤ b) : ChN k s i b := (ChM.no_of h (Or.inr hb)).chn
theorem ChS.no_lt (h : ChS w base bf c0 c1 c2 AR nR cR R s L) {k b : Nat} {i : Bool} (hb : b < base) : ChN k s i b := (ChM.no_of h (Or.inl hb)).chn
theorem ChS.hdr (h : ChS w base bf c0 c1 c2 AR nR cR R s L) (h0 : L ≠ []) : Hdr 111 w base s.1 L := (ChM.sets h).hdr h0
theorem ChS.mform (h : ChS w base bf c0 c1 c2 AR nR cR R s L) : ∃ A c, s.2.2.1 = .slice A L.length c ∧ L.length ≤ c := (ChM.maps h).form
theorem cadd_s (h : ChS w base bf c0 c1 c2 AR nR cR R s L) (k : Nat) (l : List It3) (x : It3) (hk : L.length = k + 1) (hl : L[k]? = some l) (hk2 : k ≤ 1000) (hl2 : l.length ≤ 100000) (hx1 : x.r ≤ 1000000) (hx2 : x.d ≤ 1000000) (hx3 : x.f ≤ 1000000) :
    Calls Try.prog 57 #[.pointer (some ⟨bf, 0, none⟩), .agg #[.int .i64 (x.r : Int), .int .i64 (x.d : Int), .int .i64 (x.f : Int)]] w (AddC k w base bf c0 c1 c2 AR nR cR R s (L.set k (addI l x))) :=
  cadd_c w base bf k c0 c1 c2 AR nR cR R s.1 s.2.1 s.2.2.1 s.2.2.2 L l x h hk hl hk2 hl2 hx1 hx2 hx3
theorem cnexts_s (h : ChS w base bf c0 c1 c2 AR nR cR R s L) (hR : ∀ u ∈ R, u.2.length ≤ 1000) (x : It3) (tb : Bool) (tn : Nat) (hn : nxtI R x = some (tb, tn)) :
    Calls Try.prog 56 #[.pointer (some ⟨bf, 0, none⟩), .agg #[.int .i64 (x.r : Int), .int .i64 (x.d : Int), .int .i64 (x.f : Int)]] w fun e w' => e = .returned (.tuple #[.agg #[.bool tb, .int .i64 (tn : Int)], .bool true]) ∧ Below w.heap.size w w' :=
  cnext_s w base bf _ AR nR cR R (ChM.blk h) rfl (ChM.rules h) (ChM.base h) hR x tb tn hn
theorem cnexts_n (h : ChS w base bf c0 c1 c2 AR nR cR R s L) (hR : ∀ u ∈ R, u.2.length ≤ 1000) (k : Nat) (x : It3) (hx : ItOk R k x) (hn : nxtI R x = none) :
    Calls Try.prog 56 #[.pointer (some ⟨bf, 0, none⟩), .agg #[.int .i64 (x.r : Int), .int .i64 (x.d : Int), .int .i64 (x.f : Int)]] w fun e w' => e = .returned (.tuple #[.agg #[.bool false, .int .i64 0], .bool false]) ∧ Below w.heap.size w w' :=
  cnext_n w base bf _ AR nR cR R (ChM.blk h) rfl (ChM.rules h) (ChM.base h) hR k x hx hn
end
/-- set k has grown by what P says -/
def GrewC (P : It3 → Prop) (k : Nat) (l : List It3) (w : World) (base bf : Nat) (c0 c1 c2 : Value) (AR : Option Addr) (nR cR : Nat) (R : List Ru) (s : ChSt) (L : List (List It3)) (e : Ending) (w' : World) : Prop :=
  ∃ l', Grew P l l' ∧ AddC k w base bf c0 c1 c2 AR nR cR R s (L.set k l') e w'
set_option maxRecDepth 100000 in
set_option maxHeartbeats 2000000 in
theorem cpredict_s {w : World} {base bf : Nat} {c0 c1 c2 : Value} {AR : Option Addr} {nR cR : Nat} {R : List Ru} {s : ChSt} {L : List (List It3)} (h : ChS w base bf c0 c1 c2 AR nR cR R s L) (k : Nat) (l : List It3) (hk : L.length = k + 1) (hl : L[k]? = some l) (hk2 : k ≤ 100) (hR : R.length ≤ 32) (h4 : ∀ u ∈ R, u.2.length ≤ 4) (hnd : l.Nodup) (hok : ∀ x ∈ l, ItOk R k x) (tb : Bool) (tn : Nat) :
    Calls Try.prog 54 #[.pointer (some ⟨bf, 0, none⟩), .agg #[.bool tb, .int .i64 (tn : Int)]] w (GrewC (PredI R k (tb, tn) nR) k l w base bf c0 c1 c2 AR nR cR R s L) := by
  have hb := (Below.refl w.heap.size w).al (.cells #[.bool tb, .int .i64 (tn : Int)] 45)
  have HS := Lib.hid (Blk.new w 45 #[.bool tb, .int .i64 (tn : Int)])
  have hM := h.via hb
  have f3 := hM.c3
  have hRn : nR ≤ 32 := by have := h.rules.len; omega
  have HSN := Lib.hid (h.no_ge (k := k) (i := true) (Nat.le_refl _))
  have HM := Lib.hid hM
  have HB := Lib.hid (Mov.of (N := ChN k s) hb)
  have HK := Lib.hid hk
  have HL := Lib.hid hl
  have HND := Lib.hid hnd
  have HOK := Lib.hid hok
  have H4 := Lib.hid h4
  clear hb hM h hk hl hnd hok h4
  go_enter Try.func54, Try.ntmps54
  go_wp2_with fail
  generalize hW : w.alloc (.cells #[.bool tb, .int .i64 (tn : Int)] 45) = W at *
  have hWs : w.heap.size < W.heap.size := by rw [← hW]; simp
  clear hW f3
  go_loopw [12] (fun i wr => ∃ (j : Nat) (s1 : ChSt) (l1 : List It3), i = .int .i64 j ∧ j ≤ nR ∧ Hid (Grew (PredI R k (tb, tn) j) l l1) ∧ Hid (ChS wr base bf c0 c1 c2 AR nR cR R s1 (L.set k l1)) ∧ Hid (Mov (ChN k s) (ChN k s1) W wr) ∧ Hid (Blk wr w.heap.size 45 #[.bool tb, .int .i64 (tn : Int)])) (fun i _ => nR - (intOf i).toNat)
  case atStart =>
    refine ⟨0, s, l, rfl, Nat.zero_le _, Lib.hid (Grew.none fun x => PredI.zero x), Lib.hid ?_, Lib.hid (Mov.of (Below.refl _ _)), HS⟩
    rw [set_same HL.out]; exact HM.out
  case round =>
    obtain ⟨j, s1, l1, rfl, hj, HG, HF, HMV, HSB⟩ := hrel
    obtain ⟨A1, d1, hv1, -⟩ := HF.out.mform
    rw [List.length_set, HK.out] at hv1
    by_cases hjl : j < nR
    · obtain ⟨b1, o1, ⟨xl, xA, xn, xc⟩, y, rfl, hbb, hb1, hy, ⟨e1, -⟩, hc⟩ := HF.out.rules.at_ hjl
      simp only at e1
      have r0 := hc 0 _ rfl
      have r1 := hc 1 _ rfl
      simp only [RuE, Nat.add_zero] at r0 r1
      have i0 : (0 : Int) ≤ (j : Int) := by omega
      have i1 : (j : Int) < (nR : Int) := by omega
      have HY := Lib.hid hy
      have HE := Lib.hid e1
      have hal := (Below.refl wr.heap.size wr).al (.cells #[.int .i64 (xl : Int), .slice xA xn xc] 47)
      have BRB := Blk.new wr 47 #[.int .i64 (xl : Int), .slice xA xn xc]
      have HF1 := Lib.hid (HF.out.via hal)
      have BS1 := HSB.out.via hal
      have HS1 := Lib.hid BS1
      have HM1 := Lib.hid (HMV.out.via hal)
      have f4 := HF1.out.cm
      rw [hv1] at f4
      have HV1 := Lib.hid hv1
      clear hc hy e1 hbb hal hv1
      by_cases ht : tb = false ∧ tn = xl
      · obtain ⟨rfl, rfl⟩ := ht
        have hlen : l1.length ≤ 100000 := lenI hR H4.out hk2 (HG.out.nd HND.out) (HG.out.ok HOK.out fun x hx => hx.ok)
        have HNS := Lib.hid (HMV.out.no _ _ hWs HSN.out)
        have e1 : ((k + 1 : Nat) : Int) - 1 = (k : Int) := by omega
        have cBS1 := BS1.cell
        have fBS1 := BS1.frozen
        have lBS1 := BS1.lt
        have cBRB := BRB.cell
        have fBRB := BRB.frozen
        have lBRB := BRB.lt
        go_wp2_with fail
        clear cBS1 fBS1 lBS1 cBRB fBRB lBRB
        clear f4 e1 r0 r1 BS1 BRB
        refine (cadd_s HF1.out k l1 ⟨j, 0, k⟩ (by rw [List.length_set]; exact HK.out) (set_get HL.out) (by omega) hlen (by simp only; omega) (by simp only; omega) (by simp only; omega)).mono ?_
        rintro e w2 ⟨rfl, s2, hF3, hM3⟩
        rw [List.set_set] at hF3
        have HF3 := Lib.hid hF3
        have HS3 := Lib.hid (hM3.blk HS1.out HNS.out)
        have HM3 := Lib.hid (HM1.out.trans hM3)
        clear hF3 hM3
        go_wp2_with fail
        exact ⟨⟨j + 1, s2, _, by go_num, by omega, Lib.hid ((HG.out.add _).iff (PredI.hit HY.out (by rw [HE.out]))), HF3, HM3, HS3⟩, by simp [intOf]; omega⟩
      · have hq : tb = true ∨ ((xl : Int) == (tn : Int)) = false := by
          cases tb with
          | true => exact Or.inl rfl
          | false => exact Or.inr (by rw [beq_eq_false_iff_ne]; exact fun e => ht ⟨rfl, by omega⟩)
        have HT := Lib.hid (show (tb, tn) ≠ (false, y.1) from fun e => ht ⟨congrArg Prod.fst e, by rw [HE.out]; exact congrArg Prod.snd e⟩)
        clear ht f4
        cases tb with
        | true =>
          clear hq
          have cBS1 := BS1.cell
          have fBS1 := BS1.frozen
          have lBS1 := BS1.lt
          have cBRB := BRB.cell
          have fBRB := BRB.frozen
          have lBRB := BRB.lt
          go_wp2_with fail
          exact ⟨⟨j + 1, _, l1, by go_num, by omega, Lib.hid (HG.out.iff (PredI.miss HY.out HT.out)), HF1, HM1, HS1⟩, by simp [intOf]; omega⟩
        | false =>
          have hq2 : ((xl : Int) == (tn : Int)) = false := hq.resolve_left (by simp)
          clear hq
          have cBS1 := BS1.cell
          have fBS1 := BS1.frozen
          have lBS1 := BS1.lt
          have cBRB := BRB.cell
          have fBRB := BRB.frozen
          have lBRB := BRB.lt
          go_wp2_with fail
          exact ⟨⟨j + 1, _, l1, by go_num, by omega, Lib.hid (HG.out.iff (PredI.miss HY.out HT.out)), HF1, HM1, HS1⟩, by simp [intOf]; omega⟩
    · obtain rfl : j = nR := by omega
      go_wp2_with fail
      exact bodyPost_ret (v := .tuple #[]) (by simp [results, Try.results54, go_sem]) rfl ⟨l1, HG.out, rfl, _, HF.out, HB.out.trans HMV.out⟩
end Go.Proofs.Ytdmecijpioljaaa

