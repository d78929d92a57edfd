/- Texts FA, laid together. -/
import Derived.Test.YtdmecijpioljaaaPY
import Derived.Test.YtdmecijpioljaaaPG



namespace Go.Proofs.Ytdmecijpioljaaa
open Go.RowKit

theorem Own.toSl2 {α ρ : Type} {E : Elem α ρ} {e : TypeId} {ok ok' : Nat → Prop} {w : World} {base n : Nat} {l : List α} {A : Option Addr} {n' c : Nat} (h : Own E e ok w base (.slice A n' c) n l) (hm : ∀ b, b < w.heap.size → ok b → ok' b) (hb : ∀ b, (Value.slice A n' c).ownBlock = some b → ok' b) : Sl E ok' w A n c l := by
  obtain ⟨A', c', e', hc⟩ := h.form
  obtain ⟨h1, raw, h3, h4, h5⟩ := h
  cases e'
  refine ⟨h1, hc, raw, h3, fun hne => ?_, fun i r x hr hx => E.mono (h5 i r x hr hx) fun b hb hk => hm b hb hk.1⟩
  rcases h4.2 with ⟨h0, hn⟩ | ⟨g, cap, cur, hv, hbg, hh, hr⟩
  · have : raw = [] := List.eq_nil_of_length_eq_zero (by omega)
    subst this; exact absurd rfl hne
  · cases hv
    refine ⟨g, 0, rfl, hb g rfl, fun j u hu => ?_⟩
    have := h4.cells (g := g) rfl j u hu
    rwa [Addr.add_lit] at this
theorem OwnI.agr {w w' : World} {base n : Nat} {v : Value} {xs : List Int} (h : OwnI w base v n xs) (k : Agr (fun b => v.ownBlock = some b) w w') : OwnI w' base v n xs := by
  have hlt := OwnI.lt h
  refine ⟨h.1, ?_⟩
  rcases h.2 with h0 | ⟨g, cap, cur, hv, hb, hh, hr⟩
  · exact Or.inl h0
  · exact Or.inr ⟨g, cap, cur, hv, hb, (k g (by rw [hv]; rfl) (hlt g (by rw [hv]; rfl)).2).trans hh, hr⟩
theorem ChM.agr {w w' : World} {base bf : Nat} {c0 c1 c2 v vm : Value} {AR : Option Addr} {nR cR : Nat} {R : List Ru} {hs : List SlV} {ms : List Nat} {L : List (List It3)} (h : ChM w base bf c0 c1 c2 AR nR cR R v hs vm ms L) (k : Agr (fun b => b < base ∨ b = bf ∨ ¬ ChF (v, hs, vm, ms) b) w w') (hsz : w.heap.size ≤ w'.heap.size) :
    ChM w' base bf c0 c1 c2 AR nR cR R v hs vm ms L := by
  refine ⟨(k bf (Or.inr (Or.inl rfl)) h.blk.lt).trans h.blk, h.rules.agr (k.mono fun b hb => Or.inl hb), h.sets.agr (k.mono fun b hb => Or.inr (Or.inr fun hn => hb hn.1)), h.maps.agr (k.mono fun b hb => Or.inr (Or.inr fun hn => ?_)), fun j b l hj hl => ⟨(h.mapk j b l hj hl).1, (h.mapk j b l hj hl).2.agr_ (k b (Or.inr (Or.inr fun hn => hn.2.2 j b hj rfl)) (h.mlt hj).2)⟩, h.mapart, h.mfar, h.vfar, h.far, Nat.le_trans h.base hsz⟩
  rcases hb with hb | hb
  · exact hb
  · exact hn.2.1 hb.symm
/-- the rules whose nonterminals all derive a word -/
noncomputable def genR (g : Gr) : List Ru := g.rules.filter fun u => !badR (endsF g) u
noncomputable def genG (g : Gr) : Gr := ⟨g.terms, g.nons, g.start, genR g⟩
structure FeedM (w : World) (lo bF : Nat) (g : Gr) (B bc : Nat) (AR : Option Addr) (nR cR : Nat) (s : ChSt) (L : List (List It3)) (wv : Value) (ws : List Int) : Prop where
  blk : ∃ A n c, Blk w bF 82 #[.int .i64 (g.terms : Int), .int .i64 (g.nons : Int), .int .i64 (g.start : Int), .slice A n c, .pointer (some ⟨bc, 0, none⟩), wv]
  ch : ChS w B bc (.int .i64 (g.terms : Int)) (.int .i64 (g.nons : Int)) (.int .i64 (g.start : Int)) AR nR cR (genR g) s L
  row : OwnI w B wv ws.length ws
  farF : ChX bc s false bF
  farW : ∀ b, wv.ownBlock = some b → ChX bc s false b ∧ b ≠ bF
  loB : lo ≤ B
  Bbc : B ≤ bc
  loF : B ≤ bF
section
variable {w w' : World} {lo bF : Nat} {g : Gr} {B bc : Nat} {AR : Option Addr} {nR cR : Nat} {s : ChSt} {L : List (List It3)} {wv : Value} {ws : List Int}
theorem FeedM.via (h : FeedM w lo bF g B bc AR nR cR s L wv ws) (hb : Below w.heap.size w w') : FeedM w' lo bF g B bc AR nR cR s L wv ws := by
  obtain ⟨A, n, c, h1⟩ := h.blk
  exact ⟨⟨A, n, c, h1.via hb⟩, h.ch.via hb, h.row.agr (Agr.below hb), h.farF, h.farW, h.loB, h.Bbc, h.loF⟩
end
def NewP (g : Gr) (w : World) (e : Ending) (w' : World) : Prop :=
  ∃ (bF B bc : Nat) (AR : Option Addr) (nR cR : Nat) (s : ChSt) (l : List It3), e = .returned (.tuple #[.pointer (some ⟨bF, 0, none⟩), .int .i64 0]) ∧ FeedM w' w.heap.size bF g B bc AR nR cR s [l] (.slice none 0 0) [] ∧ (∀ x, InvI (genR g) g.start x 0 [l]) ∧ Below w.heap.size w w'
theorem genR_len (g : Gr) : (genR g).length ≤ g.rules.length := List.length_filter_le _ _
theorem genR_mem {g : Gr} {u : Ru} (h : u ∈ genR g) : u ∈ g.rules := (List.mem_filter.1 h).1
theorem Start_a (ok : Nat → Prop) (t n s : Nat) (R : List Ru) (Ag : Option Addr) (ng cg : Nat) (w : World) (hl : Sl RuE ok w Ag ng cg R) (hR : R.length ≤ 32) (h4 : ∀ u ∈ R, u.2.length ≤ 4) :
    Calls Try.prog 35 #[.agg #[.int .i64 (t : Int), .int .i64 (n : Int), .int .i64 (s : Int), .slice Ag ng cg]] w (StartP ⟨t, n, s, R⟩ Ag ng cg w) := Start_c ok ⟨t, n, s, R⟩ Ag ng cg w hl hR h4
def CopyGA (g : Gr) (n : Nat) (w : World) (e : Ending) (w' : World) : Prop :=
  ∃ A c, e = .returned (.agg #[.int .i64 (g.terms : Int), .int .i64 (g.nons : Int), .int .i64 (g.start : Int), .slice A n c]) ∧ Own RuE 47 (fun b => w.heap.size ≤ b) w' w.heap.size (.slice A n c) n g.rules ∧ Below w.heap.size w w'
theorem CopyG_a (ok : Nat → Prop) (g : Gr) (Ag : Option Addr) (ng cg : Nat) (w : World) (hr4 : ∀ u ∈ g.rules, u.2.length ≤ 1000) (hng : ng ≤ 1000) (hl : Sl RuE ok w Ag ng cg g.rules) :
    Calls Try.prog 18 #[.agg #[.int .i64 (g.terms : Int), .int .i64 (g.nons : Int), .int .i64 (g.start : Int), .slice Ag ng cg]] w (CopyGA g ng w) := CopyG_c ok g Ag ng cg w hr4 hng hl
set_option maxRecDepth 100000 in
set_option maxHeartbeats 2000000 in
theorem New_c (ok : Nat → Prop) (g : Gr) (Ag : Option Addr) (ng cg : Nat) (w : World) (hg : GrOk g) (hl : Sl RuE ok w Ag ng cg g.rules) :
    Calls Try.prog 12 #[grVal g Ag ng cg] w (NewP g w) := by
  have hng : g.rules.length = ng := hl.len
  have hn32 : g.rules.length ≤ 32 := hg.ok.count
  have H4 := Lib.hid (show ∀ u ∈ g.rules, u.2.length ≤ 4 from fun u hu => (hg.ok.right u hu).1)
  have H1000 := Lib.hid (show ∀ u ∈ g.rules, u.2.length ≤ 1000 from fun u hu => Nat.le_trans (H4.out u hu) (by omega))
  have HGO := Lib.hid hg
  have hal := (Below.refl w.heap.size w).al (.cells #[.int .i64 (g.terms : Int), .int .i64 (g.nons : Int), .int .i64 (g.start : Int), .slice Ag ng cg] 28)
  have B0 := Blk.new w 28 #[.int .i64 (g.terms : Int), .int .i64 (g.nons : Int), .int .i64 (g.start : Int), .slice Ag ng cg]
  have HL := Lib.hid ((hl.mono (ok' := fun b => b < w.heap.size) fun b hb _ => hb).via hal)
  have HB := Lib.hid hal
  have HBX := Lib.hid B0
  clear hl hg hal
  simp only [grVal]
  go_enter Try.func12, Try.ntmps12
  have cB0 := B0.cell
  have fB0 := B0.frozen
  have lB0 := B0.lt
  go_upto_region 1 with fail
  generalize hW : w.alloc (.cells #[.int .i64 (g.terms : Int), .int .i64 (g.nons : Int), .int .i64 (g.start : Int), .slice Ag ng cg] 28) = W at *
  have hwW : w.heap.size < W.heap.size := by rw [← hW]; simp
  clear hW
  go_wp2_with fail
  clear cB0 fB0 lB0
  clear B0
  refine (Ends_q _ g Ag ng cg W HGO.out (by have := HGO.out.ok.nons; omega) HL.out).mono ?_
  rintro e w1 ⟨Ae, ce, rfl, hE, hb1⟩
  have hal1 := (Below.refl w1.heap.size w1).al (.cells #[.slice Ae g.nons ce] 32)
  have HE := Lib.hid ((hE.mono (ok' := fun b => b < w1.heap.size) fun b hb _ => hb).via hal1)
  have HEB := Lib.hid (Blk.new w1 32 #[.slice Ae g.nons ce])
  have BX1 := (HBX.out.via hb1).via hal1
  have HL1 := Lib.hid ((HL.out.via hb1).via hal1)
  have hw1 : W.heap.size ≤ w1.heap.size := hb1.size
  have HB1 := Lib.hid ((HB.out.trans (hb1.mono (by omega))).trans (hal1.mono (by omega)))
  clear hE hb1 hal1
  go_upto_region 4 with fail
  have hwW1 : w1.heap.size < (w1.alloc (.cells #[.slice Ae g.nons ce] 32)).heap.size := by simp
  generalize w1.alloc (.cells #[.slice Ae g.nons ce] 32) = W1 at *
  have HBX1 := Lib.hid BX1
  clear HBX HL HB
  have cBX1 := BX1.cell
  have fBX1 := BX1.frozen
  have lBX1 := BX1.lt
  go_wp2_with fail
  clear cBX1 fBX1 lBX1
  clear BX1
  refine (CopyG_a _ g Ag ng cg W1 H1000.out (by omega) HL1.out).mono ?_
  rintro e w2 ⟨A2, c2, rfl, hO, hb2⟩
  have HOL := Lib.hid hO.lt
  have hal2 := (Below.refl w2.heap.size w2).al (.cells #[.int .i64 (g.terms : Int), .int .i64 (g.nons : Int), .int .i64 (g.start : Int), .slice A2 ng c2] 28)
  have hw2 : W1.heap.size ≤ w2.heap.size := hb2.size
  have HO := Lib.hid ((hO.mono (ok' := fun b => b < w2.heap.size) fun b hb _ => hb).via hal2)
  have HE2 := Lib.hid ((HE.out.via hb2).via hal2)
  have HEB2 := Lib.hid ((HEB.out.via hb2).via hal2)
  have HBX2 := Lib.hid ((HBX1.out.via hb2).via hal2)
  have HL2 := Lib.hid ((HL1.out.via hb2).via hal2)
  have HB2 := Lib.hid ((HB1.out.trans (hb2.mono (by omega))).trans (hal2.mono (by omega)))
  have BS := Blk.new w2 28 #[.int .i64 (g.terms : Int), .int .i64 (g.nons : Int), .int .i64 (g.start : Int), .slice A2 ng c2]
  clear hO hb2 hal2 HE HEB HBX1 HL1 HB1
  go_upto_region 5 with fail
  have hwW2 : w2.heap.size < (w2.alloc (.cells #[.int .i64 (g.terms : Int), .int .i64 (g.nons : Int), .int .i64 (g.start : Int), .slice A2 ng c2] 28)).heap.size := by simp
  generalize w2.alloc (.cells #[.int .i64 (g.terms : Int), .int .i64 (g.nons : Int), .int .i64 (g.start : Int), .slice A2 ng c2] 28) = W2 at *
  have HBS := Lib.hid BS
  have cBS := BS.cell
  have fBS := BS.frozen
  have lBS := BS.lt
  go_wp2_with fail
  clear cBS fBS lBS
  clear BS
  refine (delRu_c 33 (enters_c rfl rfl rfl) #[.pointer (some ⟨w1.heap.size, 0, none⟩)] _ A2 W1.heap.size ng c2 g.rules (badR (endsF g)) W2 HO.out (by omega) (by omega) ?_).mono ?_
  · intro gb w' r x hA hk hx hr
    refine newBad_c _ (fun _ => True) w1.heap.size Ae g.nons ce (endsF g) r x w' ((hk.bel.block _ hwW1).trans HEB2.out) (HE2.out.agr (hk.agr.mono fun b hb e => ?_)) hr (Nat.le_trans (H4.out x hx) (by omega)) (fun s hs hs1 => ?_)
    · have := (HO.out.lt gb (by rw [hA]; rfl)).1; omega
    · have h := (HGO.out.ok.right x hx).2 s hs
      unfold Gr.okSy at h
      rwa [if_neg (by rw [hs1]; simp)] at h
  rintro e w3 ⟨he, hO3, hk3, hk4, hb3⟩
  have he' : e = .returned (.slice A2 (genR g).length c2) := he
  clear he
  subst he'
  have hO3' : Own RuE 47 (fun b => b < w2.heap.size) w3 W1.heap.size (.slice A2 (genR g).length c2) (genR g).length (genR g) := hO3
  have HSR := Lib.hid (hO3'.toSl2 (ok' := fun b => b < w2.heap.size) (fun _ _ h => h) (fun b hb => (HOL.out b (by cases A2 <;> exact hb)).2))
  have BX3 := HBX2.out.below hb3 (by omega)
  have BS3 : Blk w3 w2.heap.size 28 #[.int .i64 (g.terms : Int), .int .i64 (g.nons : Int), .int .i64 (g.start : Int), .slice A2 ng c2] := by
    rcases A2 with _ | ad
    · exact HBS.out.via (hk4 rfl)
    · obtain ⟨gb, rfl⟩ : ∃ gb, ad = ⟨gb, 0, none⟩ := by
        obtain ⟨h1, raw, h2, h3, h4⟩ := HO.out
        rcases h3.2 with ⟨e, h0⟩ | ⟨g', cap, cur, hv, _⟩
        · cases e
        · cases hv; exact ⟨g', rfl⟩
      exact ((hk3 gb rfl).agr w2.heap.size (fun e => by have := HOL.out gb rfl; omega) HBS.out.lt).trans HBS.out
  have HL3 := Lib.hid (HL2.out.agr fun b hb _ => hb3.block b (by omega))
  have HB3 := Lib.hid (HB2.out.trans (hb3.mono (by omega)))
  clear hO3 hO3' hk3 hk4 hb3 HBX2 HB2 HL2 HO HOL HE2 HEB2 HBS
  have cBS3 := BS3.cell
  have fBS3 := BS3.frozen
  have lBS3 := BS3.lt
  go_upto_region 6 with fail
  clear cBS3 fBS3 lBS3
  have BS4 := BS3.set_ 3 (.slice A2 (genR g).length c2)
  simp at BS4
  have BX4 := BX3.far (p := ⟨w2.heap.size, 3, none⟩) (show w.heap.size ≠ w2.heap.size by omega) (.slice A2 (genR g).length c2)
  have HS4 := Lib.hid (HSR.out.agr (Agr.setCell (p := ⟨w2.heap.size, 3, none⟩) (.slice A2 (genR g).length c2) fun b hb e => by have e' : b = w2.heap.size := e; omega))
  have HL4 := Lib.hid (HL3.out.agr (Agr.setCell (p := ⟨w2.heap.size, 3, none⟩) (.slice A2 (genR g).length c2) fun b hb e => by have e' : b = w2.heap.size := e; omega))
  have HB4 := Lib.hid (HB3.out.setCell (p := ⟨w2.heap.size, 3, none⟩) (show w.heap.size ≤ w2.heap.size by omega) (.slice A2 (genR g).length c2))
  clear BS3 BX3 HSR HL3 HB3
  generalize w3.setCell ⟨w2.heap.size, 3, none⟩ (.slice A2 (genR g).length c2) = w4 at *
  have hsz4 : w.heap.size ≤ w4.heap.size := HB4.out.size
  have hng2 : ng ≤ 1000 := by omega
  have hr32 : (genR g).length ≤ 32 := Nat.le_trans (genR_len g) hn32
  have HG4 := Lib.hid (show ∀ u ∈ genR g, u.2.length ≤ 4 from fun u hu => H4.out u (genR_mem hu))
  have SOF := Lib.hid (show ∀ w', Below w4.heap.size w4 w' → ((∀ i, w'.cell? ⟨w.heap.size, i, none⟩ = #[.int .i64 (g.terms : Int), .int .i64 (g.nons : Int), .int .i64 (g.start : Int), .slice Ag ng cg][i]?) ∧ (∀ i, w'.cell? ⟨w2.heap.size, i, none⟩ = #[.int .i64 (g.terms : Int), .int .i64 (g.nons : Int), .int .i64 (g.start : Int), .slice A2 (genR g).length c2][i]?) ∧ Below w4.heap.size w4 w') from fun w' hb => ⟨(BX4.via hb).cell, (BS4.via hb).cell, hb⟩)
  have HSV := Lib.hid (show ∀ w', Below w4.heap.size w4 w' → Sl RuE (fun b => b < w2.heap.size) w' A2 (genR g).length c2 (genR g) from fun w' hb => HS4.out.via hb)
  have HLV := Lib.hid (show ∀ w', Below w4.heap.size w4 w' → Sl RuE (fun b => b < w.heap.size) w' Ag ng cg g.rules from fun w' hb => HL4.out.via hb)
  have hb0 := (Below.refl w4.heap.size w4).drew
  clear BS4 BX4
  go_region_held3 (fun w' => (∀ i, w'.cell? ⟨w.heap.size, i, none⟩ = #[.int .i64 (g.terms : Int), .int .i64 (g.nons : Int), .int .i64 (g.start : Int), .slice Ag ng cg][i]?) ∧ (∀ i, w'.cell? ⟨w2.heap.size, i, none⟩ = #[.int .i64 (g.terms : Int), .int .i64 (g.nons : Int), .int .i64 (g.start : Int), .slice A2 (genR g).length c2][i]?) ∧ Below w4.heap.size w4 w') (first | exact SOF.out _ (by assumption) | exact SOF.out _ (Below.al (by assumption) _)) (first
    | (go_at_call 18; (with_reducible refine (CopyG_a (fun b => b < w.heap.size) g Ag ng cg _ H1000.out hng2 (HLV.out _ (by assumption))).mono ?_); rintro ee wa ⟨A3, c3, rfl, hO4, hbna⟩; have hbma : Below w4.heap.size w4 wa := Below.via (by assumption) hbna)
    | (go_at_call 35; (with_reducible refine (Start_a (fun b => b < w2.heap.size) g.terms g.nons g.start (genR g) A2 (genR g).length c2 _ (HSV.out _ (by assumption)) hr32 HG4.out).mono ?_); rintro ee wb ⟨bc, s0, l0, rfl, hbc, hCH, hI, hbnb⟩; have hbmb : Below w4.heap.size w4 wb := Below.via (by assumption) hbnb))
  go_wp2_with fail
  have hal5 := (Below.refl wb.heap.size wb).al (.cells #[.int .i64 (g.terms : Int), .int .i64 (g.nons : Int), .int .i64 (g.start : Int), .slice A3 ng c3, .pointer (some ⟨bc, 0, none⟩), .slice none 0 0] 82)
  have hwa := hbma.size
  have hwb := hbmb.size
  have hbcl : bc < wb.heap.size := hCH.lt
  refine bodyPost_ret (v := .tuple #[.pointer (some ⟨wb.heap.size, 0, none⟩), .int .i64 0]) (by simp [results, Try.results12, go_sem]) rfl ?_
  exact ⟨wb.heap.size, wa.heap.size, bc, A2, _, c2, s0, l0, rfl, ⟨⟨A3, ng, c3, Blk.new wb 82 #[.int .i64 (g.terms : Int), .int .i64 (g.nons : Int), .int .i64 (g.start : Int), .slice A3 ng c3, .pointer (some ⟨bc, 0, none⟩), .slice none 0 0]⟩, hCH.via hal5, OwnI.nil _ _, ⟨ChM.no_of hCH (Or.inr (Nat.le_refl _)), by omega⟩, fun b hb => (by cases hb), by omega, hbc, by have := hbnb.size; omega⟩, hI, (HB4.out.trans (hbmb.mono (by omega))).trans (hal5.mono (by omega))⟩
end Go.Proofs.Ytdmecijpioljaaa

