/- Texts OE, OG, laid together. -/
import Derived.Test.YtfmnmgnhanogmaaDoorQ18
import Derived.Test.YtfmnmgnhanogmaaDoorQ19





namespace Go.Proofs.YtfmnmgnhanogmaaDoor
open Go.RowKit

theorem flat_put {α ρ : Type} {E : Elem α ρ} (raw : List ρ) (q j : Nat) (u : Value) (r r' : ρ) (hq : raw[q]? = some r) (hj : j < E.k) (hr : E.cells r' = (E.cells r).set j u) : flat E (raw.set q r') = (flat E raw).set (q * E.k + j) u := by
  obtain ⟨hql, he⟩ := List.getElem?_eq_some_iff.1 hq
  have e1 : raw = raw.take q ++ r :: raw.drop (q + 1) := by
    rw [← he, ← List.drop_eq_getElem_cons hql, List.take_append_drop]
  have ht : (raw.take q).length = q := by rw [List.length_take]; omega
  have e2 : raw.set q r' = raw.take q ++ r' :: raw.drop (q + 1) := by
    conv => lhs; rw [e1]
    rw [List.set_append_right _ _ (by omega), ht, Nat.sub_self]; rfl
  have e3 : flat E raw = flat E (raw.take q) ++ (E.cells r ++ flat E (raw.drop (q + 1))) := by
    conv => lhs; rw [e1]
    simp [flat]
  have hl : (flat E (raw.take q)).length = q * E.k := by rw [flat_len, ht]
  rw [e2, e3, List.set_append_right _ _ (by omega), hl, Nat.add_sub_cancel_left, List.set_append_left _ _ (by rw [E.len]; exact hj), ← hr]
  simp [flat]
theorem TreeR.fst {ok : Nat → Prop} {w : World} {r m : Int} {A : Option Addr} {n c : Nat} {t : Tr} (h : TreeR ok w (r, m, A, n, c) t) : (r = -1 ∧ ∃ a : Nat, m = (a : Int) ∧ t = .leaf a) ∨ ∃ (q : Nat) (ks : List Tr), r = (q : Int) ∧ m = 0 ∧ t = .node q ks := by
  cases t with
  | leaf a => obtain ⟨h1, h2, -⟩ := h.ofLeaf; exact Or.inl ⟨h1, a, h2, rfl⟩
  | node q ks => obtain ⟨h1, h2, -⟩ := h.kids; exact Or.inr ⟨q, ks, h1, h2, rfl⟩
/-- a tree is laid into the q-th place of an own row: three cells -/
theorem Own.putTr {e : TypeId} {ok : Nat → Prop} {w : World} {base n c g q : Nat} {l : List Tr} (h : Own TrE e ok w base (.slice (some ⟨g, 0, none⟩) n c) n l) (hq : q < n) {r m : Int} {A : Option Addr} {k d : Nat} {x : Tr} (hx : TreeR (fun b => ok b ∧ b ≠ g) w (r, m, A, k, d) x) :
    (∀ j, j < 3 → ∃ v, w.cell? ⟨g, q * 3 + j, none⟩ = some v) ∧ (∀ i, w.frozen? ⟨g, i, none⟩ = false) ∧
    Own TrE e ok (((w.setCell ⟨g, q * 3, none⟩ (.int .i64 r)).setCell ⟨g, q * 3 + 1, none⟩ (.int .i64 m)).setCell ⟨g, q * 3 + 2, none⟩ (.slice A k d)) base (.slice (some ⟨g, 0, none⟩) n c) n (l.set q x) := by
  obtain ⟨h1, raw, h2, h3, h4⟩ := h
  have hob : ∀ b, some b ≠ (Value.slice (some ⟨g, 0, none⟩) n c).ownBlock ↔ b ≠ g := fun b => ⟨fun hb e => hb (by rw [e]; rfl), fun hb e => hb (Option.some.inj e)⟩
  rcases h3.2 with ⟨h0, _⟩ | ⟨g', cap, cur, hv, hb, hh, hc1, hc2, hc3, htk⟩
  · cases h0
  · cases hv
    have hr : raw[q]? = some raw[q] := List.getElem?_eq_getElem (by omega)
    have hB : Blk w g e cur := hh
    have hcell : ∀ j u, (TrE.cells raw[q])[j]? = some u → w.cell? ⟨g, q * TrE.k + j, none⟩ = some u := fun j u hu => by
      have := h3.cells (g := g) rfl (q * TrE.k + j) u (flat_at (E := TrE) raw q _ j u hr hu)
      rwa [Addr.add_lit, Nat.zero_add] at this
    obtain ⟨⟨r0, m0, A0, n0, c0⟩, hr0⟩ : ∃ y : TrV, y = raw[q] := ⟨_, rfl⟩
    rw [← hr0] at hcell hr
    refine ⟨fun j hj => ?_, fun i => hB.frozen i, ⟨by simpa using h1, raw.set q (r, m, A, k, d), by simpa using h2, ?_, fun i rr xx hri hxi => ?_⟩⟩
    · have : j < (TrE.cells (r0, m0, A0, n0, c0)).length := hj
      exact ⟨_, hcell j _ (List.getElem?_eq_getElem this)⟩
    · refine ⟨by have := h3.1; rw [flat_len] at this ⊢; simpa using this, ?_⟩
      refine Or.inr ⟨g, c, ((cur.setIfInBounds (q * 3) (.int .i64 r)).setIfInBounds (q * 3 + 1) (.int .i64 m)).setIfInBounds (q * 3 + 2) (.slice A k d), rfl, hb, ?_, hc1, hc2, by simpa using hc3, ?_⟩
      · have hh' : w.heap[g]? = _ := hB
        simp [World.setCell, Array.getElem?_modify, hh']
      · have q1 : (raw.set q (r, m0, A0, n0, c0))[q]? = some (r, m0, A0, n0, c0) := List.getElem?_set_self (by omega)
        have q2 : ((raw.set q (r, m0, A0, n0, c0)).set q (r, m, A0, n0, c0))[q]? = some (r, m, A0, n0, c0) := List.getElem?_set_self (by simp; omega)
        have e1 := flat_put (E := TrE) raw q 0 (.int .i64 r) (r0, m0, A0, n0, c0) (r, m0, A0, n0, c0) hr (by decide) rfl
        have e2 := flat_put (E := TrE) (raw.set q (r, m0, A0, n0, c0)) q 1 (.int .i64 m) (r, m0, A0, n0, c0) (r, m, A0, n0, c0) q1 (by decide) rfl
        have e3 := flat_put (E := TrE) ((raw.set q (r, m0, A0, n0, c0)).set q (r, m, A0, n0, c0)) q 2 (.slice A k d) (r, m, A0, n0, c0) (r, m, A, k, d) q2 (by decide) rfl
        rw [List.set_set, List.set_set] at e3
        rw [e3, e2, e1, Array.toList_setIfInBounds, Array.toList_setIfInBounds, Array.toList_setIfInBounds, List.take_set, List.take_set, List.take_set, htk]
        rfl
    · by_cases hiq : q = i
      · subst hiq
        rw [List.getElem?_set_self (by omega)] at hri hxi
        cases hri; cases hxi
        exact TrE.mono (TrE.agr (show TrE.rel (fun b => ok b ∧ b ≠ g) w (r, m, A, k, d) x from hx) (((Agr.setCell (p := ⟨g, q * 3, none⟩) _ fun b hb => hb.2).trans (Agr.setCell (p := ⟨g, q * 3 + 1, none⟩) _ fun b hb => hb.2)).trans (Agr.setCell (p := ⟨g, q * 3 + 2, none⟩) _ fun b hb => hb.2))) fun b _ hk => ⟨hk.1, (hob b).2 hk.2⟩
      · rw [List.getElem?_set_ne hiq] at hri hxi
        exact TrE.agr (h4 i rr xx hri hxi) (((Agr.setCell (p := ⟨g, q * 3, none⟩) _ fun b hb => (hob b).1 hb.2).trans (Agr.setCell (p := ⟨g, q * 3 + 1, none⟩) _ fun b hb => (hob b).1 hb.2)).trans (Agr.setCell (p := ⟨g, q * 3 + 2, none⟩) _ fun b hb => (hob b).1 hb.2))
/-! ### the finder -/
/-- where the finder's parts lie, in the world behind its making -/
structure FdT (wS : World) (bf bm : Nat) (g : Gr) (W : List Nat) (D : Ky → Bool) (Ag : Option Addr) (ng cg : Nat) (A : Option Addr) (c ob oo oc : Nat) (rb ro rc : Nat → Nat) (E : EnS) : Prop where
  fd : FinD g W D
  f : Blk wS bf 67 #[.int .i64 (g.terms : Int), .int .i64 (g.nons : Int), .int .i64 (g.start : Int), .slice Ag ng cg, .slice A W.length c, .slice (some ⟨ob, oo, none⟩) g.nons oc, .map (some bm)]
  rules : Sl RuE (fun b => b ≠ bm) wS Ag ng cg g.rules
  wd : Ints wS A W.length c (intsN W)
  en : EnV wS ob oo g.nons W.length rb ro rc E
  tab : TabW wS
  sup : SupE W.length E
  dd : dOf (intsN W) E = D
  mp : bm < wS.heap.size ∧ ∃ es ck, wS.heap[bm]? = some (.map es ck)
/-- between the finder's calls: G the blocks of the trees that are done, M what the map leads to -/
structure FdS (wS : World) (bm : Nat) (g : Gr) (W : List Nat) (G : Nat → Prop) (M : Ky → Option Nat) (w : World) : Prop where
  ag : Agr (fun b => b ≠ bm) wS w
  sz : wS.heap.size ≤ w.heap.size
  mp : MapK Tryd.prog 73 kyVal w bm (fun k => (M k).map fun b => .pointer (some ⟨b, 0, none⟩))
  good : ∀ b, G b → okC w b ∧ wS.heap.size ≤ b
  best : ∀ k b, M k = some b → k.1.1 = false ∧ KyOk g W.length k ∧ AtT G w b 0 (bst g.rules W k)
section
variable {wS w w' : World} {bf bm : Nat} {g : Gr} {W : List Nat} {D : Ky → Bool} {G G' : Nat → Prop} {M : Ky → Option Nat} {Ag : Option Addr} {ng cg : Nat} {A : Option Addr} {c ob oo oc : Nat} {rb ro rc : Nat → Nat} {E : EnS}
theorem FdT.cell (h : FdT wS bf bm g W D Ag ng cg A c ob oo oc rb ro rc E) (s : FdS wS bm g W G M w) {b i : Nat} {v : Value} (hc : wS.cell? ⟨b, i, none⟩ = some v) : w.cell? ⟨b, i, none⟩ = some v := by
  refine s.ag.cell (fun e => ?_) hc
  subst e
  obtain ⟨-, es, ck, hm⟩ := h.mp
  simp [World.cell?, hm] at hc
theorem FdT.f_ (h : FdT wS bf bm g W D Ag ng cg A c ob oo oc rb ro rc E) (s : FdS wS bm g W G M w) : Blk w bf 67 #[.int .i64 (g.terms : Int), .int .i64 (g.nons : Int), .int .i64 (g.start : Int), .slice Ag ng cg, .slice A W.length c, .slice (some ⟨ob, oo, none⟩) g.nons oc, .map (some bm)] :=
  (s.ag bf (fun e => by
    subst e
    obtain ⟨-, es, ck, hm⟩ := h.mp
    have := h.f
    unfold Blk at this
    rw [hm] at this; cases this) h.f.lt).trans h.f
theorem FdT.rules_ (h : FdT wS bf bm g W D Ag ng cg A c ob oo oc rb ro rc E) (s : FdS wS bm g W G M w) : Sl RuE (fun b => b ≠ bm) w Ag ng cg g.rules := h.rules.agr s.ag
theorem FdT.wd_ (h : FdT wS bf bm g W D Ag ng cg A c ob oo oc rb ro rc E) (s : FdS wS bm g W G M w) : Ints w A W.length c (intsN W) := by
  obtain ⟨h1, h2, h3⟩ := h.wd
  refine ⟨h1, h2, fun hn => ?_⟩
  obtain ⟨b, off, e, hc⟩ := h3 hn
  exact ⟨b, off, e, fun i hi => h.cell s (hc i hi)⟩
theorem FdT.en_ (h : FdT wS bf bm g W D Ag ng cg A c ob oo oc rb ro rc E) (s : FdS wS bm g W G M w) : EnV w ob oo g.nons W.length rb ro rc E :=
  ⟨fun ha => h.cell s (h.en.cell1 ha), fun ha hi => h.cell s (h.en.cell2 ha hi)⟩
theorem FdT.tab_ (h : FdT wS bf bm g W D Ag ng cg A c ob oo oc rb ro rc E) (s : FdS wS bm g W G M w) : TabW w := fun j hj => h.cell s (h.tab j hj)
theorem FdS.nm (s : FdS wS bm g W G M w) {b : Nat} (hb : G b) : b ≠ bm := fun e => by
  subst e
  obtain ⟨cs, t, h1⟩ := (s.good b hb).1
  obtain ⟨es, ck, h2, -⟩ := s.mp
  rw [h1] at h2; cases h2
/-- blocks of neither kind turn, or new ones come -/
theorem FdS.agr_ (s : FdS wS bm g W G M w) (k : Agr (fun b => b < wS.heap.size ∨ G b) w w') (hs : w.heap.size ≤ w'.heap.size) (hm : bm < wS.heap.size) : FdS wS bm g W G M w' :=
  ⟨fun b hb hl => (k b (Or.inl hl) (Nat.lt_of_lt_of_le hl s.sz)).trans (s.ag b hb hl), Nat.le_trans s.sz hs, s.mp.agr_ (k bm (Or.inl hm) s.mp.lt), fun b hb => by
    obtain ⟨⟨cs, t, h1⟩, h2⟩ := s.good b hb
    exact ⟨⟨cs, t, (k b (Or.inr hb) (Array.getElem?_eq_some_iff.1 h1).1).trans h1⟩, h2⟩, fun q b hq => by
    obtain ⟨h1, h2, h3⟩ := s.best q b hq
    exact ⟨h1, h2, h3.agr (k.mono fun b hb => Or.inr hb)⟩⟩
theorem FdS.via (s : FdS wS bm g W G M w) (hb : Below w.heap.size w w') (hm : bm < wS.heap.size) : FdS wS bm g W G M w' := s.agr_ (Agr.below hb) hb.size hm
theorem FdS.far (s : FdS wS bm g W G M w) (hm : bm < wS.heap.size) {p : Addr} (h1 : wS.heap.size ≤ p.block) (h2 : ¬ G p.block) (u : Value) : FdS wS bm g W G M (w.setCell p u) :=
  s.agr_ (Agr.setCell u fun b hb e => by rcases hb with hb | hb; (· omega); (· exact h2 (e ▸ hb))) (by simp) hm
theorem FdS.grown {x : Nat} (s : FdS wS bm g W G M w) (hm : bm < wS.heap.size) (h1 : wS.heap.size ≤ x) (h2 : ¬ G x) (k : w.grownBy w' (some x)) : FdS wS bm g W G M w' :=
  s.agr_ (Agr.grown k fun b hb e => by have := Option.some.inj e; rcases hb with hb | hb; (· omega); (· exact h2 (this ▸ hb))) k.size hm
/-- more blocks are done -/
theorem FdS.more (s : FdS wS bm g W G M w) (h1 : ∀ b, G b → G' b) (h2 : ∀ b, G' b → okC w b ∧ wS.heap.size ≤ b) : FdS wS bm g W G' M w :=
  ⟨s.ag, s.sz, s.mp, h2, fun k b hk => ⟨(s.best k b hk).1, (s.best k b hk).2.1, (s.best k b hk).2.2.mono fun b _ hb => h1 b hb⟩⟩
/-- an entry is laid -/
theorem FdS.put {k : Ky} {b : Nat} (s : FdS wS bm g W G M w) (hk : k.1.1 = false) (hok : KyOk g W.length k) (ht : AtT G w b 0 (bst g.rules W k)) (hg : w.grownBy w' (some bm))
    (hm : MapK Tryd.prog 73 kyVal w' bm (fun z => if z = k then some (.pointer (some ⟨b, 0, none⟩)) else (M z).map fun b => .pointer (some ⟨b, 0, none⟩))) : FdS wS bm g W G (fun z => if z = k then some b else M z) w' := by
  have ka : Agr G w w' := Agr.grown hg fun x hx e => s.nm hx (Option.some.inj e)
  refine ⟨fun x hx hl => (hg.block x (Nat.lt_of_lt_of_le hl s.sz) (fun e => hx (Option.some.inj e))).trans (s.ag x hx hl), Nat.le_trans s.sz hg.size, hm.ext fun z => ?_, fun x hx => ?_, fun z x hz => ?_⟩
  · by_cases e : z = k <;> simp [e]
  · obtain ⟨⟨cs, t, h1⟩, h2⟩ := s.good x hx
    exact ⟨⟨cs, t, (ka x hx (Array.getElem?_eq_some_iff.1 h1).1).trans h1⟩, h2⟩
  · by_cases e : z = k
    · subst e
      simp only [if_true, Option.some.injEq] at hz
      subst hz
      exact ⟨hk, hok, ht.agr ka⟩
    · simp only [if_neg e] at hz
      obtain ⟨h1, h2, h3⟩ := s.best z x hz
      exact ⟨h1, h2, h3.agr ka⟩
end
def FindP (wS : World) (bm : Nat) (g : Gr) (W : List Nat) (G : Nat → Prop) (w : World) (k : Ky) (e : Ending) (w' : World) : Prop :=
  ∃ b G' M', e = .returned (.pointer (some ⟨b, 0, none⟩)) ∧ FdS wS bm g W G' M' w' ∧ (∀ x, G x → G' x) ∧ (∀ x, G' x → G x ∨ w.heap.size ≤ x) ∧ AtT G' w' b 0 (bst g.rules W k) ∧ w.grownBy w' (some bm)
end Go.Proofs.YtfmnmgnhanogmaaDoor



namespace Go.Proofs.YtfmnmgnhanogmaaDoor
open Go.RowKit

theorem grownOf {w w' : World} (h : Below w.heap.size w w') (row : Option Nat) : w.grownBy w' row := ⟨h.os, h.tape, h.output, h.size, fun j hj _ => h.block j hj⟩
theorem grown_far {a w w' : World} {bm : Nat} {row : Option Nat} (h : a.grownBy w (some bm)) (k : w.grownBy w' row) (hr : ∀ x, row = some x → a.heap.size ≤ x) : a.grownBy w' (some bm) :=
  ⟨k.os.trans h.os, k.tape.trans h.tape, k.output.trans h.output, Nat.le_trans h.size k.size, fun j hj hne => (k.block j (Nat.lt_of_lt_of_le hj h.size) (fun e => by have := hr j e.symm; omega)).trans (h.block j hj hne)⟩
theorem Own.addr {α ρ : Type} {E : Elem α ρ} {e : TypeId} {ok : Nat → Prop} {w : World} {base n c : Nat} {A : Option Addr} {l : List α} (h : Own E e ok w base (.slice A n c) n l) (hn : 0 < n) : ∃ gb, A = some ⟨gb, 0, none⟩ := by
  obtain ⟨-, raw, -, h3, -⟩ := h
  rcases h3.2 with ⟨h0, hn0⟩ | ⟨gb, cap, cur, hv, _⟩
  · omega
  · cases hv; exact ⟨gb, rfl⟩
theorem Own.small {α ρ : Type} {E : Elem α ρ} {e : TypeId} {ok : Nat → Prop} {w : World} {base n : Nat} {v : Value} {l : List α} (h : Own E e ok w base v n l) : n ≤ 9223372036854775807 := by
  obtain ⟨-, raw, -, h3, -⟩ := h
  rcases h3.2 with ⟨h0, hn0⟩ | ⟨gb, cap, cur, hv, hb, hh, hc1, hc2, _⟩
  · omega
  · unfold maxLen at hc2; omega
/-- between the rounds of find's loop over the packs -/
structure LpR (wS w3 : World) (bm : Nat) (g : Gr) (W : List Nat) (G0 : Nat → Prop) (B0 : Nat) (P : List (Nat × List Ky)) (mm : Nat) (G1 : Nat → Prop) (M1 : Ky → Option Nat) (bv : Value) (wr : World) : Prop where
  s : FdS wS bm g W G1 M1 wr
  up : ∀ x, G0 x → G1 x
  dn : ∀ x, G1 x → G0 x ∨ B0 ≤ x
  gr : w3.grownBy wr (some bm)
  best : (mm = 0 ∧ bv = .pointer none) ∨ ∃ b t, bv = .pointer (some ⟨b, 0, none⟩) ∧ AtT G1 wr b 0 t ∧ InvP g.rules W P mm t
/-- between the rounds of find's loop over the parts of a pack: the tree lies in block bt, with the kids' header v0; the kids are the row v -/
structure InF (wS w3 wx : World) (bm bt bp : Nat) (g : Gr) (W : List Nat) (G1 : Nat → Prop) (pr : Nat) (psA : Option Addr) (pl psc : Nat) (n : Nat) (l : List Tr) (G2 : Nat → Prop) (M2 : Ky → Option Nat) (v0 v : Value) (wr : World) : Prop where
  s : FdS wS bm g W G2 M2 wr
  up : ∀ x, G1 x → G2 x
  dn : ∀ x, G2 x → G1 x ∨ bt < x
  gr : w3.grownBy wr (some bm)
  tr : ∀ b o t, AtT G1 wx b o t → AtT G2 wr b o t
  t : Blk wr bt 34 #[.int .i64 (pr : Int), .int .i64 0, v0]
  pk : Blk wr bp 125 #[.int .i64 (pr : Int), .slice psA pl psc]
  own : Own TrE 34 G2 wr (bt + 1) v n l
  nb : ¬ G2 bt ∧ ∀ b, v.ownBlock = some b → ¬ G2 b
  lo : bp < bt ∧ w3.heap.size ≤ bp ∧ wS.heap.size ≤ bp ∧ bm < wS.heap.size ∧ bt < wr.heap.size
section
variable {wS w3 wx wr wa : World} {bm bt bp : Nat} {g : Gr} {W : List Nat} {G1 G2 G3 : Nat → Prop} {pr : Nat} {psA : Option Addr} {pl psc n : Nat} {l : List Tr} {M2 M3 : Ky → Option Nat} {v0 v v' : Value}
theorem InF.via (h : InF wS w3 wx bm bt bp g W G1 pr psA pl psc n l G2 M2 v0 v wr) (hb : Below wr.heap.size wr wa) : InF wS w3 wx bm bt bp g W G1 pr psA pl psc n l G2 M2 v0 v wa :=
  ⟨h.s.via hb h.lo.2.2.2.1, h.up, h.dn, h.gr.trans (grownOf hb _), fun b o t ht => (h.tr b o t ht).via hb, h.t.via hb, h.pk.via hb, h.own.via hb, h.nb, h.lo.1, h.lo.2.1, h.lo.2.2.1, h.lo.2.2.2.1, Nat.lt_of_lt_of_le h.lo.2.2.2.2 hb.size⟩
/-- a part's tree has been found -/
theorem InF.call (h : InF wS w3 wx bm bt bp g W G1 pr psA pl psc n l G2 M2 v0 v wr) (hs : FdS wS bm g W G3 M3 wa) (hup : ∀ x, G2 x → G3 x) (hdn : ∀ x, G3 x → G2 x ∨ wr.heap.size ≤ x) (hg : wr.grownBy wa (some bm)) : InF wS w3 wx bm bt bp g W G1 pr psA pl psc n l G3 M3 v0 v wa := by
  have hlo := h.lo
  have ne : ∀ b, wS.heap.size ≤ b → some b ≠ some bm := fun b hb e => by have := Option.some.inj e; omega
  have hv : ∀ b, v.ownBlock = some b → wS.heap.size ≤ b ∧ b < wr.heap.size := fun b e => by have := h.own.lt b e; omega
  refine ⟨hs, fun x hx => hup x (h.up x hx), fun x hx => ?_, h.gr.trans hg, fun b o t ht => ?_, h.t.grown hg (ne _ (by omega)), h.pk.grown hg (ne _ (by omega)), ?_, ⟨fun hx => ?_, fun b hb hx => ?_⟩, hlo.1, hlo.2.1, hlo.2.2.1, hlo.2.2.2.1, Nat.lt_of_lt_of_le hlo.2.2.2.2 hg.size⟩
  · rcases hdn x hx with h1 | h1
    · exact h.dn x h1
    · exact Or.inr (by omega)
  · exact ((h.tr b o t ht).agr (Agr.grown hg fun x hx e => h.s.nm hx (Option.some.inj e))).mono fun x _ hx => hup x hx
  · refine (h.own.agr (Agr.grown hg fun x hx e => ?_)).mono fun x _ hx => hup x hx
    rcases hx with hx | hx
    · exact h.s.nm hx (Option.some.inj e)
    · have := (hv x hx.symm).1; have := Option.some.inj e; omega
  · rcases hdn _ hx with h1 | h1
    · exact h.nb.1 h1
    · omega
  · rcases hdn _ hx with h1 | h1
    · exact h.nb.2 b hb h1
    · have := (hv b hb).2; omega
theorem InF.app {x : Tr} (h : InF wS w3 wx bm bt bp g W G1 pr psA pl psc n l G2 M2 v0 v wr) (ho : Own TrE 34 G2 wa (bt + 1) v' (n + 1) (l ++ [x])) (hg : wr.grownBy wa v.ownBlock) (hat : v'.ownBlock = v.ownBlock ∨ v'.ownBlock = some wr.heap.size) : InF wS w3 wx bm bt bp g W G1 pr psA pl psc (n + 1) (l ++ [x]) G2 M2 v0 v' wa := by
  have hlo := h.lo
  have hv : ∀ b, v.ownBlock = some b → bt < b ∧ ¬ G2 b := fun b e => ⟨(h.own.lt b e).1, h.nb.2 b e⟩
  have ka : Agr (fun b => b < wS.heap.size ∨ G2 b) wr wa := Agr.grown hg fun b hb e => by
    have := hv b e.symm
    rcases hb with hb | hb
    · omega
    · exact this.2 hb
  refine ⟨h.s.agr_ ka hg.size hlo.2.2.2.1, h.up, h.dn, grown_far h.gr hg (fun b e => by have := (hv b e).1; omega), fun b o t ht => (h.tr b o t ht).agr (ka.mono fun b hb => Or.inr hb), h.t.grown hg (fun e => by have := (hv _ e.symm).1; omega), h.pk.grown hg (fun e => by have := (hv _ e.symm).1; omega), ho, ⟨h.nb.1, fun b hb hx => ?_⟩, hlo.1, hlo.2.1, hlo.2.2.1, hlo.2.2.2.1, Nat.lt_of_lt_of_le hlo.2.2.2.2 hg.size⟩
  rcases hat with e | e
  · exact h.nb.2 b (e ▸ hb) hx
  · have e1 := e ▸ hb
    have := Option.some.inj e1
    have := (h.s.good b hx).1.lt; omega
theorem InF.putT {gb q c : Nat} {r m : Int} {A : Option Addr} {k d : Nat} {x : Tr} (h : InF wS w3 wx bm bt bp g W G1 pr psA pl psc n l G2 M2 v0 (.slice (some ⟨gb, 0, none⟩) n c) wr) (hq : q < n) (hx : TreeR G2 wr (r, m, A, k, d) x) :
    InF wS w3 wx bm bt bp g W G1 pr psA pl psc n (l.set q x) G2 M2 v0 (.slice (some ⟨gb, 0, none⟩) n c) (((wr.setCell ⟨gb, q * 3, none⟩ (.int .i64 r)).setCell ⟨gb, q * 3 + 1, none⟩ (.int .i64 m)).setCell ⟨gb, q * 3 + 2, none⟩ (.slice A k d)) := by
  have hlo := h.lo
  have hgb : bt < gb := (h.own.lt gb rfl).1
  have hng : ¬ G2 gb := h.nb.2 gb rfl
  obtain ⟨-, -, ho⟩ := h.own.putTr hq (hx.mono fun b _ hb => ⟨hb, fun e => hng (e ▸ hb)⟩)
  have ka : ∀ (ok : Nat → Prop), (∀ b, ok b → b ≠ gb) → Agr ok wr (((wr.setCell ⟨gb, q * 3, none⟩ (.int .i64 r)).setCell ⟨gb, q * 3 + 1, none⟩ (.int .i64 m)).setCell ⟨gb, q * 3 + 2, none⟩ (.slice A k d)) := fun ok hk =>
    ((Agr.setCell (p := ⟨gb, q * 3, none⟩) _ fun b hb => hk b hb).trans (Agr.setCell (p := ⟨gb, q * 3 + 1, none⟩) _ fun b hb => hk b hb)).trans (Agr.setCell (p := ⟨gb, q * 3 + 2, none⟩) _ fun b hb => hk b hb)
  refine ⟨h.s.agr_ (ka _ fun b hb e => ?_) (by simp) hlo.2.2.2.1, h.up, h.dn, ?_, fun b o t ht => (h.tr b o t ht).agr (ka _ fun b hb e => hng (e ▸ hb)), ((h.t.far (p := ⟨gb, q * 3, none⟩) (by simp only; omega) _).far (p := ⟨gb, q * 3 + 1, none⟩) (by simp only; omega) _).far (p := ⟨gb, q * 3 + 2, none⟩) (by simp only; omega) _, ((h.pk.far (p := ⟨gb, q * 3, none⟩) (by simp only; omega) _).far (p := ⟨gb, q * 3 + 1, none⟩) (by simp only; omega) _).far (p := ⟨gb, q * 3 + 2, none⟩) (by simp only; omega) _, ho, h.nb, hlo.1, hlo.2.1, hlo.2.2.1, hlo.2.2.2.1, by simpa using hlo.2.2.2.2⟩
  · rcases hb with hb | hb
    · omega
    · exact hng (e ▸ hb)
  · exact grown_far (grown_far (grown_far h.gr (grownBySet _ gb _ _) (fun b e => by have := Option.some.inj e; omega)) (grownBySet _ gb _ _) (fun b e => by have := Option.some.inj e; omega)) (grownBySet _ gb _ _) (fun b e => by have := Option.some.inj e; omega)
theorem InF.hdr (h : InF wS w3 wx bm bt bp g W G1 pr psA pl psc n l G2 M2 v0 v wr) : InF wS w3 wx bm bt bp g W G1 pr psA pl psc n l G2 M2 v v (wr.setCell ⟨bt, 2, none⟩ v) := by
  have hlo := h.lo
  have hG : ∀ b, G2 b → b ≠ bt := fun b hb e => h.nb.1 (e ▸ hb)
  refine ⟨h.s.far hlo.2.2.2.1 (p := ⟨bt, 2, none⟩) (by simp only; omega) h.nb.1 v, h.up, h.dn, grown_far h.gr (grownBySet _ bt _ _) (fun b e => by have := Option.some.inj e; omega), fun b o t ht => (h.tr b o t ht).agr (Agr.setCell (p := ⟨bt, 2, none⟩) v fun b hb => hG b hb), ?_, h.pk.far (p := ⟨bt, 2, none⟩) (by simp only; omega) v, h.own.setCell (p := ⟨bt, 2, none⟩) v (fun b hb => hG b hb) (by simp only; omega), h.nb, hlo.1, hlo.2.1, hlo.2.2.1, hlo.2.2.2.1, by simpa using hlo.2.2.2.2⟩
  have := h.t.set_ 2 v
  simpa using this
/-- the blocks of the finished tree are done too -/
def gAdd (G : Nat → Prop) (bt : Nat) (v : Value) (x : Nat) : Prop := G x ∨ x = bt ∨ v.ownBlock = some x
theorem InF.fin {ks : List Tr} (h : InF wS w3 wx bm bt bp g W G1 pr psA pl psc n ks G2 M2 v v wr) : FdS wS bm g W (gAdd G2 bt v) M2 wr ∧ AtT (gAdd G2 bt v) wr bt 0 (.node pr ks) := by
  have hlo := h.lo
  refine ⟨h.s.more (fun b hb => Or.inl hb) fun b hb => ?_, ?_⟩
  · rcases hb with hb | rfl | hb
    · exact h.s.good b hb
    · exact ⟨h.t.okC, by omega⟩
    · refine ⟨?_, by have := (h.own.lt b hb).1; omega⟩
      obtain ⟨-, raw, -, h3, -⟩ := h.own
      rcases h3.2 with ⟨h0, _⟩ | ⟨gb, cap, cur, hv, hb2, hh, _⟩
      · rw [h0] at hb; cases hb
      · rw [hv] at hb
        obtain rfl : gb = b := by simpa [Value.ownBlock] using hb
        exact ⟨_, _, hh⟩
  · obtain ⟨A, c, rfl, hc⟩ := h.own.form
    have hk := h.own
    have hsl : Sl TrE (gAdd G2 bt (.slice A n c)) wr A n c ks := by
      obtain ⟨h1, raw, h2, h3, h4⟩ := hk
      refine ⟨h1, hc, raw, h2, fun hne => ?_, fun i r x hr hx => TrE.mono (h4 i r x hr hx) fun b _ hb => Or.inl hb.1⟩
      rcases h3.2 with ⟨h0, hn⟩ | ⟨gb, cap, cur, hv, hbg, hh, hr⟩
      · have : raw = [] := List.eq_nil_of_length_eq_zero (by omega)
        subst this; exact absurd rfl hne
      · cases hv
        refine ⟨gb, 0, rfl, Or.inr (Or.inr rfl), fun j u hu => ?_⟩
        have := h3.cells (g := gb) rfl j u hu
        rwa [Addr.add_lit] at this
    refine ⟨((pr : Int), 0, A, n, c), TreeR.mk pr hsl, Or.inr (Or.inl rfl), fun j u hu => ?_⟩
    rw [Nat.zero_add, h.t.cell j, List.getElem?_toArray]
    exact hu
end
end Go.Proofs.YtfmnmgnhanogmaaDoor

