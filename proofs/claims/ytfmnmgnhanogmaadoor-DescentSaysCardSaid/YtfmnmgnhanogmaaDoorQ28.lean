/- Texts OJ, laid together. -/
import Derived.Test.YtfmnmgnhanogmaaDoorQ20
import Derived.Test.YtfmnmgnhanogmaaDoorQ15
import Derived.Test.YtfmnmgnhanogmaaDoorQ12




namespace Go.Proofs.YtfmnmgnhanogmaaDoor
open Go.RowKit

/-! ### places as keys -/
def plVal (x : Nat × Nat) : Value := .agg #[.int .i64 (x.1 : Int), .int .i64 (x.2 : Int)]
theorem plVal_inj (x y : Nat × Nat) (h : plVal x = plVal y) : x = y := by
  obtain ⟨a, b⟩ := x
  obtain ⟨c, d⟩ := y
  simp [plVal] at h
  obtain ⟨h1, h2⟩ := h
  simp only [Prod.mk.injEq]
  exact ⟨by omega, by omega⟩
theorem pl_keyed : Maps.Keyed Tryd.prog 101 :=
  Maps.Keyed.of_law (deep_law_laid laidOutK (m := 2) (by omega) (of_decide_eq_true (by kernel_rfl)) (by kernel_rfl) (by rw [Tryd.underlying101]))
theorem pl_key (x : Nat × Nat) (h1 : x.1 ≤ 1000000000) (h2 : x.2 ≤ 1000000000) : ∃ l, keyOf Tryd.prog 101 (plVal x) = some l := by
  have hc : Tryd.prog.cellsOf 101 = 2 := by kernel_rfl
  have hi : Tryd.prog.cellsOf 3 = 1 := by kernel_rfl
  have w1 : (Lit.int .i64 (x.1 : Int)).wf = true := WalkArith.wf_i64 (by omega)
  have w2 : (Lit.int .i64 (x.2 : Int)).wf = true := WalkArith.wf_i64 (by omega)
  have hf : (plVal x).formed Tryd.prog 101 = true := by simp [Value.formed, Tryd.underlying101, hc, plVal]
  have hk : Tryd.prog.keyLits (Tryd.prog.types.size + 1) 101 [.int .i64 (x.1 : Int), .int .i64 (x.2 : Int)] = some [.int .i64 (x.1 : Int), .int .i64 (x.2 : Int)] := by
    have e : Tryd.prog.types.size + 1 = (Tryd.prog.types.size - 1) + 1 + 1 := by have : 1 ≤ Tryd.prog.types.size := of_decide_eq_true (by kernel_rfl); omega
    rw [e]
    generalize Tryd.prog.types.size - 1 = d
    simp [Program.keyLits, Tryd.underlying101, Tryd.underlying3, hc, hi, w1, w2]
  refine ⟨.string (keyBytes [.int .i64 (x.1 : Int), .int .i64 (x.2 : Int)]), ?_⟩
  unfold keyOf
  rw [Tryd.underlying101]
  simp only [hf, Bool.and_true]
  rw [if_pos (by kernel_rfl)]
  show Option.map _ (Tryd.prog.keyLits _ _ [.int .i64 (x.1 : Int), .int .i64 (x.2 : Int)]) = _
  rw [hk]; rfl
/-! ### the parser -/
/-- a result in memory: no tree, or where it lies and where it ends -/
def resV : Option (Nat × Nat) → Value
  | none => .agg #[.pointer none, .int .i64 (-1)]
  | some (b, e) => .agg #[.pointer (some ⟨b, 0, none⟩), .int .i64 (e : Int)]
/-- the memory's result is the one of ordered choice -/
def ResP (G : Nat → Prop) (w : World) (r : Option (Tr × Nat)) (q : Option (Nat × Nat)) : Prop := match r, q with
  | none, none => True
  | some (t, e), some (b, e') => e' = e ∧ AtT G w b 0 t
  | _, _ => False
section
variable {G G' : Nat → Prop} {w w' : World} {r : Option (Tr × Nat)} {q : Option (Nat × Nat)}
theorem ResP.agr (h : ResP G w r q) (k : Agr G w w') : ResP G w' r q := by
  cases r with
  | none => cases q with
    | none => exact trivial
    | some x => exact h.elim
  | some x =>
    obtain ⟨t, e⟩ := x
    cases q with
    | none => exact h.elim
    | some y => exact ⟨h.1, h.2.agr k⟩
theorem ResP.mono (h : ResP G w r q) (k : ∀ b, G b → G' b) : ResP G' w r q := by
  cases r with
  | none => cases q with
    | none => exact trivial
    | some x => exact h.elim
  | some x =>
    obtain ⟨t, e⟩ := x
    cases q with
    | none => exact h.elim
    | some y => exact ⟨h.1, h.2.mono fun b _ hb => k b hb⟩
theorem ResP.via (h : ResP G w r q) (k : Below w.heap.size w w') : ResP G w' r q := h.agr (Agr.below k)
end
def EntP (g : Gr) (W : List Nat) (G : Nat → Prop) (w : World) (x : Nat × Nat) (q : Option (Nat × Nat)) : Prop := ∃ d r, pg g.rules W d (false, x.1) x.2 = some r ∧ ResP G w r q
theorem EntP.agr {g : Gr} {W : List Nat} {G : Nat → Prop} {w w' : World} {x : Nat × Nat} {q : Option (Nat × Nat)} (h : EntP g W G w x q) (k : Agr G w w') : EntP g W G w' x q := by
  obtain ⟨d, r, h1, h2⟩ := h; exact ⟨d, r, h1, h2.agr k⟩
theorem EntP.mono {g : Gr} {W : List Nat} {G G' : Nat → Prop} {w : World} {x : Nat × Nat} {q : Option (Nat × Nat)} (h : EntP g W G w x q) (k : ∀ b, G b → G' b) : EntP g W G' w x q := by
  obtain ⟨d, r, h1, h2⟩ := h; exact ⟨d, r, h1, h2.mono k⟩
structure PaT (wS : World) (bp bm : Nat) (g : Gr) (W : List Nat) (Ag : Option Addr) (ng cg : Nat) (A : Option Addr) (c : Nat) : Prop where
  gok : GrOk g
  wl : W.length ≤ 2000
  p : Blk wS bp 96 #[.int .i64 (g.terms : Int), .int .i64 (g.nons : Int), .int .i64 (g.start : Int), .slice Ag ng cg, .slice A W.length c, .map (some bm)]
  rules : Sl RuE (fun b => b ≠ bm) wS Ag ng cg g.rules
  wd : Ints wS A W.length c (intsN W)
  mp : bm < wS.heap.size ∧ ∃ es ck, wS.heap[bm]? = some (.map es ck)
structure PaS (wS : World) (bm : Nat) (g : Gr) (W : List Nat) (G : Nat → Prop) (M : Nat × Nat → Option (Option (Nat × Nat))) (w : World) : Prop where
  ag : Agr (fun b => b ≠ bm) wS w
  sz : wS.heap.size ≤ w.heap.size
  mp : MapK Tryd.prog 101 plVal w bm (fun x => (M x).map resV)
  good : ∀ b, G b → okC w b ∧ wS.heap.size ≤ b
  ent : ∀ x q, M x = some q → (x.1 < g.nons ∧ x.2 ≤ W.length) ∧ EntP g W G w x q
section
variable {wS w w' : World} {bp bm : Nat} {g : Gr} {W : List Nat} {G G' : Nat → Prop} {M : Nat × Nat → Option (Option (Nat × Nat))} {Ag : Option Addr} {ng cg : Nat} {A : Option Addr} {c : Nat}
theorem PaT.cell (h : PaT wS bp bm g W Ag ng cg A c) (s : PaS wS bm g W G M w) {b i : Nat} {v : Value} (hc : wS.cell? ⟨b, i, none⟩ = some v) : w.cell? ⟨b, i, none⟩ = some v := by
  refine s.ag.cell (fun e => ?_) hc
  subst e
  obtain ⟨-, es, ck, hm⟩ := h.mp
  simp [World.cell?, hm] at hc
theorem PaT.p_ (h : PaT wS bp bm g W Ag ng cg A c) (s : PaS wS bm g W G M w) : Blk w bp 96 #[.int .i64 (g.terms : Int), .int .i64 (g.nons : Int), .int .i64 (g.start : Int), .slice Ag ng cg, .slice A W.length c, .map (some bm)] :=
  (s.ag bp (fun e => by
    subst e
    obtain ⟨-, es, ck, hm⟩ := h.mp
    have := h.p
    unfold Blk at this
    rw [hm] at this; cases this) h.p.lt).trans h.p
theorem PaT.rules_ (h : PaT wS bp bm g W Ag ng cg A c) (s : PaS wS bm g W G M w) : Sl RuE (fun b => b ≠ bm) w Ag ng cg g.rules := h.rules.agr s.ag
theorem PaT.wd_ (h : PaT wS bp bm g W Ag ng cg A c) (s : PaS wS bm g W G M w) : Ints w A W.length c (intsN W) := by
  obtain ⟨h1, h2, h3⟩ := h.wd
  refine ⟨h1, h2, fun hn => ?_⟩
  obtain ⟨b, off, e, hc⟩ := h3 hn
  exact ⟨b, off, e, fun i hi => h.cell s (hc i hi)⟩
theorem PaS.nm (s : PaS wS bm g W G M w) {b : Nat} (hb : G b) : b ≠ bm := fun e => by
  subst e
  obtain ⟨cs, t, h1⟩ := (s.good b hb).1
  obtain ⟨es, ck, h2, -⟩ := s.mp
  rw [h1] at h2; cases h2
/-- blocks of neither kind turn, or new ones come -/
theorem PaS.agr_ (s : PaS wS bm g W G M w) (k : Agr (fun b => b < wS.heap.size ∨ G b) w w') (hs : w.heap.size ≤ w'.heap.size) (hm : bm < wS.heap.size) : PaS wS bm g W G M w' :=
  ⟨fun b hb hl => (k b (Or.inl hl) (Nat.lt_of_lt_of_le hl s.sz)).trans (s.ag b hb hl), Nat.le_trans s.sz hs, s.mp.agr_ (k bm (Or.inl hm) s.mp.lt), fun b hb => by
    obtain ⟨⟨cs, t, h1⟩, h2⟩ := s.good b hb
    exact ⟨⟨cs, t, (k b (Or.inr hb) (Array.getElem?_eq_some_iff.1 h1).1).trans h1⟩, h2⟩, fun q r hq => ⟨(s.ent q r hq).1, (s.ent q r hq).2.agr (k.mono fun b hb => Or.inr hb)⟩⟩
theorem PaS.via (s : PaS wS bm g W G M w) (hb : Below w.heap.size w w') (hm : bm < wS.heap.size) : PaS wS bm g W G M w' := s.agr_ (Agr.below hb) hb.size hm
theorem PaS.far (s : PaS wS bm g W G M w) (hm : bm < wS.heap.size) {p : Addr} (h1 : wS.heap.size ≤ p.block) (h2 : ¬ G p.block) (u : Value) : PaS wS bm g W G M (w.setCell p u) :=
  s.agr_ (Agr.setCell u fun b hb e => by rcases hb with hb | hb; (· omega); (· exact h2 (e ▸ hb))) (by simp) hm
theorem PaS.grown {x : Nat} (s : PaS wS bm g W G M w) (hm : bm < wS.heap.size) (h1 : wS.heap.size ≤ x) (h2 : ¬ G x) (k : w.grownBy w' (some x)) : PaS wS bm g W G M w' :=
  s.agr_ (Agr.grown k fun b hb e => by have := Option.some.inj e; rcases hb with hb | hb; (· omega); (· exact h2 (this ▸ hb))) k.size hm
/-- more blocks are done -/
theorem PaS.more (s : PaS wS bm g W G M w) (h1 : ∀ b, G b → G' b) (h2 : ∀ b, G' b → okC w b ∧ wS.heap.size ≤ b) : PaS wS bm g W G' M w :=
  ⟨s.ag, s.sz, s.mp, h2, fun q r hq => ⟨(s.ent q r hq).1, (s.ent q r hq).2.mono h1⟩⟩
/-- an entry is laid -/
theorem PaS.put {x : Nat × Nat} {q : Option (Nat × Nat)} (s : PaS wS bm g W G M w) (hx : x.1 < g.nons ∧ x.2 ≤ W.length) (he : EntP g W G w x q) (hg : w.grownBy w' (some bm))
    (hm : MapK Tryd.prog 101 plVal w' bm (fun z => if z = x then some (resV q) else (M z).map resV)) : PaS wS bm g W G (fun z => if z = x then some q else M z) w' := by
  have ka : Agr G w w' := Agr.grown hg fun x hx e => s.nm hx (Option.some.inj e)
  refine ⟨fun x hx hl => (hg.block x (Nat.lt_of_lt_of_le hl s.sz) (fun e => hx (Option.some.inj e))).trans (s.ag x hx hl), Nat.le_trans s.sz hg.size, hm.ext fun z => ?_, fun x hx => ?_, fun z q' hz => ?_⟩
  · by_cases e : z = x <;> simp [e]
  · obtain ⟨⟨cs, t, h1⟩, h2⟩ := s.good x hx
    exact ⟨⟨cs, t, (ka x hx (Array.getElem?_eq_some_iff.1 h1).1).trans h1⟩, h2⟩
  · by_cases e : z = x
    · subst e
      simp only [if_true, Option.some.injEq] at hz
      subst hz
      exact ⟨hx, he.agr ka⟩
    · simp only [if_neg e] at hz
      exact ⟨(s.ent z q' hz).1, (s.ent z q' hz).2.agr ka⟩
theorem PaS.room (s : PaS wS bm g W G M w) (hg : g.nons ≤ 10) (hW : W.length ≤ 2000) : ∀ es clock, w.heap[bm]? = some (.map es clock) → es.size < maxLen := fun es clock he =>
  Nat.lt_of_le_of_lt (s.mp.room (fun x => x.1 * 2001 + x.2) 30000 (fun y hy => by
    cases hq : M y with
    | none => rw [hq] at hy; exact absurd rfl hy
    | some q => have := (s.ent y q hq).1; omega) (fun x y hx hy e => by
    cases hq : M x with
    | none => rw [hq] at hx; exact absurd rfl hx
    | some q =>
      cases hq2 : M y with
      | none => rw [hq2] at hy; exact absurd rfl hy
      | some q2 =>
        have h1 := (s.ent x q hq).1
        have h2 := (s.ent y q2 hq2).1
        obtain ⟨a, b⟩ := x
        obtain ⟨c, d⟩ := y
        simp only at h1 h2 e ⊢
        have : a = c := by omega
        subst this
        simp only [Prod.mk.injEq, true_and]; omega) es clock he) (by simp [maxLen])
end
/-- between the rounds of parse's loop over a right side: the tree lies in block bt, with the kids' header v0; the kids are the row v -/
structure InP (wS w3 : World) (bm bt : Nat) (g : Gr) (W : List Nat) (G1 : Nat → Prop) (pr : Nat) (n : Nat) (l : List Tr) (G2 : Nat → Prop) (M2 : Nat × Nat → Option (Option (Nat × Nat))) (v0 v : Value) (wr : World) : Prop where
  s : PaS wS bm g W G2 M2 wr
  up : ∀ x, G1 x → G2 x
  dn : ∀ x, G2 x → G1 x ∨ bt < x
  gr : w3.grownBy wr (some bm)
  t : Blk wr bt 34 #[.int .i64 (pr : Int), .int .i64 0, v0]
  own : Own TrE 34 G2 wr (bt + 1) v n l
  nb : ¬ G2 bt ∧ ∀ b, v.ownBlock = some b → ¬ G2 b
  lo : w3.heap.size ≤ bt ∧ wS.heap.size ≤ bt ∧ bm < wS.heap.size ∧ bt < wr.heap.size
section
variable {wS w3 wr wa : World} {bm bt : Nat} {g : Gr} {W : List Nat} {G1 G2 G3 : Nat → Prop} {pr n : Nat} {l : List Tr} {M2 M3 : Nat × Nat → Option (Option (Nat × Nat))} {v0 v v' : Value}
theorem InP.via (h : InP wS w3 bm bt g W G1 pr n l G2 M2 v0 v wr) (hb : Below wr.heap.size wr wa) : InP wS w3 bm bt g W G1 pr n l G2 M2 v0 v wa :=
  ⟨h.s.via hb h.lo.2.2.1, h.up, h.dn, h.gr.trans (grownOf hb _), h.t.via hb, h.own.via hb, h.nb, h.lo.1, h.lo.2.1, h.lo.2.2.1, Nat.lt_of_lt_of_le h.lo.2.2.2 hb.size⟩
/-- a part's tree has been found -/
theorem InP.call (h : InP wS w3 bm bt g W G1 pr n l G2 M2 v0 v wr) (hs : PaS wS bm g W G3 M3 wa) (hup : ∀ x, G2 x → G3 x) (hdn : ∀ x, G3 x → G2 x ∨ wr.heap.size ≤ x) (hg : wr.grownBy wa (some bm)) : InP wS w3 bm bt g W G1 pr n l G3 M3 v0 v wa := by
  have hlo := h.lo
  have ne : ∀ b, wS.heap.size ≤ b → some b ≠ some bm := fun b hb e => by have := Option.some.inj e; omega
  have hv : ∀ b, v.ownBlock = some b → wS.heap.size ≤ b ∧ b < wr.heap.size := fun b e => by have := h.own.lt b e; omega
  refine ⟨hs, fun x hx => hup x (h.up x hx), fun x hx => ?_, h.gr.trans hg, h.t.grown hg (ne _ (by omega)), ?_, ⟨fun hx => ?_, fun b hb hx => ?_⟩, hlo.1, hlo.2.1, hlo.2.2.1, Nat.lt_of_lt_of_le hlo.2.2.2 hg.size⟩
  · rcases hdn x hx with h1 | h1
    · exact h.dn x h1
    · exact Or.inr (by omega)
  · refine (h.own.agr (Agr.grown hg fun x hx e => ?_)).mono fun x _ hx => hup x hx
    rcases hx with hx | hx
    · exact h.s.nm hx (Option.some.inj e)
    · have := (hv x hx.symm).1; have := Option.some.inj e; omega
  · rcases hdn _ hx with h1 | h1
    · exact h.nb.1 h1
    · omega
  · rcases hdn _ hx with h1 | h1
    · exact h.nb.2 b hb h1
    · have := (hv b hb).2; omega
theorem InP.app {x : Tr} (h : InP wS w3 bm bt g W G1 pr n l G2 M2 v0 v wr) (ho : Own TrE 34 G2 wa (bt + 1) v' (n + 1) (l ++ [x])) (hg : wr.grownBy wa v.ownBlock) (hat : v'.ownBlock = v.ownBlock ∨ v'.ownBlock = some wr.heap.size) : InP wS w3 bm bt g W G1 pr (n + 1) (l ++ [x]) G2 M2 v0 v' wa := by
  have hlo := h.lo
  have hv : ∀ b, v.ownBlock = some b → bt < b ∧ ¬ G2 b := fun b e => ⟨(h.own.lt b e).1, h.nb.2 b e⟩
  have ka : Agr (fun b => b < wS.heap.size ∨ G2 b) wr wa := Agr.grown hg fun b hb e => by
    have := hv b e.symm
    rcases hb with hb | hb
    · omega
    · exact this.2 hb
  refine ⟨h.s.agr_ ka hg.size hlo.2.2.1, h.up, h.dn, grown_far h.gr hg (fun b e => by have := (hv b e).1; omega), h.t.grown hg (fun e => by have := (hv _ e.symm).1; omega), ho, ⟨h.nb.1, fun b hb hx => ?_⟩, hlo.1, hlo.2.1, hlo.2.2.1, Nat.lt_of_lt_of_le hlo.2.2.2 hg.size⟩
  rcases hat with e | e
  · exact h.nb.2 b (e ▸ hb) hx
  · have e1 := e ▸ hb
    have := Option.some.inj e1
    have := (h.s.good b hx).1.lt; omega
theorem InP.putT {gb q c : Nat} {r m : Int} {A : Option Addr} {k d : Nat} {x : Tr} (h : InP wS w3 bm bt g W G1 pr n l G2 M2 v0 (.slice (some ⟨gb, 0, none⟩) n c) wr) (hq : q < n) (hx : TreeR G2 wr (r, m, A, k, d) x) :
    InP wS w3 bm bt g W G1 pr n (l.set q x) G2 M2 v0 (.slice (some ⟨gb, 0, none⟩) n c) (((wr.setCell ⟨gb, q * 3, none⟩ (.int .i64 r)).setCell ⟨gb, q * 3 + 1, none⟩ (.int .i64 m)).setCell ⟨gb, q * 3 + 2, none⟩ (.slice A k d)) := by
  have hlo := h.lo
  have hgb : bt < gb := (h.own.lt gb rfl).1
  have hng : ¬ G2 gb := h.nb.2 gb rfl
  obtain ⟨-, -, ho⟩ := h.own.putTr hq (hx.mono fun b _ hb => ⟨hb, fun e => hng (e ▸ hb)⟩)
  have ka : ∀ (ok : Nat → Prop), (∀ b, ok b → b ≠ gb) → Agr ok wr (((wr.setCell ⟨gb, q * 3, none⟩ (.int .i64 r)).setCell ⟨gb, q * 3 + 1, none⟩ (.int .i64 m)).setCell ⟨gb, q * 3 + 2, none⟩ (.slice A k d)) := fun ok hk =>
    ((Agr.setCell (p := ⟨gb, q * 3, none⟩) _ fun b hb => hk b hb).trans (Agr.setCell (p := ⟨gb, q * 3 + 1, none⟩) _ fun b hb => hk b hb)).trans (Agr.setCell (p := ⟨gb, q * 3 + 2, none⟩) _ fun b hb => hk b hb)
  refine ⟨h.s.agr_ (ka _ fun b hb e => ?_) (by simp) hlo.2.2.1, h.up, h.dn, ?_, ((h.t.far (p := ⟨gb, q * 3, none⟩) (by simp only; omega) _).far (p := ⟨gb, q * 3 + 1, none⟩) (by simp only; omega) _).far (p := ⟨gb, q * 3 + 2, none⟩) (by simp only; omega) _, ho, h.nb, hlo.1, hlo.2.1, hlo.2.2.1, by simpa using hlo.2.2.2⟩
  · rcases hb with hb | hb
    · omega
    · exact hng (e ▸ hb)
  · exact grown_far (grown_far (grown_far h.gr (grownBySet _ gb _ _) (fun b e => by have := Option.some.inj e; omega)) (grownBySet _ gb _ _) (fun b e => by have := Option.some.inj e; omega)) (grownBySet _ gb _ _) (fun b e => by have := Option.some.inj e; omega)
theorem InP.hdr (h : InP wS w3 bm bt g W G1 pr n l G2 M2 v0 v wr) : InP wS w3 bm bt g W G1 pr n l G2 M2 v v (wr.setCell ⟨bt, 2, none⟩ v) := by
  have hlo := h.lo
  have hG : ∀ b, G2 b → b ≠ bt := fun b hb e => h.nb.1 (e ▸ hb)
  refine ⟨h.s.far hlo.2.2.1 (p := ⟨bt, 2, none⟩) (by simp only; omega) h.nb.1 v, h.up, h.dn, grown_far h.gr (grownBySet _ bt _ _) (fun b e => by have := Option.some.inj e; omega), ?_, h.own.setCell (p := ⟨bt, 2, none⟩) v (fun b hb => hG b hb) (by simp only; omega), h.nb, hlo.1, hlo.2.1, hlo.2.2.1, by simpa using hlo.2.2.2⟩
  have := h.t.set_ 2 v
  simpa using this
theorem InP.fin {ks : List Tr} (h : InP wS w3 bm bt g W G1 pr n ks G2 M2 v v wr) : PaS wS bm g W (gAdd G2 bt v) M2 wr ∧ AtT (gAdd G2 bt v) wr bt 0 (.node pr ks) := by
  have hlo := h.lo
  refine ⟨h.s.more (fun b hb => Or.inl hb) fun b hb => ?_, ?_⟩
  · rcases hb with hb | rfl | hb
    · exact h.s.good b hb
    · exact ⟨h.t.okC, by omega⟩
    · refine ⟨?_, by have := (h.own.lt b hb).1; omega⟩
      obtain ⟨-, raw, -, h3, -⟩ := h.own
      rcases h3.2 with ⟨h0, _⟩ | ⟨gb, cap, cur, hv, hb2, hh, _⟩
      · rw [h0] at hb; cases hb
      · rw [hv] at hb
        obtain rfl : gb = b := by simpa [Value.ownBlock] using hb
        exact ⟨_, _, hh⟩
  · obtain ⟨A, c, rfl, hc⟩ := h.own.form
    have hk := h.own
    have hsl : Sl TrE (gAdd G2 bt (.slice A n c)) wr A n c ks := by
      obtain ⟨h1, raw, h2, h3, h4⟩ := hk
      refine ⟨h1, hc, raw, h2, fun hne => ?_, fun i r x hr hx => TrE.mono (h4 i r x hr hx) fun b _ hb => Or.inl hb.1⟩
      rcases h3.2 with ⟨h0, hn⟩ | ⟨gb, cap, cur, hv, hbg, hh, hr⟩
      · have : raw = [] := List.eq_nil_of_length_eq_zero (by omega)
        subst this; exact absurd rfl hne
      · cases hv
        refine ⟨gb, 0, rfl, Or.inr (Or.inr rfl), fun j u hu => ?_⟩
        have := h3.cells (g := gb) rfl j u hu
        rwa [Addr.add_lit] at this
    refine ⟨((pr : Int), 0, A, n, c), TreeR.mk pr hsl, Or.inr (Or.inl rfl), fun j u hu => ?_⟩
    rw [Nat.zero_add, h.t.cell j, List.getElem?_toArray]
    exact hu
end
end Go.Proofs.YtfmnmgnhanogmaaDoor

