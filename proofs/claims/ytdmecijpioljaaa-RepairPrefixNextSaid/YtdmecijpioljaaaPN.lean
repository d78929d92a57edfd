/- Texts PN, laid together. -/
import Derived.Test.YtdmecijpioljaaaPL


namespace Go.Proofs.Ytdmecijpioljaaa
open Go.RowKit

/-- the rows of items, their headers in the block gb -/
def Hdr (ti : TypeId) (w : World) (base : Nat) (v : Value) (L : List (List It3)) : Prop :=
  ∃ gb c, v = .slice (some ⟨gb, 0, none⟩) L.length c ∧ ∀ (j : Nat) l, L[j]? = some l → ∃ qA qc, w.cell? ⟨gb, j, none⟩ = some (.slice qA l.length qc) ∧ Own It3E ti (fun _ => False) w base (.slice qA l.length qc) l.length l
theorem Sets.hdr {e ti : TypeId} {w : World} {base : Nat} {v : Value} {hs : List SlV} {L : List (List It3)} (h : Sets e ti w base v hs L) (h0 : L ≠ []) : Hdr ti w base v L := by
  have hsl := h.len
  have hpos : 0 < L.length := List.length_pos_iff.2 h0
  obtain ⟨gb, c, hv, -, -, -, -⟩ := h.cell (List.getElem?_eq_getElem (show 0 < hs.length by omega))
  refine ⟨gb, c, hv, fun j l hl => ?_⟩
  have hjl := (List.getElem?_eq_some_iff.1 hl).1
  have hq := List.getElem?_eq_getElem (show j < hs.length by omega)
  generalize hs[j]'(by omega) = q at hq
  obtain ⟨qA, qn, qc⟩ := q
  have hit := h.items j _ l hq hl
  obtain ⟨A', c', e', -⟩ := hit.form
  simp only [slV, Value.slice.injEq] at e'
  obtain ⟨rfl, rfl, rfl⟩ := e'
  obtain ⟨gb', c'', hv', -, -, hcell, -⟩ := h.cell hq
  rw [hv] at hv'
  simp only [Value.slice.injEq, Option.some.injEq, Addr.mk.injEq, and_true, true_and] at hv'
  obtain ⟨rfl, -⟩ := hv'
  exact ⟨_, _, hcell, hit⟩

/-! ### the follower -/
def FolS (w : World) (base bf : Nat) (c0 c1 c2 : Value) (AR : Option Addr) (nR cR : Nat) (R : List Ru) (s : Value × List SlV) (L : List (List It3)) : Prop := FolM w base bf c0 c1 c2 AR nR cR R s.1 s.2 L
def FolN (k : Nat) (s : Value × List SlV) : Bool → Nat → Prop := NoF k s.1 s.2
section
variable {w w' : World} {base bf : Nat} {c0 c1 c2 : Value} {AR : Option Addr} {nR cR : Nat} {R : List Ru} {s : Value × List SlV} {L : List (List It3)}
theorem FolS.via (h : FolS w base bf c0 c1 c2 AR nR cR R s L) (hb : Below w.heap.size w w') : FolS w' base bf c0 c1 c2 AR nR cR R s L := FolM.via h hb
theorem FolS.rules (h : FolS w base bf c0 c1 c2 AR nR cR R s L) : Sl RuE (fun b => b < base) w AR nR cR R := FolM.rules h
theorem FolS.bs (h : FolS w base bf c0 c1 c2 AR nR cR R s L) : base ≤ w.heap.size := FolM.base h
theorem FolS.c3 (h : FolS w base bf c0 c1 c2 AR nR cR R s L) : w.cell? ⟨bf, 3, none⟩ = some (.slice AR nR cR) := (FolM.blk h).cell 3
theorem FolS.cv (h : FolS w base bf c0 c1 c2 AR nR cR R s L) : w.cell? ⟨bf, 4, none⟩ = some s.1 := (FolM.blk h).cell 4
theorem FolS.lt (h : FolS w base bf c0 c1 c2 AR nR cR R s L) : bf < w.heap.size := (FolM.blk h).lt
theorem FolS.no_ge (h : FolS w base bf c0 c1 c2 AR nR cR R s L) {k b : Nat} {i : Bool} (hb : w.heap.size ≤ b) : FolN k s i b := ((FolM.sets h).no_ge hb).nof
theorem FolS.no_lt (h : FolS w base bf c0 c1 c2 AR nR cR R s L) {k b : Nat} {i : Bool} (hb : b < base) : FolN k s i b := ((FolM.sets h).no_lt hb).nof
theorem FolS.hdr (h : FolS w base bf c0 c1 c2 AR nR cR R s L) (h0 : L ≠ []) : Hdr 68 w base s.1 L := (FolM.sets h).hdr h0
def AddS (k : Nat) (w : World) (base bf : Nat) (c0 c1 c2 : Value) (AR : Option Addr) (nR cR : Nat) (R : List Ru) (s : Value × List SlV) (L' : List (List It3)) (e : Ending) (w' : World) : Prop :=
  e = .returned (.tuple #[]) ∧ ∃ s', FolS w' base bf c0 c1 c2 AR nR cR R s' L' ∧ Mov (FolN k s) (FolN k s') w w'
theorem add_s (h : FolS w base bf c0 c1 c2 AR nR cR R s L) (k : Nat) (l : List It3) (x : It3) (hk : L.length = k + 1) (hl : L[k]? = some l) (hk2 : k ≤ 1000) (hl2 : l.length ≤ 100000) :
    Calls Try.prog 44 #[.pointer (some ⟨bf, 0, none⟩), .agg #[.int .i64 (x.r : Int), .int .i64 (x.d : Int), .int .i64 (x.f : Int)]] w (AddS k w base bf c0 c1 c2 AR nR cR R s (L.set k (addI l x))) := by
  refine (add_c w base bf k c0 c1 c2 AR nR cR R s.1 s.2 L l x h hk hl hk2 hl2).mono ?_
  rintro e w' ⟨rfl, v', hs', hF, hM⟩
  exact ⟨rfl, (v', hs'), hF, hM⟩
theorem predict_s (h : FolS w base bf c0 c1 c2 AR nR cR R s L) (k : Nat) (l : List It3) (hk : L.length = k + 1) (hl : L[k]? = some l) (hk2 : k ≤ 100) (hR : R.length ≤ 32) (h4 : ∀ u ∈ R, u.2.length ≤ 4) (hnd : l.Nodup) (hok : ∀ x ∈ l, ItOk R k x) (tb : Bool) (tn : Nat) :
    Calls Try.prog 23 #[.pointer (some ⟨bf, 0, none⟩), .agg #[.bool tb, .int .i64 (tn : Int)]] w fun e w' => ∃ l', Grew (PredI R k (tb, tn) nR) l l' ∧ AddS k w base bf c0 c1 c2 AR nR cR R s (L.set k l') e w' := by
  refine (predict_c w base bf k c0 c1 c2 AR nR cR R s.1 s.2 L l h hk hl hk2 hR h4 hnd hok tb tn).mono ?_
  rintro e w' ⟨l', hG, rfl, v', hs', hF, hM⟩
  exact ⟨l', hG, rfl, (v', hs'), hF, hM⟩
theorem nexts_s (h : FolS w base bf c0 c1 c2 AR nR cR R s L) (hR : ∀ u ∈ R, u.2.length ≤ 1000) (x : It3) (tb : Bool) (tn : Nat) (hn : nxtI R x = some (tb, tn)) :
    Calls Try.prog 27 #[.pointer (some ⟨bf, 0, none⟩), .agg #[.int .i64 (x.r : Int), .int .i64 (x.d : Int), .int .i64 (x.f : Int)]] w fun e w' => e = .returned (.tuple #[.agg #[.bool tb, .int .i64 (tn : Int)], .bool true]) ∧ Below w.heap.size w w' :=
  next_s w base bf _ AR nR cR R (FolM.blk h) rfl (FolM.rules h) (FolM.base h) hR x tb tn hn
theorem nexts_n (h : FolS w base bf c0 c1 c2 AR nR cR R s L) (hR : ∀ u ∈ R, u.2.length ≤ 1000) (k : Nat) (x : It3) (hx : ItOk R k x) (hn : nxtI R x = none) :
    Calls Try.prog 27 #[.pointer (some ⟨bf, 0, none⟩), .agg #[.int .i64 (x.r : Int), .int .i64 (x.d : Int), .int .i64 (x.f : Int)]] w fun e w' => e = .returned (.tuple #[.agg #[.bool false, .int .i64 0], .bool false]) ∧ Below w.heap.size w w' :=
  next_n w base bf _ AR nR cR R (FolM.blk h) rfl (FolM.rules h) (FolM.base h) hR k x hx hn
end

/-! ### plain: completing a set -/
/-- l' comes out of l, and nothing is missing -/
structure Cl0 (R : List Ru) (k : Nat) (S : Nat → List It3) (l l' : List It3) : Prop where
  pre : ∃ m, l' = l ++ m
  nd : l'.Nodup
  ok : ∀ x ∈ l', ItOk R k x
  snd : ∀ s w, Done R s w S k → (∀ x ∈ l, EIt R s w k x) → ∀ x ∈ l', EIt R s w k x
structure Cl (R : List Ru) (k : Nat) (S : Nat → List It3) (l l' : List It3) : Prop extends Cl0 R k S l l' where
  shut : ∀ x ∈ l', Shut1 R k S l' x
/-- what completing item x of set k gives, by the first m of the items ys -/
def CompI (R : List Ru) (x : It3) (ys : List It3) (m : Nat) (z : It3) : Prop := ∃ i y, i < m ∧ ys[i]? = some y ∧ nxtI R y = some (false, lftI R x) ∧ z = ⟨y.r, y.d + 1, y.f⟩
section
variable {R : List Ru} {k : Nat} {S : Nat → List It3} {l l' l'' : List It3}
theorem CompI.zero {x : It3} {ys : List It3} (z : It3) : ¬ CompI R x ys 0 z := fun ⟨_, _, h, _⟩ => Nat.not_lt_zero _ h
theorem CompI.hit {x : It3} {ys : List It3} {m : Nat} {y : It3} (hy : ys[m]? = some y) (hn : nxtI R y = some (false, lftI R x)) (z : It3) : CompI R x ys (m + 1) z ↔ CompI R x ys m z ∨ z = ⟨y.r, y.d + 1, y.f⟩ := by
  constructor
  · rintro ⟨i, y', h1, h2, h3, rfl⟩
    by_cases e : i = m
    · subst e; rw [hy] at h2; cases h2; exact Or.inr rfl
    · exact Or.inl ⟨i, y', by omega, h2, h3, rfl⟩
  · rintro (⟨i, y', h1, h2, h3, rfl⟩ | rfl)
    · exact ⟨i, y', by omega, h2, h3, rfl⟩
    · exact ⟨m, y, by omega, hy, hn, rfl⟩
theorem CompI.miss {x : It3} {ys : List It3} {m : Nat} {y : It3} (hy : ys[m]? = some y) (hn : nxtI R y ≠ some (false, lftI R x)) (z : It3) : CompI R x ys (m + 1) z ↔ CompI R x ys m z := by
  constructor
  · rintro ⟨i, y', h1, h2, h3, rfl⟩
    by_cases e : i = m
    · subst e; rw [hy] at h2; cases h2; exact absurd h3 hn
    · exact ⟨i, y', by omega, h2, h3, rfl⟩
  · rintro ⟨i, y', h1, h2, h3, rfl⟩; exact ⟨i, y', by omega, h2, h3, rfl⟩
theorem CompI.ok {x : It3} {ys : List It3} {m : Nat} {z : It3} (hys : ∀ y ∈ ys, ItOk R k y) (h : CompI R x ys m z) : ItOk R k z := by
  obtain ⟨i, y, h1, h2, h3, rfl⟩ := h
  obtain ⟨u, q1, q2, q3⟩ := nxtI_lt h3
  exact ⟨(hys y (List.mem_of_getElem? h2)).1, u, q1, q3⟩
theorem Cl0.start (hn : l.Nodup) (ho : ∀ x ∈ l, ItOk R k x) : Cl0 R k S l l := ⟨⟨[], by simp⟩, hn, ho, fun _ _ _ h => h⟩
theorem Cl0.le (h : Cl0 R k S l l') : l.length ≤ l'.length := by obtain ⟨m, rfl⟩ := h.pre; simp
/-- an item whose symbol behind the position is known has been worked off -/
theorem Cl0.pred {y : Sy} {x : It3} (h : Cl0 R k S l l') (hx : x ∈ l') (hn : nxtI R x = some y) (hg : Grew (PredI R k y R.length) l' l'') : Cl0 R k S l l'' := by
  obtain ⟨m, hm⟩ := h.pre
  obtain ⟨m', hm'⟩ := hg.pre
  refine ⟨⟨m ++ m', by rw [hm', hm, List.append_assoc]⟩, hg.nd h.nd, hg.ok h.ok (fun z hz => hz.ok), fun s w hd hl z hz => ?_⟩
  rcases hg.src z hz with hz | ⟨r, u, h1, h2, h3, rfl⟩
  · exact h.snd s w hd hl z hz
  · exact (h.snd s w hd hl x hx).gives_pred h2 (by rw [hn, h3])
theorem Cl0.pred_shut {y : Sy} {x : It3} (hn : nxtI R x = some y) (hg : Grew (PredI R k y R.length) l' l') : Shut1 R k S l' x := by
  refine ⟨fun r u hr hu => hg.all _ ⟨r, u, (List.getElem?_eq_some_iff.1 hr).1, hr, ?_, rfl⟩, fun h => by rw [hn] at h; cases h⟩
  rw [hn] at hu; exact Option.some.inj hu
theorem Cl0.comp {x : It3} {ys : List It3} (h : Cl0 R k S l l') (hx : x ∈ l') (hn : nxtI R x = none) (hys : ys = if x.f = k then l' else S x.f) (hyo : ∀ y ∈ ys, ItOk R k y) (hg : Grew (CompI R x ys ys.length) l' l'') : Cl0 R k S l l'' := by
  obtain ⟨m, hm⟩ := h.pre
  obtain ⟨m', hm'⟩ := hg.pre
  refine ⟨⟨m ++ m', by rw [hm', hm, List.append_assoc]⟩, hg.nd h.nd, hg.ok h.ok (fun z hz => hz.ok hyo), fun s w hd hl z hz => ?_⟩
  rcases hg.src z hz with hz | ⟨i, y, h1, h2, h3, rfl⟩
  · exact h.snd s w hd hl z hz
  · exact EIt.gives_comp hd (h.snd s w hd hl) hx hn (by rw [← hys]; exact List.mem_of_getElem? h2) h3
theorem Cl0.comp_shut {x : It3} {ys : List It3} (hn : nxtI R x = none) (hys : ys = if x.f = k then l' else S x.f) (hg : Grew (CompI R x ys ys.length) l' l') : Shut1 R k S l' x := by
  refine ⟨fun r u hr hu => (by rw [hn] at hu; cases hu), fun _ y hy hny => ?_⟩
  rw [← hys] at hy
  obtain ⟨i, hi⟩ := List.getElem?_of_mem hy
  exact hg.all _ ⟨i, y, (List.getElem?_eq_some_iff.1 hi).1, hi, hny, rfl⟩
/-- what the pass has done so far: if nothing has come to the first n items, the first i of them are shut -/
def Pass (R : List Ru) (k : Nat) (S : Nat → List It3) (n i : Nat) (l : List It3) : Prop := n ≤ l.length ∧ (l.length = n → ∀ m x, m < i → l[m]? = some x → Shut1 R k S l x)
theorem Pass.start : Pass R k S l.length 0 l := ⟨Nat.le_refl _, fun _ _ _ h => absurd h (Nat.not_lt_zero _)⟩
theorem Pass.step {P : It3 → Prop} {n i : Nat} {x : It3} (h : Pass R k S n i l) (hx : l[i]? = some x) (hg : Grew P l l') (hs : Grew P l l → Shut1 R k S l x) : Pass R k S n (i + 1) l' := by
  refine ⟨Nat.le_trans h.1 hg.le, fun e m z hm hz => ?_⟩
  have e1 : l'.length = l.length := by have := h.1; have := hg.le; omega
  have e2 := hg.eq_of_len e1
  subst e2
  by_cases hmi : m = i
  · subst hmi
    rw [hx] at hz
    obtain rfl := Option.some.inj hz
    exact hs hg
  · exact h.2 e m z (by omega) hz
end
end Go.Proofs.Ytdmecijpioljaaa

