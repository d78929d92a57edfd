/- Texts WD, WE, laid together. -/
import Derived.Test.YtdmecijpioljaaaL1
import Derived.Test.YtdmecijpioljaaaH3


namespace Go.Proofs.Ytdmecijpioljaaa
open Go.RowKit

abbrev KnS := Nat → Bool
abbrev OuS := Nat → List Int
def symO (ou : OuS) (s : Sy) : List Int := if s.1 then [(s.2 : Int)] else ou s.2
def catW (ou : OuS) : List Sy → List Int
  | [] => []
  | s :: l => symO ou s ++ catW ou l
theorem catW_append (ou : OuS) (a b : List Sy) : catW ou (a ++ b) = catW ou a ++ catW ou b := by
  induction a with
  | nil => rfl
  | cons s a ih => rw [List.cons_append, catW, ih, catW, List.append_assoc]
theorem catW_snoc (ou : OuS) (a : List Sy) (s : Sy) : catW ou (a ++ [s]) = catW ou a ++ symO ou s := by rw [catW_append]; simp [catW]
def knL (kn : KnS) (l : List Sy) : Prop := ∀ s ∈ l, s.1 = true ∨ kn s.2 = true
def Cand (lens : List Int) (kn : KnS) (ou : OuS) (r : Ru) : Prop := 0 ≤ lens.getD r.1 (-1) ∧ lens.getD r.1 (-1) ≤ 2000 ∧ knL kn r.2 ∧ ((catW ou r.2).length : Int) ≤ lens.getD r.1 (-1)
structure WdG (rules : List Ru) (lens : List Int) (kn : KnS) (ou : OuS) : Prop where
  snd : ∀ N, kn N = true → Dv rules [(false, N)] (ou N) ∧ ((ou N).length : Int) ≤ lens.getD N (-1) ∧ lens.getD N (-1) ≤ 2000
  no : ∀ N, kn N = false → ou N = []
section
variable {rules : List Ru} {lens : List Int} {kn : KnS} {ou : OuS}
theorem WdG.start (rules : List Ru) (lens : List Int) : WdG rules lens (fun _ => false) (fun _ => []) := ⟨fun N h => (by cases h), fun N _ => rfl⟩
theorem WdG.len (h : WdG rules lens kn ou) (hf : FixL rules lens) {N : Nat} (hk : kn N = true) : ((ou N).length : Int) = lens.getD N (-1) := by
  obtain ⟨h1, h2, _⟩ := h.snd N hk
  have := (hf.one h1).2
  omega
theorem WdG.cat (h : WdG rules lens kn ou) {l : List Sy} (hl : knL kn l) : Dv rules l (catW ou l) := by
  induction l with
  | nil => exact .nil
  | cons s l ih =>
    have h2 := ih fun t ht => hl t (List.mem_cons_of_mem _ ht)
    obtain ⟨b, t⟩ := s
    cases b with
    | true => exact .term t h2
    | false =>
      have hk : kn t = true := (hl (false, t) (List.mem_cons_self ..)).resolve_left (by simp)
      have := (h.snd t hk).1.append h2
      simpa [catW, symO] using this
theorem WdG.catLen (h : WdG rules lens kn ou) (hf : FixL rules lens) {l : List Sy} (hl : knL kn l) : ((catW ou l).length : Int) = sumN lens l := by
  induction l with
  | nil => rfl
  | cons s l ih =>
    have h2 := ih fun t ht => hl t (List.mem_cons_of_mem _ ht)
    obtain ⟨b, t⟩ := s
    cases b with
    | true => rw [catW, sumN, List.length_append, Int.natCast_add, h2]; simp [symO, valL]
    | false =>
      have hk : kn t = true := (hl (false, t) (List.mem_cons_self ..)).resolve_left (by simp)
      rw [catW, sumN, List.length_append, Int.natCast_add, h2]
      simp only [symO, valL, Bool.false_eq_true, if_false]
      rw [h.len hf hk]
theorem Cand.word (h : WdG rules lens kn ou) (hf : FixL rules lens) {r : Ru} (hr : r ∈ rules) (hc : Cand lens kn ou r) : Dv rules [(false, r.1)] (catW ou r.2) ∧ ((catW ou r.2).length : Int) = lens.getD r.1 (-1) ∧ (catW ou r.2).length ≤ 2000 := by
  have h1 : Dv rules [(false, r.1)] (catW ou r.2) := Dv.one hr (h.cat hc.2.2.1)
  have h2 := (hf.one h1).2
  have h3 := hc.2.2.2
  have h4 := hc.2.1
  exact ⟨h1, by omega, by omega⟩
theorem WdG.put (h : WdG rules lens kn ou) (hf : FixL rules lens) {r : Ru} (hr : r ∈ rules) (hc : Cand lens kn ou r) :
    WdG rules lens (fun N => if N = r.1 then true else kn N) (fun N => if N = r.1 then catW ou r.2 else ou N) := by
  refine ⟨fun N hN => ?_, fun N hN => ?_⟩
  · by_cases e : N = r.1
    · subst e
      obtain ⟨h1, h2, h3⟩ := hc.word h hf hr
      simp only [if_true]
      exact ⟨h1, by omega, hc.2.1⟩
    · rw [if_neg e] at hN ⊢; exact h.snd N hN
  · by_cases e : N = r.1
    · rw [if_pos e] at hN; cases hN
    · rw [if_neg e] at hN ⊢; exact h.no N hN
def FixWr (lens : List Int) (kn : KnS) (ou : OuS) (r : Ru) : Prop := Cand lens kn ou r → kn r.1 = true ∧ ¬ cmpL (catW ou r.2) (ou r.1) < 0
theorem WdG.known (h : WdG rules lens kn ou) (hf : FixL rules lens) (hw : ∀ r ∈ rules, FixWr lens kn ou r) {l : List Sy} {v : List Int} (hd : Dv rules l v) : sumN lens l = (v.length : Int) → v.length ≤ 2000 → knL kn l := by
  induction hd with
  | nil => intro _ _ s hs; cases hs
  | @term t l v hd ih =>
    intro h1 h2 s hs
    rcases List.mem_cons.1 hs with rfl | hs
    · exact Or.inl rfl
    · refine ih ?_ ?_ s hs
      · rw [sumN] at h1; simp [valL] at h1; omega
      · simp at h2; omega
  | @non N rhs l u v hr hu hv ih1 ih2 =>
    intro h1 h2
    rw [List.length_append] at h1 h2
    have a1 := hf.le hu
    have a2 := (hf.le hv).2
    have a3 := hf _ hr (sumV_nonneg.2 a1.1)
    have a4 : sumV lens rhs = sumN lens rhs := by unfold sumV; rw [if_pos a1.1]
    simp only at a3
    rw [a4] at a3
    have a5 : valL lens (false, N) = lens.getD N (-1) := by simp [valL]
    rw [sumN, a5] at h1
    have b1 : knL kn rhs := ih1 (by omega) (by omega)
    have b2 : Cand lens kn ou (N, rhs) := by
      refine ⟨a3.1, by show lens.getD N (-1) ≤ 2000; omega, b1, ?_⟩
      show ((catW ou rhs).length : Int) ≤ lens.getD N (-1)
      rw [h.catLen hf b1]; omega
    have b3 := (hw _ hr b2).1
    intro s hs
    rcases List.mem_cons.1 hs with rfl | hs
    · exact Or.inr b3
    · exact ih2 (by omega) (by omega) s hs
theorem WdG.all (h : WdG rules lens kn ou) (hf : FixL rules lens) (hs : SndL rules lens) (hw : ∀ r ∈ rules, FixWr lens kn ou r) {N : Nat} (h0 : 0 ≤ lens.getD N (-1)) (h2 : lens.getD N (-1) ≤ 2000) : kn N = true := by
  obtain ⟨v, hv, hvl⟩ := hs N h0
  have := h.known hf hw hv (by rw [sumN, sumN]; simp only [valL, Bool.false_eq_true, if_false]; omega) (by omega) (false, N) (List.mem_singleton.2 rfl)
  exact this.resolve_left (by simp)
end
/-! ### each step makes it smaller -/
def muW (nons : Nat) (kn : KnS) (ou : OuS) : Nat := sumTo (fun N => if kn N then numW 8 (ou N) else 8 ^ long) nons
section
variable {rules : List Ru} {lens : List Int} {kn : KnS} {ou : OuS}
theorem WdG.less (h : WdG rules lens kn ou) (hf : FixL rules lens) (h8 : ∀ r ∈ rules, ∀ s ∈ r.2, s.1 = true → s.2 < 8) {nons : Nat} {r : Ru} (hr : r ∈ rules) (hn : r.1 < nons) (hc : Cand lens kn ou r) (hl : kn r.1 = false ∨ cmpL (catW ou r.2) (ou r.1) < 0) :
    muW nons (fun N => if N = r.1 then true else kn N) (fun N => if N = r.1 then catW ou r.2 else ou N) < muW nons kn ou := by
  obtain ⟨h1, h2, h3⟩ := hc.word h hf hr
  have hlet : ∀ {v : List Int}, Dv rules [(false, r.1)] v → ∀ y ∈ v, 0 ≤ y ∧ y < ((8 : Nat) : Int) := fun hd => hd.lets h8 fun s hs hb => by rw [List.mem_singleton.1 hs] at hb; cases hb
  have key : numW 8 (catW ou r.2) < if kn r.1 then numW 8 (ou r.1) else 8 ^ long := by
    cases hk : kn r.1 with
    | false => exact Nat.lt_of_lt_of_le (numW_lt (hlet h1)) (Nat.pow_le_pow_right (by omega) (show _ ≤ long from h3))
    | true =>
      rcases hl with hl | hl
      · rw [hk] at hl; cases hl
      · have h4 := h.len hf hk
        exact numW_mono (by omega) (hlet h1) (hlet (h.snd _ hk).1) hl
  refine sumTo_lt (k := r.1) (fun N => ?_) hn ?_
  · by_cases e : N = r.1
    · subst e; simp only [if_true]; exact Nat.le_of_lt key
    · simp only [if_neg e]; exact Nat.le_refl _
  · simp only [if_true]; exact key
end
/-- what a round has seen -/
def ProgW (nons : Nat) (rules : List Ru) (lens : List Int) (kn0 : KnS) (ou0 : OuS) (kn : KnS) (ou : OuS) (ag : Bool) (k : Nat) : Prop :=
  (ag = false ∧ kn = kn0 ∧ ou = ou0 ∧ ∀ k' r, k' < k → rules[k']? = some r → FixWr lens kn0 ou0 r) ∨ (ag = true ∧ muW nons kn ou < muW nons kn0 ou0)
theorem ProgW.step {nons k k' : Nat} {rules : List Ru} {lens : List Int} {kn0 kn kn' : KnS} {ou0 ou ou' : OuS} {ag : Bool} (h : ProgW nons rules lens kn0 ou0 kn ou ag k) (hm : muW nons kn' ou' < muW nons kn ou) : ProgW nons rules lens kn0 ou0 kn' ou' true k' := by
  rcases h with ⟨_, rfl, rfl, _⟩ | ⟨_, h⟩
  · exact Or.inr ⟨rfl, hm⟩
  · exact Or.inr ⟨rfl, by omega⟩
theorem ProgW.skip {nons k : Nat} {rules : List Ru} {lens : List Int} {kn0 kn : KnS} {ou0 ou : OuS} {ag : Bool} {r : Ru} (h : ProgW nons rules lens kn0 ou0 kn ou ag k) (hr : rules[k]? = some r) (hf : FixWr lens kn ou r) : ProgW nons rules lens kn0 ou0 kn ou ag (k + 1) := by
  rcases h with ⟨h1, rfl, rfl, h2⟩ | h
  · refine Or.inl ⟨h1, rfl, rfl, fun k' r' hk hr' => ?_⟩
    by_cases e : k' = k
    · subst e; rw [hr] at hr'; rw [← Option.some.inj hr']; exact hf
    · exact h2 k' r' (by omega) hr'
  · exact Or.inr h
end Go.Proofs.Ytdmecijpioljaaa





namespace Go.Proofs.Ytdmecijpioljaaa
open Go.RowKit

theorem mk_words (n : Nat) (hn : n ≤ 1000000) : ∀ w : World, (Instr.makeSlice 118 (.int .i64 (n : Int)) (.int .i64 (n : Int))).run Try.prog w = .ok (.slice (some ⟨w.heap.size, 0, none⟩) n n) (w.alloc (.cells (mkCells (.slice none 0 0) n) 22)) := by
  intro w
  obtain ⟨i, hi, hz, hs, hb⟩ := info_parts ints_info
  have := run_make (P := Try.prog) w 118 22 i _ Try.underlying118 hi hz .i64 .i64 (n : Int) (n : Int) (by omega) (by omega) (by rw [hb]; omega) (by omega)
  rw [show ((n : Int)).toNat = n from by omega, hs, Nat.mul_one] at this
  exact this
theorem mk_bools (n : Nat) (hn : n ≤ 1000000) : ∀ w : World, (Instr.makeSlice 32 (.int .i64 (n : Int)) (.int .i64 (n : Int))).run Try.prog w = .ok (.slice (some ⟨w.heap.size, 0, none⟩) n n) (w.alloc (.cells (mkCells (.bool false) n) 4)) := by
  intro w
  obtain ⟨i, hi, hz, hs, hb⟩ := info_parts bool_info
  have := run_make (P := Try.prog) w 32 4 i _ Try.underlying32 hi hz .i64 .i64 (n : Int) (n : Int) (by omega) (by omega) (by rw [hb]; omega) (by omega)
  rw [show ((n : Int)).toNat = n from by omega, hs, Nat.mul_one] at this
  exact this
theorem mkCells_get (z : Value) {n N : Nat} (h : N < n) : (mkCells z n)[N]? = some z := by
  unfold mkCells; rw [made_one, Array.getElem?_replicate, if_pos h]
/-- the grammar's box, the words, which are known; the words themselves lie above -/
structure WR (w : World) (bg bo bk n : Nat) (gc : Array Value) (kn : KnS) (ou : OuS) (wr : World) : Prop where
  hg : Blk wr bg 28 gc
  ho : ∃ (C : Array Value) (svs : Nat → SlV), Blk wr bo 22 C ∧ C.size = n ∧ ∀ N, N < n → C[N]? = some (.slice (svs N).1 (svs N).2.1 (svs N).2.2) ∧ Sl IntE (fun b => bk < b) wr (svs N).1 (svs N).2.1 (svs N).2.2 (ou N)
  hk : ∃ C : Array Value, Blk wr bk 4 C ∧ C.size = n ∧ ∀ N, N < n → C[N]? = some (.bool (kn N))
  bel : Below w.heap.size w wr
  l0 : w.heap.size ≤ bg
  l1 : bg < bo
  l2 : bo < bk
  l3 : bk < wr.heap.size
section
variable {w wr wa : World} {bg bo bk n : Nat} {gc : Array Value} {kn : KnS} {ou : OuS}
theorem WR.via (h : WR w bg bo bk n gc kn ou wr) (k : Below wr.heap.size wr wa) : WR w bg bo bk n gc kn ou wa := by
  obtain ⟨C, svs, h1, h2, h3⟩ := h.ho
  obtain ⟨D, k1, k2, k3⟩ := h.hk
  exact ⟨h.hg.via k, ⟨C, svs, h1.via k, h2, fun N hN => ⟨(h3 N hN).1, (h3 N hN).2.via k⟩⟩, ⟨D, k1.via k, k2, k3⟩, h.bel.via k, h.l0, h.l1, h.l2, Nat.lt_of_lt_of_le h.l3 k.size⟩
theorem WR.known (h : WR w bg bo bk n gc kn ou wr) {N : Nat} (hN : N < n) : wr.cell? ⟨bk, N, none⟩ = some (.bool (kn N)) := by
  obtain ⟨D, k1, k2, k3⟩ := h.hk
  exact (k1.cell N).trans (k3 N hN)
theorem WR.frk (h : WR w bg bo bk n gc kn ou wr) (N : Nat) : wr.frozen? ⟨bk, N, none⟩ = false := by
  obtain ⟨D, k1, k2, k3⟩ := h.hk
  exact k1.frozen N
theorem WR.fro (h : WR w bg bo bk n gc kn ou wr) (N : Nat) : wr.frozen? ⟨bo, N, none⟩ = false := by
  obtain ⟨C, svs, h1, h2, h3⟩ := h.ho
  exact h1.frozen N
theorem WR.word (h : WR w bg bo bk n gc kn ou wr) {N : Nat} (hN : N < n) : ∃ A m c, wr.cell? ⟨bo, N, none⟩ = some (.slice A m c) ∧ Sl IntE (fun b => bk < b) wr A m c (ou N) := by
  obtain ⟨C, svs, h1, h2, h3⟩ := h.ho
  exact ⟨_, _, _, (h1.cell N).trans (h3 N hN).1, (h3 N hN).2⟩
theorem WR.put (h : WR w bg bo bk n gc kn ou wr) {N m c : Nat} {A : Option Addr} {v : List Int} (hv : Sl IntE (fun b => bk < b) wr A m c v) :
    WR w bg bo bk n gc (fun M => if M = N then true else kn M) (fun M => if M = N then v else ou M) ((wr.setCell ⟨bo, N, none⟩ (.slice A m c)).setCell ⟨bk, N, none⟩ (.bool true)) := by
  obtain ⟨C, svs, h1, h2, h3⟩ := h.ho
  obtain ⟨D, k1, k2, k3⟩ := h.hk
  have l0 := h.l0; have l1 := h.l1; have l2 := h.l2; have l3 := h.l3
  have ag : Agr (fun b => bk < b) wr ((wr.setCell ⟨bo, N, none⟩ (.slice A m c)).setCell ⟨bk, N, none⟩ (.bool true)) :=
    (Agr.setCell _ fun b hb => by show b ≠ bo; omega).trans (Agr.setCell _ fun b hb => by show b ≠ bk; omega)
  refine ⟨(h.hg.far (by show bg ≠ bo; omega) _).far (by show bg ≠ bk; omega) _, ⟨_, fun M => if M = N then (A, m, c) else svs M, (h1.set_ N _).far (by show bo ≠ bk; omega) _, by simp [h2], fun M hM => ?_⟩, ⟨_, (k1.far (by show bk ≠ bo; omega) _).set_ N _, by simp [k2], fun M hM => ?_⟩, (h.bel.setCell (by show w.heap.size ≤ bo; omega) _).setCell (by show w.heap.size ≤ bk; omega) _, l0, l1, l2, by simpa using l3⟩
  · by_cases e : M = N
    · subst e
      simp only [if_true]
      exact ⟨by rw [Array.getElem?_setIfInBounds, if_pos rfl, if_pos (by omega)], hv.agr ag⟩
    · simp only [if_neg e]
      exact ⟨by rw [Array.getElem?_setIfInBounds, if_neg (Ne.symm e)]; exact (h3 M hM).1, (h3 M hM).2.agr ag⟩
  · by_cases e : M = N
    · subst e
      rw [if_pos rfl, Array.getElem?_setIfInBounds, if_pos rfl, if_pos (by omega)]
    · rw [if_neg e, Array.getElem?_setIfInBounds, if_neg (Ne.symm e)]; exact k3 M hM
end
theorem WR.start (w W : World) (bg n : Nat) (gc : Array Value) (hg : Blk W bg 28 gc) (hb : Below w.heap.size w W) (h0 : w.heap.size ≤ bg) :
    WR w bg W.heap.size (W.heap.size + 1) n gc (fun _ => false) (fun _ => []) ((W.alloc (.cells (mkCells (.slice none 0 0) n) 22)).alloc (.cells (mkCells (.bool false) n) 4)) := by
  have B1 := (Blk.new W 22 (mkCells (.slice none 0 0) n)).al (.cells (mkCells (.bool false) n) 4)
  have B2 := Blk.new (W.alloc (.cells (mkCells (.slice none 0 0) n) 22)) 4 (mkCells (.bool false) n)
  rw [World.size_alloc] at B2
  have hl := hg.lt
  refine ⟨(hg.al _).al _, ⟨_, fun _ => (none, 0, 0), B1, mkCells_size _ _, fun N hN => ⟨mkCells_get _ hN, Sl.nil 0⟩⟩, ⟨_, B2, mkCells_size _ _, fun N hN => mkCells_get _ hN⟩, (hb.al _).al _, h0, hl, by omega, by simp⟩
/-- what useful.words gives -/
def WordsP (w : World) (g : Gr) (lens : List Int) (e : Ending) (w' : World) : Prop := ∃ (bg bo bk : Nat) (kn : KnS) (ou : OuS) (gc : Array Value), e = .returned (.slice (some ⟨bo, 0, none⟩) g.nons g.nons) ∧ WR w bg bo bk g.nons gc kn ou w' ∧ WdG g.rules lens kn ou ∧ ∀ r ∈ g.rules, FixWr lens kn ou r
/-- what the inner loop leaves: the word, whether it serves -/
structure WI (W : World) (lens : List Int) (kn : KnS) (ou : OuS) (r : Ru) (v : Value) (okv : Bool) (wr : World) : Prop where
  own : ∃ n xs, OwnI wr W.heap.size v n xs ∧ (okv = true → xs = catW ou r.2)
  yes : okv = true → Cand lens kn ou r
  no : okv = false → ¬ Cand lens kn ou r
  bel : Below W.heap.size W wr
/-- in the loop -/
structure WJ (W : World) (lens : List Int) (kn : KnS) (ou : OuS) (r : Ru) (j : Nat) (v : Value) (okv : Bool) (wr : World) : Prop where
  own : ∃ n, OwnI wr W.heap.size v n (catW ou (r.2.take j)) ∧ n ≤ 2000 * j
  known : knL kn (r.2.take j)
  yes : okv = true → 0 ≤ lens.getD r.1 (-1) ∧ lens.getD r.1 (-1) ≤ 2000 ∧ ((catW ou (r.2.take j)).length : Int) ≤ lens.getD r.1 (-1)
  no : okv = false → ¬ Cand lens kn ou r
  bel : Below W.heap.size W wr
end Go.Proofs.Ytdmecijpioljaaa

