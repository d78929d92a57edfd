/- Texts JR, laid together. -/
import Derived.Test.YthkldiehokblcaaJQ


namespace Go.Proofs.Ythkldiehokblcaa
open Go.RowKit

def BoE : Elem Bool Bool where
  k := 1
  cells b := [.bool b]
  rel _ _ r x := r = x
  pos := by omega
  len _ := rfl
  one r u hu := by simp at hu; subst hu; rfl
  agr h _ := h
  mono h _ := h
theorem wpList_append_b {ops : Array Oper} {rest : List Oper} {o : Oper} {a : Act} {Q : Exit → Act → World → Prop} (w : World) (hgd : o.guard = none) (s y : Operand)
    (ho : o.op = .call { callee := .builtin .append, args := #[s, y], argTypes := #[59, 59] }) (base : Nat) (v : Value) (n : Nat) (l : List Bool) (hv : a.eval s = v) (hown : Own BoE 4 (fun _ => False) w base v n l)
    (b : Nat) (x : Bool) (hy : a.eval y = .slice (some ⟨b, 0, none⟩) 1 1) (hcell : w.cell? ⟨b, 0, none⟩ = some (.bool x))
    (h63 : n + 1 ≤ 1000000) (hbase : base ≤ w.heap.size)
    (h : ∀ A' c' w', Own BoE 4 (fun _ => False) w' base (.slice A' (n + 1) c') (n + 1) (l ++ [x]) → w.grownBy w' v.ownBlock → ((Value.slice A' (n + 1) c').ownBlock = v.ownBlock ∨ (Value.slice A' (n + 1) c').ownBlock = some w.heap.size) → wpList Try.prog ops Q rest (a.put o.dst (.slice A' (n + 1) c')) w') : wpList Try.prog ops Q (o :: rest) a w := by
  obtain ⟨i, hi, hz, hs, hb⟩ := info_parts bool_info
  exact wpList_append_E w hgd s y _ _ ho i _ 1 Try.underlying59 hi hz hs hb rfl (fun _ => False) base v n l hv hown b x x hy (fun j u hu => by
    cases j with
    | zero => simp [BoE] at hu; subst hu; exact hcell
    | succ j => simp [BoE] at hu) rfl (by unfold maxLen; omega) (by omega) hbase h
theorem flatBo (l : List Bool) : flat BoE l = l.map Value.bool := by
  induction l with
  | nil => rfl
  | cons x l ih => simp only [flat, List.flatMap_cons, List.map_cons] at ih ⊢; rw [ih]; rfl
theorem BRowS.own {w : World} {b n base : Nat} {f : Nat → Bool} (h : BRow w b n f) (hb : base ≤ b) (hn : n ≤ 1000) : Own BoE 4 (fun _ => False) w base (.slice (some ⟨b, 0, none⟩) n n) n ((List.range n).map f) := by
  obtain ⟨cs, h1, hs, h2⟩ := h
  refine ⟨by simp, (List.range n).map f, by simp, ⟨by rw [flatBo]; simp [BoE], Or.inr ⟨b, n, cs, rfl, hb, h1, Nat.le_refl _, by unfold maxLen; omega, by rw [hs]; simp [BoE], ?_⟩⟩, fun i r x hr hx => by rw [hr] at hx; exact Option.some.inj hx⟩
  rw [flatBo]
  refine List.ext_getElem? fun i => ?_
  rw [List.getElem?_take]
  by_cases hi : i < n
  · rw [if_pos (by simp [BoE]; exact hi), Array.getElem?_toList, h2 i hi]; simp [hi]
  · rw [if_neg (by simp [BoE]; omega)]; simp [hi]
theorem Own.brow {w : World} {base n c : Nat} {A : Option Addr} {l : List Bool} (h : Own BoE 4 (fun _ => False) w base (.slice A n c) n l) (hn : 0 < n) : ∃ b, A = some ⟨b, 0, none⟩ ∧ base ≤ b ∧ BRowS w b c n (fun i => l.getD i false) := by
  obtain ⟨h1, raw, h3, h4, h5⟩ := h
  have er : raw = l := List.ext_getElem (by omega) fun i a b => h5 i _ _ (List.getElem?_eq_getElem a) (List.getElem?_eq_getElem b)
  subst er
  rcases h4.2 with ⟨h0, _⟩ | ⟨g, cap, cur, hv, hb, hh, hc1, hc2, hc3, htk⟩
  · cases h0; omega
  · cases hv
    refine ⟨g, rfl, hb, cur, hh, by rw [hc3]; simp [BoE], fun j hj => ?_⟩
    have e1 : (cur.toList.take (n * BoE.k))[j]? = some (.bool (raw.getD j false)) := by
      rw [htk, flatBo, List.getElem?_map, List.getElem?_eq_getElem (by omega)]
      simp [List.getD_eq_getElem?_getD, List.getElem?_eq_getElem (show j < raw.length by omega)]
    rw [List.getElem?_take, if_pos (by simp [BoE]; omega)] at e1
    simpa using e1
def rowsC (m k : Nat) (bs cs : Nat → Nat) : List SlV := (List.range k).map fun i => (some ⟨bs i, 0, none⟩, m, cs i)
/-- a table that is done, row by row -/
structure BC (w : World) (base : Nat) (v : Value) (m k : Nat) (bs cs : Nat → Nat) (F : Nat → Nat → Bool) : Prop where
  own : Own SlE 59 (fun _ => False) w base v k (rowsC m k bs cs)
  row : ∀ i, i < k → BRowS w (bs i) (cs i) m (F i)
  far : ∀ i, i < k → v.ownBlock ≠ some (bs i)
section
variable {w w' w2 : World} {base m k r c : Nat} {v v' : Value} {bs cs : Nat → Nat} {F : Nat → Nat → Bool}
theorem BC.nil (w : World) (base m : Nat) (bs cs : Nat → Nat) (F : Nat → Nat → Bool) : BC w base (.slice none 0 0) m 0 bs cs F :=
  ⟨Own.nil w base, fun _ h => absurd h (Nat.not_lt_zero _), fun _ h => absurd h (Nat.not_lt_zero _)⟩
theorem BC.via (h : BC w base v m k bs cs F) (hb : Below w.heap.size w w') : BC w' base v m k bs cs F := ⟨h.own.via hb, fun i hi => (h.row i hi).via hb, h.far⟩
theorem rowsC_push : rowsC m (k + 1) (fun i => if i = k then r else bs i) (fun i => if i = k then c else cs i) = rowsC m k bs cs ++ [(some ⟨r, 0, none⟩, m, c)] := by
  unfold rowsC
  rw [List.range_succ, List.map_append, List.map_singleton]
  dsimp only
  rw [if_pos rfl, if_pos rfl]
  congr 1
  refine List.map_congr_left fun i hi => ?_
  have := List.mem_range.1 hi
  rw [if_neg (by omega), if_neg (by omega)]
theorem BC.push (h : BC w base v m k bs cs F) (hb : Below w.heap.size w w2) (hr : BRowS w2 r c m (F k)) (hr1 : w.heap.size ≤ r)
    (ho : Own SlE 59 (fun _ => False) w' base v' (k + 1) (rowsC m k bs cs ++ [(some ⟨r, 0, none⟩, m, c)])) (hg : w2.grownBy w' v.ownBlock) (hv : v'.ownBlock = v.ownBlock ∨ v'.ownBlock = some w2.heap.size) :
    BC w' base v' m (k + 1) (fun i => if i = k then r else bs i) (fun i => if i = k then c else cs i) F := by
  have hrl := hr.lt
  have hbl : ∀ i, i < k → bs i < w.heap.size := fun i hi => (h.row i hi).lt
  have hvr : v.ownBlock ≠ some r := fun e => by have := (h.own.lt _ e).2; omega
  have hs := hb.size
  refine ⟨by rw [rowsC_push]; exact ho, fun i hi => ?_, fun i hi => ?_⟩
  · by_cases e : i = k
    · rw [if_pos e, if_pos e, e]; exact hr.grown hg (fun e => hvr e.symm)
    · rw [if_neg e, if_neg e]; exact ((h.row i (by omega)).via hb).grown hg (fun e => h.far i (by omega) e.symm)
  · rcases hv with hv | hv <;> rw [hv]
    · split
      · exact hvr
      · exact h.far i (by omega)
    · split
      · exact fun e => by have := Option.some.inj e; omega
      · exact fun e => by have := Option.some.inj e; have := hbl i (by omega); omega
end
/-- the rule may be used at terminal t -/
def Pos (g : Gr) (u : Ru) (t : Nat) : Prop := FstL g.rules u.2 t ∨ (NulL g.rules u.2 ∧ FolN g.rules g.start g.terms u.1 t)
def posB (es : Nat → Bool) (fs fo : Nat → Nat → Bool) (u : Ru) (t : Nat) : Bool := ofB es fs u.2 t || (ofE es u.2 && fo u.1 t)
theorem posB_iff {g : Gr} {es : Nat → Bool} {fs fo : Nat → Nat → Bool} (ht : TabOk g.rules es fs) (hf : ∀ N t, fo N t = true ↔ FolN g.rules g.start g.terms N t) (u : Ru) (t : Nat) : posB es fs fo u t = true ↔ Pos g u t := by
  unfold posB Pos
  rw [Bool.or_eq_true, Bool.and_eq_true, hf]
  have e1 : ofB es fs u.2 t = true ↔ FstL g.rules u.2 t := ⟨fun h => ofB_fst (fun N hN => (ht.nul N).1 hN) (fun N t hN => (ht.fst N t).1 hN) h, fun h => fst_ofB (fun N hN => (ht.nul N).2 hN) (fun N t hN => (ht.fst N t).2 hN) h⟩
  have e2 : ofE es u.2 = true ↔ NulL g.rules u.2 := ⟨fun h => ofE_null (fun N hN => (ht.nul N).1 hN) h, fun h => null_ofE (fun N hN => (ht.nul N).2 hN) h⟩
  rw [e1, e2]
def PredP (w : World) (g : Gr) (e : Ending) (w' : World) : Prop :=
  ∃ (base : Nat) (v : Value) (bs cs : Nat → Nat) (F : Nat → Nat → Bool), e = .returned (.tuple #[v, .int .i64 0]) ∧ BC w' base v (g.terms + 1) g.rules.length bs cs F ∧ (∀ i u, g.rules[i]? = some u → ∀ t, F i t = true ↔ Pos g u t) ∧ Below w.heap.size w w'
end Go.Proofs.Ythkldiehokblcaa

