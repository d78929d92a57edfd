/- Texts JK, laid together. -/
import Derived.Test.YthkldiehokblcaaJH
import Derived.Test.YthkldiehokblcaaJI



namespace Go.Proofs.Ythkldiehokblcaa
open Go.RowKit

def SlE : Elem SlV SlV where
  k := 1
  cells s := [.slice s.1 s.2.1 s.2.2]
  rel _ _ r x := r = x
  pos := by omega
  len _ := rfl
  one r u hu := by simp at hu; subst hu; rfl
  agr h _ := h
  mono h _ := h
def slV (h : SlV) : Value := .slice h.1 h.2.1 h.2.2
theorem slE_raw {w : World} {ok : Nat → Prop} {raw l : List SlV} (hl : l.length = raw.length) (h : ∀ (i : Nat) (r x : SlV), raw[i]? = some r → l[i]? = some x → SlE.rel ok w r x) : raw = l := by
  refine List.ext_getElem (by omega) fun i h1 h2 => ?_
  exact h i _ _ (List.getElem?_eq_getElem h1) (List.getElem?_eq_getElem h2)
theorem flatSl (l : List SlV) : flat SlE l = l.map slV := by
  induction l with
  | nil => rfl
  | cons x l ih => simp only [flat, List.flatMap_cons, List.map_cons] at ih ⊢; rw [ih]; rfl
theorem step_append_brow {ops : Array Oper} {o : Oper} {a : Act} {K : Act → World → Prop} {Q : Exit → Act → World → Prop} {F : Prop} (w : World) (hgd : o.guard = none) (s y : Operand)
    (ho : o.op = .call { callee := .builtin .append, args := #[s, y], argTypes := #[53, 53] })
    (base : Nat) (v : Value) (n : Nat) (l : List SlV) (hv : a.eval s = v) (hown : Own SlE 59 (fun _ => False) w base v n l)
    (b : Nat) (x : SlV) (hy : a.eval y = .slice (some ⟨b, 0, none⟩) 1 1) (hcell : Blk w b 59 #[slV x])
    (h63 : n + 1 ≤ 1000000) (hbase : base ≤ w.heap.size)
    (h : ∀ A' c' w', Own SlE 59 (fun _ => False) w' base (.slice A' (n + 1) c') (n + 1) (l ++ [x]) → w.grownBy w' v.ownBlock → ((Value.slice A' (n + 1) c').ownBlock = v.ownBlock ∨ (Value.slice A' (n + 1) c').ownBlock = some w.heap.size) → K (a.put o.dst (.slice A' (n + 1) c')) w') :
    if Region.wanted o (yielded ops a.tmps) = true then Oper.wp Try.prog o a w K Q else F := by
  have hinf : (Try.prog.info? 59).map (fun i => (i.zero, i.size, i.bytes)) = some (some (.slice none 0 0), 1, 24) := by kernel_rfl
  obtain ⟨i, hi, hz⟩ := Option.map_eq_some_iff.1 hinf
  simp only [Prod.mk.injEq] at hz
  refine step_append_E (E := SlE) w hgd s y 53 59 ho i (.slice none 0 0) 24 (by kernel_rfl) hi hz.1 hz.2.1 hz.2.2 rfl (fun _ => False) base v n l hv hown b x x hy (fun j u hu => ?_) rfl (by simp [maxLen]; omega) (by omega) hbase h
  rw [hcell.cell j]
  rw [List.getElem?_toArray]; exact hu
def rowsL (m k : Nat) (bs : Nat → Nat) : List SlV := (List.range k).map fun i => (some ⟨bs i, 0, none⟩, m, m)
structure BT (w : World) (base : Nat) (v : Value) (m k : Nat) (bs : Nat → Nat) : Prop where
  own : Own SlE 59 (fun _ => False) w base v k (rowsL m k bs)
  row : ∀ i, i < k → BRow w (bs i) m (fun _ => false)
  lo : ∀ i, i < k → base ≤ bs i
  ap : ∀ i j, i < k → j < k → i ≠ j → bs i ≠ bs j
  far : ∀ i, i < k → v.ownBlock ≠ some (bs i)
section
variable {w w' w2 : World} {base m k r : Nat} {v v' : Value} {bs : Nat → Nat}
theorem BT.nil (w : World) (base m : Nat) (bs : Nat → Nat) : BT w base (.slice none 0 0) m 0 bs :=
  ⟨Own.nil w base, fun _ h => absurd h (Nat.not_lt_zero _), fun _ h => absurd h (Nat.not_lt_zero _), fun _ _ h => absurd h (Nat.not_lt_zero _), fun _ h => absurd h (Nat.not_lt_zero _)⟩
theorem BT.via (h : BT w base v m k bs) (hb : Below w.heap.size w w') : BT w' base v m k bs := ⟨h.own.via hb, fun i hi => (h.row i hi).via hb, h.lo, h.ap, h.far⟩
theorem BT.far_ (h : BT w base v m k bs) {p : Addr} (hp : p.block < base) (u : Value) : BT (w.setCell p u) base v m k bs :=
  ⟨h.own.setCell u (fun b hb => hb.elim) hp, fun i hi => (h.row i hi).far (by have := h.lo i hi; omega) u, h.lo, h.ap, h.far⟩
theorem rowsL_push : rowsL m (k + 1) (fun i => if i = k then r else bs i) = rowsL m k bs ++ [(some ⟨r, 0, none⟩, m, m)] := by
  unfold rowsL
  rw [List.range_succ, List.map_append, List.map_singleton]
  dsimp only
  rw [if_pos rfl]
  congr 1
  refine List.map_congr_left fun i hi => ?_
  rw [if_neg (by have := List.mem_range.1 hi; omega)]
theorem BT.push (h : BT w base v m k bs) (hb : Below w.heap.size w w2) (hr : BRow w2 r m (fun _ => false)) (hr1 : w.heap.size ≤ r) (hbase : base ≤ w.heap.size)
    (ho : Own SlE 59 (fun _ => False) w' base v' (k + 1) (rowsL m k bs ++ [(some ⟨r, 0, none⟩, m, m)])) (hg : w2.grownBy w' v.ownBlock) (hv : v'.ownBlock = v.ownBlock ∨ v'.ownBlock = some w2.heap.size) :
    BT w' base v' m (k + 1) (fun i => if i = k then r else bs i) := by
  have hrl := hr.lt
  have hbl : ∀ i, i < k → bs i < w.heap.size := fun i hi => (h.row i hi).lt
  have hvr : v.ownBlock ≠ some r := fun e => by have := (h.own.lt _ e).2; omega
  refine ⟨by rw [rowsL_push]; exact ho, fun i hi => ?_, fun i hi => ?_, fun i j hi hj hij => ?_, fun i hi => ?_⟩
  · split
    · exact hr.grown hg (fun e => hvr e.symm)
    · exact ((h.row i (by omega)).via hb).grown hg (fun e => h.far i (by omega) e.symm)
  · split
    · omega
    · exact h.lo i (by omega)
  · by_cases e1 : i = k
    · rw [if_pos e1, if_neg (by omega)]
      have := hbl j (by omega); omega
    · rw [if_neg e1]
      by_cases e2 : j = k
      · rw [if_pos e2]; have := hbl i (by omega); omega
      · rw [if_neg e2]; exact h.ap i j (by omega) (by omega) hij
  · have hs := hb.size
    rcases hv with hv | hv <;> rw [hv]
    · split
      · exact hvr
      · exact h.far i (by omega)
    · split
      · exact fun e => by have := Option.some.inj e; omega
      · exact fun e => by have := Option.some.inj e; have := hbl i (by omega); omega
/-- the headers lie in a block -/
theorem BT.done (h : BT w base v m k bs) (hk : 0 < k) : ∃ hb hc, v = .slice (some ⟨hb, 0, none⟩) k hc ∧ base ≤ hb ∧ HRow w hb k 59 (fun i => .slice (some ⟨bs i, 0, none⟩) m m) ∧ ∀ i, i < k → bs i ≠ hb := by
  obtain ⟨h1, raw, h2, h3, h4⟩ := h.own
  have er := slE_raw (by omega) h4
  subst er
  rcases h3.2 with ⟨_, h0⟩ | ⟨g, cap, cur, hv, hb, hh, hc1, hc2, hc3, htk⟩
  · omega
  · have hl : (rowsL m k bs).length = k := h1
    refine ⟨g, cap, hv, hb, ⟨cur, hh, fun j hj => ?_⟩, fun i hi e => h.far i hi (by rw [hv, e]; rfl)⟩
    have e1 : (cur.toList.take (k * SlE.k))[j]? = some (.slice (some ⟨bs j, 0, none⟩) m m) := by
      rw [htk, flatSl]
      simp [rowsL, hj, slV]
    rw [List.getElem?_take, if_pos (by simp [SlE]; omega)] at e1
    simpa using e1
end
end Go.Proofs.Ythkldiehokblcaa

