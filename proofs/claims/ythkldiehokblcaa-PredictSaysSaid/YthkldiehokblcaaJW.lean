/- Texts JW, laid together. -/
import Derived.Test.YthkldiehokblcaaJX


namespace Go.Proofs.Ythkldiehokblcaa
open Go.RowKit

/-- the table's block bt; its rows v1, its clashes v2; I: the blocks of the lists that they hold; the first of the clashes C read as D -/
structure TbM (W : World) (bt : Nat) (I : Nat → Prop) (v1 v2 : Value) (R : List (List Int)) (C : List (Nat × Nat × SlV)) (D : List (Nat × Nat × List Int)) (wr : World) : Prop where
  blk : Blk wr bt 31 #[v1, v2]
  o1 : Own RwE 25 I wr (bt + 1) v1 R.length R
  o2 : Own ClE 44 (fun _ => False) wr (bt + 1) v2 C.length C
  cl : ∀ (i : Nat) c d, C[i]? = some c → D[i]? = some d → c.1 = d.1 ∧ c.2.1 = d.2.1 ∧ Sl InE I wr c.2.2.1 c.2.2.2.1 c.2.2.2.2 d.2.2
  i1 : ∀ b, I b → bt + 1 ≤ b ∧ b < wr.heap.size ∧ v1.ownBlock ≠ some b ∧ v2.ownBlock ≠ some b
  i2 : ∀ b, v1.ownBlock = some b → v2.ownBlock ≠ some b
  bel : Below bt W wr
section
variable {W wr wa : World} {bt : Nat} {I : Nat → Prop} {v1 v2 : Value} {R : List (List Int)} {C : List (Nat × Nat × SlV)} {D : List (Nat × Nat × List Int)}
/-- no block of the table -/
def TbM.no (bt : Nat) (I : Nat → Prop) (v1 v2 : Value) (b : Nat) : Prop := bt + 1 ≤ b ∧ ¬ I b ∧ v1.ownBlock ≠ some b ∧ v2.ownBlock ≠ some b
theorem TbM.via (h : TbM W bt I v1 v2 R C D wr) (k : Below wr.heap.size wr wa) : TbM W bt I v1 v2 R C D wa :=
  ⟨h.blk.via k, h.o1.via k, h.o2.via k, fun i c d hc hd => let ⟨a, b, s⟩ := h.cl i c d hc hd; ⟨a, b, s.via k⟩, fun b hb => let ⟨a1, a2, a3⟩ := h.i1 b hb; ⟨a1, Nat.lt_of_lt_of_le a2 k.size, a3⟩, h.i2, h.bel.trans (k.mono (Nat.le_of_lt h.blk.lt))⟩
/-- a block that is none of the table's has grown -/
theorem TbM.other (h : TbM W bt I v1 v2 R C D wr) {row : Option Nat} (k : wr.grownBy wa row) (hr : ∀ b, row = some b → TbM.no bt I v1 v2 b) : TbM W bt I v1 v2 R C D wa := by
  have hI : ∀ b, I b → some b ≠ row := fun b hb e => (hr b e.symm).2.1 hb
  have h1 : ∀ b, v1.ownBlock = some b → some b ≠ row := fun b hb e => (hr b e.symm).2.2.1 hb
  have h2 : ∀ b, v2.ownBlock = some b → some b ≠ row := fun b hb e => (hr b e.symm).2.2.2 hb
  refine ⟨h.blk.grown k (fun e => by have := (hr bt e.symm).1; omega), h.o1.agr (Agr.grown k fun b hb => ?_), h.o2.agr (Agr.grown k fun b hb => ?_), fun i c d hc hd => ?_, fun b hb => ?_, h.i2, ?_⟩
  · rcases hb with hb | hb
    · exact hI b hb
    · exact h1 b hb.symm
  · rcases hb with hb | hb
    · exact hb.elim
    · exact h2 b hb.symm
  · obtain ⟨a, b, s⟩ := h.cl i c d hc hd
    exact ⟨a, b, s.agr (Agr.grown k hI)⟩
  · obtain ⟨a1, a2, a3⟩ := h.i1 b hb
    exact ⟨a1, Nat.lt_of_lt_of_le a2 k.size, a3⟩
  · exact h.bel.grown k (Nat.le_of_lt h.blk.lt) (fun j e => by have := (hr j e).1; omega)
/-- a clash has been appended; what it holds is not said yet -/
theorem TbM.pushC {c : Nat × Nat × SlV} {v2' : Value} (h : TbM W bt I v1 v2 R C D wr) (hD : D.length ≤ C.length) (ho : Own ClE 44 (fun _ => False) wa (bt + 1) v2' (C.length + 1) (C ++ [c])) (k : wr.grownBy wa v2.ownBlock)
    (hv : v2'.ownBlock = v2.ownBlock ∨ v2'.ownBlock = some wr.heap.size) : TbM W bt I v1 v2' R (C ++ [c]) D (wa.setCell ⟨bt, 1, none⟩ v2') := by
  have hbl := h.blk.lt
  have h2lt : ∀ b, v2.ownBlock = some b → bt + 1 ≤ b ∧ b < wr.heap.size := fun b e => h.o2.lt b e
  have hI : ∀ b, I b → some b ≠ v2.ownBlock := fun b hb e => (h.i1 b hb).2.2.2 e.symm
  have h1 : ∀ b, v1.ownBlock = some b → some b ≠ v2.ownBlock := fun b hb e => h.i2 b hb e.symm
  have hne : ∀ b, I b → b ≠ bt := fun b hb e => by have := (h.i1 b hb).1; omega
  have ho1 : Own RwE 25 I wa (bt + 1) v1 R.length R := h.o1.agr (Agr.grown k fun b hb => by
    rcases hb with hb | hb
    · exact hI b hb
    · exact h1 b hb.symm)
  refine ⟨?_, ho1.setCell _ hne (by simp), by simpa using ho.setCell v2' (fun b hb => hb.elim) (p := ⟨bt, 1, none⟩) (by simp), fun i c' d hc hd => ?_, fun b hb => ?_, fun b hb => ?_, ?_⟩
  · have := (h.blk.grown k (fun e => by have := (h2lt bt e.symm).1; omega)).set_ 1 v2'
    simpa using this
  · have hi : i < C.length := by have := (List.getElem?_eq_some_iff.1 hd).1; omega
    rw [List.getElem?_append_left hi] at hc
    obtain ⟨a, b, s⟩ := h.cl i c' d hc hd
    exact ⟨a, b, (s.agr (Agr.grown k hI)).agr (Agr.setCell _ hne)⟩
  · obtain ⟨a1, a2, a3, a4⟩ := h.i1 b hb
    refine ⟨a1, by have := k.size; simp; omega, a3, ?_⟩
    rcases hv with hv | hv <;> rw [hv]
    · exact a4
    · exact fun e => by have := Option.some.inj e; omega
  · rcases hv with hv | hv <;> rw [hv]
    · exact h.i2 b hb
    · have := (h.o1.lt b hb).2
      exact fun e => by have := Option.some.inj e; omega
  · exact (h.bel.grown k (Nat.le_of_lt hbl) (fun j e => by have := (h2lt j e).1; omega)).setCell (Nat.le_refl _) _
/-- what the last clash holds -/
theorem TbM.addD {c : Nat × Nat × SlV} {xs : List Int} {lb : Nat} (h : TbM W bt I v1 v2 R (C ++ [c]) D wr) (hD : D.length = C.length) (hlb : TbM.no bt I v1 v2 lb) (hlt : lb < wr.heap.size) (hx : Sl InE (fun b => b = lb) wr c.2.2.1 c.2.2.2.1 c.2.2.2.2 xs) :
    TbM W bt (fun b => I b ∨ b = lb) v1 v2 R (C ++ [c]) (D ++ [(c.1, c.2.1, xs)]) wr := by
  refine ⟨h.blk, h.o1.mono fun b _ hb => Or.inl hb, h.o2, fun i c' d hc hd => ?_, fun b hb => ?_, h.i2, h.bel⟩
  · by_cases hi : i < D.length
    · rw [List.getElem?_append_left hi] at hd
      obtain ⟨a, b, s⟩ := h.cl i c' d hc hd
      exact ⟨a, b, s.mono fun b _ hb => Or.inl hb⟩
    · have hil := (List.getElem?_eq_some_iff.1 hd).1
      simp only [List.length_append, List.length_singleton] at hil
      have ei : i = D.length := by omega
      subst ei
      rw [List.getElem?_append_right (Nat.le_refl _), Nat.sub_self] at hd
      rw [hD, List.getElem?_append_right (Nat.le_refl _), Nat.sub_self] at hc
      obtain rfl := Option.some.inj hd
      obtain rfl := Option.some.inj hc
      exact ⟨rfl, rfl, hx.mono fun b _ hb => Or.inr hb⟩
  · rcases hb with hb | rfl
    · exact h.i1 b hb
    · exact ⟨hlb.1, hlt, hlb.2.2.1, hlb.2.2.2⟩
/-- a row has been appended -/
theorem TbM.pushR {xs : List Int} {v1' : Value} {rb : Nat} (h : TbM W bt I v1 v2 R C D wr) (hrb : TbM.no bt I v1 v2 rb) (hlt : rb < wr.heap.size) (ho : Own RwE 25 (fun b => I b ∨ b = rb) wa (bt + 1) v1' (R.length + 1) (R ++ [xs])) (k : wr.grownBy wa v1.ownBlock)
    (hv : v1'.ownBlock = v1.ownBlock ∨ v1'.ownBlock = some wr.heap.size) : TbM W bt (fun b => I b ∨ b = rb) v1' v2 (R ++ [xs]) C D (wa.setCell ⟨bt, 0, none⟩ v1') := by
  have hbl := h.blk.lt
  have h1lt : ∀ b, v1.ownBlock = some b → bt + 1 ≤ b ∧ b < wr.heap.size := fun b e => h.o1.lt b e
  have hI : ∀ b, I b → some b ≠ v1.ownBlock := fun b hb e => (h.i1 b hb).2.2.1 e.symm
  have h2 : ∀ b, v2.ownBlock = some b → some b ≠ v1.ownBlock := fun b hb e => h.i2 b e.symm hb
  have hne : ∀ b, I b ∨ b = rb → b ≠ bt := fun b hb e => by
    rcases hb with hb | hb
    · have := (h.i1 b hb).1; omega
    · have := hrb.1; omega
  have ho2 : Own ClE 44 (fun _ => False) wa (bt + 1) v2 C.length C := h.o2.agr (Agr.grown k fun b hb => by
    rcases hb with hb | hb
    · exact hb.elim
    · exact h2 b hb.symm)
  refine ⟨?_, by simpa using ho.setCell v1' hne (p := ⟨bt, 0, none⟩) (by simp), ho2.setCell v1' (fun b hb => hb.elim) (p := ⟨bt, 0, none⟩) (by simp), fun i c d hc hd => ?_, fun b hb => ?_, fun b hb => ?_, ?_⟩
  · have := (h.blk.grown k (fun e => by have := (h1lt bt e.symm).1; omega)).set_ 0 v1'
    simpa using this
  · obtain ⟨a, b, s⟩ := h.cl i c d hc hd
    exact ⟨a, b, ((s.agr (Agr.grown k hI)).agr (Agr.setCell _ fun b hb => hne b (Or.inl hb))).mono fun b _ hb => Or.inl hb⟩
  · have key : bt + 1 ≤ b ∧ b < wr.heap.size ∧ v1.ownBlock ≠ some b ∧ v2.ownBlock ≠ some b := by
      rcases hb with hb | rfl
      · exact h.i1 b hb
      · exact ⟨hrb.1, hlt, hrb.2.2.1, hrb.2.2.2⟩
    obtain ⟨a1, a2, a3, a4⟩ := key
    refine ⟨a1, by have := k.size; simp; omega, ?_, a4⟩
    rcases hv with hv | hv <;> rw [hv]
    · exact a3
    · exact fun e => by have := Option.some.inj e; omega
  · rcases hv with hv | hv <;> rw [hv] at hb
    · exact h.i2 b hb
    · intro e
      have := (h.o2.lt b e).2
      have := Option.some.inj hb; omega
  · exact (h.bel.grown k (Nat.le_of_lt hbl) (fun j e => by have := (h1lt j e).1; omega)).setCell (Nat.le_refl _) _
end
end Go.Proofs.Ythkldiehokblcaa

