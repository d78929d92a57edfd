/- Texts JU, laid together. -/
import Derived.Test.YthkldiehokblcaaJT


namespace Go.Proofs.Ythkldiehokblcaa
open Go.RowKit

theorem run_append_intK (w : World) (base : Nat) (ty : TypeId) (A : Option Addr) (n c : Nat) (xs : List Int) (hown : OwnI w base (.slice A n c) n xs)
    (b : Nat) (x : Int) (hcell : w.cell? ⟨b, 0, none⟩ = some (.int .i64 x)) (hb : n + 1 ≤ 1000000) (hbase : base ≤ w.heap.size) :
    ∃ v' w', (Builtin.append_ #[25, 25] ty #[.slice A n c, .slice (some ⟨b, 0, none⟩) 1 1]).run Try.prog w = .ok v' w' ∧ OwnI w' base v' (n + 1) (xs ++ [x]) ∧ w.grownBy w' (Value.slice A n c).ownBlock ∧
      (v'.ownBlock = (Value.slice A n c).ownBlock ∨ v'.ownBlock = some w.heap.size) ∧ Ints w' A n c xs := by
  have hr : Ints w (some ⟨b, 0, none⟩) 1 1 [x] := ⟨rfl, Nat.le_refl _, fun _ => ⟨b, 0, rfl, fun i hi => by
    have : i = 0 := by omega
    subst this; simpa using hcell⟩⟩
  obtain ⟨v', w', hrun, h2, h3, h5⟩ := run_append_ints w base ty (.slice A n c) n xs hown (some ⟨b, 0, none⟩) 1 1 [x] hr (by omega) hbase
  refine ⟨v', w', hrun, h2, h3, h5, ?_⟩
  have hI := hown.toInts
  rcases hown.2 with ⟨h0, hn⟩ | ⟨g, cap, cur, hv, hbg, hh, hnc, hcm, hcs, htk⟩
  · cases h0
    exact ⟨hI.1, hI.2.1, fun h => absurd h (Nat.not_lt_zero _)⟩
  · cases hv
    have hgl : g < w.heap.size := by have := (hown.lt g rfl).2; exact this
    rcases h5 with h5 | h5
    · obtain ⟨A', c', rfl, hI'⟩ := h2.form
      rcases h2.2 with ⟨h0, _⟩ | ⟨g', cap', cur', hv', -, -, -, -, -, -⟩
      · cases h0
      · cases hv'
        have e : g' = g := by simpa [Value.ownBlock] using h5
        subst e
        have := hI'.head (m := n) (by omega)
        rw [List.take_left' hI.1] at this
        exact ⟨hI.1, hI.2.1, this.2.2⟩
    · obtain ⟨i, hi, hz, hs, hby⟩ := info_parts int_info
      by_cases hroom : n + 1 ≤ c
      · have hrr := run_append_room (P := Try.prog) w 25 ty 3 i Try.underlying25 hi g n c cur hh ⟨b, 0, none⟩ 1 1 [.int .i64 x] (by simp [hs]) (fun j u hu => by
          cases j with
          | zero => simp at hu; subst hu; simpa [Addr.add_lit] using hcell
          | succ j => simp at hu) (fun u hu => by simp at hu; subst hu; rfl) hroom (by rw [hs, hcs]; simp; omega)
        rw [hrr] at hrun
        injection hrun with e1 e2
        rw [← e1] at h5
        simp [Value.ownBlock] at h5
        omega
      · have hrg := run_append_grow (P := Try.prog) w 25 ty 3 i _ Try.underlying25 hi hz ⟨g, 0, none⟩ n c (xs.map (Value.int .i64)) (by simp [hs, hI.1]) (hown.cells (g := g) rfl) ⟨b, 0, none⟩ 1 1 [.int .i64 x] (by simp [hs]) (fun j u hu => by
          cases j with
          | zero => simp at hu; subst hu; simpa [Addr.add_lit] using hcell
          | succ j => simp at hu) (by omega) (by omega) (by rw [hby]; exact growslice_fits (by omega) (by omega))
        rw [hrg] at hrun
        injection hrun with e1 e2
        rw [← e2]
        exact hI.via (((Below.refl w.heap.size w).drew).alloc (Nat.le_refl _) _)
theorem wpList_append_intK {ops : Array Oper} {rest : List Oper} {o : Oper} {a : Act} {Q : Exit → Act → World → Prop} (w : World) (hgd : o.guard = none) (s y : Operand)
    (ho : o.op = .call { callee := .builtin .append, args := #[s, y], argTypes := #[25, 25] })
    (base : Nat) (A : Option Addr) (n c : Nat) (xs : List Int) (hs : a.eval s = .slice A n c) (hown : OwnI w base (.slice A n c) n xs)
    (b : Nat) (x : Int) (hy : a.eval y = .slice (some ⟨b, 0, none⟩) 1 1) (hcell : w.cell? ⟨b, 0, none⟩ = some (.int .i64 x)) (hb : n + 1 ≤ 1000000) (hbase : base ≤ w.heap.size)
    (h : ∀ A' c' w', OwnI w' base (.slice A' (n + 1) c') (n + 1) (xs ++ [x]) → w.grownBy w' (Value.slice A n c).ownBlock → ((Value.slice A' (n + 1) c').ownBlock = (Value.slice A n c).ownBlock ∨ (Value.slice A' (n + 1) c').ownBlock = some w.heap.size) → Ints w' A n c xs → wpList Try.prog ops Q rest (a.put o.dst (.slice A' (n + 1) c')) w') : wpList Try.prog ops Q (o :: rest) a w := by
  obtain ⟨v', w', hrun, h2, h3, h4, h5⟩ := run_append_intK w base o.type A n c xs hown b x hcell hb hbase
  refine wpList_plain hgd fun _ hK => ?_
  unfold Oper.wp execOp
  simp only [ho, resolve, invoke, builtin, Sem.run_bind, Sem.run_pure, Result.andThen_ok, List.map_toArray, List.map_cons, List.map_nil, hs, hy, hrun]
  obtain ⟨A', c', rfl, _⟩ := h2.form
  exact hK _ _ (h A' c' w' h2 h3 h4 h5)
end Go.Proofs.Ythkldiehokblcaa

