/- Texts PT, laid together. -/
import Derived.Test.YtdmecijpioljaaaPQ
import Derived.Test.YtdmecijpioljaaaRI



namespace Go.Proofs.Ytdmecijpioljaaa
open Go.RowKit

theorem step_append_hrow {ops : Array Oper} {o : Oper} {a : Act} {K : Act → World → Prop} {Q : Exit → Act → World → Prop} {F : Prop} (w : World) (hgd : o.guard = none) (s y : Operand)
    (ho : o.op = .call { callee := .builtin .append, args := #[s, y], argTypes := #[57, 57] })
    (base : Nat) (v : Value) (n : Nat) (l : List SlV) (hv : a.eval s = v) (hown : Own SlE 66 (fun _ => False) w base v n l)
    (b : Nat) (x : SlV) (hy : a.eval y = .slice (some ⟨b, 0, none⟩) 1 1) (hcell : Blk w b 66 #[slV x])
    (h63 : n + 1 ≤ 1000000) (hbase : base ≤ w.heap.size)
    (h : ∀ A' c' w', Own SlE 66 (fun _ => False) w' base (.slice A' (n + 1) c') (n + 1) (l ++ [x]) → w.grownBy w' v.ownBlock → ((Value.slice A' (n + 1) c').ownBlock = v.ownBlock ∨ (Value.slice A' (n + 1) c').ownBlock = some w.heap.size) → K (a.put o.dst (.slice A' (n + 1) c')) w') :
    if Region.wanted o (yielded ops a.tmps) = true then Oper.wp Try.prog o a w K Q else F := by
  have hinf : (Try.prog.info? 66).map (fun i => (i.zero, i.size, i.bytes)) = some (some (.slice none 0 0), 1, 24) := by kernel_rfl
  obtain ⟨i, hi, hz⟩ := Option.map_eq_some_iff.1 hinf
  simp only [Prod.mk.injEq] at hz
  refine step_append_E (E := SlE) w hgd s y 57 66 ho i (.slice none 0 0) 24 (by kernel_rfl) hi hz.1 hz.2.1 hz.2.2 rfl (fun _ => False) base v n l hv hown b x x hy (fun j u hu => ?_) rfl (by simp [maxLen]; omega) (by omega) hbase h
  rw [hcell.cell j]
  rw [List.getElem?_toArray]; exact hu
theorem step_append_erow {ops : Array Oper} {o : Oper} {a : Act} {K : Act → World → Prop} {Q : Exit → Act → World → Prop} {F : Prop} (w : World) (hgd : o.guard = none) (s y : Operand)
    (ho : o.op = .call { callee := .builtin .append, args := #[s, y], argTypes := #[106, 106] })
    (base : Nat) (v : Value) (n : Nat) (l : List SlV) (hv : a.eval s = v) (hown : Own SlE 109 (fun _ => False) w base v n l)
    (b : Nat) (x : SlV) (hy : a.eval y = .slice (some ⟨b, 0, none⟩) 1 1) (hcell : Blk w b 109 #[slV x])
    (h63 : n + 1 ≤ 1000000) (hbase : base ≤ w.heap.size)
    (h : ∀ A' c' w', Own SlE 109 (fun _ => False) w' base (.slice A' (n + 1) c') (n + 1) (l ++ [x]) → w.grownBy w' v.ownBlock → ((Value.slice A' (n + 1) c').ownBlock = v.ownBlock ∨ (Value.slice A' (n + 1) c').ownBlock = some w.heap.size) → K (a.put o.dst (.slice A' (n + 1) c')) w') :
    if Region.wanted o (yielded ops a.tmps) = true then Oper.wp Try.prog o a w K Q else F := by
  have hinf : (Try.prog.info? 109).map (fun i => (i.zero, i.size, i.bytes)) = some (some (.slice none 0 0), 1, 24) := by kernel_rfl
  obtain ⟨i, hi, hz⟩ := Option.map_eq_some_iff.1 hinf
  simp only [Prod.mk.injEq] at hz
  refine step_append_E (E := SlE) w hgd s y 106 109 ho i (.slice none 0 0) 24 (by kernel_rfl) hi hz.1 hz.2.1 hz.2.2 rfl (fun _ => False) base v n l hv hown b x x hy (fun j u hu => ?_) rfl (by simp [maxLen]; omega) (by omega) hbase h
  rw [hcell.cell j]
  rw [List.getElem?_toArray]; exact hu
theorem step_append_map {ops : Array Oper} {o : Oper} {a : Act} {K : Act → World → Prop} {Q : Exit → Act → World → Prop} {F : Prop} (w : World) (hgd : o.guard = none) (s y : Operand)
    (ho : o.op = .call { callee := .builtin .append, args := #[s, y], argTypes := #[105, 105] })
    (base : Nat) (v : Value) (n : Nat) (l : List Nat) (hv : a.eval s = v) (hown : Own MpE 125 (fun _ => False) w base v n l)
    (b : Nat) (x : Nat) (hy : a.eval y = .slice (some ⟨b, 0, none⟩) 1 1) (hcell : Blk w b 125 #[.map (some x)])
    (h63 : n + 1 ≤ 1000000) (hbase : base ≤ w.heap.size)
    (h : ∀ A' c' w', Own MpE 125 (fun _ => False) w' base (.slice A' (n + 1) c') (n + 1) (l ++ [x]) → w.grownBy w' v.ownBlock → ((Value.slice A' (n + 1) c').ownBlock = v.ownBlock ∨ (Value.slice A' (n + 1) c').ownBlock = some w.heap.size) → K (a.put o.dst (.slice A' (n + 1) c')) w') :
    if Region.wanted o (yielded ops a.tmps) = true then Oper.wp Try.prog o a w K Q else F := by
  have hinf : (Try.prog.info? 125).map (fun i => (i.zero, i.size, i.bytes)) = some (some (.map none), 1, 8) := by kernel_rfl
  obtain ⟨i, hi, hz⟩ := Option.map_eq_some_iff.1 hinf
  simp only [Prod.mk.injEq] at hz
  refine step_append_E (E := MpE) w hgd s y 105 125 ho i (.map none) 8 (by kernel_rfl) hi hz.1 hz.2.1 hz.2.2 rfl (fun _ => False) base v n l hv hown b x x hy (fun j u hu => ?_) rfl (by simp [maxLen]; omega) (by omega) hbase h
  rw [hcell.cell j]
  rw [List.getElem?_toArray]; exact hu
section
variable {e ti : TypeId} {w w' : World} {base : Nat} {v : Value} {hs : List SlV} {L : List (List It3)}
/-- a new empty row at the end -/
theorem Sets.push2 {v' : Value} (h : Sets e ti w base v hs L) (hrow : Own SlE e (fun _ => False) w' base v' (L.length + 1) (hs ++ [(none, 0, 0)])) (hg : Agr (fun b => v.ownBlock ≠ some b ∧ ¬ Sets.no v hs b) w w') (hv : v'.ownBlock = v.ownBlock ∨ ∃ b, w.heap.size ≤ b ∧ v'.ownBlock = some b) :
    Sets e ti w' base v' (hs ++ [(none, 0, 0)]) (L ++ [[]]) := by
  have hlen := h.len
  have hcase : ∀ (j : Nat) (q : SlV), (hs ++ [((none, 0, 0) : SlV)])[j]? = some q → hs[j]? = some q ∨ (j = hs.length ∧ q = (none, 0, 0)) := by
    intro j q hj
    by_cases hlt : j < hs.length
    · rw [List.getElem?_append_left hlt] at hj; exact Or.inl hj
    · have hjl := (List.getElem?_eq_some_iff.1 hj).1
      simp only [List.length_append, List.length_singleton] at hjl
      have ej : j = hs.length := by omega
      subst ej
      rw [List.getElem?_append_right (Nat.le_refl _), Nat.sub_self] at hj
      exact Or.inr ⟨rfl, (Option.some.inj hj).symm⟩
  refine ⟨by simpa using hrow, by simp [hlen], ?_, ?_, ?_⟩
  · intro j q l hq hl
    rcases hcase j q hq with hq' | ⟨ej, eq⟩
    · have hjl := (List.getElem?_eq_some_iff.1 hq').1
      rw [List.getElem?_append_left (by omega)] at hl
      refine (h.items j q l hq' hl).agr (hg.mono fun b hb => ?_)
      rcases hb with hb | hb
      · exact hb.elim
      · exact ⟨h.far j q b hq' hb.symm, fun hn => hn.2 j q hq' hb.symm⟩
    · subst ej; subst eq
      rw [hlen, List.getElem?_append_right (Nat.le_refl _), Nat.sub_self] at hl
      have el : l = [] := (Option.some.inj hl).symm
      subst el
      exact Own.nil w' base
  · intro j j' q q' b hne hq hq' hb
    rcases hcase j q hq with hq | ⟨ej, eq⟩
    · rcases hcase j' q' hq' with hq' | ⟨ej', eq'⟩
      · exact h.apart j j' q q' b hne hq hq' hb
      · subst eq'; exact fun e' => by cases e'
    · subst eq; cases hb
  · intro j q b hq hb
    rcases hcase j q hq with hq | ⟨ej, eq⟩
    · have hjl := (List.getElem?_eq_some_iff.1 hq).1
      have hjl' : j < L.length := by omega
      rcases hv with hv | ⟨b', hb', hv⟩
      · rw [hv]; exact h.far j q b hq hb
      · rw [hv]
        have := ((h.items j q _ hq (List.getElem?_eq_getElem hjl')).lt b hb).2
        exact fun e' => by have := Option.some.inj e'; omega
    · subst eq; cases hb
/-- who is no block of the sets stays none -/
theorem Sets.no_push {v' : Value} {b : Nat} (h : Sets.no v hs b) (hb : b < w.heap.size) (hv : v'.ownBlock = v.ownBlock ∨ ∃ b, w.heap.size ≤ b ∧ v'.ownBlock = some b) : Sets.no v' (hs ++ [(none, 0, 0)]) b := by
  refine ⟨?_, fun j q hq => ?_⟩
  · rcases hv with hv | ⟨b', hb', hv⟩
    · rw [hv]; exact h.1
    · rw [hv]; exact fun e => by have := Option.some.inj e; omega
  · by_cases hlt : j < hs.length
    · rw [List.getElem?_append_left hlt] at hq; exact h.2 j q hq
    · have hjl := (List.getElem?_eq_some_iff.1 hq).1
      simp only [List.length_append, List.length_singleton] at hjl
      have ej : j = hs.length := by omega
      subst ej
      rw [List.getElem?_append_right (Nat.le_refl _), Nat.sub_self] at hq
      obtain rfl := Option.some.inj hq
      exact fun e => by cases e
end
theorem append_set {α : Type} (L : List α) (x y : α) {n : Nat} (hn : n = L.length) : (L ++ [x]).set n y = L ++ [y] := by
  subst hn
  induction L with
  | nil => rfl
  | cons a L ih => simp only [List.cons_append, List.length_cons, List.set_cons_succ, ih]
theorem append_get {α : Type} (L : List α) (x : α) {n : Nat} (hn : n = L.length) : (L ++ [x])[n]? = some x := by
  subst hn; simp
/-- all that is no block of the sets nor the struct's own -/
def FolX (bf : Nat) (s : Value × List SlV) : Bool → Nat → Prop := fun _ b => Sets.no s.1 s.2 b ∧ b ≠ bf
def ChX (bf : Nat) (s : ChSt) : Bool → Nat → Prop := fun _ b => ChF s b ∧ b ≠ bf
theorem Mov.fx {k bf : Nat} {s s' : Value × List SlV} {w w' : World} (h : Mov (FolN k s) (FolN k s') w w') : Mov (FolX bf s) (FolX bf s') w w' :=
  ⟨h.env, fun _ => (h.agr false).mono fun _ hb => hb.1, fun _ b hlt hb => ⟨h.no false b hlt hb.1, hb.2⟩⟩
theorem Mov.cx {k bf : Nat} {s s' : ChSt} {w w' : World} (h : Mov (ChN k s) (ChN k s') w w') : Mov (ChX bf s) (ChX bf s') w w' :=
  ⟨h.env, fun _ => (h.agr false).mono fun _ hb => hb.1, fun _ b hlt hb => ⟨h.no false b hlt hb.1, hb.2⟩⟩
/-- what going over terminal t gives, by the first m of the items -/
def ScanI (R : List Ru) (t : Nat) (l : List It3) (m : Nat) (z : It3) : Prop := ∃ i x, i < m ∧ l[i]? = some x ∧ nxtI R x = some (true, t) ∧ z = ⟨x.r, x.d + 1, x.f⟩
section
variable {R : List Ru} {t k m : Nat} {l : List It3}
theorem ScanI.zero (z : It3) : ¬ ScanI R t l 0 z := fun ⟨_, _, h, _⟩ => Nat.not_lt_zero _ h
theorem ScanI.hit {x : It3} (hx : l[m]? = some x) (hn : nxtI R x = some (true, t)) (z : It3) : ScanI R t l (m + 1) z ↔ ScanI R t l m z ∨ z = ⟨x.r, x.d + 1, x.f⟩ := by
  constructor
  · rintro ⟨i, y', h1, h2, h3, rfl⟩
    by_cases e : i = m
    · subst e; rw [hx] at h2; cases h2; exact Or.inr rfl
    · exact Or.inl ⟨i, y', by omega, h2, h3, rfl⟩
  · rintro (⟨i, y', h1, h2, h3, rfl⟩ | rfl)
    · exact ⟨i, y', by omega, h2, h3, rfl⟩
    · exact ⟨m, x, by omega, hx, hn, rfl⟩
theorem ScanI.miss {x : It3} (hx : l[m]? = some x) (hn : nxtI R x ≠ some (true, t)) (z : It3) : ScanI R t l (m + 1) z ↔ ScanI R t l m z := by
  constructor
  · rintro ⟨i, y', h1, h2, h3, rfl⟩
    by_cases e : i = m
    · subst e; rw [hx] at h2; cases h2; exact absurd h3 hn
    · exact ⟨i, y', by omega, h2, h3, rfl⟩
  · rintro ⟨i, y', h1, h2, h3, rfl⟩; exact ⟨i, y', by omega, h2, h3, rfl⟩
theorem ItOk.succ {x : It3} (h : ItOk R k x) : ItOk R (k + 1) x := ⟨Nat.le_succ_of_le h.1, h.2⟩
theorem ScanI.ok {z : It3} (hl : ∀ x ∈ l, ItOk R k x) (h : ScanI R t l m z) : ItOk R (k + 1) z := by
  obtain ⟨i, x, h1, h2, h3, rfl⟩ := h
  obtain ⟨u, q1, q2, q3⟩ := nxtI_lt h3
  exact ⟨Nat.le_succ_of_le (hl x (List.mem_of_getElem? h2)).1, u, q1, q3⟩
end
theorem isC_t (tb : Bool) (tn t : Nat) : isC (tb, tn) (true, (t : Int)) = decide (some (tb, tn) = some (true, t)) := by
  cases tb <;> simp [isC] <;> omega
/-- the elements of an own row lie in its own block -/
theorem Own.sl_own {ti : TypeId} {w : World} {base : Nat} {A : Option Addr} {n c : Nat} {l : List It3} (h : Own It3E ti (fun _ => False) w base (.slice A n c) n l) : Sl It3E (fun b => (Value.slice A n c).ownBlock = some b) w A n c l := by
  have hs := h.toSl (ok' := fun b => base ≤ b) (fun _ _ h => h.elim) (fun b hb => hb)
  obtain ⟨h1, raw, h2, h3, h4⟩ := h
  obtain ⟨s1, s2, raw2, s3, s4, s5⟩ := hs
  refine ⟨s1, s2, raw2, s3, fun hn => ?_, s5⟩
  obtain ⟨b, off, e, hb, hc⟩ := s4 hn
  refine ⟨b, off, e, ?_, hc⟩
  rcases h3.2 with ⟨e0, h0⟩ | ⟨g, cap, cur, hv, _⟩
  · cases e0; cases e
  · cases hv; cases e; exact rfl
theorem get_push {α : Type} {l : List α} {x y : α} {j : Nat} (h : (l ++ [x])[j]? = some y) : (l[j]? = some y ∧ j < l.length) ∨ (j = l.length ∧ y = x) := by
  by_cases hlt : j < l.length
  · rw [List.getElem?_append_left hlt] at h; exact Or.inl ⟨h, hlt⟩
  · have hjl := (List.getElem?_eq_some_iff.1 h).1
    simp only [List.length_append, List.length_singleton] at hjl
    have e : j = l.length := by omega
    subst e
    rw [List.getElem?_append_right (Nat.le_refl _), Nat.sub_self] at h
    exact Or.inr ⟨rfl, (Option.some.inj h).symm⟩
section
variable {w w1 wq : World} {base bf : Nat} {c0 c1 c2 : Value} {AR : Option Addr} {nR cR : Nat} {R : List Ru} {v v' vm vm' : Value} {hs : List SlV} {ms : List Nat} {L : List (List It3)}
/-- the follower's sets: an empty one more -/
theorem FolM.push (h : FolM w base bf c0 c1 c2 AR nR cR R v hs L) (hbf : base ≤ bf) (hrow : Own SlE 66 (fun _ => False) w1 base v' (L.length + 1) (hs ++ [(none, 0, 0)])) (hg : w.grownBy w1 v.ownBlock) (hat : v'.ownBlock = v.ownBlock ∨ v'.ownBlock = some w.heap.size) :
    FolM (w1.setCell ⟨bf, 4, none⟩ v') base bf c0 c1 c2 AR nR cR R v' (hs ++ [(none, 0, 0)]) (L ++ [[]]) ∧ Mov (FolX bf (v, hs)) (FolX bf (v', hs ++ [(none, 0, 0)])) w (w1.setCell ⟨bf, 4, none⟩ v') := by
  have hat2 : v'.ownBlock = v.ownBlock ∨ ∃ b, w.heap.size ≤ b ∧ v'.ownBlock = some b := hat.imp_right fun e => ⟨_, Nat.le_refl _, e⟩
  have hA : Agr (fun b => v.ownBlock ≠ some b) w w1 := Agr.grown hg fun b hb e => hb e.symm
  have hs1 := h.sets.push2 hrow (hA.mono fun b hb => hb.1) hat2
  have hsz : w.heap.size ≤ w1.heap.size := hg.size
  have hno : ∀ b, b < w.heap.size → Sets.no v hs b → Sets.no v' (hs ++ [(none, 0, 0)]) b := fun b hb hn => Sets.no_push hn hb hat2
  have hfar := hno bf h.blk.lt h.far
  refine ⟨⟨?_, ?_, ?_, hfar, by have := h.base; simp; omega⟩, ⟨?_, fun i => ?_, fun i b hlt hb => ⟨hno b hlt hb.1, hb.2⟩⟩⟩
  · have := (h.blk.grown hg (fun e => h.far.1 e.symm)).set_ 4 v'; simpa using this
  · exact (h.rules.agr (hA.mono fun b hb e => by have := (h.sets.row.lt b e).1; omega)).agr (Agr.setCell _ fun b hb e => by simp only at e; omega)
  · exact hs1.agr (Agr.setCell _ fun b hb e => hb (by simp only at e; rw [e]; exact hfar))
  · exact ((Below.refl 0 w).grown hg (Nat.zero_le _) (fun b _ => Nat.zero_le _)).setCell (Nat.zero_le _) _
  · exact (hA.mono fun b hb => hb.1.1).trans (Agr.setCell _ fun b hb => hb.2)
/-- the chart's sets: an empty one more -/
theorem ChM.push {bm : Nat} (h : ChM w base bf c0 c1 c2 AR nR cR R v hs vm ms L) (hbf : base ≤ bf) (hA : Agr (fun b => vm.ownBlock ≠ some b ∧ v.ownBlock ≠ some b) w wq) (henv : Below 0 w wq)
    (hrow : Own SlE 109 (fun _ => False) wq base v' (L.length + 1) (hs ++ [(none, 0, 0)])) (hmaps : Own MpE 125 (fun _ => False) wq base vm' (L.length + 1) (ms ++ [bm]))
    (hmk : MapK Try.prog 111 itVal wq bm (fun _ => none)) (hbm : w.heap.size ≤ bm) (hv : v'.ownBlock = v.ownBlock ∨ ∃ b, w.heap.size ≤ b ∧ v'.ownBlock = some b) (hvm : vm'.ownBlock = vm.ownBlock ∨ ∃ b, w.heap.size ≤ b ∧ vm'.ownBlock = some b)
    (hne : ∀ b, vm'.ownBlock = some b → v'.ownBlock ≠ some b) (hb1 : vm'.ownBlock ≠ some bm) (hb2 : v'.ownBlock ≠ some bm) :
    ChM ((wq.setCell ⟨bf, 4, none⟩ vm').setCell ⟨bf, 5, none⟩ v') base bf c0 c1 c2 AR nR cR R v' (hs ++ [(none, 0, 0)]) vm' (ms ++ [bm]) (L ++ [[]]) ∧
      Mov (ChX bf (v, hs, vm, ms)) (ChX bf (v', hs ++ [(none, 0, 0)], vm', ms ++ [bm])) w ((wq.setCell ⟨bf, 4, none⟩ vm').setCell ⟨bf, 5, none⟩ v') := by
  have hsz : w.heap.size ≤ wq.heap.size := henv.size
  have hml := h.maps.len
  have hno : ∀ b, b < w.heap.size → Sets.no v hs b → Sets.no v' (hs ++ [(none, 0, 0)]) b := fun b hb hn => Sets.no_push hn hb hv
  have hnew : ∀ b, w.heap.size ≤ b → v'.ownBlock ≠ some b → Sets.no v' (hs ++ [(none, 0, 0)]) b := fun b hb hn => ⟨hn, fun j q hq => by
    rcases get_push hq with ⟨hq, -⟩ | ⟨-, rfl⟩
    · exact (h.sets.no_ge hb).2 j q hq
    · exact fun e => by cases e⟩
  have hchf : ∀ b, b < w.heap.size → ChF (v, hs, vm, ms) b → ChF (v', hs ++ [(none, 0, 0)], vm', ms ++ [bm]) b := fun b hlt hb => by
    refine ⟨hno b hlt hb.1, ?_, fun j b' hj => ?_⟩
    · rcases hvm with e | ⟨b', hb', e⟩
      · exact fun e' => hb.2.1 (e ▸ e')
      · exact fun e' => by
          have e2 : some b' = some b := e ▸ e'
          have := Option.some.inj e2; omega
    · rcases get_push hj with ⟨hj, -⟩ | ⟨-, rfl⟩
      · exact hb.2.2 j b' hj
      · omega
  have hbfF := hchf bf h.blk.lt h.far
  have hs1 := h.sets.push2 hrow (hA.mono fun b hb => ⟨fun e => hb.2 (h.vfar b e), hb.1⟩) hv
  have hset : ∀ (ok : Nat → Prop), (∀ b, ok b → b ≠ bf) → Agr ok wq ((wq.setCell ⟨bf, 4, none⟩ vm').setCell ⟨bf, 5, none⟩ v') := fun ok hk => (Agr.setCell _ hk).trans (Agr.setCell _ hk)
  refine ⟨⟨?_, ?_, ?_, ?_, ?_, ?_, ?_, ?_, hbfF, by have := h.base; simp; omega⟩, ⟨?_, fun i => ?_, fun i b hlt hb => ⟨hchf b hlt hb.1, hb.2⟩⟩⟩
  · have h1 : Blk wq bf 108 #[c0, c1, c2, .slice AR nR cR, vm, v] := (hA bf ⟨h.far.2.1, h.far.1.1⟩ h.blk.lt).trans h.blk
    have := (h1.set_ 4 vm').set_ 5 v'; simpa using this
  · exact (h.rules.agr (hA.mono fun b hb => ⟨fun e => by have := (h.maps.lt b e).1; omega, fun e => by have := (h.sets.row.lt b e).1; omega⟩)).agr (hset _ fun b hb => by omega)
  · exact hs1.agr (hset _ fun b hb e => hb (by rw [e]; exact hbfF.1))
  · rw [List.length_append, List.length_singleton]
    exact hmaps.agr (hset _ fun b hb e => by
      rcases hb with hb | hb
      · exact hb
      · exact hbfF.2.1 (by rw [← hb, e]))
  · intro j b l hj hl
    rcases get_push hj with ⟨hj, hjl⟩ | ⟨hjl, rfl⟩
    · rw [List.getElem?_append_left (by omega)] at hl
      have hk := h.mapk j b l hj hl
      have hf := h.mfar j b hj
      exact ⟨hk.1, (hk.2.agr_ (hA b ⟨hf.1, hf.2.1⟩ hk.2.lt)).agr_ (hset (fun b => b ≠ bf) (fun _ h => h) b (h.far.2.2 j b hj) (Nat.lt_of_lt_of_le hk.2.lt hsz))⟩
    · have el : l = [] := by
        rcases get_push hl with ⟨-, hlt⟩ | ⟨-, e⟩
        · omega
        · exact e
      subst el
      refine ⟨Nat.le_trans h.base hbm, MapK.ext (hmk.agr_ (hset (fun b => b ≠ bf) (fun _ h => h) b (by have := h.blk.lt; omega) hmk.lt)) fun y => ?_⟩
      simp [setF3]
  · intro j j' b hne' hj hj'
    rcases get_push hj with ⟨hj, hjl⟩ | ⟨hjl, rfl⟩
    · rcases get_push hj' with ⟨hj', -⟩ | ⟨-, e⟩
      · exact h.mapart j j' b hne' hj hj'
      · have := (h.mlt hj).2; omega
    · rcases get_push hj' with ⟨hj', -⟩ | ⟨hjl', -⟩
      · have := (h.mlt hj').2; omega
      · omega
  · intro j b hj
    rcases get_push hj with ⟨hj, hjl⟩ | ⟨hjl, rfl⟩
    · have hlt := (h.mlt hj).2
      refine ⟨?_, hno b hlt (h.mfar j b hj).2⟩
      rcases hvm with e | ⟨b', hb', e⟩
      · rw [e]; exact (h.mfar j b hj).1
      · rw [e]; exact fun e' => by have := Option.some.inj e'; omega
    · exact ⟨hb1, hnew b hbm hb2⟩
  · intro b hb
    rcases hvm with e | ⟨b', hb', e⟩
    · rw [e] at hb
      exact hno b (h.maps.lt b hb).2 (h.vfar b hb)
    · exact hnew b (by rw [e] at hb; have := Option.some.inj hb; omega) (hne b hb)
  · exact (henv.setCell (Nat.zero_le _) _).setCell (Nat.zero_le _) _
  · exact (hA.mono fun b hb => ⟨hb.1.2.1, hb.1.1.1⟩).trans (hset _ fun b hb => hb.2)
end
end Go.Proofs.Ytdmecijpioljaaa

