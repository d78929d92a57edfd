/- Texts JE, JF, laid together. -/
import Derived.Test.YtbfcnfgkccgbiaaGreatDoorJ2
import Derived.ProofKit
import Derived.OpenShut
import Derived.Deep.Slices
import Derived.Lib.SmallJoins






namespace Go.Proofs.YtbfcnfgkccgbiaaGreatDoor
open Go.RowKit

theorem flat_inv {α ρ : Type} {E : Elem α ρ} {raw : List ρ} {q : Nat} {u : Value} (h : (flat E raw)[q]? = some u) : ∃ i j r, raw[i]? = some r ∧ (E.cells r)[j]? = some u ∧ q = i * E.k + j := by
  have hq := (List.getElem?_eq_some_iff.1 h).1
  rw [flat_len] at hq
  have hk := E.pos
  have hi : q / E.k < raw.length := (Nat.div_lt_iff_lt_mul hk).2 hq
  have hj : q % E.k < E.k := Nat.mod_lt _ hk
  have hr := List.getElem?_eq_getElem hi
  have hc : (E.cells (raw[q / E.k]))[q % E.k]? = some ((E.cells (raw[q / E.k]))[q % E.k]'(by rw [E.len]; exact hj)) := List.getElem?_eq_getElem _
  have h2 := flat_at raw _ _ _ _ hr hc
  have e : q / E.k * E.k + q % E.k = q := Nat.div_add_mod' q E.k
  rw [e, h] at h2
  exact ⟨_, _, _, hr, by rw [hc]; exact h2.symm, e.symm⟩
theorem list_two {α : Type} {l : List α} (h : l.length = 2) : ∃ a b, l = [a, b] := by
  match l, h with
  | [a, b], _ => exact ⟨a, b, rfl⟩
section
variable {H : Type} {enc : TypeId × Value → H} {w : World} {base : Nat} {spare : Nat → Bool} {held : Bool}
/-- a slice of elements each of which can be read -/
theorem open_sl {P : Program} {α ρ : Type} (E : Elem α ρ) {t e : TypeId} {fuel : Nat} {v : Value} {x : DataW H × List MemPlace} (ht : P.underlying t = some (.slice e)) (hk : P.cellsOf e = E.k)
    (ho : ∀ n cs y, DataW.trod enc P w base spare held n e cs = some y → ∃ r z, cs = E.cells r ∧ E.rel (fun b => b < w.heap.size) w r z)
    (h : DataW.trod enc P w base spare held fuel t [v] = some x) : ∃ A n c l, v = .slice A n c ∧ Sl E (fun b => b < w.heap.size) w A n c l := by
  rcases Deep.open_slice ht h with ⟨hcs, -⟩ | ⟨a, len, cap, m, n, D, Pl, hcs, hb, hl, hm, hmm, -, hel⟩
  · exact ⟨none, 0, 0, [], by simpa using hcs, Sl.nil 0⟩
  · have hlm : len ≤ m := by rw [hmm]; split <;> omega
    have key : ∀ i : Fin len, ∃ rz : ρ × α, (∀ j u, (E.cells rz.1)[j]? = some u → w.cell? ((a.add (i * E.k)).add j) = some u) ∧ E.rel (fun b => b < w.heap.size) w rz.1 rz.2 := by
      intro i
      obtain ⟨cs', h1, h2⟩ := hel i (by have := i.isLt; omega)
      obtain ⟨r, z, rfl, hr⟩ := ho _ _ _ h2
      refine ⟨(r, z), fun j u hu => ?_, hr⟩
      unfold World.cells? at h1
      split at h1
      · have hj : j < E.k := by rw [← E.len r]; exact (List.getElem?_eq_some_iff.1 hu).1
        have := mapM_some_get h1 j j (by rw [hk, List.getElem?_range hj])
        rw [hk] at this
        rw [this]; exact hu
      · cases h1
    obtain ⟨f, hf⟩ := Classical.axiomOfChoice key
    refine ⟨some a, len, cap, List.ofFn (fun i => (f i).2), by simpa using hcs, by simp, hl, List.ofFn (fun i => (f i).1), by simp, fun hne => ?_, fun i r z hr hz => ?_⟩
    · obtain ⟨b, off, spot⟩ := a
      have hspot : spot = none := by
        have h0 : 0 < len := by
          rcases Nat.eq_zero_or_pos len with h0 | h0
          · subst h0; exact absurd rfl hne
          · exact h0
        have hc := (hf ⟨0, h0⟩).1 0 ((E.cells (f ⟨0, h0⟩).1)[0]'(by rw [E.len]; exact E.pos)) (List.getElem?_eq_getElem _)
        cases spot with
        | none => rfl
        | some sp =>
          unfold World.cell? at hc
          split at hc <;> simp [Addr.add] at hc
      subst hspot
      have hcell : ∀ j u, (flat E (List.ofFn fun i => (f i).1))[j]? = some u → w.cell? ⟨b, off + j, none⟩ = some u := fun j u hu => by
        obtain ⟨i, j', r, hr, hc, rfl⟩ := flat_inv hu
        have hi : i < len := by have := (List.getElem?_eq_some_iff.1 hr).1; simpa using this
        have hr' : r = (f ⟨i, hi⟩).1 := by
          rw [List.getElem?_eq_getElem (by simpa using hi)] at hr
          simpa using (Option.some.inj hr).symm
        subst hr'
        have := (hf ⟨i, hi⟩).1 j' u hc
        rw [Addr.add_lit, Addr.add_lit] at this
        rw [← Nat.add_assoc]; exact this
      refine ⟨b, off, rfl, ?_, hcell⟩
      obtain ⟨u, hu⟩ : ∃ u, (flat E (List.ofFn fun i => (f i).1))[0]? = some u := by
        cases hfl : flat E (List.ofFn fun i => (f i).1) with
        | nil => exact absurd hfl hne
        | cons u l => exact ⟨u, by simp⟩
      exact World.block_lt_of_cell? w _ (hcell 0 u hu)
    · have hi : i < len := by have := (List.getElem?_eq_some_iff.1 hr).1; simpa using this
      rw [List.getElem?_eq_getElem (by simpa using hi)] at hr hz
      have e1 : r = (f ⟨i, hi⟩).1 := by simpa using (Option.some.inj hr).symm
      have e2 : z = (f ⟨i, hi⟩).2 := by simpa using (Option.some.inj hz).symm
      rw [e1, e2]; exact (hf ⟨i, hi⟩).2
theorem read_int {P : Program} {t : TypeId} (ht : P.underlying t = some (.int .i64)) {fuel : Nat} {cs : List Value} {x : DataW H × List MemPlace} (h : DataW.trod enc P w base spare held fuel t cs = some x) : ∃ n : Int, cs = [.int .i64 n] ∧ (Lit.int .i64 n).wf = true := by
  cases fuel with
  | zero => simp [DataW.trod] at h
  | succ m =>
    unfold DataW.trod at h
    rw [ht] at h
    split at h <;> simp_all
theorem read_bool {P : Program} {t : TypeId} (ht : P.underlying t = some .bool) {fuel : Nat} {cs : List Value} {x : DataW H × List MemPlace} (h : DataW.trod enc P w base spare held fuel t cs = some x) : ∃ b : Bool, cs = [.bool b] := by
  cases fuel with
  | zero => simp [DataW.trod] at h
  | succ m =>
    unfold DataW.trod at h
    rw [ht] at h
    split at h <;> simp_all
set_option maxRecDepth 100000 in
theorem open_sym (n : Nat) (cs : List Value) (y : DataW H × List MemPlace) (h : DataW.trod enc Tryz.prog w base spare held n 66 cs = some y) : ∃ r z, cs = SiE.cells r ∧ SiE.rel (fun b => b < w.heap.size) w r z := by
  obtain ⟨xs, m, -, -, hl, hn, hf⟩ := DataW.trod_struct Tryz.underlying66 h
  have hc : Tryz.prog.cellsOf 66 = 2 := by kernel_rfl
  have hb : Tryz.prog.cellsOf 4 = 1 := by kernel_rfl
  have hi : Tryz.prog.cellsOf 3 = 1 := by kernel_rfl
  rw [hc] at hl
  obtain ⟨c0, c1, rfl⟩ := list_two hl
  have h0 : DataW.trod enc Tryz.prog w base spare held m 4 ([c0, c1].take (Tryz.prog.cellsOf 4)) = xs[0]? := hf 0 _ rfl
  have h1 : DataW.trod enc Tryz.prog w base spare held m 3 ([c1].take (Tryz.prog.cellsOf 3)) = xs[1]? := hf 1 _ rfl
  rw [hb] at h0
  rw [hi] at h1
  simp only [List.take_succ_cons, List.take_zero] at h0 h1
  have hn2 : xs.length = 2 := hn
  obtain ⟨b, hb'⟩ := read_bool Tryz.underlying4 (h0.trans (List.getElem?_eq_getElem (by omega)))
  obtain ⟨k, hk', -⟩ := read_int Tryz.underlying3 (h1.trans (List.getElem?_eq_getElem (by omega)))
  refine ⟨(b, k), (b, k), ?_, rfl⟩
  simp at hb' hk'
  rw [hb', hk']; rfl
set_option maxRecDepth 100000 in
theorem open_rule (n : Nat) (cs : List Value) (y : DataW H × List MemPlace) (h : DataW.trod enc Tryz.prog w base spare held n 97 cs = some y) : ∃ r z, cs = RiE.cells r ∧ RiE.rel (fun b => b < w.heap.size) w r z := by
  obtain ⟨xs, m, -, -, hl, hn, hf⟩ := DataW.trod_struct Tryz.underlying97 h
  have hc : Tryz.prog.cellsOf 97 = 2 := by kernel_rfl
  have hs : Tryz.prog.cellsOf 95 = 1 := by kernel_rfl
  have hi : Tryz.prog.cellsOf 3 = 1 := by kernel_rfl
  rw [hc] at hl
  obtain ⟨c0, c1, rfl⟩ := list_two hl
  have h0 : DataW.trod enc Tryz.prog w base spare held m 3 ([c0, c1].take (Tryz.prog.cellsOf 3)) = xs[0]? := hf 0 _ rfl
  have h1 : DataW.trod enc Tryz.prog w base spare held m 95 ([c1].take (Tryz.prog.cellsOf 95)) = xs[1]? := hf 1 _ rfl
  rw [hi] at h0
  rw [hs] at h1
  simp only [List.take_succ_cons, List.take_zero] at h0 h1
  have hn2 : xs.length = 2 := hn
  obtain ⟨k, hk', -⟩ := read_int Tryz.underlying3 (h0.trans (List.getElem?_eq_getElem (by omega)))
  obtain ⟨A, n', c, l, hv, hsl⟩ := open_sl SiE Tryz.underlying95 (by kernel_rfl) open_sym (h1.trans (List.getElem?_eq_getElem (by omega)))
  refine ⟨(k, A, n', c), (k, l), ?_, rfl, hsl⟩
  simp at hk'
  rw [hk', hv]; rfl
set_option maxRecDepth 100000 in
/-- a grammar that came in -/
theorem open_gram {r : Reach} {b0 : Nat} {v : Value} {d : DataW H} {p : List MemPlace} (hv : Value.okWide Tryz.prog w r b0 24 v) (h : DataW.Trod enc Tryz.prog w base spare held 24 v d p) :
    ∃ (T N S : Int) (A : Option Addr) (n c : Nat) (rs : List Ri), v = .agg #[.int .i64 T, .int .i64 N, .int .i64 S, .slice A n c] ∧ Sl RiE (fun b => b < w.heap.size) w A n c rs := by
  obtain ⟨v0, v1, v2, v3, y0, y1, y2, y3, n, rfl, -, -, h0, h1, h2, h3⟩ := Joins.open_agg4 Tryz.underlying24 (by kernel_rfl) (by kernel_rfl) hv h
  obtain ⟨T, hT, -⟩ := read_int Tryz.underlying3 h0
  obtain ⟨N, hN, -⟩ := read_int Tryz.underlying3 h1
  obtain ⟨S, hS, -⟩ := read_int Tryz.underlying3 h2
  obtain ⟨A, k, c, l, hv3, hsl⟩ := open_sl RiE Tryz.underlying22 (by kernel_rfl) open_rule h3
  simp at hT hN hS
  exact ⟨T, N, S, A, k, c, l, by rw [hT, hN, hS, hv3], hsl⟩
end
end Go.Proofs.YtbfcnfgkccgbiaaGreatDoor



namespace Go.Proofs.YtbfcnfgkccgbiaaGreatDoor
open Go.RowKit

/-! ### raw and valid -/
def embS (s : Sy) : Ci := (s.1, (s.2 : Int))
def embR (r : Ru) : Ri := ((r.1 : Int), r.2.map embS)
theorem embS_inj {a b : Sy} (h : embS a = embS b) : a = b := by
  obtain ⟨x, m⟩ := a
  obtain ⟨y, n⟩ := b
  simp only [embS, Prod.mk.injEq] at h
  simp only [Prod.mk.injEq]
  exact ⟨h.1, by omega⟩
theorem embR_inj {a b : Ru} (h : embR a = embR b) : a = b := by
  obtain ⟨x, l⟩ := a
  obtain ⟨y, m⟩ := b
  simp only [embR, Prod.mk.injEq] at h
  have h2 : l = m := (List.map_inj_right (fun _ _ => embS_inj)).1 h.2
  rw [h2, show x = y by omega]
theorem lift_sym {T N : Int} {s : Ci} (h : okSi T N s = true) : ∃ y : Sy, s = embS y ∧ (if y.1 then (y.2 : Int) < T else (y.2 : Int) < N) := by
  obtain ⟨b, k⟩ := s
  unfold okSi at h
  simp only [Bool.and_eq_true, decide_eq_true_eq, Bool.or_eq_true, Bool.not_eq_true'] at h
  refine ⟨(b, k.toNat), ?_, ?_⟩
  · simp only [embS, Prod.mk.injEq, true_and]; omega
  · cases b
    · simp at h ⊢; omega
    · simp at h ⊢; omega
theorem chkL_ok {T N : Int} : ∀ (rs done : List Ri), chkL T N done rs = 0 → (∀ r ∈ rs, (0 ≤ r.1 ∧ r.1 < N) ∧ r.2.length ≤ 4 ∧ ∀ s ∈ r.2, okSi T N s = true) ∧ rs.Nodup ∧ ∀ r ∈ rs, ¬ r ∈ done
  | [], _, _ => ⟨fun r h => (by cases h), List.nodup_nil, fun r h => (by cases h)⟩
  | r :: rs, done, h => by
    unfold chkL at h
    by_cases h1 : ¬ (0 ≤ r.1 ∧ r.1 < N)
    · rw [if_pos h1] at h; cases h
    · rw [if_neg h1] at h
      by_cases h2 : 4 < r.2.length
      · rw [if_pos h2] at h; cases h
      · rw [if_neg h2] at h
        by_cases h3 : (r.2.any fun s => !okSi T N s) = true
        · rw [if_pos h3] at h; cases h
        · rw [if_neg h3] at h
          by_cases h4 : r ∈ done
          · rw [if_pos h4] at h; cases h
          · rw [if_neg h4] at h
            obtain ⟨i1, i2, i3⟩ := chkL_ok rs (done ++ [r]) h
            refine ⟨fun x hx => ?_, List.nodup_cons.2 ⟨fun hm => i3 r hm (by simp), i2⟩, fun x hx hd => ?_⟩
            · rcases List.mem_cons.1 hx with rfl | hx
              · refine ⟨Classical.not_not.1 h1, by omega, fun s hs => ?_⟩
                cases ho : okSi T N s with
                | true => rfl
                | false => exact absurd (List.any_eq_true.2 ⟨s, hs, by rw [ho]; rfl⟩) h3
              · exact i1 x hx
            · rcases List.mem_cons.1 hx with rfl | hx
              · exact h4 hd
              · exact i3 x hx (List.mem_append_left _ hd)
theorem lift_list {α β : Type} {f : α → β} {p : α → Prop} : ∀ {l : List β}, (∀ y ∈ l, ∃ x, y = f x ∧ p x) → ∃ k : List α, l = k.map f ∧ ∀ x ∈ k, p x
  | [], _ => ⟨[], rfl, fun x h => (by cases h)⟩
  | y :: l, h => by
    obtain ⟨x, hx, hp⟩ := h y (List.mem_cons_self ..)
    obtain ⟨k, hk, hpk⟩ := lift_list (l := l) fun z hz => h z (List.mem_cons_of_mem _ hz)
    refine ⟨x :: k, by rw [hx, hk]; rfl, fun z hz => ?_⟩
    rcases List.mem_cons.1 hz with rfl | hz
    · exact hp
    · exact hpk z hz
/-- what passes the check is a valid grammar -/
theorem chkG_ok {T N S : Int} {rs : List Ri} (h : chkG T N S rs = 0) : ∃ g : Gr, GrOk g ∧ T = (g.terms : Int) ∧ N = (g.nons : Int) ∧ S = (g.start : Int) ∧ rs = g.rules.map embR := by
  unfold chkG at h
  by_cases h1 : ¬ (1 ≤ T ∧ T ≤ 8 ∧ 1 ≤ N ∧ N ≤ 10 ∧ 0 ≤ S ∧ S < N)
  · rw [if_pos h1] at h; cases h
  · rw [if_neg h1] at h
    by_cases h2 : 32 < rs.length
    · rw [if_pos h2] at h; cases h
    · rw [if_neg h2] at h
      obtain ⟨i1, i2, -⟩ := chkL_ok rs [] h
      have h1 := Classical.not_not.1 h1
      obtain ⟨k, hk, hp⟩ := lift_list (f := embR) (p := fun u => (u.1 : Int) < N ∧ u.2.length ≤ 4 ∧ ∀ y ∈ u.2, (if y.1 then (y.2 : Int) < T else (y.2 : Int) < N)) (l := rs) fun r hr => by
        obtain ⟨⟨a1, a2⟩, a3, a4⟩ := i1 r hr
        obtain ⟨l, hl, hlp⟩ := lift_list (f := embS) (p := fun y : Sy => if y.1 then (y.2 : Int) < T else (y.2 : Int) < N) (l := r.2) fun s hs => lift_sym (a4 s hs)
        refine ⟨(r.1.toNat, l), ?_, by simp only; omega, ?_, hlp⟩
        · obtain ⟨r1, r2⟩ := r
          simp only [embR, Prod.mk.injEq]
          exact ⟨by simp only at a1; omega, hl⟩
        · simp only
          rw [hl, List.length_map] at a3; exact a3
      refine ⟨⟨T.toNat, N.toNat, S.toNat, k⟩, ⟨⟨by simp only; omega, by simp only; omega, by simp only; omega, ?_, fun r hr => ?_, fun r hr => ⟨(hp r hr).2.1, fun s hs => ?_⟩⟩, ?_⟩, by simp only; omega, by simp only; omega, by simp only; omega, hk⟩
      · simp only; rw [hk, List.length_map] at h2; omega
      · have := (hp r hr).1; simp only; omega
      · have := (hp r hr).2.2 s hs
        unfold Gr.okSy
        cases hs1 : s.1 <;> rw [hs1] at this <;> simp at this ⊢ <;> omega
      · rw [hk] at i2
        exact List.Pairwise.of_map embR (fun a b h e => h (by rw [e])) i2
theorem Sl.lowS {ok : Nat → Prop} {w : World} {A : Option Addr} {n c : Nat} {l : List Sy} (h : Sl SiE ok w A n c (l.map embS)) : Sl SyE ok w A n c l := by
  obtain ⟨h1, h2, raw, h3, h4, h5⟩ := h
  rw [List.length_map] at h1
  have e : raw = l.map embS := List.ext_getElem (by rw [h3, List.length_map, h1]) fun i a b => h5 i _ _ (List.getElem?_eq_getElem a) (List.getElem?_eq_getElem b)
  have ef : ∀ l : List Sy, flat SiE (l.map embS) = flat SyE l := fun l => by
    induction l with
    | nil => rfl
    | cons x l ih => simp only [flat, List.map_cons, List.flatMap_cons] at ih ⊢; rw [ih]; rfl
  refine ⟨h1, h2, l, h1, ?_, fun i r x hr hx => by rw [hr] at hx; exact Option.some.inj hx⟩
  rw [e, ef] at h4; exact h4
theorem Sl.lowR {ok : Nat → Prop} {w : World} {A : Option Addr} {n c : Nat} {l : List Ru} (h : Sl RiE ok w A n c (l.map embR)) : Sl RuE ok w A n c l := by
  obtain ⟨h1, h2, raw, h3, h4, h5⟩ := h
  rw [List.length_map] at h1
  have key : ∀ (raw : List (Int × SlV)) (l : List Ru), raw.length = l.length → (∀ (i : Nat) r x, raw[i]? = some r → (l.map embR)[i]? = some x → RiE.rel ok w r x) →
      ∃ raw2 : List (Nat × SlV), raw2.length = l.length ∧ flat RuE raw2 = flat RiE raw ∧ ∀ (i : Nat) r x, raw2[i]? = some r → l[i]? = some x → RuE.rel ok w r x := by
    intro raw
    induction raw with
    | nil =>
      intro l hl _
      have e : l = [] := List.eq_nil_of_length_eq_zero (by simpa using hl.symm)
      subst e
      exact ⟨[], rfl, rfl, fun i r x hr => by simp at hr⟩
    | cons r raw ih =>
      intro l hl hrel
      cases l with
      | nil => simp at hl
      | cons u l =>
        obtain ⟨raw2, k1, k2, k3⟩ := ih l (by simpa using hl) fun i r' x hr hx => hrel (i + 1) r' x (by simpa using hr) (by simpa using hx)
        have h0 := hrel 0 r (embR u) rfl rfl
        obtain ⟨r1, r2⟩ := r
        obtain ⟨e1, e2⟩ := h0
        simp only [embR] at e1 e2
        refine ⟨(u.1, r2) :: raw2, by simp [k1], ?_, fun i r' x hr hx => ?_⟩
        · simp only [flat, List.flatMap_cons] at k2 ⊢
          rw [k2, e1]; rfl
        · cases i with
          | zero =>
            obtain rfl : (u.1, r2) = r' := by simpa using hr
            obtain rfl : u = x := by simpa using hx
            exact ⟨rfl, Sl.lowS e2⟩
          | succ i => exact k3 i r' x (by simpa using hr) (by simpa using hx)
  obtain ⟨raw2, k1, k2, k3⟩ := key raw l (by rw [h3, h1]) h5
  exact ⟨h1, h2, raw2, by rw [k1, h1], by rw [k2]; exact h4, k3⟩

/-! ### beginnings and continuations -/
inductive NullN (R : List Ru) : Nat → Prop
  | mk (N : Nat) (rhs : List Sy) (h : (N, rhs) ∈ R) (h1 : ∀ s ∈ rhs, s.1 = false) (h2 : ∀ s ∈ rhs, NullN R s.2) : NullN R N
def NulL (R : List Ru) (l : List Sy) : Prop := ∀ s ∈ l, s.1 = false ∧ NullN R s.2
inductive FstN (R : List Ru) : Nat → Nat → Prop
  | term (N t : Nat) (a b : List Sy) (h : (N, a ++ (true, t) :: b) ∈ R) (ha : NulL R a) : FstN R N t
  | non (N M t : Nat) (a b : List Sy) (h : (N, a ++ (false, M) :: b) ∈ R) (ha : NulL R a) (hf : FstN R M t) : FstN R N t
def FstL (R : List Ru) (l : List Sy) (t : Nat) : Prop := ∃ a y b, l = a ++ y :: b ∧ NulL R a ∧ (y = (true, t) ∨ ∃ M, y = (false, M) ∧ FstN R M t)
inductive RchN (R : List Ru) (s : Nat) : Nat → Prop
  | start : RchN R s s
  | step (N M : Nat) (rhs : List Sy) (h : RchN R s N) (hr : (N, rhs) ∈ R) (hm : (false, M) ∈ rhs) : RchN R s M
inductive FolN (R : List Ru) (s e : Nat) : Nat → Nat → Prop
  | start : FolN R s e s e
  | fst (N M t : Nat) (a b : List Sy) (hr : RchN R s N) (h : (N, a ++ (false, M) :: b) ∈ R) (hf : FstL R b t) : FolN R s e M t
  | fol (N M t : Nat) (a b : List Sy) (hr : RchN R s N) (h : (N, a ++ (false, M) :: b) ∈ R) (hn : NulL R b) (hf : FolN R s e N t) : FolN R s e M t
/-- by tables: with what a list begins -/
def ofB (es : Nat → Bool) (fs : Nat → Nat → Bool) : List Sy → Nat → Bool
  | [], _ => false
  | (true, k) :: _, t => decide (t = k)
  | (false, M) :: l, t => fs M t || (es M && ofB es fs l t)
/-- by a table: does a list become empty? -/
def ofE (es : Nat → Bool) : List Sy → Bool
  | [] => true
  | (true, _) :: _ => false
  | (false, M) :: l => es M && ofE es l
section
variable {R : List Ru} {es : Nat → Bool} {fs : Nat → Nat → Bool}
theorem FstL.cons_non {M t : Nat} {l : List Sy} (hn : NullN R M) (h : FstL R l t) : FstL R ((false, M) :: l) t := by
  obtain ⟨a, y, b, rfl, ha, hy⟩ := h
  exact ⟨(false, M) :: a, y, b, rfl, fun s hs => by rcases List.mem_cons.1 hs with rfl | hs; exact ⟨rfl, hn⟩; exact ha s hs, hy⟩
theorem ofE_null (hs : ∀ N, es N = true → NullN R N) : ∀ {l : List Sy}, ofE es l = true → NulL R l
  | [], _ => fun s h => by cases h
  | (true, _) :: _, h => by simp [ofE] at h
  | (false, M) :: l, h => by
    simp only [ofE, Bool.and_eq_true] at h
    intro s hs'
    rcases List.mem_cons.1 hs' with rfl | hs'
    · exact ⟨rfl, hs M h.1⟩
    · exact ofE_null hs h.2 s hs'
theorem null_ofE (hc : ∀ N, NullN R N → es N = true) : ∀ {l : List Sy}, NulL R l → ofE es l = true
  | [], _ => rfl
  | (true, k) :: l, h => by have := (h (true, k) (List.mem_cons_self ..)).1; cases this
  | (false, M) :: l, h => by
    simp only [ofE, Bool.and_eq_true]
    exact ⟨hc M (h (false, M) (List.mem_cons_self ..)).2, null_ofE hc fun s hs => h s (List.mem_cons_of_mem _ hs)⟩
theorem ofB_fst (hs : ∀ N, es N = true → NullN R N) (hf : ∀ N t, fs N t = true → FstN R N t) : ∀ {l : List Sy} {t : Nat}, ofB es fs l t = true → FstL R l t
  | [], _, h => by simp [ofB] at h
  | (true, k) :: l, t, h => by
    simp only [ofB, decide_eq_true_eq] at h
    exact ⟨[], (true, k), l, rfl, fun s hs => (by cases hs), Or.inl (by rw [h])⟩
  | (false, M) :: l, t, h => by
    simp only [ofB, Bool.or_eq_true, Bool.and_eq_true] at h
    rcases h with h | ⟨h1, h2⟩
    · exact ⟨[], (false, M), l, rfl, fun s hs => (by cases hs), Or.inr ⟨M, rfl, hf M t h⟩⟩
    · exact (ofB_fst hs hf h2).cons_non (hs M h1)
theorem fst_ofB (hc : ∀ N, NullN R N → es N = true) (hf : ∀ N t, FstN R N t → fs N t = true) : ∀ {l : List Sy} {t : Nat}, FstL R l t → ofB es fs l t = true := by
  rintro l t ⟨a, y, b, rfl, ha, hy⟩
  induction a with
  | nil =>
    rcases hy with rfl | ⟨M, rfl, hM⟩
    · simp [ofB]
    · simp [ofB, hf M t hM]
  | cons x a ih =>
    obtain ⟨h1, h2⟩ := ha x (List.mem_cons_self ..)
    obtain ⟨xb, M⟩ := x
    simp only at h1 h2
    subst h1
    have := ih fun s hs => ha s (List.mem_cons_of_mem _ hs)
    simp only [List.cons_append, ofB, this, Bool.and_true, Bool.or_eq_true]
    exact Or.inr (hc M h2)
/-- a table that is shut has all that becomes empty -/
theorem closed_null (hc : ∀ u ∈ R, ofE es u.2 = true → es u.1 = true) {N : Nat} (h : NullN R N) : es N = true := by
  induction h with
  | mk N rhs h h1 _ ih =>
    refine hc _ h ?_
    have : ∀ l : List Sy, (∀ s ∈ l, s.1 = false) → (∀ s ∈ l, es s.2 = true) → ofE es l = true := by
      intro l
      induction l with
      | nil => intro _ _; rfl
      | cons s l ihl =>
        intro k1 k2
        obtain ⟨sb, M⟩ := s
        have e1 : sb = false := k1 _ (List.mem_cons_self ..)
        subst e1
        simp only [ofE, Bool.and_eq_true]
        exact ⟨k2 _ (List.mem_cons_self ..), ihl (fun s hs => k1 s (List.mem_cons_of_mem _ hs)) (fun s hs => k2 s (List.mem_cons_of_mem _ hs))⟩
    exact this rhs h1 ih
theorem FstN.lt {B N t : Nat} (hb : ∀ u ∈ R, ∀ s ∈ u.2, s.1 = true → s.2 < B) (h : FstN R N t) : t < B := by
  induction h with
  | term N t a b h _ => exact hb _ h (true, t) (by simp) rfl
  | non N M t a b h _ _ ih => exact ih
theorem FstL.lt {B t : Nat} {l : List Sy} (hb : ∀ u ∈ R, ∀ s ∈ u.2, s.1 = true → s.2 < B) (hl : ∀ s ∈ l, s.1 = true → s.2 < B) (h : FstL R l t) : t < B := by
  obtain ⟨a, y, b, rfl, -, hy⟩ := h
  rcases hy with rfl | ⟨M, rfl, hM⟩
  · exact hl (true, t) (by simp) rfl
  · exact hM.lt hb
theorem closed_fst {B : Nat} (hb : ∀ u ∈ R, ∀ s ∈ u.2, s.1 = true → s.2 < B) (hn : ∀ N, NullN R N → es N = true) (hc : ∀ u ∈ R, ∀ t, t < B → ofB es fs u.2 t = true → fs u.1 t = true) {N t : Nat} (h : FstN R N t) : fs N t = true := by
  have ofa : ∀ (a : List Sy) (r : List Sy), NulL R a → ofB es fs r t = true → ofB es fs (a ++ r) t = true := by
    intro a r ha hr
    induction a with
    | nil => exact hr
    | cons x a ih =>
      obtain ⟨h1, h2⟩ := ha x (List.mem_cons_self ..)
      obtain ⟨xb, M⟩ := x
      simp only at h1 h2
      subst h1
      simp only [List.cons_append, ofB, ih fun s hs => ha s (List.mem_cons_of_mem _ hs), Bool.and_true, Bool.or_eq_true]
      exact Or.inr (hn M h2)
  induction h with
  | term N t a b h ha => exact hc _ h t (hb _ h (true, t) (by simp) rfl) (ofa a _ ha (by simp [ofB]))
  | non N M t a b h ha hf ih => exact hc _ h t (hf.lt hb) (ofa a _ ha (by simp [ofB, ih ofa]))
theorem closed_fol {s e B : Nat} {fo : Nat → Nat → Bool} (hb : ∀ u ∈ R, ∀ y ∈ u.2, y.1 = true → y.2 < B) (heB : e ≤ B) (h0 : fo s e = true) (hf : ∀ u ∈ R, RchN R s u.1 → ∀ a M b, u.2 = a ++ (false, M) :: b → ∀ t, t < B → FstL R b t → fo M t = true)
    (hl : ∀ u ∈ R, RchN R s u.1 → ∀ a M b, u.2 = a ++ (false, M) :: b → NulL R b → ∀ t, t ≤ B → fo u.1 t = true → fo M t = true) {N t : Nat} (h : FolN R s e N t) : fo N t = true ∧ t ≤ B := by
  induction h with
  | start => exact ⟨h0, heB⟩
  | fst N M t a b hr h hfst =>
    have := hfst.lt hb (fun y hy hy1 => hb _ h y (by simp [hy]) hy1)
    exact ⟨hf _ h hr a M b rfl t this hfst, by omega⟩
  | fol N M t a b hr h hn _ ih => exact ⟨hl _ h hr a M b rfl hn t ih.2 ih.1, ih.2⟩
end
end Go.Proofs.YtbfcnfgkccgbiaaGreatDoor

