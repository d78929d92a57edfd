/- Texts JE, MF, IG, JG, laid together. -/
import Derived.Test.YtfmnmgnhanogmaaDoorQ9
import Derived.Test.YtfmnmgnhanogmaaDoorQ1
import Derived.Test.YtfmnmgnhanogmaaDoorQ10
import Derived.ProofKit
import Derived.OpenShut
import Derived.Deep.Slices
import Derived.Lib.SmallJoins
import Derived.Maps.Keyed
import Derived.Maps.OwnOps
import Derived.DeepKeys4
import Derived.Maps.RangeWalk






namespace Go.Proofs.YtfmnmgnhanogmaaDoor
open Go.RowKit

theorem flat_inv {α ρ : Type} {E : Elem α ρ} {raw : List ρ} {q : Nat} {u : Value} (h : (flat E raw)[q]? = some u) : ∃ i j r, raw[i]? = some r ∧ (E.cells r)[j]? = some u ∧ q = i * E.k + j := by
  have hq := (List.getElem?_eq_some_iff.1 h).1
  rw [flat_len] at hq
  have hk := E.pos
  have hi : q / E.k < raw.length := (Nat.div_lt_iff_lt_mul hk).2 hq
  have hj : q % E.k < E.k := Nat.mod_lt _ hk
  have hr := List.getElem?_eq_getElem hi
  have hc : (E.cells (raw[q / E.k]))[q % E.k]? = some ((E.cells (raw[q / E.k]))[q % E.k]'(by rw [E.len]; exact hj)) := List.getElem?_eq_getElem _
  have h2 := flat_at raw _ _ _ _ hr hc
  have e : q / E.k * E.k + q % E.k = q := Nat.div_add_mod' q E.k
  rw [e, h] at h2
  exact ⟨_, _, _, hr, by rw [hc]; exact h2.symm, e.symm⟩
theorem list_two {α : Type} {l : List α} (h : l.length = 2) : ∃ a b, l = [a, b] := by
  match l, h with
  | [a, b], _ => exact ⟨a, b, rfl⟩
section
variable {H : Type} {enc : TypeId × Value → H} {w : World} {base : Nat} {spare : Nat → Bool} {held : Bool}
/-- a slice of elements each of which can be read -/
theorem open_sl {P : Program} {α ρ : Type} (E : Elem α ρ) {t e : TypeId} {fuel : Nat} {v : Value} {x : DataW H × List MemPlace} (ht : P.underlying t = some (.slice e)) (hk : P.cellsOf e = E.k)
    (ho : ∀ n cs y, DataW.trod enc P w base spare held n e cs = some y → ∃ r z, cs = E.cells r ∧ E.rel (fun b => b < w.heap.size) w r z)
    (h : DataW.trod enc P w base spare held fuel t [v] = some x) : ∃ A n c l, v = .slice A n c ∧ Sl E (fun b => b < w.heap.size) w A n c l := by
  rcases Deep.open_slice ht h with ⟨hcs, -⟩ | ⟨a, len, cap, m, n, D, Pl, hcs, hb, hl, hm, hmm, -, hel⟩
  · exact ⟨none, 0, 0, [], by simpa using hcs, Sl.nil 0⟩
  · have hlm : len ≤ m := by rw [hmm]; split <;> omega
    have key : ∀ i : Fin len, ∃ rz : ρ × α, (∀ j u, (E.cells rz.1)[j]? = some u → w.cell? ((a.add (i * E.k)).add j) = some u) ∧ E.rel (fun b => b < w.heap.size) w rz.1 rz.2 := by
      intro i
      obtain ⟨cs', h1, h2⟩ := hel i (by have := i.isLt; omega)
      obtain ⟨r, z, rfl, hr⟩ := ho _ _ _ h2
      refine ⟨(r, z), fun j u hu => ?_, hr⟩
      unfold World.cells? at h1
      split at h1
      · have hj : j < E.k := by rw [← E.len r]; exact (List.getElem?_eq_some_iff.1 hu).1
        have := mapM_some_get h1 j j (by rw [hk, List.getElem?_range hj])
        rw [hk] at this
        rw [this]; exact hu
      · cases h1
    obtain ⟨f, hf⟩ := Classical.axiomOfChoice key
    refine ⟨some a, len, cap, List.ofFn (fun i => (f i).2), by simpa using hcs, by simp, hl, List.ofFn (fun i => (f i).1), by simp, fun hne => ?_, fun i r z hr hz => ?_⟩
    · obtain ⟨b, off, spot⟩ := a
      have hspot : spot = none := by
        have h0 : 0 < len := by
          rcases Nat.eq_zero_or_pos len with h0 | h0
          · subst h0; exact absurd rfl hne
          · exact h0
        have hc := (hf ⟨0, h0⟩).1 0 ((E.cells (f ⟨0, h0⟩).1)[0]'(by rw [E.len]; exact E.pos)) (List.getElem?_eq_getElem _)
        cases spot with
        | none => rfl
        | some sp =>
          unfold World.cell? at hc
          split at hc <;> simp [Addr.add] at hc
      subst hspot
      have hcell : ∀ j u, (flat E (List.ofFn fun i => (f i).1))[j]? = some u → w.cell? ⟨b, off + j, none⟩ = some u := fun j u hu => by
        obtain ⟨i, j', r, hr, hc, rfl⟩ := flat_inv hu
        have hi : i < len := by have := (List.getElem?_eq_some_iff.1 hr).1; simpa using this
        have hr' : r = (f ⟨i, hi⟩).1 := by
          rw [List.getElem?_eq_getElem (by simpa using hi)] at hr
          simpa using (Option.some.inj hr).symm
        subst hr'
        have := (hf ⟨i, hi⟩).1 j' u hc
        rw [Addr.add_lit, Addr.add_lit] at this
        rw [← Nat.add_assoc]; exact this
      refine ⟨b, off, rfl, ?_, hcell⟩
      obtain ⟨u, hu⟩ : ∃ u, (flat E (List.ofFn fun i => (f i).1))[0]? = some u := by
        cases hfl : flat E (List.ofFn fun i => (f i).1) with
        | nil => exact absurd hfl hne
        | cons u l => exact ⟨u, by simp⟩
      exact World.block_lt_of_cell? w _ (hcell 0 u hu)
    · have hi : i < len := by have := (List.getElem?_eq_some_iff.1 hr).1; simpa using this
      rw [List.getElem?_eq_getElem (by simpa using hi)] at hr hz
      have e1 : r = (f ⟨i, hi⟩).1 := by simpa using (Option.some.inj hr).symm
      have e2 : z = (f ⟨i, hi⟩).2 := by simpa using (Option.some.inj hz).symm
      rw [e1, e2]; exact (hf ⟨i, hi⟩).2
theorem read_int {P : Program} {t : TypeId} (ht : P.underlying t = some (.int .i64)) {fuel : Nat} {cs : List Value} {x : DataW H × List MemPlace} (h : DataW.trod enc P w base spare held fuel t cs = some x) : ∃ n : Int, cs = [.int .i64 n] ∧ (Lit.int .i64 n).wf = true := by
  cases fuel with
  | zero => simp [DataW.trod] at h
  | succ m =>
    unfold DataW.trod at h
    rw [ht] at h
    split at h <;> simp_all
theorem read_bool {P : Program} {t : TypeId} (ht : P.underlying t = some .bool) {fuel : Nat} {cs : List Value} {x : DataW H × List MemPlace} (h : DataW.trod enc P w base spare held fuel t cs = some x) : ∃ b : Bool, cs = [.bool b] := by
  cases fuel with
  | zero => simp [DataW.trod] at h
  | succ m =>
    unfold DataW.trod at h
    rw [ht] at h
    split at h <;> simp_all
set_option maxRecDepth 100000 in
theorem open_sym (n : Nat) (cs : List Value) (y : DataW H × List MemPlace) (h : DataW.trod enc Tryd.prog w base spare held n 54 cs = some y) : ∃ r z, cs = SiE.cells r ∧ SiE.rel (fun b => b < w.heap.size) w r z := by
  obtain ⟨xs, m, -, -, hl, hn, hf⟩ := DataW.trod_struct Tryd.underlying54 h
  have hc : Tryd.prog.cellsOf 54 = 2 := by kernel_rfl
  have hb : Tryd.prog.cellsOf 4 = 1 := by kernel_rfl
  have hi : Tryd.prog.cellsOf 3 = 1 := by kernel_rfl
  rw [hc] at hl
  obtain ⟨c0, c1, rfl⟩ := list_two hl
  have h0 : DataW.trod enc Tryd.prog w base spare held m 4 ([c0, c1].take (Tryd.prog.cellsOf 4)) = xs[0]? := hf 0 _ rfl
  have h1 : DataW.trod enc Tryd.prog w base spare held m 3 ([c1].take (Tryd.prog.cellsOf 3)) = xs[1]? := hf 1 _ rfl
  rw [hb] at h0
  rw [hi] at h1
  simp only [List.take_succ_cons, List.take_zero] at h0 h1
  have hn2 : xs.length = 2 := hn
  obtain ⟨b, hb'⟩ := read_bool Tryd.underlying4 (h0.trans (List.getElem?_eq_getElem (by omega)))
  obtain ⟨k, hk', -⟩ := read_int Tryd.underlying3 (h1.trans (List.getElem?_eq_getElem (by omega)))
  refine ⟨(b, k), (b, k), ?_, rfl⟩
  simp at hb' hk'
  rw [hb', hk']; rfl
set_option maxRecDepth 100000 in
theorem open_rule (n : Nat) (cs : List Value) (y : DataW H × List MemPlace) (h : DataW.trod enc Tryd.prog w base spare held n 77 cs = some y) : ∃ r z, cs = RiE.cells r ∧ RiE.rel (fun b => b < w.heap.size) w r z := by
  obtain ⟨xs, m, -, -, hl, hn, hf⟩ := DataW.trod_struct Tryd.underlying77 h
  have hc : Tryd.prog.cellsOf 77 = 2 := by kernel_rfl
  have hs : Tryd.prog.cellsOf 75 = 1 := by kernel_rfl
  have hi : Tryd.prog.cellsOf 3 = 1 := by kernel_rfl
  rw [hc] at hl
  obtain ⟨c0, c1, rfl⟩ := list_two hl
  have h0 : DataW.trod enc Tryd.prog w base spare held m 3 ([c0, c1].take (Tryd.prog.cellsOf 3)) = xs[0]? := hf 0 _ rfl
  have h1 : DataW.trod enc Tryd.prog w base spare held m 75 ([c1].take (Tryd.prog.cellsOf 75)) = xs[1]? := hf 1 _ rfl
  rw [hi] at h0
  rw [hs] at h1
  simp only [List.take_succ_cons, List.take_zero] at h0 h1
  have hn2 : xs.length = 2 := hn
  obtain ⟨k, hk', -⟩ := read_int Tryd.underlying3 (h0.trans (List.getElem?_eq_getElem (by omega)))
  obtain ⟨A, n', c, l, hv, hsl⟩ := open_sl SiE Tryd.underlying75 (by kernel_rfl) open_sym (h1.trans (List.getElem?_eq_getElem (by omega)))
  refine ⟨(k, A, n', c), (k, l), ?_, rfl, hsl⟩
  simp at hk'
  rw [hk', hv]; rfl
set_option maxRecDepth 100000 in
/-- a grammar that came in -/
theorem open_gram {r : Reach} {b0 : Nat} {v : Value} {d : DataW H} {p : List MemPlace} (hv : Value.okWide Tryd.prog w r b0 24 v) (h : DataW.Trod enc Tryd.prog w base spare held 24 v d p) :
    ∃ (T N S : Int) (A : Option Addr) (n c : Nat) (rs : List Ri), v = .agg #[.int .i64 T, .int .i64 N, .int .i64 S, .slice A n c] ∧ Sl RiE (fun b => b < w.heap.size) w A n c rs := by
  obtain ⟨v0, v1, v2, v3, y0, y1, y2, y3, n, rfl, -, -, h0, h1, h2, h3⟩ := Joins.open_agg4 Tryd.underlying24 (by kernel_rfl) (by kernel_rfl) hv h
  obtain ⟨T, hT, -⟩ := read_int Tryd.underlying3 h0
  obtain ⟨N, hN, -⟩ := read_int Tryd.underlying3 h1
  obtain ⟨S, hS, -⟩ := read_int Tryd.underlying3 h2
  obtain ⟨A, k, c, l, hv3, hsl⟩ := open_sl RiE Tryd.underlying22 (by kernel_rfl) open_rule h3
  simp at hT hN hS
  exact ⟨T, N, S, A, k, c, l, by rw [hT, hN, hS, hv3], hsl⟩
end
end Go.Proofs.YtfmnmgnhanogmaaDoor






namespace Go.Proofs.YtfmnmgnhanogmaaDoor
open Go.RowKit
open Go.MapKept
open Go.ChangeMaps (setBlock heap_setBlock_same heap_setBlock_other)
open Go.WideElems (Fit rd rg rd_key rd_mk other_key)

theorem nodup_le : ∀ (N : Nat) (m : List Nat), m.Nodup → (∀ c ∈ m, c < N) → m.length ≤ N
  | 0, m, _, h => by
    cases m with
    | nil => simp
    | cons c m => exact absurd (h c (List.mem_cons_self ..)) (by omega)
  | N + 1, m, hn, h => by
    have h1 := nodup_le N (m.erase N) (hn.erase N) fun c hc => by
      have h2 := (hn.mem_erase_iff).1 hc
      have := h c h2.2
      have := h2.1
      omega
    have h3 := List.length_erase (a := N) (l := m)
    split at h3 <;> omega
/-- whatever an element is, it is let in -/
def anyElem (_ : Value) : Option (DataW Unit × List MemPlace) := some (.lit (.bool true), [])

/-- block b is a map that holds just what f says; 'kk x' is the key of x -/
def MapK {κ : Type} (P : Program) (k : TypeId) (kk : κ → Value) (w : World) (b : Nat) (f : κ → Option Value) : Prop :=
  ∃ es clock, w.heap[b]? = some (.map es clock) ∧ Fit P k anyElem es clock ∧ (∀ x ∈ es.toList, ∃ y, x.key = kk y) ∧ ∀ y v, f y = some v ↔ ∃ x ∈ es.toList, x.key = kk y ∧ x.val = v

section
variable {κ : Type} {P : Program} {k : TypeId} {kk : κ → Value} {w w' : World} {b : Nat} {f : κ → Option Value}
theorem MapK.made (w : World) (P : Program) (k : TypeId) (kk : κ → Value) : MapK P k kk (w.alloc (.map #[] 0)) w.heap.size (fun _ => none) :=
  ⟨#[], 0, (MapKept.heap_alloc w _).1, ⟨by simp, stamped_empty 0, by simp⟩, by simp, by simp⟩
theorem MapK.lt (h : MapK P k kk w b f) : b < w.heap.size := by
  obtain ⟨es, clock, hb, _⟩ := h
  exact (Array.getElem?_eq_some_iff.1 hb).1
theorem MapK.agr_ (h : MapK P k kk w b f) (e : w'.heap[b]? = w.heap[b]?) : MapK P k kk w' b f := by
  obtain ⟨es, clock, hb, r⟩ := h
  exact ⟨es, clock, e.trans hb, r⟩
theorem MapK.via (h : MapK P k kk w b f) (hb : Below w.heap.size w w') : MapK P k kk w' b f := h.agr_ (hb.block b h.lt)
theorem MapK.al (h : MapK P k kk w b f) (o : Obj) : MapK P k kk (w.alloc o) b f := h.agr_ (Below.heap_alloc w o b h.lt)
theorem MapK.dr (h : MapK P k kk w b f) : MapK P k kk w.drew b f := h
theorem MapK.far (h : MapK P k kk w b f) {p : Addr} (hp : b ≠ p.block) (u : Value) : MapK P k kk (w.setCell p u) b f := h.agr_ (Below.heap_setCell w p u b hp)
theorem MapK.grown {row : Option Nat} (h : MapK P k kk w b f) (hb : w.grownBy w' row) (hg : some b ≠ row) : MapK P k kk w' b f := h.agr_ (hb.block b h.lt hg)
theorem MapK.ext {g : κ → Option Value} (h : MapK P k kk w b f) (e : ∀ y, f y = g y) : MapK P k kk w b g := by
  rw [← funext e]; exact h

variable {t e : TypeId}
/-- 'm[k]', 'v, ok := m[k]' -/
theorem MapK.look (h : MapK P k kk w b f) (c : Bool) (K : Maps.Keyed P k) (ht : P.underlying t = some (.map k e)) {z : Value} (hz : (zeroValue e).run P w = .ok z w) (y : κ) {kl : Lit} (hkey : keyOf P k (kk y) = some kl) :
    (Instr.lookup t (.map (some b)) (kk y) c).run P w = .ok (if c then .tuple #[(f y).getD z, .bool (f y).isSome] else (f y).getD z) w := by
  obtain ⟨es, clock, hb, F, hk, hf⟩ := h
  rcases Maps.fit_look c K ht hz hb F hkey with ⟨hrun, hno, _⟩ | ⟨e0, y0, hm, he, hrun, _⟩
  · have : f y = none := by
      cases hy : f y with
      | none => rfl
      | some v => obtain ⟨x, hx, h1, _⟩ := (hf y v).1 hy; exact absurd h1 (hno x hx)
    rw [hrun, this]; cases c <;> rfl
  · have : f y = some e0.val := (hf y e0.val).2 ⟨e0, hm, he, rfl⟩
    rw [hrun, this]; cases c <;> rfl

/-- 'm[k] = v' -/
theorem MapK.store [DecidableEq κ] (h : MapK P k kk w b f) (K : Maps.Keyed P k) (ht : P.underlying t = some (.map k e)) (hinj : ∀ x y, kk x = kk y → x = y) (y : κ) (val : Value) {kl : Lit} (hkey : keyOf P k (kk y) = some kl)
    (hroom : ∀ es clock, w.heap[b]? = some (.map es clock) → es.size < maxLen) :
    ∃ w', (Instr.mapUpdate t (.map (some b)) (kk y) val).run P w = .ok () w' ∧ MapK P k kk w' b (fun x => if x = y then some val else f x) ∧ w.grownBy w' (some b) ∧ w'.heap.size = w.heap.size := by
  obtain ⟨es, clock, hb, F, hk, hf⟩ := h
  obtain ⟨es', clock', hrun, F', _, _, _, hw⟩ := Maps.fit_store (R' := anyElem) K ht hb F (hroom _ _ hb) (fun _ _ _ _ hz => hz) hkey (rfl : anyElem val = _)
  refine ⟨_, hrun, ⟨es', clock', heap_setBlock_same hb _, F', ?_, ?_⟩, ⟨rfl, rfl, rfl, by simp [setBlock], fun i _ hi => heap_setBlock_other hb _ (fun e => hi (by rw [e]))⟩, by simp [setBlock]⟩
  · intro x hx
    rcases hw x hx with ⟨h1, _⟩ | ⟨h1, _⟩
    · exact hk x h1
    · exact ⟨y, h1⟩
  · -- who stands in the new array: by the very run
    have all : (∀ x ∈ es.toList, x.key ≠ kk y → x ∈ es'.toList) ∧ ∃ x ∈ es'.toList, x.key = kk y ∧ x.val = val := by
      rcases K.find w hkey es.toList F.keys with ⟨h1, h2⟩ | ⟨j, e0, h1, h2, h3⟩
      · have hr2 : (Instr.mapUpdate t (.map (some b)) (kk y) val).run P w = .ok () (setBlock w b (.map (es.push ⟨kk y, val, clock⟩) (clock + 1))) := by
          simp [Instr.mapUpdate, run_underlying ht, MapKept.run_getObj_map hb, K.check w false hkey, h1, MapKept.run_setObj_map _ hb, Result.andThen, setBlock]
        rw [hrun] at hr2
        have hw2 : setBlock w b (.map es' clock') = setBlock w b (.map (es.push ⟨kk y, val, clock⟩) (clock + 1)) := by injection hr2
        have e1 := heap_setBlock_same hb (.map es' clock')
        rw [hw2, heap_setBlock_same hb] at e1
        simp only [Option.some.injEq, Obj.map.injEq] at e1
        rw [← e1.1]
        exact ⟨fun x hx _ => by simp [hx], ⟨⟨kk y, val, clock⟩, by simp, rfl, rfl⟩⟩
      · have hj : es[j]? = some e0 := by simpa using h2
        have hr2 : (Instr.mapUpdate t (.map (some b)) (kk y) val).run P w = .ok () (setBlock w b (.map (es.modify j (fun e' => { e' with key := kk y, val := val })) clock)) := by
          simp [Instr.mapUpdate, run_underlying ht, MapKept.run_getObj_map hb, K.check w false hkey, h1, hj, h3, K.stays w hkey, MapKept.run_setObj_map _ hb, Result.andThen, setBlock]
        rw [hrun] at hr2
        have hw2 : setBlock w b (.map es' clock') = setBlock w b (.map (es.modify j (fun e' => { e' with key := kk y, val := val })) clock) := by injection hr2
        have e1 := heap_setBlock_same hb (.map es' clock')
        rw [hw2, heap_setBlock_same hb] at e1
        simp only [Option.some.injEq, Obj.map.injEq] at e1
        rw [← e1.1]
        have hlist : (es.modify j (fun e' => { e' with key := kk y, val := val })).toList = es.toList.set j { e0 with key := kk y, val := val } := by rw [Array.toList_modify, ChangeMaps.modify_eq_set _ _ _ _ h2]
        rw [hlist]
        have hjl : j < es.toList.length := (List.getElem?_eq_some_iff.1 h2).1
        refine ⟨fun x hx hne => ?_, _, List.mem_iff_getElem?.2 ⟨j, by rw [List.getElem?_set_self hjl]⟩, rfl, rfl⟩
        obtain ⟨i, hi⟩ := List.mem_iff_getElem?.1 hx
        have hij : j ≠ i := fun e' => by
          subst e'
          rw [h2] at hi
          exact hne (by rw [← Option.some.inj hi]; exact h3)
        exact List.mem_iff_getElem?.2 ⟨i, by rw [List.getElem?_set_ne hij]; exact hi⟩
    intro z v
    by_cases hzy : z = y
    · subst hzy
      simp only [if_true, Option.some.injEq]
      constructor
      · rintro rfl; exact all.2
      · rintro ⟨x, hx, h1, h2⟩
        rcases hw x hx with ⟨_, h3⟩ | ⟨_, h3⟩
        · exact absurd h1 h3
        · exact h3.symm.trans h2
    · simp only [if_neg hzy]
      have hne : kk z ≠ kk y := fun e1 => hzy (hinj _ _ e1)
      rw [hf z v]
      constructor
      · rintro ⟨x, hx, h1, h2⟩; exact ⟨x, all.1 x hx (by rw [h1]; exact hne), h1, h2⟩
      · rintro ⟨x, hx, h1, h2⟩
        rcases hw x hx with ⟨h3, _⟩ | ⟨h3, _⟩
        · exact ⟨x, h3, h1, h2⟩
        · exact absurd (h1.symm.trans h3) hne

/-- how many entries there can be -/
theorem MapK.room (h : MapK P k kk w b f) (code : κ → Nat) (N : Nat) (hc : ∀ y, f y ≠ none → code y < N) (hi : ∀ x y, f x ≠ none → f y ≠ none → code x = code y → x = y) :
    ∀ es clock, w.heap[b]? = some (.map es clock) → es.size ≤ N := by
  obtain ⟨es0, clock0, hb, F, hk, hf⟩ := h
  intro es clock hb'
  rw [hb] at hb'
  cases hb'
  have hn : es0.toList.Pairwise (fun x y => x.key ≠ y.key) := ((stamped_iff es0 clock0).1 F.stamped).2.2
  have key : ∀ l : List MapEntry, (∀ x ∈ l, x ∈ es0.toList) → l.Pairwise (fun x y => x.key ≠ y.key) → ∃ m : List Nat, m.length = l.length ∧ m.Nodup ∧ ∀ c ∈ m, ∃ y, c = code y ∧ f y ≠ none ∧ ∃ x ∈ l, x.key = kk y := by
    intro l
    induction l with
    | nil => intro _ _; exact ⟨[], rfl, List.nodup_nil, by simp⟩
    | cons x l ih =>
      intro h1 h2
      obtain ⟨m, h3, h4, h5⟩ := ih (fun y hy => h1 y (List.mem_cons_of_mem _ hy)) (List.pairwise_cons.1 h2).2
      obtain ⟨y, hy⟩ := hk x (h1 x (List.mem_cons_self ..))
      have hfy : f y = some x.val := (hf y x.val).2 ⟨x, h1 x (List.mem_cons_self ..), hy, rfl⟩
      refine ⟨code y :: m, by simp [h3], List.nodup_cons.2 ⟨fun hm => ?_, h4⟩, fun c hc => ?_⟩
      · obtain ⟨y', e1, h6, x', hx', hy'⟩ := h5 _ hm
        have := hi y y' (by simp [hfy]) h6 e1
        subst this
        exact (List.pairwise_cons.1 h2).1 x' hx' (hy.trans hy'.symm)
      · rcases List.mem_cons.1 hc with rfl | hc
        · exact ⟨y, rfl, by simp [hfy], x, List.mem_cons_self .., hy⟩
        · obtain ⟨y', e1, h6, x', hx', hy'⟩ := h5 c hc
          exact ⟨y', e1, h6, x', List.mem_cons_of_mem _ hx', hy'⟩
  obtain ⟨m, h3, h4, h5⟩ := key es0.toList (fun _ h => h) hn
  have : m.length ≤ N := by
    refine nodup_le N m h4 fun c hc' => ?_
    obtain ⟨y, rfl, h6, _⟩ := h5 c hc'
    exact hc y h6
  simpa [h3] using this
end
end Go.Proofs.YtfmnmgnhanogmaaDoor





namespace Go.Proofs.YtfmnmgnhanogmaaDoor
open Go.RowKit
open Go.MapKept
open Go.ChangeMaps (setBlock heap_setBlock_same heap_setBlock_other)
open Go.WideElems (Fit rd rg rd_key rd_mk other_key)

def kn (n : Nat) : Value := .int .i64 (n : Int)
theorem kn_inj (x y : Nat) (h : kn x = kn y) : x = y := by
  unfold kn at h
  injection h with _ h
  omega
theorem kn_key (n : Nat) (h : n < 1000) : keyOf Tryd.prog 3 (kn n) = some (.int .i64 (n : Int)) :=
  Maps.keyOf_int_mk Tryd.underlying3 (by
    have hmin : IntKind.i64.min = -9223372036854775808 := rfl
    have hmax : IntKind.i64.max = 9223372036854775807 := rfl
    simp only [Lit.wf, Bool.and_eq_true, decide_eq_true_eq]; omega)
theorem mib_keyed : Maps.Keyed Tryd.prog 3 := Maps.int_keyed Tryd.underlying3
/-- block b is the map that is true at just the numbers of f -/
def SetM (w : World) (b : Nat) (f : Nat → Bool) : Prop := MapK Tryd.prog 3 kn w b (fun n => if f n then some (.bool true) else none) ∧ ∀ n, f n = true → n < 100
section
variable {w w' : World} {b : Nat} {f : Nat → Bool}
theorem SetM.lt (h : SetM w b f) : b < w.heap.size := h.1.lt
theorem SetM.agr_ (h : SetM w b f) (e : w'.heap[b]? = w.heap[b]?) : SetM w' b f := ⟨h.1.agr_ e, h.2⟩
theorem SetM.via (h : SetM w b f) (hb : Below w.heap.size w w') : SetM w' b f := h.agr_ (hb.block b h.lt)
theorem SetM.grown {row : Option Nat} (h : SetM w b f) (hb : w.grownBy w' row) (hg : some b ≠ row) : SetM w' b f := h.agr_ (hb.block b h.lt hg)
theorem SetM.ext {g : Nat → Bool} (h : SetM w b f) (e : ∀ n, f n = g n) : SetM w b g := by rw [← funext e]; exact h
theorem SetM.made (w : World) : SetM (w.alloc (.map #[] 0)) w.heap.size (fun _ => false) := ⟨(MapK.made w _ _ _).ext fun y => by simp, fun _ h => by cases h⟩
theorem SetM.look (h : SetM w b f) (n : Nat) (hn : n < 1000) : (Instr.lookup 84 (.map (some b)) (.int .i64 (n : Int)) false).run Tryd.prog w = .ok (.bool (f n)) w := by
  have := h.1.look false mib_keyed Tryd.underlying84 (z := .bool false) (by kernel_rfl) n (kn_key n hn)
  simp only [Bool.false_eq_true, if_false] at this
  rw [show (.int .i64 (n : Int) : Value) = kn n from rfl, this]
  cases f n <;> rfl
theorem SetM.put (h : SetM w b f) (n : Nat) (hn : n < 100) : ∃ w', (Instr.mapUpdate 84 (.map (some b)) (.int .i64 (n : Int)) (.bool true)).run Tryd.prog w = .ok () w' ∧ SetM w' b (fun k => f k || k == n) ∧ w.grownBy w' (some b) ∧ w'.heap.size = w.heap.size := by
  obtain ⟨w', h1, h2, h3, h4⟩ := h.1.store mib_keyed Tryd.underlying84 kn_inj n (.bool true) (kn_key n (by omega)) (fun es clock he => Nat.lt_of_le_of_lt (h.1.room id 100 (fun y hy => h.2 y (by by_cases hf : f y = true; exact hf; rw [if_neg hf] at hy; exact absurd rfl hy)) (fun x y _ _ e => e) es clock he) (by simp [maxLen]))
  refine ⟨w', h1, ⟨h2.ext fun y => ?_, fun k hk => ?_⟩, h3, h4⟩
  · by_cases hy : y = n
    · subst hy; simp
    · have : (y == n) = false := by simpa using hy
      simp [hy, this]
  · simp only [Bool.or_eq_true, beq_iff_eq] at hk
    rcases hk with hk | hk
    · exact h.2 k hk
    · omega
end
/-- block r is an iterator over the set in block bm; what is still to come -/
def RngS (w : World) (r bm : Nat) (left : Nat → Bool) (cnt : Nat) : Prop :=
  ∃ since seen c0 es clock, w.heap[r]? = some (.mapIter (some bm) since seen c0) ∧ w.heap[bm]? = some (.map es clock) ∧ (∀ x ∈ es.toList, x.born < since) ∧ since ≤ c0 ∧ since ≤ clock ∧ (es.toList.map (·.born)).Nodup ∧ (∀ x ∈ es.toList, ∀ y ∈ es.toList, x.key = y.key → x = y) ∧
    (∀ x ∈ es.toList, ∃ n : Nat, n < 100 ∧ x.key = kn n ∧ x.val = .bool true) ∧ (∀ n, left n = true ↔ ∃ x ∈ (leftOf es seen).toList, x.key = kn n) ∧ (leftOf es seen).size = cnt
/-- how many entries the iterator in block r has still to hand out -/
def World.rngLeft (w : World) (r : Nat) : Nat := match w.heap[r]? with
  | some (.mapIter (some bm) _ seen _) => match w.heap[bm]? with
    | some (.map es _) => (leftOf es seen).size
    | _ => 0
  | _ => 0
section
variable {w w' : World} {r bm cnt : Nat} {left : Nat → Bool}
theorem RngS.left_eq (h : RngS w r bm left cnt) : World.rngLeft w r = cnt := by
  obtain ⟨since, seen, c0, es, clock, h1, h2, -, -, -, -, -, -, -, h3⟩ := h
  unfold World.rngLeft
  rw [h1]
  simp only [h2]
  exact h3
theorem RngS.lt (h : RngS w r bm left cnt) : r < w.heap.size ∧ bm < w.heap.size := by
  obtain ⟨since, seen, c0, es, clock, h1, h2, -⟩ := h
  exact ⟨(Array.getElem?_eq_some_iff.1 h1).1, (Array.getElem?_eq_some_iff.1 h2).1⟩
theorem RngS.agr_ (h : RngS w r bm left cnt) (e1 : w'.heap[r]? = w.heap[r]?) (e2 : w'.heap[bm]? = w.heap[bm]?) : RngS w' r bm left cnt := by
  obtain ⟨since, seen, c0, es, clock, h1, h2, h3⟩ := h
  exact ⟨since, seen, c0, es, clock, e1.trans h1, e2.trans h2, h3⟩
theorem RngS.via (h : RngS w r bm left cnt) (hb : Below w.heap.size w w') : RngS w' r bm left cnt := h.agr_ (hb.block r h.lt.1) (hb.block bm h.lt.2)
theorem RngS.grown {row : Option Nat} (h : RngS w r bm left cnt) (hb : w.grownBy w' row) (h1 : some r ≠ row) (h2 : some bm ≠ row) : RngS w' r bm left cnt := h.agr_ (hb.block r h.lt.1 h1) (hb.block bm h.lt.2 h2)
theorem SetM.range {b : Nat} {f : Nat → Bool} (h : SetM w b f) : ∃ w', (Instr.range 84 (.map (some b))).run Tryd.prog w = .ok (.pointer (some ⟨w.heap.size, 0, none⟩)) w' ∧ (∃ cnt, RngS w' w.heap.size b f cnt) ∧ Below w.heap.size w w' ∧ w'.heap.size = w.heap.size + 1 := by
  obtain ⟨es, clock, hb, F, hk, hff0⟩ := h.1
  have hff : ∀ (y : Nat) (v : Value), (if f y = true then some (Value.bool true) else none) = some v ↔ ∃ x ∈ es.toList, x.key = kn y ∧ x.val = v := hff0
  have hst := F.stamped
  refine ⟨_, run_range_map w _ _ _ b es clock Tryd.underlying84 hb, ⟨_, clock, #[], clock, es, clock, by rw [heap_alloc_new], by rw [heap_alloc_old w _ (Array.getElem?_eq_some_iff.1 hb).1, hb], hst.1, Nat.le_refl _, Nat.le_refl _, hst.2.1, ?_, ?_, ?_, rfl⟩, (Below.refl _ _).alloc (Nat.le_refl _) _, by simp⟩
  · have hp : es.toList.Pairwise (fun x y => x.key ≠ y.key) := ((stamped_iff es clock).1 hst).2.2
    intro x hx y hy e
    obtain ⟨i, hi⟩ := List.mem_iff_getElem?.1 hx
    obtain ⟨j, hj⟩ := List.mem_iff_getElem?.1 hy
    obtain ⟨hil, hi⟩ := List.getElem?_eq_some_iff.1 hi
    obtain ⟨hjl, hj⟩ := List.getElem?_eq_some_iff.1 hj
    rcases Nat.lt_trichotomy i j with hij | hij | hij
    · exact absurd (by rw [hi, hj]; exact e) (List.pairwise_iff_getElem.1 hp i j hil hjl hij)
    · subst hij; exact hi.symm.trans hj
    · exact absurd (by rw [hi, hj]; exact e.symm) (List.pairwise_iff_getElem.1 hp j i hjl hil hij)
  · intro x hx
    obtain ⟨n, hn⟩ := hk x hx
    have h1 := (hff n x.val).2 ⟨x, hx, hn, rfl⟩
    by_cases hf : f n = true
    · rw [if_pos hf] at h1
      exact ⟨n, h.2 n hf, hn, (Option.some.inj h1).symm⟩
    · rw [if_neg hf] at h1; cases h1
  · intro n
    constructor
    · intro hf
      obtain ⟨x, hx, h1, -⟩ := (hff n (.bool true)).1 (by rw [if_pos hf])
      exact ⟨x, by simpa [leftOf] using hx, h1⟩
    · rintro ⟨x, hx, h1⟩
      have hx' : x ∈ es.toList := by simpa [leftOf] using hx
      have h2 := (hff n x.val).2 ⟨x, hx', h1, rfl⟩
      by_cases hf : f n = true
      · exact hf
      · rw [if_neg hf] at h2; cases h2
theorem sb_same {w : World} {r : Nat} {o o' : Obj} (h : w.heap[r]? = some o) : (setBlock w r o').heap[r]? = some o' := by
  unfold setBlock
  have := (Array.getElem?_eq_some_iff.1 h).1
  simp [this]
theorem sb_other {w : World} {r i : Nat} {o' : Obj} (h : i ≠ r) : (setBlock w r o').heap[i]? = w.heap[i]? := by
  unfold setBlock
  simp [Ne.symm h]
theorem RngS.next (h : RngS w r bm left cnt) (hne : r ≠ bm) (ty : TypeId) : ((∀ n, left n = false) ∧ (Instr.next (.pointer (some ⟨r, 0, none⟩)) false ty).run Tryd.prog w = .ok (.tuple #[.bool false]) w) ∨
    ∃ (n : Nat) (w' : World) (cnt' : Nat), left n = true ∧ n < 100 ∧ (Instr.next (.pointer (some ⟨r, 0, none⟩)) false ty).run Tryd.prog w = .ok (.tuple #[.bool true, .int .i64 (n : Int), .bool true]) w' ∧ RngS w' r bm (fun k => left k && k != n) cnt' ∧ cnt' < cnt ∧ w.grownBy w' (some r) ∧ w'.heap.size = w.heap.size ∧
      (Instr.entry (.pointer (some ⟨r, 0, none⟩))).run Tryd.prog w' = .ok (.tuple #[.int .i64 (n : Int), .bool true]) w' := by
  obtain ⟨since, seen, c0, es, clock, h1, h2, h3, h4, h5, h6, h7, h8, h9, h10⟩ := h
  rcases run_next_at (P := Tryd.prog) w ty r bm since c0 seen es clock h1 h2 h3 h4 with ⟨h0, hrun⟩ | ⟨e, he, w1, hw1, hrun⟩
  · refine Or.inl ⟨fun n => ?_, hrun⟩
    cases hl : left n with
    | false => rfl
    | true =>
      obtain ⟨x, hx, -⟩ := (h9 n).1 hl
      rw [Array.eq_empty_of_size_eq_zero h0] at hx
      simp at hx
  · have hee : e ∈ es.toList := by
      simp [leftOf] at he ⊢; exact he.1
    obtain ⟨n, hn100, hnk, hnv⟩ := h8 e hee
    have hl : left n = true := (h9 n).2 ⟨e, he, hnk⟩
    have hw1h : w1.heap = w.heap := by rcases hw1 with rfl | rfl <;> rfl
    have g1 : w1.heap[r]? = some (.mapIter (some bm) since seen c0) := by rw [hw1h]; exact h1
    have g2 : w1.heap[bm]? = some (.map es clock) := by rw [hw1h]; exact h2
    have k1 : (setBlock w1 r (.mapIter (some bm) since (seen.push e.born) clock)).heap[r]? = some (.mapIter (some bm) since (seen.push e.born) clock) := sb_same g1
    have k2 : (setBlock w1 r (.mapIter (some bm) since (seen.push e.born) clock)).heap[bm]? = some (.map es clock) := (sb_other (Ne.symm hne)).trans g2
    have hin : ∀ x, x ∈ (leftOf es (seen.push e.born)).toList ↔ x ∈ (leftOf es seen).toList ∧ x.born ≠ e.born := by
      intro x
      simp only [leftOf, Array.toList_filter, List.mem_filter, contains_push, Bool.not_eq_true', Bool.or_eq_false_iff, beq_eq_false_iff_ne, ne_eq]
      constructor
      · rintro ⟨a, b, c⟩; exact ⟨⟨a, b⟩, c⟩
      · rintro ⟨⟨a, b⟩, c⟩; exact ⟨a, b, c⟩
    have hlt : (leftOf es (seen.push e.born)).size < cnt := by
      rw [← h10]
      have := filter_lt (fun x : MapEntry => !seen.contains x.born) (fun x : MapEntry => !(seen.push e.born).contains x.born) (fun x hx => by
        simp only [contains_push, Bool.not_eq_true', Bool.or_eq_false_iff] at hx ⊢
        exact hx.1) e (by simp [leftOf] at he ⊢; exact he.2) (by simp) es.toList hee
      rw [← Array.length_toList, ← Array.length_toList]
      simpa [leftOf, Array.toList_filter] using this
    refine Or.inr ⟨n, _, (leftOf es (seen.push e.born)).size, hl, hn100, by rw [hrun, hnk, hnv]; rfl, ⟨since, seen.push e.born, clock, es, clock, k1, k2, h3, h5, h5, h6, h7, h8, fun k => ?_, rfl⟩, hlt, ?_, by simp [setBlock, hw1h], ?_⟩
    · rw [Bool.and_eq_true, bne_iff_ne, h9 k]
      constructor
      · rintro ⟨⟨x, hx, hxk⟩, hkn⟩
        refine ⟨x, (hin x).2 ⟨hx, fun hb => hkn ?_⟩, hxk⟩
        have hxe : x ∈ es.toList := by simp [leftOf] at hx ⊢; exact hx.1
        have : x = e := by
          have f1 := find_born e es.toList h6 hee
          have f2 := find_born x es.toList h6 hxe
          rw [hb] at f2
          exact Option.some.inj (f2.symm.trans f1)
        subst this
        exact kn_inj _ _ (hxk.symm.trans hnk)
      · rintro ⟨x, hx, hxk⟩
        obtain ⟨a, b⟩ := (hin x).1 hx
        refine ⟨⟨x, a, hxk⟩, fun hkn => b ?_⟩
        have hxe : x ∈ es.toList := by simp [leftOf] at a ⊢; exact a.1
        rw [h7 x hxe e hee (by rw [hxk, hnk, hkn])]
    · refine ⟨by rcases hw1 with rfl | rfl <;> rfl, by rcases hw1 with rfl | rfl <;> rfl, by rcases hw1 with rfl | rfl <;> rfl, by simp [setBlock, hw1h], fun i _ hi => ?_⟩
      exact (sb_other (fun e => hi (by rw [e]))).trans (by rw [hw1h])
    · rw [run_entry_at _ r bm since seen es clock e k1 k2 hee h6, hnk, hnv]; rfl
end
section
variable {ops : Array Oper} {rest : List Oper} {o : Oper} {a : Act} {Q : Exit → Act → World → Prop} {w : World}
theorem wpList_range_S (hg : o.guard = none) (m : Operand) (hop : o.op = Op.range 84 m) (b : Nat) (f : Nat → Bool) (hm : a.eval m = .map (some b)) (h : SetM w b f)
    (hK : ∀ w' cnt, RngS w' w.heap.size b f cnt → Below w.heap.size w w' → w'.heap.size = w.heap.size + 1 → wpList Tryd.prog ops Q rest (a.put o.dst (.pointer (some ⟨w.heap.size, 0, none⟩))) w') : wpList Tryd.prog ops Q (o :: rest) a w := by
  refine wpList_plain hg fun K' hK' => ?_
  obtain ⟨w', hrun, ⟨cnt, r1⟩, r2, r3⟩ := h.range
  unfold Oper.wp
  simp [execOp, hop, hm, hrun, Result.andThen]
  exact hK' _ _ (hK w' cnt r1 r2 r3)
theorem wpList_next_S (hg : o.guard = none) (it : Operand) (hop : o.op = Op.next it false) (r bm : Nat) (left : Nat → Bool) (cnt : Nat) (hit : a.eval it = .pointer (some ⟨r, 0, none⟩)) (h : RngS w r bm left cnt) (hne : r ≠ bm)
    (hDone : (∀ n, left n = false) → wpList Tryd.prog ops Q rest (a.put o.dst (.tuple #[.bool false])) w)
    (hMore : ∀ (n : Nat) (w' : World) (cnt' : Nat), left n = true → n < 100 → RngS w' r bm (fun k => left k && k != n) cnt' → cnt' < cnt → w.grownBy w' (some r) → w'.heap.size = w.heap.size → (Instr.entry (.pointer (some ⟨r, 0, none⟩))).run Tryd.prog w' = .ok (.tuple #[.int .i64 (n : Int), .bool true]) w' →
      wpList Tryd.prog ops Q rest (a.put o.dst (.tuple #[.bool true, .int .i64 (n : Int), .bool true])) w') : wpList Tryd.prog ops Q (o :: rest) a w := by
  refine wpList_plain hg fun K' hK' => ?_
  unfold Oper.wp
  rcases h.next hne o.type with ⟨hl, hrun⟩ | ⟨n, w', cnt', h1, h2, hrun, h3, h4, h5, h6, h7⟩
  · simp [execOp, hop, hit, hrun, Result.andThen]
    exact hK' _ _ (hDone hl)
  · simp [execOp, hop, hit, hrun, Result.andThen]
    exact hK' _ _ (hMore n w' cnt' h1 h2 h3 h4 h5 h6 h7)
theorem wpList_put_S (hg : o.guard = none) (m x y : Operand) (hop : o.op = Op.mapUpdate 84 m x y) (b : Nat) (f : Nat → Bool) (n : Nat) (hm : a.eval m = .map (some b)) (hx : a.eval x = .int .i64 (n : Int)) (hy : a.eval y = .bool true) (h : SetM w b f) (hn : n < 100)
    (hK : ∀ w', SetM w' b (fun k => f k || k == n) → w.grownBy w' (some b) → w'.heap.size = w.heap.size → wpList Tryd.prog ops Q rest (a.put o.dst undef) w') : wpList Tryd.prog ops Q (o :: rest) a w := by
  refine wpList_plain hg fun K' hK' => ?_
  obtain ⟨w', hrun, r1, r2, r3⟩ := h.put n hn
  unfold Oper.wp
  simp [execOp, hop, hm, hx, hy, hrun, Result.andThen]
  exact hK' _ _ (hK w' r1 r2 r3)
end
end Go.Proofs.YtfmnmgnhanogmaaDoor



namespace Go.Proofs.YtfmnmgnhanogmaaDoor
open Go.RowKit

/-- block b begins with the bools f 0 .. f (n-1) -/
def BRowS (w : World) (b s n : Nat) (f : Nat → Bool) : Prop := ∃ cs, Blk w b 4 cs ∧ cs.size = s ∧ ∀ j, j < n → cs[j]? = some (.bool (f j))
abbrev BRow (w : World) (b n : Nat) (f : Nat → Bool) : Prop := BRowS w b n n f
section
variable {w w' : World} {b s n : Nat} {f : Nat → Bool}
theorem BRowS.cell (h : BRowS w b s n f) {j : Nat} (hj : j < n) : w.cell? ⟨b, j, none⟩ = some (.bool (f j)) := by
  obtain ⟨cs, h1, hs, h2⟩ := h
  exact (h1.cell j).trans (h2 j hj)
theorem BRowS.frozen (h : BRowS w b s n f) (j : Nat) : w.frozen? ⟨b, j, none⟩ = false := by
  obtain ⟨cs, h1, hs, h2⟩ := h
  exact h1.frozen j
theorem BRowS.lt (h : BRowS w b s n f) : b < w.heap.size := by obtain ⟨cs, h1, hs, h2⟩ := h; exact h1.lt
theorem BRowS.via (h : BRowS w b s n f) (k : Below w.heap.size w w') : BRowS w' b s n f := by obtain ⟨cs, h1, hs, h2⟩ := h; exact ⟨cs, h1.via k, hs, h2⟩
theorem BRowS.al (h : BRowS w b s n f) (o : Obj) : BRowS (w.alloc o) b s n f := by obtain ⟨cs, h1, hs, h2⟩ := h; exact ⟨cs, h1.alloc o, hs, h2⟩
theorem BRowS.grown {row : Option Nat} (h : BRowS w b s n f) (k : w.grownBy w' row) (hr : some b ≠ row) : BRowS w' b s n f := by obtain ⟨cs, h1, hs, h2⟩ := h; exact ⟨cs, h1.grown k hr, hs, h2⟩
theorem BRowS.far (h : BRowS w b s n f) {p : Addr} (hp : b ≠ p.block) (u : Value) : BRowS (w.setCell p u) b s n f := by obtain ⟨cs, h1, hs, h2⟩ := h; exact ⟨cs, h1.far hp u, hs, h2⟩
theorem BRowS.set {i : Nat} (h : BRowS w b s n f) (hi : i < n) : BRowS (w.setCell ⟨b, i, none⟩ (.bool true)) b s n (fun j => if j = i then true else f j) := by
  obtain ⟨cs, h1, hs, h2⟩ := h
  refine ⟨_, h1.set_ i (.bool true), by simpa using hs, fun j hj => ?_⟩
  have hil : i < cs.size := by
    have := h2 i hi
    exact (Array.getElem?_eq_some_iff.1 this).1
  rw [Array.getElem?_setIfInBounds]
  by_cases e : i = j
  · subst e; simp [hil]
  · have e' : ¬ j = i := fun q => e q.symm
    simp only [if_neg e, if_neg e']; exact h2 j hj
theorem BRowS.ext {g : Nat → Bool} (h : BRowS w b s n f) (e : ∀ j, j < n → g j = f j) : BRowS w b s n g := by
  obtain ⟨cs, h1, hs, h2⟩ := h
  exact ⟨cs, h1, hs, fun j hj => by rw [h2 j hj, e j hj]⟩
end
theorem grownBySet (w : World) (b i : Nat) (v : Value) : w.grownBy (w.setCell ⟨b, i, none⟩ v) (some b) :=
  ⟨rfl, rfl, rfl, by simp, fun j _ hne => Below.heap_setCell w ⟨b, i, none⟩ v j (fun e => hne (by rw [e]))⟩
theorem grownRefl (w : World) (row : Option Nat) : w.grownBy w row := ⟨rfl, rfl, rfl, Nat.le_refl _, fun _ _ _ => rfl⟩
/-- f with the first i of g -/
def uni (f g : Nat → Bool) (i : Nat) : Nat → Bool := fun j => f j || (decide (j < i) && g j)
theorem uni_zero (f g : Nat → Bool) : uni f g 0 = f := by funext j; simp [uni]
theorem uni_hit {f g : Nat → Bool} {i : Nat} (hg : g i = true) : uni f g (i + 1) = fun j => if j = i then true else uni f g i j := by
  funext j
  by_cases e : j = i
  · subst e; simp [uni, hg]
  · rw [if_neg e]; simp only [uni]; rw [show decide (j < i + 1) = decide (j < i) from by rw [decide_eq_decide]; omega]
theorem uni_miss {f g : Nat → Bool} {i : Nat} (hg : g i = false ∨ uni f g i i = true) : uni f g (i + 1) = uni f g i := by
  funext j
  by_cases e : j = i
  · subst e
    rcases hg with hg | hg
    · simp [uni, hg]
    · simp [uni] at hg; simp [uni, hg]
  · simp only [uni]; rw [show decide (j < i + 1) = decide (j < i) from by rw [decide_eq_decide]; omega]
/-- does the union change anything? -/
def uniC (f g : Nat → Bool) : Nat → Bool
  | 0 => false
  | i + 1 => uniC f g i || (g i && !f i)
theorem uniC_iff (f g : Nat → Bool) (m : Nat) : uniC f g m = true ↔ ∃ j, j < m ∧ g j = true ∧ f j = false := by
  induction m with
  | zero => simp [uniC]
  | succ m ih =>
    simp only [uniC, Bool.or_eq_true, ih, Bool.and_eq_true, Bool.not_eq_true']
    constructor
    · rintro (⟨j, h1, h2⟩ | h)
      · exact ⟨j, by omega, h2⟩
      · exact ⟨m, by omega, h⟩
    · rintro ⟨j, h1, h2⟩
      by_cases e : j = m
      · subst e; exact Or.inr h2
      · exact Or.inl ⟨j, by omega, h2⟩
def UniP (w : World) (b s n m : Nat) (f g : Nat → Bool) (e : Ending) (w' : World) : Prop :=
  e = .returned (.bool (uniC f g m)) ∧ BRowS w' b s n (uni f g m) ∧ w.grownBy w' (some b)
set_option maxRecDepth 100000 in
set_option maxHeartbeats 2000000 in
theorem union_c {s s2 : Nat} (w : World) (b n c : Nat) (f g : Nat → Bool) (b2 m c2 : Nat) (hf : BRowS w b s n f) (hg : BRowS w b2 s2 m g) (hm : m ≤ n) (hn : n ≤ 1000) (hs : b2 = b → ∀ j, j < m → g j = f j) :
    Calls Tryd.prog 74 #[.slice (some ⟨b, 0, none⟩) n c, .slice (some ⟨b2, 0, none⟩) m c2] w (UniP w b s n m f g) := by
  have HF := Lib.hid hf
  have HG := Lib.hid hg
  have HS := Lib.hid hs
  clear hf hg hs
  go_enter Tryd.func74, Tryd.ntmps74
  go_wp2_with fail
  go_loopw [5, 10] (fun q a wr => ∃ i : Nat, a = .int .i64 i ∧ i ≤ m ∧ q = .bool (uniC f g i) ∧ Hid (BRowS wr b s n (uni f g i)) ∧ Hid (w.grownBy wr (some b))) (fun _ a _ => m - (intOf a).toNat)
  case atStart => exact ⟨0, rfl, Nat.zero_le _, rfl, Lib.hid (by rw [uni_zero]; exact HF.out), Lib.hid (grownRefl _ _)⟩
  case round =>
    obtain ⟨i, rfl, hi, rfl, HB, HW⟩ := hrel
    by_cases him : i < m
    · have i0 : (0 : Int) ≤ (i : Int) := by omega
      have i1 : (i : Int) < (m : Int) := by omega
      have i2 : (i : Int) < (n : Int) := by omega
      have ct := HB.out.cell (show i < n by omega)
      have ft := HB.out.frozen
      have cf : wr.cell? ⟨b2, i, none⟩ = some (.bool (g i)) := by
        by_cases e : b2 = b
        · subst e
          have := HS.out rfl i him
          rw [ct]
          simp [uni, this]
        · exact (HG.out.grown HW.out (fun q => e (Option.some.inj q))).cell him
      have hui : uni f g i i = f i := by simp [uni]
      rw [hui] at ct
      cases hgi : g i with
      | false =>
        rw [hgi] at cf
        go_wp2_with fail
        exact ⟨⟨i + 1, by go_num, by omega, by simp [uniC, hgi], Lib.hid (by rw [uni_miss (Or.inl hgi)]; exact HB.out), HW⟩, by simp [intOf]; omega⟩
      | true =>
        rw [hgi] at cf
        cases hfi : f i with
        | true =>
          rw [hfi] at ct
          go_wp2_with fail
          exact ⟨⟨i + 1, by go_num, by omega, by simp [uniC, hfi], Lib.hid (by rw [uni_miss (Or.inr (hui.trans hfi))]; exact HB.out), HW⟩, by simp [intOf]; omega⟩
        | false =>
          rw [hfi] at ct
          go_wp2_with fail
          exact ⟨⟨i + 1, by go_num, by omega, by simp [uniC, hfi, hgi], Lib.hid (by rw [uni_hit hgi]; exact HB.out.set (by omega)), Lib.hid (HW.out.trans (grownBySet _ _ _ _))⟩, by simp [intOf]; omega⟩
    · obtain rfl : i = m := by omega
      go_wp2_with fail
      go_ret
      exact ⟨rfl, HB.out, HW.out⟩
end Go.Proofs.YtfmnmgnhanogmaaDoor

