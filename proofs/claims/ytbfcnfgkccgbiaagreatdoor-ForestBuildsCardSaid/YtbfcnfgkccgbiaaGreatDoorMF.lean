/- Texts MF, laid together. -/
import Derived.Test.YtbfcnfgkccgbiaaGreatDoorC1
import Derived.Maps.Keyed
import Derived.Maps.OwnOps
import Derived.DeepKeys4





namespace Go.Proofs.YtbfcnfgkccgbiaaGreatDoor
open Go.RowKit
open Go.MapKept
open Go.ChangeMaps (setBlock heap_setBlock_same heap_setBlock_other)
open Go.WideElems (Fit rd rg rd_key rd_mk other_key)

theorem nodup_le : ∀ (N : Nat) (m : List Nat), m.Nodup → (∀ c ∈ m, c < N) → m.length ≤ N
  | 0, m, _, h => by
    cases m with
    | nil => simp
    | cons c m => exact absurd (h c (List.mem_cons_self ..)) (by omega)
  | N + 1, m, hn, h => by
    have h1 := nodup_le N (m.erase N) (hn.erase N) fun c hc => by
      have h2 := (hn.mem_erase_iff).1 hc
      have := h c h2.2
      have := h2.1
      omega
    have h3 := List.length_erase (a := N) (l := m)
    split at h3 <;> omega
/-- whatever an element is, it is let in -/
def anyElem (_ : Value) : Option (DataW Unit × List MemPlace) := some (.lit (.bool true), [])

theorem Fit.of_keys {P : Program} {k : TypeId} {es : Array MapEntry} {clock : Nat} (h1 : es.size ≤ maxLen) (h2 : Stamped es clock) (h3 : ∀ x ∈ es.toList, ∃ l, keyOf P k x.key = some l) : Fit P k anyElem es clock :=
  ⟨h1, h2, fun x hx => by obtain ⟨l, hl⟩ := h3 x hx; exact ⟨_, rd_mk hl rfl⟩⟩

/-- block b is a map that holds just what f says; 'kk x' is the key of x -/
def MapK {κ : Type} (P : Program) (k : TypeId) (kk : κ → Value) (w : World) (b : Nat) (f : κ → Option Value) : Prop :=
  ∃ es clock, w.heap[b]? = some (.map es clock) ∧ Fit P k anyElem es clock ∧ (∀ x ∈ es.toList, ∃ y, x.key = kk y) ∧ ∀ y v, f y = some v ↔ ∃ x ∈ es.toList, x.key = kk y ∧ x.val = v

section
variable {κ : Type} {P : Program} {k : TypeId} {kk : κ → Value} {w w' : World} {b : Nat} {f : κ → Option Value}
theorem MapK.made (w : World) (P : Program) (k : TypeId) (kk : κ → Value) : MapK P k kk (w.alloc (.map #[] 0)) w.heap.size (fun _ => none) :=
  ⟨#[], 0, (MapKept.heap_alloc w _).1, ⟨by simp, stamped_empty 0, by simp⟩, by simp, by simp⟩
theorem MapK.lt (h : MapK P k kk w b f) : b < w.heap.size := by
  obtain ⟨es, clock, hb, _⟩ := h
  exact (Array.getElem?_eq_some_iff.1 hb).1
theorem MapK.agr_ (h : MapK P k kk w b f) (e : w'.heap[b]? = w.heap[b]?) : MapK P k kk w' b f := by
  obtain ⟨es, clock, hb, r⟩ := h
  exact ⟨es, clock, e.trans hb, r⟩
theorem MapK.via (h : MapK P k kk w b f) (hb : Below w.heap.size w w') : MapK P k kk w' b f := h.agr_ (hb.block b h.lt)
theorem MapK.al (h : MapK P k kk w b f) (o : Obj) : MapK P k kk (w.alloc o) b f := h.agr_ (Below.heap_alloc w o b h.lt)
theorem MapK.dr (h : MapK P k kk w b f) : MapK P k kk w.drew b f := h
theorem MapK.far (h : MapK P k kk w b f) {p : Addr} (hp : b ≠ p.block) (u : Value) : MapK P k kk (w.setCell p u) b f := h.agr_ (Below.heap_setCell w p u b hp)
theorem MapK.grown {row : Option Nat} (h : MapK P k kk w b f) (hb : w.grownBy w' row) (hg : some b ≠ row) : MapK P k kk w' b f := h.agr_ (hb.block b h.lt hg)
theorem MapK.ext {g : κ → Option Value} (h : MapK P k kk w b f) (e : ∀ y, f y = g y) : MapK P k kk w b g := by
  rw [← funext e]; exact h

variable {t e : TypeId}
/-- 'm[k]', 'v, ok := m[k]' -/
theorem MapK.look (h : MapK P k kk w b f) (c : Bool) (K : Maps.Keyed P k) (ht : P.underlying t = some (.map k e)) {z : Value} (hz : (zeroValue e).run P w = .ok z w) (y : κ) {kl : Lit} (hkey : keyOf P k (kk y) = some kl) :
    (Instr.lookup t (.map (some b)) (kk y) c).run P w = .ok (if c then .tuple #[(f y).getD z, .bool (f y).isSome] else (f y).getD z) w := by
  obtain ⟨es, clock, hb, F, hk, hf⟩ := h
  rcases Maps.fit_look c K ht hz hb F hkey with ⟨hrun, hno, _⟩ | ⟨e0, y0, hm, he, hrun, _⟩
  · have : f y = none := by
      cases hy : f y with
      | none => rfl
      | some v => obtain ⟨x, hx, h1, _⟩ := (hf y v).1 hy; exact absurd h1 (hno x hx)
    rw [hrun, this]; cases c <;> rfl
  · have : f y = some e0.val := (hf y e0.val).2 ⟨e0, hm, he, rfl⟩
    rw [hrun, this]; cases c <;> rfl

/-- 'm[k] = v' -/
theorem MapK.store [DecidableEq κ] (h : MapK P k kk w b f) (K : Maps.Keyed P k) (ht : P.underlying t = some (.map k e)) (hinj : ∀ x y, kk x = kk y → x = y) (y : κ) (val : Value) {kl : Lit} (hkey : keyOf P k (kk y) = some kl)
    (hroom : ∀ es clock, w.heap[b]? = some (.map es clock) → es.size < maxLen) :
    ∃ w', (Instr.mapUpdate t (.map (some b)) (kk y) val).run P w = .ok () w' ∧ MapK P k kk w' b (fun x => if x = y then some val else f x) ∧ w.grownBy w' (some b) ∧ w'.heap.size = w.heap.size := by
  obtain ⟨es, clock, hb, F, hk, hf⟩ := h
  obtain ⟨es', clock', hrun, F', _, _, _, hw⟩ := Maps.fit_store (R' := anyElem) K ht hb F (hroom _ _ hb) (fun _ _ _ _ hz => hz) hkey (rfl : anyElem val = _)
  refine ⟨_, hrun, ⟨es', clock', heap_setBlock_same hb _, F', ?_, ?_⟩, ⟨rfl, rfl, rfl, by simp [setBlock], fun i _ hi => heap_setBlock_other hb _ (fun e => hi (by rw [e]))⟩, by simp [setBlock]⟩
  · intro x hx
    rcases hw x hx with ⟨h1, _⟩ | ⟨h1, _⟩
    · exact hk x h1
    · exact ⟨y, h1⟩
  · -- who stands in the new array: by the very run
    have all : (∀ x ∈ es.toList, x.key ≠ kk y → x ∈ es'.toList) ∧ ∃ x ∈ es'.toList, x.key = kk y ∧ x.val = val := by
      rcases K.find w hkey es.toList F.keys with ⟨h1, h2⟩ | ⟨j, e0, h1, h2, h3⟩
      · have hr2 : (Instr.mapUpdate t (.map (some b)) (kk y) val).run P w = .ok () (setBlock w b (.map (es.push ⟨kk y, val, clock⟩) (clock + 1))) := by
          simp [Instr.mapUpdate, run_underlying ht, MapKept.run_getObj_map hb, K.check w false hkey, h1, MapKept.run_setObj_map _ hb, Result.andThen, setBlock]
        rw [hrun] at hr2
        have hw2 : setBlock w b (.map es' clock') = setBlock w b (.map (es.push ⟨kk y, val, clock⟩) (clock + 1)) := by injection hr2
        have e1 := heap_setBlock_same hb (.map es' clock')
        rw [hw2, heap_setBlock_same hb] at e1
        simp only [Option.some.injEq, Obj.map.injEq] at e1
        rw [← e1.1]
        exact ⟨fun x hx _ => by simp [hx], ⟨⟨kk y, val, clock⟩, by simp, rfl, rfl⟩⟩
      · have hj : es[j]? = some e0 := by simpa using h2
        have hr2 : (Instr.mapUpdate t (.map (some b)) (kk y) val).run P w = .ok () (setBlock w b (.map (es.modify j (fun e' => { e' with key := kk y, val := val })) clock)) := by
          simp [Instr.mapUpdate, run_underlying ht, MapKept.run_getObj_map hb, K.check w false hkey, h1, hj, h3, K.stays w hkey, MapKept.run_setObj_map _ hb, Result.andThen, setBlock]
        rw [hrun] at hr2
        have hw2 : setBlock w b (.map es' clock') = setBlock w b (.map (es.modify j (fun e' => { e' with key := kk y, val := val })) clock) := by injection hr2
        have e1 := heap_setBlock_same hb (.map es' clock')
        rw [hw2, heap_setBlock_same hb] at e1
        simp only [Option.some.injEq, Obj.map.injEq] at e1
        rw [← e1.1]
        have hlist : (es.modify j (fun e' => { e' with key := kk y, val := val })).toList = es.toList.set j { e0 with key := kk y, val := val } := by rw [Array.toList_modify, ChangeMaps.modify_eq_set _ _ _ _ h2]
        rw [hlist]
        have hjl : j < es.toList.length := (List.getElem?_eq_some_iff.1 h2).1
        refine ⟨fun x hx hne => ?_, _, List.mem_iff_getElem?.2 ⟨j, by rw [List.getElem?_set_self hjl]⟩, rfl, rfl⟩
        obtain ⟨i, hi⟩ := List.mem_iff_getElem?.1 hx
        have hij : j ≠ i := fun e' => by
          subst e'
          rw [h2] at hi
          exact hne (by rw [← Option.some.inj hi]; exact h3)
        exact List.mem_iff_getElem?.2 ⟨i, by rw [List.getElem?_set_ne hij]; exact hi⟩
    intro z v
    by_cases hzy : z = y
    · subst hzy
      simp only [if_true, Option.some.injEq]
      constructor
      · rintro rfl; exact all.2
      · rintro ⟨x, hx, h1, h2⟩
        rcases hw x hx with ⟨_, h3⟩ | ⟨_, h3⟩
        · exact absurd h1 h3
        · exact h3.symm.trans h2
    · simp only [if_neg hzy]
      have hne : kk z ≠ kk y := fun e1 => hzy (hinj _ _ e1)
      rw [hf z v]
      constructor
      · rintro ⟨x, hx, h1, h2⟩; exact ⟨x, all.1 x hx (by rw [h1]; exact hne), h1, h2⟩
      · rintro ⟨x, hx, h1, h2⟩
        rcases hw x hx with ⟨h3, _⟩ | ⟨h3, _⟩
        · exact ⟨x, h3, h1, h2⟩
        · exact absurd (h1.symm.trans h3) hne

/-- how many entries there can be -/
theorem MapK.room (h : MapK P k kk w b f) (code : κ → Nat) (N : Nat) (hc : ∀ y, f y ≠ none → code y < N) (hi : ∀ x y, f x ≠ none → f y ≠ none → code x = code y → x = y) :
    ∀ es clock, w.heap[b]? = some (.map es clock) → es.size ≤ N := by
  obtain ⟨es0, clock0, hb, F, hk, hf⟩ := h
  intro es clock hb'
  rw [hb] at hb'
  cases hb'
  have hn : es0.toList.Pairwise (fun x y => x.key ≠ y.key) := ((stamped_iff es0 clock0).1 F.stamped).2.2
  have key : ∀ l : List MapEntry, (∀ x ∈ l, x ∈ es0.toList) → l.Pairwise (fun x y => x.key ≠ y.key) → ∃ m : List Nat, m.length = l.length ∧ m.Nodup ∧ ∀ c ∈ m, ∃ y, c = code y ∧ f y ≠ none ∧ ∃ x ∈ l, x.key = kk y := by
    intro l
    induction l with
    | nil => intro _ _; exact ⟨[], rfl, List.nodup_nil, by simp⟩
    | cons x l ih =>
      intro h1 h2
      obtain ⟨m, h3, h4, h5⟩ := ih (fun y hy => h1 y (List.mem_cons_of_mem _ hy)) (List.pairwise_cons.1 h2).2
      obtain ⟨y, hy⟩ := hk x (h1 x (List.mem_cons_self ..))
      have hfy : f y = some x.val := (hf y x.val).2 ⟨x, h1 x (List.mem_cons_self ..), hy, rfl⟩
      refine ⟨code y :: m, by simp [h3], List.nodup_cons.2 ⟨fun hm => ?_, h4⟩, fun c hc => ?_⟩
      · obtain ⟨y', e1, h6, x', hx', hy'⟩ := h5 _ hm
        have := hi y y' (by simp [hfy]) h6 e1
        subst this
        exact (List.pairwise_cons.1 h2).1 x' hx' (hy.trans hy'.symm)
      · rcases List.mem_cons.1 hc with rfl | hc
        · exact ⟨y, rfl, by simp [hfy], x, List.mem_cons_self .., hy⟩
        · obtain ⟨y', e1, h6, x', hx', hy'⟩ := h5 c hc
          exact ⟨y', e1, h6, x', List.mem_cons_of_mem _ hx', hy'⟩
  obtain ⟨m, h3, h4, h5⟩ := key es0.toList (fun _ h => h) hn
  have : m.length ≤ N := by
    refine nodup_le N m h4 fun c hc' => ?_
    obtain ⟨y, rfl, h6, _⟩ := h5 c hc'
    exact hc y h6
  simpa [h3] using this
end
end Go.Proofs.YtbfcnfgkccgbiaaGreatDoor

