/- Texts KA, MF, KB, KC, laid together. -/
import Derived.Test.YtfmnmgnhanogmaaDoorRows
import Derived.WalkKit
import Derived.WalkSpells
import Derived.WalkLawsBesides
import Derived.BigQuiet
import Derived.Deep.QuietTactic
import Derived.Deep.RegionHeld3
import Derived.StillTailTactics
import Derived.Deep.DeepFit
import Derived.Deep.DeepCutAuto
import Derived.Deep.LoopGhost
import Derived.Deep.DeepMust
import Derived.Lib.Hide
import Derived.Maps.AppendAt
import Derived.Deep.AppendLies
import Derived.Maps.Keyed
import Derived.Maps.OwnOps
import Derived.DeepKeys4
















namespace Go.Proofs.YtfmnmgnhanogmaaDoor
open Go.RowKit

/-- the slice value '.slice A n c' reads as xs in w -/
def Ints (w : World) (A : Option Addr) (n c : Nat) (xs : List Int) : Prop :=
  xs.length = n ∧ n ≤ c ∧ (0 < n → ∃ b off, A = some ⟨b, off, none⟩ ∧ ∀ i, i < n → w.cell? ⟨b, off + i, none⟩ = some (.int .i64 (xs.getD i 0)))

section
variable {w w' : World} {A : Option Addr} {n c : Nat} {xs : List Int}
theorem Ints.len (h : Ints w A n c xs) : xs.length = n := h.1
theorem Ints.le (h : Ints w A n c xs) : n ≤ c := h.2.1
theorem Ints.nil (w : World) : Ints w none 0 0 [] := ⟨rfl, Nat.le_refl _, fun h => absurd h (by omega)⟩
theorem Ints.at_ (h : Ints w A n c xs) {k : Nat} (hk : k < n) : ∃ b off, A = some ⟨b, off, none⟩ ∧ b < w.heap.size ∧ w.cell? ⟨b, off + k, none⟩ = some (.int .i64 (xs.getD k 0)) := by
  obtain ⟨b, off, e, hc⟩ := h.2.2 (by omega)
  have := hc k hk
  exact ⟨b, off, e, World.block_lt_of_cell? w _ this, this⟩
theorem Ints.keep (h : Ints w A n c xs) {B : Nat} (hb : Below B w w') (hB : w.heap.size ≤ B) : Ints w' A n c xs :=
  ⟨h.1, h.2.1, fun hn => by
    obtain ⟨b, off, e, hc⟩ := h.2.2 hn
    refine ⟨b, off, e, fun i hi => ?_⟩
    rw [hb.cell (p := ⟨b, off + i, none⟩)]
    · exact hc i hi
    · exact Nat.lt_of_lt_of_le (World.block_lt_of_cell? w _ (hc i hi)) hB⟩
theorem Ints.drewN (h : Ints w A n c xs) (k : Nat) : Ints (w.drewN k) A n c xs := h
theorem Ints.cut (h : Ints w A n c xs) {l m : Nat} (hl : l ≤ m) (hm : m ≤ n) :
    Ints w (if c = l then A else A.map (·.add (l * 1))) (m - l) (c - l) ((xs.take m).drop l) := by
  have hle := h.2.1
  refine ⟨by simp [h.1]; omega, by omega, fun hn => ?_⟩
  obtain ⟨b, off, e, hc⟩ := h.2.2 (by omega)
  rw [if_neg (by omega)]
  refine ⟨b, off + l, ?_, fun i hi => ?_⟩
  · subst e; simp only [Option.map_some, Nat.mul_one]
    unfold Addr.add
    split
    · rename_i h0; simp [h0]
    · rfl
  · have := hc (l + i) (by omega)
    rw [← Nat.add_assoc] at this
    rw [this]
    congr 2
    simp only [List.getD_eq_getElem?_getD, List.getElem?_drop, List.getElem?_take]
    rw [if_pos (by omega)]
theorem Ints.head (h : Ints w A n c xs) {m : Nat} (hm : m ≤ n) : Ints w A m c (xs.take m) := by
  refine ⟨by simp [h.1]; omega, Nat.le_trans hm h.2.1, fun hn => ?_⟩
  obtain ⟨b, off, e, hc⟩ := h.2.2 (by omega)
  refine ⟨b, off, e, fun i hi => ?_⟩
  rw [hc i (by omega)]
  congr 2
  simp only [List.getD_eq_getElem?_getD, List.getElem?_take]
  rw [if_pos hi]
theorem Ints.tail (h : Ints w A n c xs) {l : Nat} (hl : l ≤ n) : ∃ A', (if c = l then A else Option.map (fun x => x.add l) A) = A' ∧ Ints w A' (n - l) (c - l) (xs.drop l) := by
  have h' := Ints.cut h hl (Nat.le_refl n)
  rw [List.take_of_length_le (by rw [h.1]; exact Nat.le_refl _), Nat.mul_one] at h'
  exact ⟨_, rfl, h'⟩
theorem Ints.drew (h : Ints w A n c xs) : Ints w.drew A n c xs := h
end

@[go_sem] theorem World.cell?_setCell_apart (w : World) (b i c j : Nat) (v : Value) (h : b ≠ c) : (w.setCell ⟨b, i, none⟩ v).cell? ⟨c, j, none⟩ = w.cell? ⟨c, j, none⟩ :=
  World.cell?_setCell_other w _ _ v (fun e => h (congrArg Addr.block e))

/-- block g is just the cells cs, of element type t, none frozen -/
def Blk (w : World) (g : Nat) (t : TypeId) (cs : Array Value) : Prop := w.heap[g]? = some (.cells cs t (0, 0))
section
variable {w w' : World} {g : Nat} {t : TypeId} {cs : Array Value}
theorem Blk.lt (h : Blk w g t cs) : g < w.heap.size := (Array.getElem?_eq_some_iff.1 h).1
theorem Blk.cell (h : Blk w g t cs) (i : Nat) : w.cell? ⟨g, i, none⟩ = cs[i]? := cell_of_row w g i cs t (0, 0) h
theorem Blk.frozen (h : Blk w g t cs) (i : Nat) : w.frozen? ⟨g, i, none⟩ = false := by
  unfold Blk at h
  simp [World.frozen?, h]
theorem Blk.new (w : World) (t : TypeId) (cs : Array Value) : Blk (w.alloc (.cells cs t)) w.heap.size t cs := heap_alloc_new w _
theorem Blk.drew (h : Blk w g t cs) : Blk w.drew g t cs := h
theorem Blk.alloc (h : Blk w g t cs) (o : Obj) : Blk (w.alloc o) g t cs := (Below.heap_alloc w o g h.lt).trans h
theorem Blk.set_ (h : Blk w g t cs) (i : Nat) (u : Value) : Blk (w.setCell ⟨g, i, none⟩ u) g t (cs.setIfInBounds i u) := by
  unfold Blk at h ⊢
  simp [World.setCell, Array.getElem?_modify, h]
theorem Blk.far (h : Blk w g t cs) {p : Addr} (hp : g ≠ p.block) (u : Value) : Blk (w.setCell p u) g t cs := (Below.heap_setCell w p u g hp).trans h
theorem Blk.below {B : Nat} (h : Blk w g t cs) (hb : Below B w w') (hg : g < B) : Blk w' g t cs := (hb.block g hg).trans h
theorem Blk.grown {row : Option Nat} (h : Blk w g t cs) (hb : w.grownBy w' row) (hg : some g ≠ row) : Blk w' g t cs := (hb.block g h.lt hg).trans h
end

/-! facts carried over a call ('via'), over a new block ('al'), over a draw ('dr') -/
section
variable {w w' w0 : World} {A : Option Addr} {n c g : Nat} {xs : List Int} {t : TypeId} {cs : Array Value}
theorem Ints.via (h : Ints w A n c xs) (hb : Below w.heap.size w w') : Ints w' A n c xs := h.keep hb (Nat.le_refl _)
theorem Ints.al (h : Ints w A n c xs) (o : Obj) : Ints (w.alloc o) A n c xs := h.keep ((Below.refl w.heap.size w).alloc (Nat.le_refl _) o) (Nat.le_refl _)
theorem Ints.dr (h : Ints w A n c xs) : Ints w.drew A n c xs := h
theorem Blk.via (h : Blk w g t cs) (hb : Below w.heap.size w w') : Blk w' g t cs := h.below hb h.lt
theorem Blk.al (h : Blk w g t cs) (o : Obj) : Blk (w.alloc o) g t cs := h.alloc o
theorem Blk.dr (h : Blk w g t cs) : Blk w.drew g t cs := h
theorem _root_.Go.RowKit.Below.via (h : Below w0.heap.size w0 w) (hb : Below w.heap.size w w') : Below w0.heap.size w0 w' := h.trans (hb.mono h.size)
theorem _root_.Go.RowKit.Below.al (h : Below w0.heap.size w0 w) (o : Obj) : Below w0.heap.size w0 (w.alloc o) := h.alloc h.size o
theorem _root_.Go.RowKit.Below.dr (h : Below w0.heap.size w0 w) : Below w0.heap.size w0 w.drew := h.drew
/-- a store elsewhere -/
theorem Ints.far (h : Ints w A n c xs) {p : Addr} (hp : ∀ ad, A = some ad → ad.block ≠ p.block) (u : Value) : Ints (w.setCell p u) A n c xs := by
  refine ⟨h.1, h.2.1, fun hn => ?_⟩
  obtain ⟨b, off, e, hc⟩ := h.2.2 hn
  refine ⟨b, off, e, fun i hi => ?_⟩
  rw [World.cell?_setCell_other w p ⟨b, off + i, none⟩ u (fun e' => hp _ e (by rw [e']))]
  exact hc i hi
end

/-- parlmake.Below on plain integers -/
def belowI (x n : Int) : Int := if x.tmod n < 0 then x.tmod n + n else x.tmod n
theorem tmod_lo (x n : Int) (h : 1 ≤ n) : -n < x.tmod n := by
  rcases Int.le_total 0 x with hx | hx
  · have := Int.tmod_nonneg (b := n) hx; omega
  · have h1 := Int.tmod_lt_of_pos (-x) (show 0 < n by omega)
    rw [Int.neg_tmod] at h1; omega
theorem belowI_lo (x n : Int) (h1 : 1 ≤ n) : 0 ≤ belowI x n := by
  have := Int.tmod_lt_of_pos x (show 0 < n by omega)
  have := tmod_lo x n h1
  unfold belowI; split <;> omega
theorem belowI_hi (x n : Int) (h1 : 1 ≤ n) : belowI x n < n := by
  have := Int.tmod_lt_of_pos x (show 0 < n by omega)
  unfold belowI; split <;> omega

set_option maxHeartbeats 400000 in
theorem below_c (x n : Int) (w : World) (h1 : 1 ≤ n) (h2 : n ≤ 1000000000000) :
    Calls Tryd.prog 49 #[.int .i64 x, .int .i64 n] w fun e w' => e = .returned (.int .i64 (belowI x n)) ∧ w = w' := by
  have b1 := Int.tmod_lt_of_pos x (show 0 < n by omega)
  have b2 := tmod_lo x n h1
  by_cases hx : x.tmod n < 0
  all_goals
    have hv : Hid (belowI x n = _) := (show belowI x n = ite _ _ _ from rfl)
    go_enter Tryd.func49, Tryd.ntmps49
    go_wp2
    go_ret
    rw [hv.out]
    refine ⟨?_, rfl⟩
    congr 2
    repeat (first | rfl | omega | split)

end Go.Proofs.YtfmnmgnhanogmaaDoor






namespace Go.Proofs.YtfmnmgnhanogmaaDoor
open Go.RowKit
open Go.MapKept
open Go.ChangeMaps (setBlock heap_setBlock_same heap_setBlock_other)
open Go.WideElems (Fit rd rg rd_key rd_mk other_key)

theorem nodup_le : ∀ (N : Nat) (m : List Nat), m.Nodup → (∀ c ∈ m, c < N) → m.length ≤ N
  | 0, m, _, h => by
    cases m with
    | nil => simp
    | cons c m => exact absurd (h c (List.mem_cons_self ..)) (by omega)
  | N + 1, m, hn, h => by
    have h1 := nodup_le N (m.erase N) (hn.erase N) fun c hc => by
      have h2 := (hn.mem_erase_iff).1 hc
      have := h c h2.2
      have := h2.1
      omega
    have h3 := List.length_erase (a := N) (l := m)
    split at h3 <;> omega
/-- whatever an element is, it is let in -/
def anyElem (_ : Value) : Option (DataW Unit × List MemPlace) := some (.lit (.bool true), [])

/-- block b is a map that holds just what f says; 'kk x' is the key of x -/
def MapK {κ : Type} (P : Program) (k : TypeId) (kk : κ → Value) (w : World) (b : Nat) (f : κ → Option Value) : Prop :=
  ∃ es clock, w.heap[b]? = some (.map es clock) ∧ Fit P k anyElem es clock ∧ (∀ x ∈ es.toList, ∃ y, x.key = kk y) ∧ ∀ y v, f y = some v ↔ ∃ x ∈ es.toList, x.key = kk y ∧ x.val = v

section
variable {κ : Type} {P : Program} {k : TypeId} {kk : κ → Value} {w w' : World} {b : Nat} {f : κ → Option Value}
theorem MapK.made (w : World) (P : Program) (k : TypeId) (kk : κ → Value) : MapK P k kk (w.alloc (.map #[] 0)) w.heap.size (fun _ => none) :=
  ⟨#[], 0, (MapKept.heap_alloc w _).1, ⟨by simp, stamped_empty 0, by simp⟩, by simp, by simp⟩
theorem MapK.lt (h : MapK P k kk w b f) : b < w.heap.size := by
  obtain ⟨es, clock, hb, _⟩ := h
  exact (Array.getElem?_eq_some_iff.1 hb).1
theorem MapK.agr_ (h : MapK P k kk w b f) (e : w'.heap[b]? = w.heap[b]?) : MapK P k kk w' b f := by
  obtain ⟨es, clock, hb, r⟩ := h
  exact ⟨es, clock, e.trans hb, r⟩
theorem MapK.via (h : MapK P k kk w b f) (hb : Below w.heap.size w w') : MapK P k kk w' b f := h.agr_ (hb.block b h.lt)
theorem MapK.al (h : MapK P k kk w b f) (o : Obj) : MapK P k kk (w.alloc o) b f := h.agr_ (Below.heap_alloc w o b h.lt)
theorem MapK.dr (h : MapK P k kk w b f) : MapK P k kk w.drew b f := h
theorem MapK.far (h : MapK P k kk w b f) {p : Addr} (hp : b ≠ p.block) (u : Value) : MapK P k kk (w.setCell p u) b f := h.agr_ (Below.heap_setCell w p u b hp)
theorem MapK.grown {row : Option Nat} (h : MapK P k kk w b f) (hb : w.grownBy w' row) (hg : some b ≠ row) : MapK P k kk w' b f := h.agr_ (hb.block b h.lt hg)
theorem MapK.ext {g : κ → Option Value} (h : MapK P k kk w b f) (e : ∀ y, f y = g y) : MapK P k kk w b g := by
  rw [← funext e]; exact h

variable {t e : TypeId}
/-- 'm[k]', 'v, ok := m[k]' -/
theorem MapK.look (h : MapK P k kk w b f) (c : Bool) (K : Maps.Keyed P k) (ht : P.underlying t = some (.map k e)) {z : Value} (hz : (zeroValue e).run P w = .ok z w) (y : κ) {kl : Lit} (hkey : keyOf P k (kk y) = some kl) :
    (Instr.lookup t (.map (some b)) (kk y) c).run P w = .ok (if c then .tuple #[(f y).getD z, .bool (f y).isSome] else (f y).getD z) w := by
  obtain ⟨es, clock, hb, F, hk, hf⟩ := h
  rcases Maps.fit_look c K ht hz hb F hkey with ⟨hrun, hno, _⟩ | ⟨e0, y0, hm, he, hrun, _⟩
  · have : f y = none := by
      cases hy : f y with
      | none => rfl
      | some v => obtain ⟨x, hx, h1, _⟩ := (hf y v).1 hy; exact absurd h1 (hno x hx)
    rw [hrun, this]; cases c <;> rfl
  · have : f y = some e0.val := (hf y e0.val).2 ⟨e0, hm, he, rfl⟩
    rw [hrun, this]; cases c <;> rfl

/-- 'm[k] = v' -/
theorem MapK.store [DecidableEq κ] (h : MapK P k kk w b f) (K : Maps.Keyed P k) (ht : P.underlying t = some (.map k e)) (hinj : ∀ x y, kk x = kk y → x = y) (y : κ) (val : Value) {kl : Lit} (hkey : keyOf P k (kk y) = some kl)
    (hroom : ∀ es clock, w.heap[b]? = some (.map es clock) → es.size < maxLen) :
    ∃ w', (Instr.mapUpdate t (.map (some b)) (kk y) val).run P w = .ok () w' ∧ MapK P k kk w' b (fun x => if x = y then some val else f x) ∧ w.grownBy w' (some b) ∧ w'.heap.size = w.heap.size := by
  obtain ⟨es, clock, hb, F, hk, hf⟩ := h
  obtain ⟨es', clock', hrun, F', _, _, _, hw⟩ := Maps.fit_store (R' := anyElem) K ht hb F (hroom _ _ hb) (fun _ _ _ _ hz => hz) hkey (rfl : anyElem val = _)
  refine ⟨_, hrun, ⟨es', clock', heap_setBlock_same hb _, F', ?_, ?_⟩, ⟨rfl, rfl, rfl, by simp [setBlock], fun i _ hi => heap_setBlock_other hb _ (fun e => hi (by rw [e]))⟩, by simp [setBlock]⟩
  · intro x hx
    rcases hw x hx with ⟨h1, _⟩ | ⟨h1, _⟩
    · exact hk x h1
    · exact ⟨y, h1⟩
  · -- who stands in the new array: by the very run
    have all : (∀ x ∈ es.toList, x.key ≠ kk y → x ∈ es'.toList) ∧ ∃ x ∈ es'.toList, x.key = kk y ∧ x.val = val := by
      rcases K.find w hkey es.toList F.keys with ⟨h1, h2⟩ | ⟨j, e0, h1, h2, h3⟩
      · have hr2 : (Instr.mapUpdate t (.map (some b)) (kk y) val).run P w = .ok () (setBlock w b (.map (es.push ⟨kk y, val, clock⟩) (clock + 1))) := by
          simp [Instr.mapUpdate, run_underlying ht, MapKept.run_getObj_map hb, K.check w false hkey, h1, MapKept.run_setObj_map _ hb, Result.andThen, setBlock]
        rw [hrun] at hr2
        have hw2 : setBlock w b (.map es' clock') = setBlock w b (.map (es.push ⟨kk y, val, clock⟩) (clock + 1)) := by injection hr2
        have e1 := heap_setBlock_same hb (.map es' clock')
        rw [hw2, heap_setBlock_same hb] at e1
        simp only [Option.some.injEq, Obj.map.injEq] at e1
        rw [← e1.1]
        exact ⟨fun x hx _ => by simp [hx], ⟨⟨kk y, val, clock⟩, by simp, rfl, rfl⟩⟩
      · have hj : es[j]? = some e0 := by simpa using h2
        have hr2 : (Instr.mapUpdate t (.map (some b)) (kk y) val).run P w = .ok () (setBlock w b (.map (es.modify j (fun e' => { e' with key := kk y, val := val })) clock)) := by
          simp [Instr.mapUpdate, run_underlying ht, MapKept.run_getObj_map hb, K.check w false hkey, h1, hj, h3, K.stays w hkey, MapKept.run_setObj_map _ hb, Result.andThen, setBlock]
        rw [hrun] at hr2
        have hw2 : setBlock w b (.map es' clock') = setBlock w b (.map (es.modify j (fun e' => { e' with key := kk y, val := val })) clock) := by injection hr2
        have e1 := heap_setBlock_same hb (.map es' clock')
        rw [hw2, heap_setBlock_same hb] at e1
        simp only [Option.some.injEq, Obj.map.injEq] at e1
        rw [← e1.1]
        have hlist : (es.modify j (fun e' => { e' with key := kk y, val := val })).toList = es.toList.set j { e0 with key := kk y, val := val } := by rw [Array.toList_modify, ChangeMaps.modify_eq_set _ _ _ _ h2]
        rw [hlist]
        have hjl : j < es.toList.length := (List.getElem?_eq_some_iff.1 h2).1
        refine ⟨fun x hx hne => ?_, _, List.mem_iff_getElem?.2 ⟨j, by rw [List.getElem?_set_self hjl]⟩, rfl, rfl⟩
        obtain ⟨i, hi⟩ := List.mem_iff_getElem?.1 hx
        have hij : j ≠ i := fun e' => by
          subst e'
          rw [h2] at hi
          exact hne (by rw [← Option.some.inj hi]; exact h3)
        exact List.mem_iff_getElem?.2 ⟨i, by rw [List.getElem?_set_ne hij]; exact hi⟩
    intro z v
    by_cases hzy : z = y
    · subst hzy
      simp only [if_true, Option.some.injEq]
      constructor
      · rintro rfl; exact all.2
      · rintro ⟨x, hx, h1, h2⟩
        rcases hw x hx with ⟨_, h3⟩ | ⟨_, h3⟩
        · exact absurd h1 h3
        · exact h3.symm.trans h2
    · simp only [if_neg hzy]
      have hne : kk z ≠ kk y := fun e1 => hzy (hinj _ _ e1)
      rw [hf z v]
      constructor
      · rintro ⟨x, hx, h1, h2⟩; exact ⟨x, all.1 x hx (by rw [h1]; exact hne), h1, h2⟩
      · rintro ⟨x, hx, h1, h2⟩
        rcases hw x hx with ⟨h3, _⟩ | ⟨h3, _⟩
        · exact ⟨x, h3, h1, h2⟩
        · exact absurd (h1.symm.trans h3) hne

/-- how many entries there can be -/
theorem MapK.room (h : MapK P k kk w b f) (code : κ → Nat) (N : Nat) (hc : ∀ y, f y ≠ none → code y < N) (hi : ∀ x y, f x ≠ none → f y ≠ none → code x = code y → x = y) :
    ∀ es clock, w.heap[b]? = some (.map es clock) → es.size ≤ N := by
  obtain ⟨es0, clock0, hb, F, hk, hf⟩ := h
  intro es clock hb'
  rw [hb] at hb'
  cases hb'
  have hn : es0.toList.Pairwise (fun x y => x.key ≠ y.key) := ((stamped_iff es0 clock0).1 F.stamped).2.2
  have key : ∀ l : List MapEntry, (∀ x ∈ l, x ∈ es0.toList) → l.Pairwise (fun x y => x.key ≠ y.key) → ∃ m : List Nat, m.length = l.length ∧ m.Nodup ∧ ∀ c ∈ m, ∃ y, c = code y ∧ f y ≠ none ∧ ∃ x ∈ l, x.key = kk y := by
    intro l
    induction l with
    | nil => intro _ _; exact ⟨[], rfl, List.nodup_nil, by simp⟩
    | cons x l ih =>
      intro h1 h2
      obtain ⟨m, h3, h4, h5⟩ := ih (fun y hy => h1 y (List.mem_cons_of_mem _ hy)) (List.pairwise_cons.1 h2).2
      obtain ⟨y, hy⟩ := hk x (h1 x (List.mem_cons_self ..))
      have hfy : f y = some x.val := (hf y x.val).2 ⟨x, h1 x (List.mem_cons_self ..), hy, rfl⟩
      refine ⟨code y :: m, by simp [h3], List.nodup_cons.2 ⟨fun hm => ?_, h4⟩, fun c hc => ?_⟩
      · obtain ⟨y', e1, h6, x', hx', hy'⟩ := h5 _ hm
        have := hi y y' (by simp [hfy]) h6 e1
        subst this
        exact (List.pairwise_cons.1 h2).1 x' hx' (hy.trans hy'.symm)
      · rcases List.mem_cons.1 hc with rfl | hc
        · exact ⟨y, rfl, by simp [hfy], x, List.mem_cons_self .., hy⟩
        · obtain ⟨y', e1, h6, x', hx', hy'⟩ := h5 c hc
          exact ⟨y', e1, h6, x', List.mem_cons_of_mem _ hx', hy'⟩
  obtain ⟨m, h3, h4, h5⟩ := key es0.toList (fun _ h => h) hn
  have : m.length ≤ N := by
    refine nodup_le N m h4 fun c hc' => ?_
    obtain ⟨y, rfl, h6, _⟩ := h5 c hc'
    exact hc y h6
  simpa [h3] using this
end
end Go.Proofs.YtfmnmgnhanogmaaDoor



namespace Go.Proofs.YtfmnmgnhanogmaaDoor
open Go.RowKit

theorem int_info : (Tryd.prog.info? 3).map (fun i => (i.zero, i.size, i.bytes)) = some (some (.int .i64 0), 1, 8) := by kernel_rfl

/-- the call's own row of ints -/
def OwnI (w : World) (base : Nat) (v : Value) (n : Nat) (xs : List Int) : Prop := w.ownsRow base 3 1 v n (xs.map (Value.int .i64))

section
variable {w w' : World} {base n c : Nat} {v : Value} {A : Option Addr} {xs ys : List Int}
theorem OwnI.lt (h : OwnI w base v n xs) : ∀ k, v.ownBlock = some k → base ≤ k ∧ k < w.heap.size := World.ownsRow.lt h
theorem OwnI.form (h : OwnI w base v n xs) : ∃ A c, v = .slice A n c ∧ Ints w A n c xs := by
  have hl := h.1
  simp only [List.length_map, Nat.mul_one] at hl
  rcases h.2 with ⟨rfl, rfl⟩ | ⟨g, cap, cur, rfl, hb, hh, hc1, hc2, hc3, htk⟩
  · have : xs = [] := List.eq_nil_of_length_eq_zero hl
    subst this
    exact ⟨none, 0, rfl, Ints.nil w⟩
  · refine ⟨_, _, rfl, hl, hc1, fun _ => ⟨g, 0, rfl, fun i hi => ?_⟩⟩
    rw [Nat.zero_add, cell_of_row w g i cur _ (0, 0) hh]
    have e1 : (xs.map (Value.int .i64))[i]? = some (.int .i64 (xs.getD i 0)) := by
      simp [List.getD_eq_getElem?_getD, List.getElem?_eq_getElem (show i < xs.length by omega)]
    rw [← htk, List.getElem?_take, if_pos (by omega)] at e1
    simpa using e1
theorem OwnI.toInts {n' c' : Nat} (h : OwnI w base (.slice A n' c') n xs) : Ints w A n c' xs := by
  obtain ⟨A1, c1, e, hI⟩ := h.form
  cases e
  exact hI
theorem OwnI.block {n' c' : Nat} (h : OwnI w base (.slice A n' c') n xs) : ∀ ad, A = some ad → base ≤ ad.block ∧ ad.block < w.heap.size := fun ad e => h.lt ad.block (by simp [Value.ownBlock, e])
theorem OwnI.keep (h : OwnI w base v n xs) {B : Nat} (hb : Below B w w') (hB : w.heap.size ≤ B) : OwnI w' base v n xs := by
  refine ⟨h.1, ?_⟩
  rcases h.2 with h0 | ⟨g, cap, cur, rfl, h1, hh, hr⟩
  · exact Or.inl h0
  · refine Or.inr ⟨g, cap, cur, rfl, h1, ?_, hr⟩
    rw [hb.block g (Nat.lt_of_lt_of_le (Array.getElem?_eq_some_iff.1 hh).1 hB)]
    exact hh
theorem OwnI.nil (w : World) (base : Nat) : OwnI w base (.slice none 0 0) 0 [] := World.ownsRow_nil w base _ 1
theorem OwnI.lt' (h : OwnI w base v n xs) : ∀ k, v.ownBlock = some k → base ≤ k ∧ k < w.heap.size := World.ownsRow.lt h
theorem Ints.cells {a : Addr} (h : Ints w (some a) n c xs) : ∀ j u, (xs.map (Value.int .i64))[j]? = some u → w.cell? (a.add j) = some u := by
  intro j u hu
  have hj : j < xs.length := by
    have := (List.getElem?_eq_some_iff.1 hu).1
    simpa using this
  obtain ⟨b, off, e, hc⟩ := h.2.2 (by have := h.1; omega)
  have := Option.some.inj e
  subst this
  rw [Addr.add_lit]
  rw [hc j (by have := h.1; omega), ← hu]
  simp [List.getD_eq_getElem?_getD, hj]
end

section
variable {P : Program} (w : World)
/-- append onto an own row, the source any int slice, nil let in -/
theorem run_append_ints (base : Nat) (ty : TypeId) (v : Value) (n : Nat) (xs : List Int) (hown : OwnI w base v n xs)
    (A : Option Addr) (m c : Nat) (ys : List Int) (hr : Ints w A m c ys) (hb : n + m ≤ 17592186044416) (hbase : base ≤ w.heap.size) :
    ∃ v' w', (Builtin.append_ #[25, 25] ty #[v, .slice A m c]).run Tryd.prog w = .ok v' w' ∧ OwnI w' base v' (n + m) (xs ++ ys) ∧ w.grownBy w' v.ownBlock ∧
      (v'.ownBlock = v.ownBlock ∨ v'.ownBlock = some w.heap.size) := by
  obtain ⟨i, hi, hz, hs, hby⟩ := info_parts int_info
  unfold OwnI
  rw [List.map_append]
  rcases A with _ | ad
  · have hm : m = 0 := by
      rcases Nat.eq_zero_or_pos m with h0 | h0
      · exact h0
      · obtain ⟨b, off, h, _⟩ := hr.2.2 h0
        cases h
    subst hm
    have hn : ys = [] := List.eq_nil_of_length_eq_zero hr.1
    subst hn
    refine ⟨v, w, ?_, by rw [List.map_nil, List.append_nil]; exact hown, World.grownBy.refl w _, Or.inl rfl⟩
    rcases hown.2 with ⟨rfl, rfl⟩ | ⟨g, cap, cur, rfl, _, _, hnc, _⟩
    · simp [Builtin.append_, run_underlying Tryd.underlying25, sizeOf, typeInfo, hi, Builtin.lenOf, Builtin.firstCells]
    · simp [Builtin.append_, run_underlying Tryd.underlying25, sizeOf, typeInfo, hi, Builtin.lenOf, Builtin.firstCells, hnc, storeCells]
  · obtain ⟨v', w', hrun, h2, h3, _, h5⟩ := run_append_own_at (P := Tryd.prog) w base 25 ty 3 i _ 1 8 Tryd.underlying25 hi hz hs hby rfl (by omega) v n _ hown ad m c (ys.map (Value.int .i64)) (by simp [hr.1]) hr.cells (ints_oneCell _ _) (by simp only [maxLen]; omega) (by omega) hbase
    exact ⟨v', w', hrun, h2, h3, h5⟩

theorem wp_append_ints {o : Oper} {a : Act} {K : Act → World → Prop} {Q : Exit → Act → World → Prop} (s x : Operand)
    (ho : o.op = .call { callee := .builtin .append, args := #[s, x], argTypes := #[25, 25] })
    (base : Nat) (v : Value) (n : Nat) (xs : List Int) (hs : a.eval s = v) (hown : OwnI w base v n xs)
    (A : Option Addr) (m c : Nat) (ys : List Int) (hx : a.eval x = .slice A m c) (hr : Ints w A m c ys) (hb : n + m ≤ 17592186044416) (hbase : base ≤ w.heap.size)
    (h : ∀ A' c' w', OwnI w' base (.slice A' (n + m) c') (n + m) (xs ++ ys) → w.grownBy w' v.ownBlock → ((Value.slice A' (n + m) c').ownBlock = v.ownBlock ∨ (Value.slice A' (n + m) c').ownBlock = some w.heap.size) → K (a.put o.dst (.slice A' (n + m) c')) w') : o.wp Tryd.prog a w K Q := by
  obtain ⟨v', w', hrun, h2, h3, h4⟩ := run_append_ints w base o.type v n xs hown A m c ys hr hb hbase
  unfold Oper.wp execOp
  simp only [ho, resolve, invoke, builtin, Sem.run_bind, Sem.run_pure, Result.andThen_ok, List.map_toArray, List.map_cons, List.map_nil, hs, hx, hrun]
  obtain ⟨A', c', rfl, _⟩ := h2.form
  exact h A' c' w' h2 h3 h4

theorem wpList_append_ints {ops : Array Oper} {rest : List Oper} {o : Oper} {a : Act} {Q : Exit → Act → World → Prop} (hgd : o.guard = none) (s x : Operand)
    (ho : o.op = .call { callee := .builtin .append, args := #[s, x], argTypes := #[25, 25] })
    (base : Nat) (v : Value) (n : Nat) (xs : List Int) (hs : a.eval s = v) (hown : OwnI w base v n xs)
    (A : Option Addr) (m c : Nat) (ys : List Int) (hx : a.eval x = .slice A m c) (hr : Ints w A m c ys) (hb : n + m ≤ 17592186044416) (hbase : base ≤ w.heap.size)
    (h : ∀ A' c' w', OwnI w' base (.slice A' (n + m) c') (n + m) (xs ++ ys) → w.grownBy w' v.ownBlock → ((Value.slice A' (n + m) c').ownBlock = v.ownBlock ∨ (Value.slice A' (n + m) c').ownBlock = some w.heap.size) → wpList Tryd.prog ops Q rest (a.put o.dst (.slice A' (n + m) c')) w') : wpList Tryd.prog ops Q (o :: rest) a w :=
  wpList_plain hgd fun _ hK => wp_append_ints w s x ho base v n xs hs hown A m c ys hx hr hb hbase fun A' c' w' h2 h3 h4 => hK _ _ (h A' c' w' h2 h3 h4)
end

theorem OwnI.alloc {w : World} {base n : Nat} {v : Value} {xs : List Int} (h : OwnI w base v n xs) (o : Obj) : OwnI (w.alloc o) base v n xs := World.ownsRow.alloc h o
theorem Ints.alloc {w : World} {A : Option Addr} {n c : Nat} {xs : List Int} (h : Ints w A n c xs) (o : Obj) : Ints (w.alloc o) A n c xs :=
  h.keep ((Below.refl w.heap.size w).alloc (Nat.le_refl _) o) (Nat.le_refl _)
theorem Ints.one (w : World) (y : Int) (t : TypeId) : Ints (w.alloc (.cells #[.int .i64 y] t)) (some ⟨w.heap.size, 0, none⟩) 1 1 [y] :=
  ⟨rfl, Nat.le_refl _, fun _ => ⟨w.heap.size, 0, rfl, fun i hi => by
    have : i = 0 := by omega
    subst this
    rw [Nat.zero_add, World.cell?_alloc_new]; rfl⟩⟩
theorem OwnI.setCell {w : World} {base n : Nat} {v : Value} {xs : List Int} (h : OwnI w base v n xs) {p : Addr} (hp : p.block < base) (u : Value) : OwnI (w.setCell p u) base v n xs := ownsRow_setCell_below h hp u
/-- what an append onto an own row leaves of 'Below' -/
theorem OwnI.grown {w w' w0 : World} {base n B : Nat} {v : Value} {xs : List Int} (h : OwnI w base v n xs) (hb : Below B w0 w) (hg : w.grownBy w' v.ownBlock) (hB : B ≤ base) (hs : B ≤ w.heap.size) : Below B w0 w' :=
  hb.grown hg hs fun k hk => Nat.le_trans hB (h.lt k hk).1
end Go.Proofs.YtfmnmgnhanogmaaDoor



namespace Go.Proofs.YtfmnmgnhanogmaaDoor
open Go.RowKit

theorem setCell_self {w : World} {b i : Nat} {v : Value} (h : w.cell? ⟨b, i, none⟩ = some v) : w.setCell ⟨b, i, none⟩ v = w := by
  unfold World.cell? at h
  split at h
  · rename_i c e f hb
    have hc : c[i]? = some v := by simpa using h
    have : w.heap.modify b (fun x => match x with | .cells c elem frozen => .cells (c.setIfInBounds i v) elem frozen | o => o) = w.heap := by
      apply Array.ext_getElem?
      intro k
      rw [Array.getElem?_modify]
      split
      · rename_i hk
        subst hk
        rw [hb]
        simp only [Option.map_some, Option.some.injEq, Obj.cells.injEq, and_true]
        apply Array.ext_getElem?
        intro j
        rw [Array.getElem?_setIfInBounds]
        split
        · rename_i hj
          subst hj
          obtain ⟨hlt, _⟩ := Array.getElem?_eq_some_iff.1 hc
          rw [if_pos hlt, hc]
        · rfl
      · rfl
    unfold World.setCell
    simp only [Option.isSome_none, Bool.false_eq_true, if_false]
    exact congrArg (fun hp => ({ w with heap := hp } : World)) this
  · cases h

/-- .. where n is at least 1 -/
def NextP1 (w0 w : World) (m0 : Nat) (b : Nat) (n : Int) (e : Ending) (w' : World) : Prop :=
  ∃ v A m c ls, e = .returned (.int .i64 v) ∧ 0 ≤ v ∧ v < n ∧ m ≤ m0 ∧ w' = w.setCell ⟨b, 0, none⟩ (.slice A m c) ∧ Ints w0 A m c ls
end Go.Proofs.YtfmnmgnhanogmaaDoor


