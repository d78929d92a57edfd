/- A range over a function that hands over given values, one after the other: a law; slices.Backward at edits. -/
import Derived.RangeFuncNested
import Derived.RangeFuncBound
import Derived.RangeFuncCalls
import Derived.RangeFuncLeaves
import Derived.Shelf.Abstract
import Derived.Shelf.RegionOpen
import Derived.OwnWalkIn
import Derived.TacticsInMore
import Derived.LoopNIn
import Derived.LoopIn
import Derived.Test.YtdccgeiniockpaaTT
namespace Go.Proofs.Ytdccgeiniockpaa
open Go.RowKit Go.Shelf

attribute [local go_sem] Oper.semAt_some

theorem Agr.putObj {ok : Nat → Prop} {W : World} {l : Nat} {o : Obj} (h : ∀ b, ok b → b ≠ l) : Agr ok W (W.putObj l o) := fun b hb _ => World.putObj_heap_other (h b hb)

/-- the iterator hands over 'encs 0', .., 'encs (N - 1)'; the body goes on each time, and keeps the blocks that meet ok -/
theorem range_given {F : Fence} {n : Nat} {P : Program} {g : Operand} {ps : Array Tmp} {assign body : Code} {Q : Exit → Act → World → Prop} {a : Act} {w : World}
    (hro : F.round = none) (h1 : 1 ≤ n) {gf : Nat} {lb : Array Value} (hg : a.eval g = .func (.func gf) #[] lb) (hFg : F.fn gf) (eg : ∀ args w, (callFunc gf args).run P w = .ok (.enter gf args) w)
    (N : Nat) (encs : Nat → Array Value) (hps : ∀ k, k < N → (encs k).size = ps.size) (ok : Nat → Prop) (hok : ∀ b, ok b → b < w.heap.size)
    (hseq : ∀ (l : Nat) (J : Nat → World → Prop) (W : World), Agr ok w W → (∀ k W1, k < N → J k W1 → YieldAt F (n - 1 - 1) P l (encs k) W1 fun e W' => e = .returned (.bool true) ∧ J (k + 1) W' ∧ Agr ok W1 W') → J 0 W →
      CallsIn F (n - 1) P gf (#[.func (.yield l) #[] #[]] ++ lb) W fun e W' => (∃ v, e = .returned v) ∧ J N W')
    (I : Nat → World → Prop) (hI : OwnFrom w.heap.size I) (h0 : I 0 w) (Ax : Nat → Act → World → Prop) (hAx : ∀ k a', OwnFrom w.heap.size (fun (_ : Unit) W => Ax k a' W))
    (hassign : ∀ (l k : Nat) (W : World) (K : Act → World → Prop), k < N → I k W → (∀ a' W', KeepsFrom w.heap.size W W' → Agr ok W W' → I k W' → Ax k a' W' → K a' W') →
      assign.wpIn (F.inRound l) (n - 1 - 1) P (Exit.then K (fun _ _ _ => False)) { tmps := (ps.zip (encs k)).foldl (fun t (p, v) => t.setIfInBounds p v) a.tmps, defers := [] } W)
    (hbody : ∀ (l k : Nat) (a' : Act) (W : World), k < N → w.heap.size ≤ l → I k W → Ax k a' W → body.wpIn (F.inRound l) (n - 1 - 1) P (fun e _ W' => e = .normal ∧ KeepsFrom w.heap.size W W' ∧ Agr ok W W' ∧ I (k + 1) W') a' W)
    (hdone : ∀ (D : Nat) (W : World), w.heap.size ≤ D → I N W → W.heap[D]? = some (.deferred (some [])) → Q .normal { a with defers := { target := .collected D, args := #[] } :: a.defers } W) :
    (Code.rangeFunc g ps assign body).wpIn F n P Q a w := by
  refine wpIn_rangeFunc ?_
  intro fn hfn
  rw [hro]
  obtain ⟨rc, hrc⟩ : ∃ rc : LoopState → Loop, rc = fun st => { state := st, pending := none, fn, tmps := a.tmps, params := ps, assign, body, defers := w.heap.size } := ⟨_, rfl⟩
  have hsz : ((w.alloc (.deferred (some []))).alloc (.loop (rc .ready))).heap.size = w.heap.size + 2 := by simp
  have hL1 : ((w.alloc (.deferred (some []))).alloc (.loop (rc .ready))).heap[w.heap.size + 1]? = some (.loop (rc .ready)) := by
    have := World.alloc_heap_new (w.alloc (.deferred (some []))) (.loop (rc .ready)); rwa [World.size_alloc] at this
  have hK1 : ((w.alloc (.deferred (some []))).alloc (.loop (rc .ready))).heap[w.heap.size]? = some (.deferred (some [])) :=
    (Below.heap_alloc _ _ _ (by simp)).trans (World.alloc_heap_new w _)
  have hI1 : I 0 ((w.alloc (.deferred (some []))).alloc (.loop (rc .ready))) := hI.alloc _ (hI.alloc _ h0)
  have hA1 : Agr ok w ((w.alloc (.deferred (some []))).alloc (.loop (rc .ready))) := Agr.below (((Below.refl _ w).alloc (Nat.le_refl _) _).alloc (by simp) _)
  have e0 : (Instr.enterLoop fn a.tmps ps assign body none).run P w = .ok (w.heap.size + 1, [{ target := .collected w.heap.size, args := #[] }]) ((w.alloc (.deferred (some []))).alloc (.loop (rc .ready))) := by
    rw [hrc]; exact run_enterLoop_outer _ _ _ _ _
  generalize (w.alloc (.deferred (some []))).alloc (.loop (rc .ready)) = W1 at *
  refine ⟨w.heap.size + 1, [{ target := .collected w.heap.size, args := #[] }], W1, { target := .fn (.func gf) lb, args := #[.func (.yield (w.heap.size + 1)) #[] #[]] }, W1, gf, #[.func (.yield (w.heap.size + 1)) #[] #[]] ++ lb, W1, e0, ?_, ?_, ?_, fun _ => h1, ?_⟩
  · simp only [resolve, hg]
    simp [go_sem]
  · intro f' hf'
    simp [Target.leads] at hf'
    subst hf'
    exact hFg
  · simp [invoke, go_sem, eg]
  refine (hseq (w.heap.size + 1) (fun k W => I k W ∧ W.heap[w.heap.size + 1]? = some (.loop (rc .ready)) ∧ W.heap[w.heap.size]? = some (.deferred (some []))) W1 hA1 ?_ ⟨hI1, hL1, hK1⟩).mono ?_
  · rintro k W hkN ⟨hi, hl, hk⟩
    have hy := run_yield (P := P) (args := encs k) hl (by rw [hrc]; exact hps k hkN)
    rw [hrc] at hy
    refine ⟨fn, _, assign, body, hy, roundIn_of_wpIn hfn (hassign _ k W _ hkN hi ?_)⟩
    intro a' Wa hkf hag hia hax
    have hl2 := hkf.same _ _ (by omega) hl rfl
    have hk2 := hkf.same _ _ (Nat.le_refl _) hk rfl
    have hlt := (Array.getElem?_eq_some_iff.1 hl2).1
    have hne : ∀ b, ok b → b ≠ w.heap.size + 1 := fun b hb => by have := hok b hb; omega
    refine ⟨_, run_beginRound hl2 (by rw [hrc]), ?_⟩
    have hl3 : (Wa.putObj (w.heap.size + 1) (.loop { rc .ready with state := .busy })).heap[w.heap.size + 1]? = some (.loop { rc .ready with state := .busy }) := World.putObj_heap_same hlt
    have hk3 : (Wa.putObj (w.heap.size + 1) (.loop { rc .ready with state := .busy })).heap[w.heap.size]? = some (.deferred (some [])) := (World.putObj_heap_other (by omega)).trans hk2
    refine wpIn_mono (hbody _ k a' _ hkN (by omega) (hI.putObj _ hia (by omega) hl2 rfl) ((hAx k a').putObj (s := ()) _ hax (by omega) hl2 rfl)) ?_
    rintro e a3 W3 ⟨rfl, hkf3, hag3, hi3⟩
    have hl4 := hkf3.same _ _ (by omega) hl3 rfl
    have hk4 := hkf3.same _ _ (Nat.le_refl _) hk3 rfl
    have hr := run_endRound (P := P) none hl4
    have e1 : ({ rc .ready with state := (if (none : Option Code).isNone then LoopState.ready else .done), pending := none } : Loop) = rc .ready := by rw [hrc]; rfl
    refine ⟨_, _, hr, rfl, ⟨hI.putObj _ hi3 (by omega) hl4 rfl, ?_, (World.putObj_heap_other (by omega)).trans hk4⟩, ((hag.trans (Agr.putObj hne)).trans hag3).trans (Agr.putObj hne)⟩
    have := World.putObj_heap_same (o := .loop { ({ rc .ready with state := .busy } : Loop) with state := (if (none : Option Code).isNone then LoopState.ready else .done), pending := none }) (Array.getElem?_eq_some_iff.1 hl4).1
    rw [this]
    congr 2
  · rintro e W2 ⟨⟨v, rfl⟩, hi, hl, hk⟩
    exact ⟨none, _, by have := run_endLoop (P := P) hl (by rw [hrc]; simp); rw [hrc] at this; exact this, hdone _ _ (Nat.le_refl _) (hI.putObj _ hi (by omega) hl rfl) ((World.putObj_heap_other (by omega)).trans hk)⟩
end Go.Proofs.Ytdccgeiniockpaa
