/- The table of Best while it is being filled. -/
import Derived.Test.YtghnkgbingcbcaaZK
namespace Go.Proofs.Ytghnkgbingcbcaa
open Go.RowKit

/-- where the table lies -/
structure BSt (w : World) (bc bg ob N n B0 : Nat) (rb : Nat → Nat) (cb : Nat → Nat → Nat) : Prop where
  inj : ∀ a i a' i', a < N → i ≤ n → a' < N → i' ≤ n → cb a i = cb a' i' → a = a' ∧ i = i'
  n1 : ∀ a a' i, a < N → a' < N → i ≤ n → rb a ≠ cb a' i
  n2 : ∀ a i, a < N → i ≤ n → ob ≠ cb a i
  lc : ∀ a i, a < N → i ≤ n → bc < cb a i ∧ cb a i < B0
  l0 : w.heap.size ≤ bg
  l1 : bg < bc
structure BRel (w : World) (bc bg ob oo N n B0 : Nat) (rb : Nat → Nat) (cb : Nat → Nat → Nat) (ca gcs : Array Value) (st : WSt) (wr : World) : Prop where
  hc : Blk wr bc 71 ca
  hg : Blk wr bg 28 gcs
  bt : BestR (fun b => B0 ≤ b) wr ob oo N n rb cb st
  bel : Below w.heap.size w wr
  l3 : B0 ≤ wr.heap.size
section
variable {w wr wa : World} {bc bg ob oo N n B0 : Nat} {rb : Nat → Nat} {cb : Nat → Nat → Nat} {ca gcs : Array Value} {st : WSt}
theorem BRel.via (h : BRel w bc bg ob oo N n B0 rb cb ca gcs st wr) (hb : Below wr.heap.size wr wa) : BRel w bc bg ob oo N n B0 rb cb ca gcs st wa :=
  ⟨h.hc.via hb, h.hg.via hb, h.bt.via hb, h.bel.via hb, Nat.le_trans h.l3 hb.size⟩
theorem BRel.dr (h : BRel w bc bg ob oo N n B0 rb cb ca gcs st wr) : BRel w bc bg ob oo N n B0 rb cb ca gcs st wr.drew := h.via ((Below.refl _ _).drew)
theorem BRel.put (hs : BSt w bc bg ob N n B0 rb cb) (h : BRel w bc bg ob oo N n B0 rb cb ca gcs st wr) {a i j : Nat} (ha : a < N) (hi : i ≤ n) (hj : j ≤ n) {v : WyV} {y : Way} (hv : WayR (fun b => B0 ≤ b) wr v y) :
    BRel w bc bg ob oo N n B0 rb cb ca gcs (updS st a i j y) (World.put4 wr (cb a i) (j * 4) v) := by
  have hl := hs.lc a i ha hi
  have l0 := hs.l0; have l1 := hs.l1
  refine ⟨(heap_put4 (by omega)).trans h.hc, (heap_put4 (by omega)).trans h.hg, ⟨fun k hk => ?_, fun k i' hk hi' => ?_, fun k i' hk hi' => ?_⟩, below_put4 h.bel (by omega), by rw [size_put4]; exact h.l3⟩
  · rw [World.cell?_of_block (w := wr) (a := ⟨ob, oo + k, none⟩) (heap_put4 (hs.n2 a i ha hi))]; exact h.bt.top k hk
  · rw [World.cell?_of_block (w := wr) (a := ⟨rb k, i', none⟩) (heap_put4 (hs.n1 k a i hk ha hi))]; exact h.bt.mid k i' hk hi'
  · by_cases e : k = a ∧ i' = i
    · obtain ⟨rfl, rfl⟩ := e
      have e2 : updS st k i' j y k i' = upd (st k i') j y := by
        funext q
        by_cases eq : q = j
        · subst eq; rw [updS_same, upd_same]
        · rw [updS_ne _ _ (fun h => eq h.2.2), upd_ne _ _ eq]
      rw [e2]
      exact (h.bt.row k i' hk hi').put hj hv fun x hx => by omega
    · have e2 : updS st a i j y k i' = st k i' := by
        funext q; exact updS_ne _ _ fun h => e ⟨h.1, h.2.1⟩
      rw [e2]
      exact (h.bt.row k i' hk hi').agr (heap_put4 fun h => e (hs.inj k i' a i hk hi' ha hi h)) (agr_put4 fun x hx => by omega)
end
theorem IR.fin {w wr : World} {bc bg n hi N c : Nat} {A : Option Addr} {rb : Nat → Nat} {cb : Nat → Nat → Nat} {cs : Value → Array Value} {gcs : Array Value} (h : IR w bc bg n hi N rb cb cs gcs (.slice A N c) wr) (hN : 1 ≤ N) :
    ∃ ob oo, A = some ⟨ob, oo, none⟩ ∧ BSt w bc bg ob N n wr.heap.size rb cb ∧ BRel w bc bg ob oo N n wr.heap.size rb cb (cs (.slice A N c)) gcs (fun _ _ _ => Way.no) wr := by
  have hS : Sl SlE (fun _ => True) wr A N c _ := h.own.toSl (fun _ _ h => h.elim) (fun _ _ => trivial)
  obtain ⟨ob, oo, -, -, rfl, -⟩ := hS.at_ (i := 0) (by omega)
  have hv := h.vb ob rfl
  have l3 := h.l3
  refine ⟨ob, oo, rfl, ⟨h.inj, h.ne, fun a i ha hi => (hv.2 a ha).2 i hi, fun a i ha hi => ⟨(h.lc a i ha hi).1, by have := (h.lc a i ha hi).2; omega⟩, h.l0, h.l1⟩, h.hc, h.hg, ⟨fun k hk => ?_, fun k i hk hi => h.mid k i hk hi, fun k i hk hi => (h.row k i hk hi).mono fun b _ h => h.elim⟩, h.bel, Nat.le_refl _⟩
  obtain ⟨b', o', r, x, e, -, -, hx, hr, hc⟩ := hS.at_ hk
  cases e
  have hc0 := hc 0 _ rfl
  simp only [SlE, Nat.mul_one, Nat.add_zero] at hc0
  rw [hc0]
  have hrx : r = x := hr
  rw [hrx]
  rw [List.getElem?_map, List.getElem?_range hk] at hx
  simp at hx
  rw [← hx]
end Go.Proofs.Ytghnkgbingcbcaa
