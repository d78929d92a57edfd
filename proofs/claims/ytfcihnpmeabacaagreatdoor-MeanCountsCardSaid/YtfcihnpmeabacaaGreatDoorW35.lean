/- Texts VS, laid together. -/
import Derived.Test.YtfcihnpmeabacaaGreatDoorW32
namespace Go.Proofs.YtfcihnpmeabacaaGreatDoor
open Go.RowKit
section
variable {P:Ky→List (Nat×List Ky)}
structure RndT (P:Ky→List (Nat×List Ky)) (L:List Ky) (t:Nat) (left:Ky→Bool) (N:Ky→Int):Prop where
 inv:RndI P N
 old:∀ k∈L,HgtS P t k→0 < N k
 new:∀ k∈L,left k=false→HgtS P (t+1) k→0 < N k
theorem RndT.start (P:Ky→List (Nat×List Ky)) (L:List Ky) (left:Ky→Bool) (hl:∀ k∈L,left k=true):RndT P L 0 left fun _=>0 :=
 ⟨RndI.zero,fun _ _ h=>h.elim,fun k hk h=>absurd h (by rw [hl k hk]; simp)⟩
theorem RndT.begin {L:List Ky} {t:Nat} {N:Ky→Int} (left:Ky→Bool) (hi:RndI P N) (ho:∀ k∈L,HgtS P t k→0 < N k) (hl:∀ k∈L,left k=true):RndT P L t left N :=
 ⟨hi,ho,fun k hk h=>absurd h (by rw [hl k hk]; simp)⟩
theorem RndT.step {L:List Ky} {t:Nat} {left left':Ky→Bool} {N:Ky→Int} (h:RndT P L t left N) (ht:∀ k:Ky,k.1.1=true→P k=[]) (hp:∀ k∈L,k.1.1=false→P k≠[]) (hc:∀ k∈L,∀ p∈P k,∀ q∈p.2,q∈L) {k:Ky} (hk:k∈L) (hl:∀ q,left' q=false→left q=false∨q=k):RndT P L t left' (stpK P N k):=by
 obtain ⟨h1,h2⟩:=h.inv.step ht k;have keep:∀ q,0 < N q→0 < stpK P N k q:=fun q hq=>by rw [h2 q hq]; exact hq
 refine ⟨h1,fun q hq hh=>keep q (h.old q hq hh),fun q hq hlq hh=>?_⟩
 rcases hl q hlq with h3 | rfl
 ·exact keep q (h.new q hq h3 hh)
 ·exact h.inv.known q (hp q hq) fun p hp r hr=>h.old r (hc q hq p hp r hr) (hh p hp r hr)
theorem RndT.done {L:List Ky} {t:Nat} {left:Ky→Bool} {N:Ky→Int} (h:RndT P L t left N) (hl:∀ k,left k=false):∀ k∈L,HgtS P (t+1) k→0 < N k:=fun k hk hh=>h.new k hk (hl k) hh
theorem rnd_end {L:List Ky} {N:Ky→Int} (hi:RndI P N) (ho:∀ k∈L,HgtS P L.length k→0 < N k) (hc:∀ k∈L,∀ p∈P k,∀ q∈p.2,q∈L) {k:Ky} (hk:k∈L):(0 < N k∧CntS P k (N k))∨(N k=0∧¬ ∃ c,CntS P k c):=by
 by_cases h:0 < N k
 ·exact Or.inl ⟨h,hi.ok k h⟩
 ·refine Or.inr ⟨by have:=(hi.nn k).1; omega,fun ⟨c,hcc⟩=>h ?_⟩;obtain ⟨t,ht⟩:=hcc.hgt;exact ho k hk (hgt_bound hc hk ht)
end
end Go.Proofs.YtfcihnpmeabacaaGreatDoor
