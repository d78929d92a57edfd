/- The reader's state. -/
import Derived.Test.YtgclibfikdonoaaYA
namespace Go.Proofs.Ytgclibfikdonoaa
open Go.RowKit

theorem Blk.agr {ok : Nat → Prop} {w w' : World} {b : Nat} {t : TypeId} {c : Array Value} (h : Blk w b t c) (k : Agr ok w w') (hb : ok b) : Blk w' b t c := (k b hb h.lt).trans h

/-- the reader's block; what it reads lies as at the beginning -/
structure Rd (w0 w : World) (br : Nat) : Prop where
  str : ∃ A m c ls, Blk w br 65 #[.slice A m c] ∧ Ints w0 A m c ls
  bel : Below w0.heap.size w0 w
  lo : w0.heap.size ≤ br
def Nr (br b : Nat) : Prop := b ≠ br
section
variable {w0 w w' : World} {br : Nat}
theorem Rd.lt (h : Rd w0 w br) : br < w.heap.size := by
  obtain ⟨A, m, c, ls, k1, k2⟩ := h.str; exact k1.lt
theorem Rd.via (h : Rd w0 w br) (hb : Below w.heap.size w w') : Rd w0 w' br := by
  obtain ⟨A, m, c, ls, h1, h2⟩ := h.str
  exact ⟨⟨A, m, c, ls, h1.via hb, h2⟩, h.bel.via hb, h.lo⟩
theorem Rd.al (h : Rd w0 w br) (o : Obj) : Rd w0 (w.alloc o) br := h.via ((Below.refl _ _).alloc (Nat.le_refl _) o)
theorem Rd.dr (h : Rd w0 w br) : Rd w0 w.drew br := h.via ((Below.refl _ _).drew)
theorem Rd.far (h : Rd w0 w br) {p : Addr} (h1 : p.block ≠ br) (h3 : w0.heap.size ≤ p.block) (u : Value) : Rd w0 (w.setCell p u) br := by
  obtain ⟨A, m, c, ls, k1, k2⟩ := h.str
  exact ⟨⟨A, m, c, ls, k1.far (Ne.symm h1) u, k2⟩, h.bel.setCell h3 u, h.lo⟩
theorem Rd.grown {row : Option Nat} (h : Rd w0 w br) (hg : w.grownBy w' row) (hr : ∀ k, row = some k → br < k) : Rd w0 w' br := by
  obtain ⟨A, m, c, ls, k1, k2⟩ := h.str
  have h1 : some br ≠ row := fun e => absurd (hr _ e.symm) (Nat.lt_irrefl _)
  exact ⟨⟨A, m, c, ls, k1.grown hg h1, k2⟩, h.bel.grown hg h.bel.size fun k e => by have := hr k e; have := h.lo; omega, h.lo⟩
end

/-- a number below n; the reader moves on, nothing else is touched -/
def RdP (w0 w : World) (br n : Nat) (e : Ending) (w' : World) : Prop :=
  ∃ v : Nat, e = .returned (.int .i64 (v : Int)) ∧ v < n ∧ Rd w0 w' br ∧ Agr (Nr br) w w' ∧ w.heap.size ≤ w'.heap.size ∧ w'.heap.size ≤ w.heap.size
theorem rd_n (w0 w : World) (br n : Nat) (q : Int) (hq : q = (n : Int)) (h : Rd w0 w br) (hn : n ≤ 1000000000) (hn1 : 1 ≤ n) :
    Calls Try.prog 29 #[.pointer (some ⟨br, 0, none⟩), .int .i64 q] w (RdP w0 w br n) := by
  obtain ⟨A, m, c, ls, h1, h2⟩ := h.str
  refine (rnext_n w0 w br n q hq A m c ls h2 h.bel (h1.cell 0) (h1.frozen 0) hn hn1).mono ?_
  rintro e w' ⟨v, A', m', c', l', rfl, h3, h4, rfl, h5⟩
  exact ⟨v, rfl, h3, ⟨⟨A', m', c', l', h1.set1 _, h5⟩, h.bel.setCell h.lo _, h.lo⟩, Agr.setCell _ fun b hb => hb, by simp, by simp⟩

end Go.Proofs.Ytgclibfikdonoaa
