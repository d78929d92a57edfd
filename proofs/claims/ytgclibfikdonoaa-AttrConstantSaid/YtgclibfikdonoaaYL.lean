/- parlkeep4.System; the closures of AttrConstant. -/
import Derived.Test.YtgclibfikdonoaaYF
import Derived.Test.YtgclibfikdonoaaYI
namespace Go.Proofs.Ytgclibfikdonoaa
open Go.RowKit

set_option maxRecDepth 100000 in
set_option maxHeartbeats 1000000 in
theorem sys_c (ok : Nat → Prop) (g : Gr) (Ag : Option Addr) (ng cg : Nat) (A : Option Addr) (m c : Nat) (ls : List Int) (w : World) (hno : g.nons ≤ 10) (hru : g.rules.length ≤ 32) (hri : ∀ r ∈ g.rules, r.2.length ≤ 4)
    (hg : Sl RuE ok w Ag ng cg g.rules) (hI : Ints w A m c ls) :
    Calls Try.prog 9 #[grVal g Ag ng cg, .slice A m c] w (SysP w) := by
  simp only [grVal]
  have B1 := Blk.new (w.alloc (.cells #[.int .i64 (g.terms : Int), .int .i64 (g.nons : Int), .int .i64 (g.start : Int), .slice Ag ng cg] 32)) 38 #[.slice none 0 0, .slice none 0 0]
  have hB := ((Below.refl w.heap.size w).al (.cells #[.int .i64 (g.terms : Int), .int .i64 (g.nons : Int), .int .i64 (g.start : Int), .slice Ag ng cg] 32)).al (.cells #[.slice none 0 0, .slice none 0 0] 38)
  have hsz : w.heap.size + 2 ≤ ((w.alloc (.cells #[.int .i64 (g.terms : Int), .int .i64 (g.nons : Int), .int .i64 (g.start : Int), .slice Ag ng cg] 32)).alloc (.cells #[.slice none 0 0, .slice none 0 0] 38)).heap.size := by simp
  rw [World.size_alloc] at B1
  have HG := Lib.hid (hg.via hB)
  have HI := Lib.hid ((hI.alloc (.cells #[.int .i64 (g.terms : Int), .int .i64 (g.nons : Int), .int .i64 (g.start : Int), .slice Ag ng cg] 32)).alloc (.cells #[.slice none 0 0, .slice none 0 0] 38))
  have HRI := Lib.hid hri
  clear hg hI hri
  go_enter Try.func9, Try.ntmps9
  go_wp2_with fail
  generalize (w.alloc (.cells #[.int .i64 (g.terms : Int), .int .i64 (g.nons : Int), .int .i64 (g.start : Int), .slice Ag ng cg] 32)).alloc (.cells #[.slice none 0 0, .slice none 0 0] 38) = W at *
  refine (system_c ok g Ag ng cg A m c ls W hno hru HRI.out HG.out HI.out).mono ?_
  rintro e w' ⟨Aa, na, ca, Ae, ne, ce, eqs, rfl, hS, hO, hb, hn⟩
  replace B1 := B1.via hb
  have HS := Lib.hid hS
  have HO := Lib.hid hO
  have HB := Lib.hid (hB.trans (hb.mono (by omega)))
  clear hS hO hb hB
  have cB1 := B1.cell
  have fB1 := B1.frozen
  have lB1 := B1.lt
  go_wp2_with fail
  refine bodyPost_ret (v := .agg #[.slice Aa na ca, .slice Ae ne ce]) (by simp [results, Try.results9, go_sem, cB1]) rfl ⟨Aa, na, ca, Ae, ne, ce, eqs, rfl, ?_, HO.out, ?_, hn⟩
  · exact ((HS.out.mono (ok' := fun b => w.heap.size + 2 ≤ b) fun b _ hb => by omega).agr ((Agr.setCell _ fun b hb => by show b ≠ w.heap.size + 1; omega).trans (Agr.setCell _ fun b hb => by show b ≠ w.heap.size + 1; omega))).mono fun b _ hb => by omega
  · exact (HB.out.setCell (by simp) _).setCell (by simp) _
end Go.Proofs.Ytgclibfikdonoaa
