/- two. -/
import Derived.Test.YtdccgeiniockpaaY
namespace Go.Proofs.Ytdccgeiniockpaa
open Go.RowKit

def twoT : Tr := .node 0 [.node 1 [.leaf 0], .leaf 0]
theorem Cel.ofBlk {ok : Nat → Prop} {w : World} {b : Nat} {t : TypeId} {cs : List Value} (h : Blk w b t cs.toArray) (hb : ok b) : Cel ok w (some ⟨b, 0, none⟩) cs := fun _ =>
  ⟨b, 0, rfl, hb, fun j u hu => by rw [Nat.zero_add, h.cell j, List.getElem?_toArray]; exact hu⟩

set_option maxRecDepth 100000 in
set_option maxHeartbeats 2000000 in
theorem two_c (w : World) : Calls Try.prog 17 #[] w (CopyP w twoT) := by
  go_enter Try.func17, Try.ntmps17
  go_wp2_with fail
  refine bodyPost_ret (v := trVal (0, 0, some ⟨w.heap.size + 1 + 1 + 1, 0, none⟩, 2, 2)) (by simp [results, Try.results17, go_sem, trVal]) rfl ⟨_, rfl, ?_, ?_⟩
  · have B2 := (Blk.new ((w.alloc (.cells #[.int .i64 0, .int .i64 0, .slice (some ⟨w.heap.size + 1 + 1 + 1, 0, none⟩) 2 2] 36)).alloc (.cells #[.int .i64 (-1), .int .i64 0, .slice none 0 0] 36)) 36 #[.int .i64 (-1), .int .i64 0, .slice none 0 0]).al (.cells #[.int .i64 1, .int .i64 0, .slice (some ⟨w.heap.size + 1 + 1, 0, none⟩) 1 1, .int .i64 (-1), .int .i64 0, .slice none 0 0] 36)
    have B3 := Blk.new (((w.alloc (.cells #[.int .i64 0, .int .i64 0, .slice (some ⟨w.heap.size + 1 + 1 + 1, 0, none⟩) 2 2] 36)).alloc (.cells #[.int .i64 (-1), .int .i64 0, .slice none 0 0] 36)).alloc (.cells #[.int .i64 (-1), .int .i64 0, .slice none 0 0] 36)) 36 #[.int .i64 1, .int .i64 0, .slice (some ⟨w.heap.size + 1 + 1, 0, none⟩) 1 1, .int .i64 (-1), .int .i64 0, .slice none 0 0]
    simp only [World.size_alloc] at B2 B3
    generalize (((w.alloc (.cells #[.int .i64 0, .int .i64 0, .slice (some ⟨w.heap.size + 1 + 1 + 1, 0, none⟩) 2 2] 36)).alloc (.cells #[.int .i64 (-1), .int .i64 0, .slice none 0 0] 36)).alloc (.cells #[.int .i64 (-1), .int .i64 0, .slice none 0 0] 36)).alloc (.cells #[.int .i64 1, .int .i64 0, .slice (some ⟨w.heap.size + 1 + 1, 0, none⟩) 1 1, .int .i64 (-1), .int .i64 0, .slice none 0 0] 36) = W at *
    have L0 : TreeR (fun b => w.heap.size ≤ b) W (-1, 0, none, 0, 0) (.leaf 0) := .leaf 0 none 0
    have N1 : TreeR (fun b => w.heap.size ≤ b) W (1, 0, some ⟨w.heap.size + 1 + 1, 0, none⟩, 1, 1) (.node 1 [.leaf 0]) := by
      refine .node 1 _ 1 1 [.leaf 0] [(-1, 0, none, 0, 0)] rfl (Nat.le_refl _) rfl (Cel.ofBlk B2 (by omega)) fun i x t hx ht => ?_
      cases i with
      | zero => simp at hx ht; subst hx; subst ht; exact L0
      | succ i => simp at hx
    refine .node 0 _ 2 2 [.node 1 [.leaf 0], .leaf 0] [(1, 0, some ⟨w.heap.size + 1 + 1, 0, none⟩, 1, 1), (-1, 0, none, 0, 0)] rfl (Nat.le_refl _) rfl (Cel.ofBlk B3 (by omega)) fun i x t hx ht => ?_
    match i with
    | 0 => simp at hx ht; subst hx; subst ht; exact N1
    | 1 => simp at hx ht; subst hx; subst ht; exact L0
    | i + 2 => simp at hx
  · exact ((((Below.refl _ _).al _).al _).al _).al _
end Go.Proofs.Ytdccgeiniockpaa
