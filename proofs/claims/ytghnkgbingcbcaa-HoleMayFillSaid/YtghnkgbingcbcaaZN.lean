/- parlkeep4.list; what Best says of it; grammars that Grammar makes. -/
import Derived.Test.YtghnkgbingcbcaaZM
import Derived.Test.YtghnkgbingcbcaaRP
namespace Go.Proofs.Ytghnkgbingcbcaa
open Go.RowKit

def listG : Gr := ⟨1, 1, 0, [(0, [(false, 0), (true, 0)]), (0, [(true, 0)])]⟩
def ListGP (w : World) (e : Ending) (w' : World) : Prop := ∃ A, e = .returned (grVal listG A 2 2) ∧ Sl RuE (fun _ => True) w' A 2 2 listG.rules ∧ Below w.heap.size w w'
theorem Sl.ofBlk {α ρ : Type} {E : Elem α ρ} {ok : Nat → Prop} {w : World} {b n : Nat} {t : TypeId} {cs : Array Value} {l : List α} (h : Blk w b t cs) (raw : List ρ) (hcs : cs.toList = flat E raw) (hl : l.length = n) (hr : raw.length = n) (hok : ok b)
    (hrel : ∀ (i : Nat) (r : ρ) (x : α), raw[i]? = some r → l[i]? = some x → E.rel ok w r x) : Sl E ok w (some ⟨b, 0, none⟩) n n l :=
  ⟨hl, Nat.le_refl _, raw, hr, fun _ => ⟨b, 0, rfl, hok, fun j u hu => by rw [Nat.zero_add, h.cell]; rw [← hcs] at hu; simpa using hu⟩, hrel⟩
set_option maxRecDepth 100000 in
set_option maxHeartbeats 1000000 in
theorem list_c (w : World) : Calls Try.prog 7 #[] w (ListGP w) := by
  go_enter Try.func7, Try.ntmps7
  go_wp2_with fail
  obtain ⟨w1, hw1⟩ : ∃ w1, w1 = (w.alloc (.cells #[.int .i64 1, .int .i64 1, .int .i64 0, .slice (some ⟨w.heap.size + 1 + 1 + 1 + 1, 0, none⟩) 2 2] 28)).alloc (.cells #[.bool true, .int .i64 0] 48) := ⟨_, rfl⟩
  have hz : w1.heap.size = w.heap.size + 1 + 1 := by rw [hw1]; simp
  have hb1 : Below w.heap.size w w1 := by rw [hw1]; exact ((Below.refl _ _).al _).al _
  rw [← hw1]
  have b2 := ((Blk.new w1 48 #[.bool false, .int .i64 0, .bool true, .int .i64 0]).al (.cells #[.bool true, .int .i64 0] 48)).al (.cells #[.int .i64 0, .slice (some ⟨w.heap.size + 1 + 1, 0, none⟩) 2 2, .int .i64 0, .slice (some ⟨w.heap.size + 1 + 1 + 1, 0, none⟩) 1 1] 75)
  have b3 := (Blk.new (w1.alloc (.cells #[.bool false, .int .i64 0, .bool true, .int .i64 0] 48)) 48 #[.bool true, .int .i64 0]).al (.cells #[.int .i64 0, .slice (some ⟨w.heap.size + 1 + 1, 0, none⟩) 2 2, .int .i64 0, .slice (some ⟨w.heap.size + 1 + 1 + 1, 0, none⟩) 1 1] 75)
  have b4 := Blk.new ((w1.alloc (.cells #[.bool false, .int .i64 0, .bool true, .int .i64 0] 48)).alloc (.cells #[.bool true, .int .i64 0] 48)) 75 #[.int .i64 0, .slice (some ⟨w.heap.size + 1 + 1, 0, none⟩) 2 2, .int .i64 0, .slice (some ⟨w.heap.size + 1 + 1 + 1, 0, none⟩) 1 1]
  simp only [World.size_alloc, hz] at b2 b3 b4
  refine bodyPost_ret (v := .agg #[.int .i64 1, .int .i64 1, .int .i64 0, .slice (some ⟨w.heap.size + 1 + 1 + 1 + 1, 0, none⟩) 2 2]) ?_ rfl ⟨some ⟨w.heap.size + 1 + 1 + 1 + 1, 0, none⟩, rfl, ?_, ((hb1.al _).al _).al _⟩
  · rw [hw1]; simp [results, Try.results7, go_sem]
  · generalize ((w1.alloc (.cells #[.bool false, .int .i64 0, .bool true, .int .i64 0] 48)).alloc (.cells #[.bool true, .int .i64 0] 48)).alloc (.cells #[.int .i64 0, .slice (some ⟨w.heap.size + 1 + 1, 0, none⟩) 2 2, .int .i64 0, .slice (some ⟨w.heap.size + 1 + 1 + 1, 0, none⟩) 1 1] 75) = W at *
    refine Sl.ofBlk b4 [(0, some ⟨w.heap.size + 1 + 1, 0, none⟩, 2, 2), (0, some ⟨w.heap.size + 1 + 1 + 1, 0, none⟩, 1, 1)] rfl rfl rfl trivial fun i r x hr hx => ?_
    match i, hr, hx with
    | 0, hr, hx =>
      simp [listG] at hr hx; subst hr; subst hx
      exact ⟨rfl, Sl.ofBlk b2 [(false, 0), (true, 0)] rfl rfl rfl trivial fun i r x hr hx => Option.some.inj (hr.symm.trans hx)⟩
    | 1, hr, hx =>
      simp [listG] at hr hx; subst hr; subst hx
      exact ⟨rfl, Sl.ofBlk b3 [(true, 0)] rfl rfl rfl trivial fun i r x hr hx => Option.some.inj (hr.symm.trans hx)⟩
    | i + 2, hr, hx => simp at hr

/-! ### plain facts -/
theorem listG_ok : GrOk listG := by
  refine ⟨⟨by simp [listG], by simp [listG], by simp [listG], by simp [listG], ?_, ?_⟩, by simp [listG]⟩
  · intro r hr; simp [listG] at hr; rcases hr with rfl | rfl <;> simp [listG]
  · intro r hr; simp [listG] at hr
    rcases hr with rfl | rfl
    · refine ⟨by simp, fun s hs => ?_⟩; simp at hs; rcases hs with rfl | rfl <;> simp [Gr.okSy, listG]
    · refine ⟨by simp, fun s hs => ?_⟩; simp at hs; subst hs; simp [Gr.okSy, listG]
theorem Dv.ne {rules : List Ru} (hr : ∀ r ∈ rules, r.2 ≠ []) {l : List Sy} {v : List Int} (h : Dv rules l v) : l ≠ [] → v ≠ [] := by
  induction h with
  | nil => intro h; exact absurd rfl h
  | term t _ _ => intro _; simp
  | non N hm h1 h2 ih1 _ => intro _; have := ih1 (hr _ hm); simp [this]
theorem MadeG.grOk {g : Gr} (h : MadeG g) : GrOk g :=
  ⟨⟨⟨h.terms.1, by have := h.terms.2; omega⟩, ⟨h.nons.1, by have := h.nons.2; omega⟩, h.start, by have := h.count; omega, fun r hr => (h.ok r hr).1, fun r hr => ⟨by have := (h.ok r hr).2.1; omega, fun s hs => (h.ok r hr).2.2 s hs⟩⟩, h.nodup⟩
theorem Der.dv {g : Gr} {s : Sy} {t : Tr} (h : Der g s t) : Dv g.rules [s] (t.word.map fun i : Nat => (i : Int)) := by
  induction h with
  | leaf t => exact Dv.letter t
  | node r N rhs ks hr hl _ ih =>
    have key : ∀ (rhs : List Sy) (ks : List Tr), ks.length = rhs.length → (∀ (j : Nat) (s : Sy) (t : Tr), rhs[j]? = some s → ks[j]? = some t → Dv g.rules [s] (t.word.map fun i : Nat => (i : Int))) → Dv g.rules rhs ((Tr.words ks).map fun i : Nat => (i : Int)) := by
      intro rhs
      induction rhs with
      | nil => intro ks hl _; rw [List.length_eq_zero_iff.1 hl]; exact .nil
      | cons s rhs ih2 =>
        intro ks hl h
        cases ks with
        | nil => simp at hl
        | cons t ks =>
          have h1 := h 0 s t rfl rfl
          have h2 := ih2 ks (by simpa using hl) fun j s' t' hs ht => h (j + 1) s' t' (by simpa using hs) (by simpa using ht)
          have := h1.append h2
          simpa [Tr.words] using this
    rw [Tr.word]
    exact Dv.one (List.mem_of_getElem? hr) (key rhs ks hl ih)
/-- what Best says of the grammar list and the empty word, each operation at 2 -/
theorem best_list {w : World} {e : Ending} {w' : World} (h : BestP w ⟨2, 2, 2, 1, listG.rules, []⟩ 0 e w') : ∃ A n c, e = .returned (.tuple #[.int .i64 2, .slice A n c, .int .i64 0]) ∧ Below w.heap.size w w' := by
  obtain ⟨st, hg, hf, hb, h⟩ := h
  have hd : Dv listG.rules [(false, 0)] [0] := Dv.one (rhs := [(true, 0)]) (by simp [listG]) (Dv.letter 0)
  have ha : Al (2 : Int) 2 2 [] [0] 2 := Al.ins 0 .nil
  obtain ⟨h1, h2⟩ := hf.least hd ha
  obtain ⟨-, -, v, h3, h4, h5, -⟩ := hg.snd 0 0 0 h1
  have hne := h3.ne (fun r hr => by simp [listG] at hr; rcases hr with rfl | rfl <;> simp) (by simp)
  have hcost : (st 0 0 0).cost = 2 * (v.length : Int) := by
    have : ∀ (v : List Int) (k : Int), Al (2 : Int) 2 2 [] v k → k = 2 * (v.length : Int) := by
      intro v
      induction v with
      | nil => intro k h; cases h; rfl
      | cons x v ih => intro k h; cases h with | ins _ h => rw [ih _ h]; simp; omega
    exact this v _ h4
  have hvl : 1 ≤ v.length := by
    rcases Nat.eq_zero_or_pos v.length with e | e
    · exact absurd (List.length_eq_zero_iff.1 e) hne
    · exact e
  have k1 : (st 0 0 0).ok = true := h1
  have k2 : (st 0 0 0).cost ≤ 2 := h2
  have k5 : (st 0 0 0).size = (v.length : Int) := h5
  rcases h with ⟨_, h⟩ | ⟨_, _, h⟩ | ⟨A, n, c, rfl, _, _, _⟩
  · rw [show (st 0 0 0).ok = false from h] at k1; cases k1
  · have k6 : 2000 < (st 0 0 0).size := h
    omega
  · refine ⟨A, n, c, ?_, hb⟩
    show Ending.returned (.tuple #[.int .i64 (st 0 0 0).cost, .slice A n c, .int .i64 0]) = _
    rw [show (st 0 0 0).cost = 2 by omega]
end Go.Proofs.Ytghnkgbingcbcaa
