/- Texts ZK, ZL, ZM, ZN, laid together. -/
import Derived.Test.YtdmecijpioljaaaZ2
import Derived.Test.YtdmecijpioljaaaG1
import Derived.Test.YtdmecijpioljaaaC4



namespace Go.Proofs.Ytdmecijpioljaaa
open Go.RowKit

def SlE : Elem SlV SlV where
  k := 1
  cells s := [.slice s.1 s.2.1 s.2.2]
  rel _ _ r x := r = x
  pos := by omega
  len _ := rfl
  one r u hu := by simp at hu; subst hu; rfl
  agr h _ := h
  mono h _ := h
section
variable {w wr wa : World} {bc bg n hi k : Nat} {rb : Nat → Nat} {cb : Nat → Nat → Nat} {cs : Value → Array Value} {gcs : Array Value} {v : Value}
end
section
variable {w wr wa : World} {bc bg n hi k R i : Nat} {rb : Nat → Nat} {cb : Nat → Nat → Nat} {cs : Value → Array Value} {gcs : Array Value} {v : Value} {ck : Nat → Nat}
end
end Go.Proofs.Ytdmecijpioljaaa



namespace Go.Proofs.Ytdmecijpioljaaa
open Go.RowKit

/-- where the table lies -/
structure BSt (w : World) (bc bg ob N n B0 : Nat) (rb : Nat → Nat) (cb : Nat → Nat → Nat) : Prop where
  inj : ∀ a i a' i', a < N → i ≤ n → a' < N → i' ≤ n → cb a i = cb a' i' → a = a' ∧ i = i'
  n1 : ∀ a a' i, a < N → a' < N → i ≤ n → rb a ≠ cb a' i
  n2 : ∀ a i, a < N → i ≤ n → ob ≠ cb a i
  lc : ∀ a i, a < N → i ≤ n → bc < cb a i ∧ cb a i < B0
  l0 : w.heap.size ≤ bg
  l1 : bg < bc
section
variable {w wr wa : World} {bc bg ob oo N n B0 : Nat} {rb : Nat → Nat} {cb : Nat → Nat → Nat} {ca gcs : Array Value} {st : WSt}
end
end Go.Proofs.Ytdmecijpioljaaa



namespace Go.Proofs.Ytdmecijpioljaaa
open Go.RowKit

set_option maxHeartbeats 400000 in
theorem clone_c (A : Option Addr) (n c : Nat) (xs : List Int) (w : World) (h : Ints w A n c xs) (hn : n ≤ 17592186044416) :
    Calls Try.prog 63 #[.slice A n c] w fun e w' => ∃ v, e = .returned v ∧ OwnI w' w.heap.size v n xs ∧ Below w.heap.size w w' := by
  have he := fun wx => Lib.run_eql_slice_nil (P := Try.prog) wx 22 3 A n c 0 0 Try.underlying22
  rcases A with _ | ad
  · obtain ⟨rfl, rfl⟩ := h.isNone
    go_enter Try.func63, Try.ntmps63
    go_wp2
    go_ret
    exact ⟨_, rfl, OwnI.nil _ _, Below.refl _ _⟩
  · go_enter Try.func63, Try.ntmps63
    go_wp2_with (at_builtin; refine wpList_append_ints _ rfl (.tmp 5) (.tmp 6) rfl w.heap.size (.slice (some ⟨w.heap.size, 0, none⟩) 0 0) 0 [] rfl (World.ownsRow_lit w #[] 0 (Nat.le_refl _) (by omega) rfl) (some ad) n c xs rfl (h.keep ((Below.refl w.heap.size w).alloc (Nat.le_refl _) _) (Nat.le_refl _)) (by omega) (by simp) ?_; intro Av1 cv1 w1 hown1 hg1 hat1)
    go_ret
    exact ⟨_, rfl, by simpa using hown1, ((Below.refl _ _).alloc (Nat.le_refl _) _).grown hg1 (by simp) (by simp [Value.ownBlock])⟩

theorem clone_s (A : Option Addr) (n c : Nat) (xs : List Int) (w : World) (h : Ints w A n c xs) (hn : n ≤ 17592186044416) :
    Calls Try.prog 63 #[.slice A n c] w fun e w' => ∃ B d, e = .returned (.slice B n d) ∧ OwnI w' w.heap.size (.slice B n d) n xs ∧ Below w.heap.size w w' :=
  (clone_c A n c xs w h hn).mono fun e w' ⟨v, he, ho, hb⟩ => by
    obtain ⟨B, d, rfl, _⟩ := ho.form
    exact ⟨B, d, he, ho, hb⟩

theorem rule_short {p : Pm} {st : WSt} (hp : p.Ok) (hst : ∀ N i j, Bnd 2000000000 (st N i j)) (i : Nat) (l : List Sy) (j : Nat) : (p.rule st i l j).w.length ≤ 2000 := by
  by_cases hl : l = []
  · subst hl
    rw [Pm.rule, ruleW, if_pos rfl]
    split <;> simp [Way.no]
  · rw [Pm.rule, ruleW, if_neg hl]
    exact (Bnd.ruleAt (M := 2000000000) (by omega) (fun s k j _ _ _ => Bnd.sym hp.c0 hp.c1 hp.c2 hp.len (by omega) hst s k j) l j).short
/-- what has been seen: the first k rules -/
def V4 (rules : List Ru) (n k : Nat) : Ru → Nat → Nat → Prop := fun r i j => (∃ k', k' < k ∧ rules[k']? = some r) ∧ i ≤ j ∧ j ≤ n
/-- .. and rule r0 up to row i0, place j0 -/
def V6 (rules : List Ru) (n k : Nat) (r0 : Ru) (i0 j0 : Nat) : Ru → Nat → Nat → Prop := fun r i j => V4 rules n k r i j ∨ (r = r0 ∧ i ≤ j ∧ j ≤ n ∧ (i < i0 ∨ (i = i0 ∧ j < j0)))

def BestP (w : World) (p : Pm) (s : Nat) (e : Ending) (w' : World) : Prop :=
  ∃ st, Good p st ∧ Fixd p.c0 p.c1 p.c2 p.rules p.w st p.w.length ∧ Below w.heap.size w w' ∧
    ((e = .returned (.tuple #[.int .i64 0, .slice none 0 0, .int .i64 5]) ∧ (st s 0 p.w.length).ok = false) ∨
     (e = .returned (.tuple #[.int .i64 0, .slice none 0 0, .int .i64 2]) ∧ (st s 0 p.w.length).ok = true ∧ 2000 < (st s 0 p.w.length).size) ∨
     ∃ A n c, e = .returned (.tuple #[.int .i64 (st s 0 p.w.length).cost, .slice A n c, .int .i64 0]) ∧ (st s 0 p.w.length).ok = true ∧ (st s 0 p.w.length).size ≤ 2000 ∧ Ints w' A n c (st s 0 p.w.length).w)
end Go.Proofs.Ytdmecijpioljaaa




namespace Go.Proofs.Ytdmecijpioljaaa
open Go.RowKit

def listG : Gr := ⟨1, 1, 0, [(0, [(false, 0), (true, 0)]), (0, [(true, 0)])]⟩
def ListGP (w : World) (e : Ending) (w' : World) : Prop := ∃ A, e = .returned (grVal listG A 2 2) ∧ Sl RuE (fun _ => True) w' A 2 2 listG.rules ∧ Below w.heap.size w w'
theorem Sl.ofBlk {α ρ : Type} {E : Elem α ρ} {ok : Nat → Prop} {w : World} {b n : Nat} {t : TypeId} {cs : Array Value} {l : List α} (h : Blk w b t cs) (raw : List ρ) (hcs : cs.toList = flat E raw) (hl : l.length = n) (hr : raw.length = n) (hok : ok b)
    (hrel : ∀ (i : Nat) (r : ρ) (x : α), raw[i]? = some r → l[i]? = some x → E.rel ok w r x) : Sl E ok w (some ⟨b, 0, none⟩) n n l :=
  ⟨hl, Nat.le_refl _, raw, hr, fun _ => ⟨b, 0, rfl, hok, fun j u hu => by rw [Nat.zero_add, h.cell]; rw [← hcs] at hu; simpa using hu⟩, hrel⟩
set_option maxRecDepth 100000 in
set_option maxHeartbeats 1000000 in
theorem list_c (w : World) : Calls Try.prog 5 #[] w (ListGP w) := by
  go_enter Try.func5, Try.ntmps5
  go_wp2_with fail
  obtain ⟨w1, hw1⟩ : ∃ w1, w1 = (w.alloc (.cells #[.int .i64 1, .int .i64 1, .int .i64 0, .slice (some ⟨w.heap.size + 1 + 1 + 1 + 1, 0, none⟩) 2 2] 28)).alloc (.cells #[.bool true, .int .i64 0] 45) := ⟨_, rfl⟩
  have hz : w1.heap.size = w.heap.size + 1 + 1 := by rw [hw1]; simp
  have hb1 : Below w.heap.size w w1 := by rw [hw1]; exact ((Below.refl _ _).al _).al _
  rw [← hw1]
  have b2 := ((Blk.new w1 45 #[.bool false, .int .i64 0, .bool true, .int .i64 0]).al (.cells #[.bool true, .int .i64 0] 45)).al (.cells #[.int .i64 0, .slice (some ⟨w.heap.size + 1 + 1, 0, none⟩) 2 2, .int .i64 0, .slice (some ⟨w.heap.size + 1 + 1 + 1, 0, none⟩) 1 1] 47)
  have b3 := (Blk.new (w1.alloc (.cells #[.bool false, .int .i64 0, .bool true, .int .i64 0] 45)) 45 #[.bool true, .int .i64 0]).al (.cells #[.int .i64 0, .slice (some ⟨w.heap.size + 1 + 1, 0, none⟩) 2 2, .int .i64 0, .slice (some ⟨w.heap.size + 1 + 1 + 1, 0, none⟩) 1 1] 47)
  have b4 := Blk.new ((w1.alloc (.cells #[.bool false, .int .i64 0, .bool true, .int .i64 0] 45)).alloc (.cells #[.bool true, .int .i64 0] 45)) 47 #[.int .i64 0, .slice (some ⟨w.heap.size + 1 + 1, 0, none⟩) 2 2, .int .i64 0, .slice (some ⟨w.heap.size + 1 + 1 + 1, 0, none⟩) 1 1]
  simp only [World.size_alloc, hz] at b2 b3 b4
  refine bodyPost_ret (v := .agg #[.int .i64 1, .int .i64 1, .int .i64 0, .slice (some ⟨w.heap.size + 1 + 1 + 1 + 1, 0, none⟩) 2 2]) ?_ rfl ⟨some ⟨w.heap.size + 1 + 1 + 1 + 1, 0, none⟩, rfl, ?_, ((hb1.al _).al _).al _⟩
  · rw [hw1]; simp [results, Try.results5, go_sem]
  · generalize ((w1.alloc (.cells #[.bool false, .int .i64 0, .bool true, .int .i64 0] 45)).alloc (.cells #[.bool true, .int .i64 0] 45)).alloc (.cells #[.int .i64 0, .slice (some ⟨w.heap.size + 1 + 1, 0, none⟩) 2 2, .int .i64 0, .slice (some ⟨w.heap.size + 1 + 1 + 1, 0, none⟩) 1 1] 47) = W at *
    refine Sl.ofBlk b4 [(0, some ⟨w.heap.size + 1 + 1, 0, none⟩, 2, 2), (0, some ⟨w.heap.size + 1 + 1 + 1, 0, none⟩, 1, 1)] rfl rfl rfl trivial fun i r x hr hx => ?_
    match i, hr, hx with
    | 0, hr, hx =>
      simp [listG] at hr hx; subst hr; subst hx
      exact ⟨rfl, Sl.ofBlk b2 [(false, 0), (true, 0)] rfl rfl rfl trivial fun i r x hr hx => Option.some.inj (hr.symm.trans hx)⟩
    | 1, hr, hx =>
      simp [listG] at hr hx; subst hr; subst hx
      exact ⟨rfl, Sl.ofBlk b3 [(true, 0)] rfl rfl rfl trivial fun i r x hr hx => Option.some.inj (hr.symm.trans hx)⟩
    | i + 2, hr, hx => simp at hr

/-! ### plain facts -/
theorem listG_ok : GrOk listG := by
  refine ⟨⟨by simp [listG], by simp [listG], by simp [listG], by simp [listG], ?_, ?_⟩, by simp [listG]⟩
  · intro r hr; simp [listG] at hr; rcases hr with rfl | rfl <;> simp [listG]
  · intro r hr; simp [listG] at hr
    rcases hr with rfl | rfl
    · refine ⟨by simp, fun s hs => ?_⟩; simp at hs; rcases hs with rfl | rfl <;> simp [Gr.okSy, listG]
    · refine ⟨by simp, fun s hs => ?_⟩; simp at hs; subst hs; simp [Gr.okSy, listG]
theorem Dv.ne {rules : List Ru} (hr : ∀ r ∈ rules, r.2 ≠ []) {l : List Sy} {v : List Int} (h : Dv rules l v) : l ≠ [] → v ≠ [] := by
  induction h with
  | nil => intro h; exact absurd rfl h
  | term t _ _ => intro _; simp
  | non N hm h1 h2 ih1 _ => intro _; have := ih1 (hr _ hm); simp [this]
theorem MadeG.grOk {g : Gr} (h : MadeG g) : GrOk g :=
  ⟨⟨⟨h.terms.1, by have := h.terms.2; omega⟩, ⟨h.nons.1, by have := h.nons.2; omega⟩, h.start, by have := h.count; omega, fun r hr => (h.ok r hr).1, fun r hr => ⟨by have := (h.ok r hr).2.1; omega, fun s hs => (h.ok r hr).2.2 s hs⟩⟩, h.nodup⟩
theorem Der.dv {g : Gr} {s : Sy} {t : Tr} (h : Der g s t) : Dv g.rules [s] (t.word.map fun i : Nat => (i : Int)) := by
  induction h with
  | leaf t => exact Dv.letter t
  | node r N rhs ks hr hl _ ih =>
    have key : ∀ (rhs : List Sy) (ks : List Tr), ks.length = rhs.length → (∀ (j : Nat) (s : Sy) (t : Tr), rhs[j]? = some s → ks[j]? = some t → Dv g.rules [s] (t.word.map fun i : Nat => (i : Int))) → Dv g.rules rhs ((Tr.words ks).map fun i : Nat => (i : Int)) := by
      intro rhs
      induction rhs with
      | nil => intro ks hl _; rw [List.length_eq_zero_iff.1 hl]; exact .nil
      | cons s rhs ih2 =>
        intro ks hl h
        cases ks with
        | nil => simp at hl
        | cons t ks =>
          have h1 := h 0 s t rfl rfl
          have h2 := ih2 ks (by simpa using hl) fun j s' t' hs ht => h (j + 1) s' t' (by simpa using hs) (by simpa using ht)
          have := h1.append h2
          simpa [Tr.words] using this
    rw [Tr.word]
    exact Dv.one (List.mem_of_getElem? hr) (key rhs ks hl ih)
/-- what Best says of the grammar list and the empty word, each operation at 2 -/
theorem best_list {w : World} {e : Ending} {w' : World} (h : BestP w ⟨2, 2, 2, 1, listG.rules, []⟩ 0 e w') : ∃ A n c, e = .returned (.tuple #[.int .i64 2, .slice A n c, .int .i64 0]) ∧ Below w.heap.size w w' := by
  obtain ⟨st, hg, hf, hb, h⟩ := h
  have hd : Dv listG.rules [(false, 0)] [0] := Dv.one (rhs := [(true, 0)]) (by simp [listG]) (Dv.letter 0)
  have ha : Al (2 : Int) 2 2 [] [0] 2 := Al.ins 0 .nil
  obtain ⟨h1, h2⟩ := hf.least hd ha
  obtain ⟨-, -, v, h3, h4, h5, -⟩ := hg.snd 0 0 0 h1
  have hne := h3.ne (fun r hr => by simp [listG] at hr; rcases hr with rfl | rfl <;> simp) (by simp)
  have hcost : (st 0 0 0).cost = 2 * (v.length : Int) := by
    have : ∀ (v : List Int) (k : Int), Al (2 : Int) 2 2 [] v k → k = 2 * (v.length : Int) := by
      intro v
      induction v with
      | nil => intro k h; cases h; rfl
      | cons x v ih => intro k h; cases h with | ins _ h => rw [ih _ h]; simp; omega
    exact this v _ h4
  have hvl : 1 ≤ v.length := by
    rcases Nat.eq_zero_or_pos v.length with e | e
    · exact absurd (List.length_eq_zero_iff.1 e) hne
    · exact e
  have k1 : (st 0 0 0).ok = true := h1
  have k2 : (st 0 0 0).cost ≤ 2 := h2
  have k5 : (st 0 0 0).size = (v.length : Int) := h5
  rcases h with ⟨_, h⟩ | ⟨_, _, h⟩ | ⟨A, n, c, rfl, _, _, _⟩
  · rw [show (st 0 0 0).ok = false from h] at k1; cases k1
  · have k6 : 2000 < (st 0 0 0).size := h
    omega
  · refine ⟨A, n, c, ?_, hb⟩
    show Ending.returned (.tuple #[.int .i64 (st 0 0 0).cost, .slice A n c, .int .i64 0]) = _
    rw [show (st 0 0 0).cost = 2 by omega]
end Go.Proofs.Ytdmecijpioljaaa

