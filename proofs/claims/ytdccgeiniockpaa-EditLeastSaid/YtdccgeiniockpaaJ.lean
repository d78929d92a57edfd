/- edit.Compose. -/
import Derived.Test.YtdccgeiniockpaaI
namespace Go.Proofs.Ytdccgeiniockpaa
open Go.RowKit

def compF (fa fb : Nat) : Nat := if fb < fa then fb else fa
def compT (fa ga p gb : Nat) : Nat := if fa + p < gb then ga + (gb - (fa + p)) else ga

theorem compF_le (fa fb : Nat) : compF fa fb ≤ fa ∧ compF fa fb ≤ fb := by unfold compF; split <;> omega

theorem drop_left {α : Type} (l r : List α) (k j : Nat) (h : l.length = k) : (l ++ r).drop (k + j) = r.drop j := by
  subst h
  rw [List.drop_append, List.drop_of_length_le (by omega), List.nil_append, Nat.add_sub_cancel_left]
theorem applyI_drop (xs ns : List Int) (n f g m j : Nat) (hx : xs.length = n) (hm : ns.length = m) (hf : f ≤ g) (hg : g ≤ n) : (applyI xs f g ns).drop (f + m + j) = xs.drop (g + j) := by
  unfold applyI
  rw [drop_left _ _ (f + m) j (by simp [hx, hm]; omega), List.drop_drop]
theorem comp_word (xs az bz : List Int) (n fa ga p fb gb q : Nat) (hx : xs.length = n) (ha : az.length = p) (hb : bz.length = q) (h1 : fa ≤ ga) (h2 : ga ≤ n) (h3 : fb ≤ gb) (h4 : gb ≤ fa + p + (n - ga)) :
    let y := applyI (applyI xs fa ga az) fb gb bz
    applyI xs (compF fa fb) (compT fa ga p gb) ((y.take (fb + q + (fa + p + (n - ga) - gb) - (n - compT fa ga p gb))).drop (compF fa fb)) = y := by
  intro y
  have hF := compF_le fa fb
  have hxl : (applyI xs fa ga az).length = fa + p + (n - ga) := applyI_len xs az n fa ga p hx ha h1 h2
  have hyl : y.length = fb + q + (fa + p + (n - ga) - gb) := applyI_len _ bz _ fb gb q hxl hb h3 h4
  have e1 : y.take (compF fa fb) = xs.take (compF fa fb) := by
    show (applyI (applyI xs fa ga az) fb gb bz).take _ = _
    unfold applyI
    simp only [List.append_assoc]
    rw [List.take_append_of_le_length (by simp [hx, ha]; omega), List.take_take, Nat.min_eq_left hF.2, List.take_append_of_le_length (by simp [hx]; omega), List.take_take, Nat.min_eq_left hF.1]
  have e2 : y.drop (fb + q + (fa + p + (n - ga) - gb) - (n - compT fa ga p gb)) = xs.drop (compT fa ga p gb) := by
    have hd : ∀ j, y.drop (fb + q + j) = (applyI xs fa ga az).drop (gb + j) := fun j => applyI_drop _ bz _ fb gb q j hxl hb h3 h4
    have hd2 : ∀ j, (applyI xs fa ga az).drop (fa + p + j) = xs.drop (ga + j) := fun j => applyI_drop xs az n fa ga p j hx ha h1 h2
    by_cases hc : fa + p < gb
    · have hT : compT fa ga p gb = ga + (gb - (fa + p)) := by unfold compT; rw [if_pos hc]
      rw [hT, show fb + q + (fa + p + (n - ga) - gb) - (n - (ga + (gb - (fa + p)))) = fb + q + 0 from by omega, hd 0]
      have := hd2 (gb - (fa + p))
      rw [show fa + p + (gb - (fa + p)) = gb + 0 from by omega] at this
      exact this
    · have hT : compT fa ga p gb = ga := by unfold compT; rw [if_neg hc]
      rw [hT, show fb + q + (fa + p + (n - ga) - gb) - (n - ga) = fb + q + (fa + p - gb) from by omega, hd]
      have := hd2 0
      rw [show fa + p + 0 = gb + (fa + p - gb) from by omega] at this
      exact this
  have hle : compF fa fb ≤ fb + q + (fa + p + (n - ga) - gb) - (n - compT fa ga p gb) := by
    unfold compT
    split <;> omega
  show xs.take _ ++ _ ++ xs.drop _ = y
  rw [← e2, ← e1]
  generalize fb + q + (fa + p + (n - ga) - gb) - (n - compT fa ga p gb) = e at *
  have e3 : y.take (compF fa fb) ++ (y.take e).drop (compF fa fb) = y.take e := by
    have := List.take_append_drop (compF fa fb) (y.take e)
    rw [List.take_take, Nat.min_eq_left hle] at this
    exact this
  rw [e3]
  exact List.take_append_drop e y

/-- an edit and no error -/
def EditOk (w : World) (f g k : Nat) (ns : List Int) (e : Ending) (w' : World) : Prop := ∃ A c, e = .returned (.tuple #[.agg #[.int .i64 (f : Int), .int .i64 (g : Int), .slice A k c], .int .i64 0]) ∧ Ints w' A k c ns ∧ Below w.heap.size w w'

set_option maxRecDepth 100000 in
set_option maxHeartbeats 4000000 in
theorem compose_c (A A1 A2 : Option Addr) (n c fa ga p c1 fb gb q c2 : Nat) (xs az bz : List Int) (w : World) (hx : Ints w A n c xs) (ha : Ints w A1 p c1 az) (hb : Ints w A2 q c2 bz)
    (h1 : fa ≤ ga) (h2 : ga ≤ n) (h3 : fb ≤ gb) (h4 : gb ≤ fa + p + (n - ga)) (h5 : n + p + q ≤ 2000) (F T e : Nat) (hF : F = compF fa fb) (hT : T = compT fa ga p gb) (he : e = fb + q + (fa + p + (n - ga) - gb) - (n - T)) :
    Calls Try.prog 24 #[.slice A n c, .agg #[.int .i64 (fa : Int), .int .i64 (ga : Int), .slice A1 p c1], .agg #[.int .i64 (fb : Int), .int .i64 (gb : Int), .slice A2 q c2]] w
      (EditOk w F T (e - F) (((applyI (applyI xs fa ga az) fb gb bz).take e).drop F)) := by
  have hFa := compF_le fa fb
  rw [← hF] at hFa
  have hTn : ga ≤ T ∧ T ≤ n := by rw [hT]; unfold compT; split <;> omega
  have hTc : (fa + p < gb ∧ T = ga + (gb - (fa + p))) ∨ (gb ≤ fa + p ∧ T = ga) := by rw [hT]; unfold compT; split <;> omega
  have hen : F ≤ e ∧ e ≤ fb + q + (fa + p + (n - ga) - gb) := by rw [he]; rcases hTc with h | h <;> omega
  have hmin : (if fb < fa then (fb : Int) else (fa : Int)) = (F : Int) := by rw [hF]; unfold compF; split <;> rfl
  have HX := Lib.hid hx.len
  go_enter Try.func24, Try.ntmps24
  go_wp2_with fail
  have Ba := ((Blk.new w 24 #[.int .i64 (fa : Int), .int .i64 (ga : Int), .slice A1 p c1]).al (.cells #[.int .i64 (fb : Int), .int .i64 (gb : Int), .slice A2 q c2] 24)).al (.cells #[.int .i64 0, .int .i64 0, .slice none 0 0] 24)
  have Bb := (Blk.new (w.alloc (.cells #[.int .i64 (fa : Int), .int .i64 (ga : Int), .slice A1 p c1] 24)) 24 #[.int .i64 (fb : Int), .int .i64 (gb : Int), .slice A2 q c2]).al (.cells #[.int .i64 0, .int .i64 0, .slice none 0 0] 24)
  have Br := Blk.new ((w.alloc (.cells #[.int .i64 (fa : Int), .int .i64 (ga : Int), .slice A1 p c1] 24)).alloc (.cells #[.int .i64 (fb : Int), .int .i64 (gb : Int), .slice A2 q c2] 24)) 24 #[.int .i64 0, .int .i64 0, .slice none 0 0]
  have hB := (((Below.refl w.heap.size w).al (.cells #[.int .i64 (fa : Int), .int .i64 (ga : Int), .slice A1 p c1] 24)).al (.cells #[.int .i64 (fb : Int), .int .i64 (gb : Int), .slice A2 q c2] 24)).al (.cells #[.int .i64 0, .int .i64 0, .slice none 0 0] 24)
  simp only [World.size_alloc] at Ba Bb Br
  replace hx := hx.keep hB (Nat.le_refl _)
  replace ha := ha.keep hB (Nat.le_refl _)
  replace hb := hb.keep hB (Nat.le_refl _)
  generalize ((w.alloc (.cells #[.int .i64 (fa : Int), .int .i64 (ga : Int), .slice A1 p c1] 24)).alloc (.cells #[.int .i64 (fb : Int), .int .i64 (gb : Int), .slice A2 q c2] 24)).alloc (.cells #[.int .i64 0, .int .i64 0, .slice none 0 0] 24) = W at *
  refine (apply_c A A1 n c p c1 fa ga xs az _ hx ha h1 h2 (by omega) (by omega)).mono ?_
  rintro ee W1 ⟨A3, c3, rfl, hI3, hb1⟩
  replace hx := hx.via hb1
  replace ha := ha.via hb1
  replace hb := hb.via hb1
  replace Ba := Ba.via hb1
  replace Bb := Bb.via hb1
  replace Br := Br.via hb1
  replace hB := hB.via hb1
  clear hb1
  have cBa := Ba.cell
  have fBa := Ba.frozen
  have lBa := Ba.lt
  have cBb := Bb.cell
  have fBb := Bb.frozen
  have lBb := Bb.lt
  have cBr := Br.cell
  have fBr := Br.frozen
  have lBr := Br.lt
  go_wp2_with fail
  clear cBa fBa lBa cBb fBb lBb cBr fBr lBr
  refine (apply_c A3 A2 (fa + p + (n - ga)) c3 q c2 fb gb _ bz _ hI3 hb h3 h4 (by omega) (by omega)).mono ?_
  rintro ee W2 ⟨A4, c4, rfl, hI4, hb2⟩
  replace Ba := Ba.via hb2
  replace Bb := Bb.via hb2
  replace Br := Br.via hb2
  replace hB := hB.via hb2
  clear hb2 hx ha hb hI3
  have hW : Sz W2 (w.heap.size + 3) := by have := Br.lt; unfold Sz; omega
  generalize applyI (applyI xs fa ga az) fb gb bz = ys at *
  obtain ⟨n2, hn2⟩ : ∃ n2, n2 = fb + q + (fa + p + (n - ga) - gb) := ⟨_, rfl⟩
  rw [← hn2] at hI4 hen ⊢
  have hn2b : n2 ≤ 3000 := by omega
  have he2 : (n2 : Int) - ((n : Int) - (T : Int)) = (e : Int) := by omega
  have q1 : (0 : Int) ≤ (F : Int) := by omega
  have q2 : (F : Int) ≤ (e : Int) := by omega
  have q3 : (e : Int) ≤ (c4 : Int) := by have := hI4.le; omega
  obtain ⟨A5, hA5, hI5⟩ := hI4.mid hen.1 hen.2
  have Ht : Hid ((fa + p < gb ∧ T = ga + (gb - (fa + p))) ∨ (gb ≤ fa + p ∧ T = ga)) := hTc
  clear hTc he hn2 hI4 hF hT
  have cBa := Ba.cell
  have fBa := Ba.frozen
  have lBa := Ba.lt
  have cBb := Bb.cell
  have fBb := Bb.frozen
  have lBb := Bb.lt
  have cBr := Br.cell
  have fBr := Br.frozen
  have lBr := Br.lt
  rcases Ht.out with hc | hc
  · have ho : (gb : Int) - ((fa : Int) + (p : Int)) = ((gb - (fa + p) : Nat) : Int) := by omega
    have hpos : (0 : Int) < ((gb - (fa + p) : Nat) : Int) := by omega
    have hsum : (ga : Int) + ((gb - (fa + p) : Nat) : Int) = (T : Int) := by omega
    have Hc := Lib.hid hc
    clear hc Ht
    generalize gb - (fa + p) = o at *
    go_wp2_with fail
    refine (clone_s A5 (e - F) (c4 - F) _ _ (hI5.al _) (by omega)).mono ?_
    rintro ee W3 ⟨A6, c6, rfl, hO, hb3⟩
    clear cBa fBa lBa cBb fBb lBb cBr fBr lBr
    have Bo := (Blk.new W2 24 #[.int .i64 (F : Int), .int .i64 (T : Int), .slice none 0 0]).via hb3
    replace Br := (Br.al (.cells #[.int .i64 (F : Int), .int .i64 (T : Int), .slice none 0 0] 24)).via hb3
    replace hB := (hB.al (.cells #[.int .i64 (F : Int), .int .i64 (T : Int), .slice none 0 0] 24)).via hb3
    have hne : w.heap.size + 1 + 1 ≠ W2.heap.size := by unfold Sz at hW; omega
    unfold Sz at hW
    clear hb3
    have cBo := Bo.cell
    have fBo := Bo.frozen
    have lBo := Bo.lt
    have cBr := Br.cell
    have fBr := Br.frozen
    have lBr := Br.lt
    go_wp2_with fail
    refine bodyPost_ret (v := .tuple #[.agg #[.int .i64 (F : Int), .int .i64 (T : Int), .slice A6 (e - F) c6], .int .i64 0]) (by simp [results, Try.results24, go_sem, cBr]) rfl ?_
    refine ⟨A6, c6, rfl, ?_, ?_⟩
    · exact ((((hO.setCell (by simp) _).setCell (by simp; omega) _).setCell (by simp; omega) _).setCell (by simp; omega) _).toInts
    · exact (((hB.setCell (by simp; omega) _).setCell (by simp; omega) _).setCell (by simp; omega) _).setCell (by simp; omega) _
  · have hneg : (gb : Int) - ((fa : Int) + (p : Int)) ≤ 0 := by omega
    have hTg := hc.2
    subst hTg
    clear hc Ht
    go_wp2_with fail
    refine (clone_s A5 (e - F) (c4 - F) _ _ (hI5.al _) (by omega)).mono ?_
    rintro ee W3 ⟨A6, c6, rfl, hO, hb3⟩
    clear cBa fBa lBa cBb fBb lBb cBr fBr lBr
    have Bo := (Blk.new W2 24 #[.int .i64 (F : Int), .int .i64 (T : Int), .slice none 0 0]).via hb3
    replace Br := (Br.al (.cells #[.int .i64 (F : Int), .int .i64 (T : Int), .slice none 0 0] 24)).via hb3
    replace hB := (hB.al (.cells #[.int .i64 (F : Int), .int .i64 (T : Int), .slice none 0 0] 24)).via hb3
    have hne : w.heap.size + 1 + 1 ≠ W2.heap.size := by unfold Sz at hW; omega
    unfold Sz at hW
    clear hb3
    have cBo := Bo.cell
    have fBo := Bo.frozen
    have lBo := Bo.lt
    have cBr := Br.cell
    have fBr := Br.frozen
    have lBr := Br.lt
    go_wp2_with fail
    refine bodyPost_ret (v := .tuple #[.agg #[.int .i64 (F : Int), .int .i64 (T : Int), .slice A6 (e - F) c6], .int .i64 0]) (by simp [results, Try.results24, go_sem, cBr]) rfl ?_
    refine ⟨A6, c6, rfl, ?_, ?_⟩
    · exact ((((hO.setCell (by simp) _).setCell (by simp; omega) _).setCell (by simp; omega) _).setCell (by simp; omega) _).toInts
    · exact (((hB.setCell (by simp; omega) _).setCell (by simp; omega) _).setCell (by simp; omega) _).setCell (by simp; omega) _

/-- one edit with the effect of two -/
def CompOk (w : World) (n n2 : Nat) (xs ys : List Int) (e : Ending) (w' : World) : Prop :=
  ∃ (F T k : Nat) (A : Option Addr) (c : Nat) (ns : List Int), e = .returned (.tuple #[.agg #[.int .i64 (F : Int), .int .i64 (T : Int), .slice A k c], .int .i64 0]) ∧ F ≤ T ∧ T ≤ n ∧ F + k + (n - T) = n2 ∧ applyI xs F T ns = ys ∧ Ints w' A k c ns ∧ Below w.heap.size w w'

theorem compose_ok (A A1 A2 : Option Addr) (n c fa ga p c1 fb gb q c2 n1 n2 : Nat) (xs az bz ys : List Int) (w : World) (hx : Ints w A n c xs) (ha : Ints w A1 p c1 az) (hb : Ints w A2 q c2 bz)
    (h1 : fa ≤ ga) (h2 : ga ≤ n) (h3 : fb ≤ gb) (hn1 : n1 = fa + p + (n - ga)) (h4 : gb ≤ n1) (hn2 : n2 = fb + q + (n1 - gb)) (h5 : n + p + q ≤ 2000) (hy : ys = applyI (applyI xs fa ga az) fb gb bz) :
    Calls Try.prog 24 #[.slice A n c, .agg #[.int .i64 (fa : Int), .int .i64 (ga : Int), .slice A1 p c1], .agg #[.int .i64 (fb : Int), .int .i64 (gb : Int), .slice A2 q c2]] w (CompOk w n n2 xs ys) := by
  subst hn1 hn2 hy
  have hFa := compF_le fa fb
  have hT : ga ≤ compT fa ga p gb ∧ compT fa ga p gb ≤ n ∧ n - compT fa ga p gb ≤ fb + q + (fa + p + (n - ga) - gb) ∧ compF fa fb ≤ fb + q + (fa + p + (n - ga) - gb) - (n - compT fa ga p gb) := by unfold compT; split <;> omega
  refine (compose_c A A1 A2 n c fa ga p c1 fb gb q c2 xs az bz w hx ha hb h1 h2 h3 h4 h5 _ _ _ rfl rfl rfl).mono ?_
  rintro e w' ⟨A', c', rfl, hI, hb'⟩
  exact ⟨_, _, _, A', c', _, rfl, by omega, hT.2.1, by omega, comp_word xs az bz n fa ga p fb gb q hx.len ha.len hb.len h1 h2 h3 h4, hI, hb'⟩
end Go.Proofs.Ytdccgeiniockpaa
