/- Edits in memory; slices.Backward at edits. -/
import Derived.Test.YtdccgeiniockpaaUU
namespace Go.Proofs.Ytdccgeiniockpaa
open Go.RowKit Go.Shelf

attribute [local go_sem] Oper.semAt_some

def IntE : Elem Int Int where
  k := 1
  cells x := [.int .i64 x]
  rel _ _ r x := r = x
  pos := by omega
  len _ := rfl
  one r u hu := by simp at hu; subst hu; rfl
  agr h _ := h
  mono h _ := h
theorem flat_int : ∀ raw : List Int, flat IntE raw = raw.map (Value.int .i64)
  | [] => rfl
  | x :: raw => by
    have := flat_int raw
    simp only [flat, List.flatMap_cons, List.map_cons] at *
    rw [this]; rfl
theorem Sl.ints {ok : Nat → Prop} {w : World} {A : Option Addr} {n c : Nat} {l : List Int} (h : Sl IntE ok w A n c l) : Ints w A n c l := by
  refine ⟨h.len, h.le, fun hn => ?_⟩
  obtain ⟨b, off, r, x, e, -⟩ := h.at_ hn
  refine ⟨b, off, e, fun i hi => ?_⟩
  obtain ⟨b', off', r', x', e', -, -, hx, hr, hc⟩ := h.at_ hi
  rw [e] at e'
  cases e'
  have hr' : r' = x' := hr
  subst hr'
  have h0 := hc 0 _ rfl
  simp only [IntE, Nat.mul_one, Nat.add_zero] at h0
  rw [h0, List.getD_eq_getElem?_getD, hx]; rfl
theorem Sl.ofInts {ok : Nat → Prop} {w : World} {A : Option Addr} {n c : Nat} {l : List Int} (h : Ints w A n c l) (hb : ∀ ad, A = some ad → ok ad.block) : Sl IntE ok w A n c l := by
  refine ⟨h.len, h.le, l, h.len, fun hne => ?_, fun i r x hr hx => by rw [hr] at hx; exact Option.some.inj hx⟩
  have hn : 0 < n := by
    rcases Nat.eq_zero_or_pos n with e | e
    · rw [flat_int] at hne; have : l = [] := List.eq_nil_of_length_eq_zero (by rw [h.len, e]); subst this; exact absurd rfl hne
    · exact e
  obtain ⟨b, off, e, hc⟩ := h.2.2 hn
  refine ⟨b, off, e, hb _ e, fun j u hu => ?_⟩
  rw [flat_int] at hu
  have hj : j < n := by have := (List.getElem?_eq_some_iff.1 hu).1; simpa [h.len] using this
  rw [hc j hj, ← hu]
  have hl : j < l.length := by rw [h.len]; exact hj
  simp [List.getD_eq_getElem?_getD, hl]

/-- an edit: from, to, the new elements -/
abbrev EdV := Nat × Nat × List Int
abbrev EdRaw := Nat × Nat × SlV
def EdE : Elem EdV EdRaw where
  k := 3
  cells r := [.int .i64 (r.1 : Int), .int .i64 (r.2.1 : Int), .slice r.2.2.1 r.2.2.2.1 r.2.2.2.2]
  rel ok w r x := r.1 = x.1 ∧ r.2.1 = x.2.1 ∧ Sl IntE ok w r.2.2.1 r.2.2.2.1 r.2.2.2.2 x.2.2
  pos := by omega
  len _ := rfl
  one r u hu := by simp at hu; rcases hu with rfl | rfl | rfl <;> rfl
  agr h k := ⟨h.1, h.2.1, h.2.2.agr k⟩
  mono h k := ⟨h.1, h.2.1, h.2.2.mono k⟩
def edVal (r : EdRaw) : Value := .agg #[.int .i64 (r.1 : Int), .int .i64 (r.2.1 : Int), .slice r.2.2.1 r.2.2.2.1 r.2.2.2.2]
/-- what Backward hands over in round k -/
def backV (raw : List EdRaw) (k : Nat) : Array Value := #[.int .i64 ((raw.length - 1 - k : Nat) : Int), edVal (raw.getD (raw.length - 1 - k) (0, 0, none, 0, 0))]

set_option maxRecDepth 100000 in
set_option maxHeartbeats 2000000 in
theorem back1_in (F : Fence) (n : Nat) (hF : F.fn 70) (hro : F.round = none) (hn : 1 ≤ n) (l Bs : Nat) (A : Option Addr) (m c : Nat) (raw : List EdRaw) (hr : raw.length = m) (hm : m ≤ 1000000) (hmc : m ≤ c) (ok : Nat → Prop) (J : Nat → World → Prop)
    (hY : ∀ k W1, k < m → J k W1 → YieldAt F (n - 1) Try.prog l (backV raw k) W1 fun e W' => e = .returned (.bool true) ∧ J (k + 1) W' ∧ Agr ok W1 W')
    (W : World) (hBs : W.cell? ⟨Bs, 0, none⟩ = some (.slice A m c)) (hoB : ok Bs) (hc : Cel ok W A (flat EdE raw)) (h0 : J 0 W) :
    CallsIn F n Try.prog 70 #[.func (.yield l) #[] #[], .pointer (some ⟨Bs, 0, none⟩)] W fun e W' => (∃ v, e = .returned v) ∧ J m W' := by
  have HY := Lib.hid hY
  have HC := Lib.hid hc
  have HR := Lib.hid hr
  clear hY hc hr
  refine callsIn_of_wp Try.func70 rfl hF ?_ hro
  simp only [Try.ntmps70, List.size_toArray, List.length_cons, List.length_nil, Nat.reduceAdd, Nat.reduceSub, Array.replicate_succ, Array.replicate_zero, List.push_toArray, List.append_toArray, List.nil_append, List.cons_append]
  gi_wp2
  gi_loopw [3] (fun i wr => ∃ k : Nat, i = .int .i64 (down (m - k)) ∧ k ≤ m ∧ J k wr ∧ Agr ok W wr) (fun i _ => (intOf i + 1).toNat)
  case atStart => exact ⟨0, by rw [Nat.sub_zero, down_eq], Nat.zero_le _, h0, Agr.refl⟩
  case round =>
    obtain ⟨k, rfl, hk, hJ, hag⟩ := hrel
    obtain ⟨j, hj⟩ : ∃ j, j = m - k := ⟨_, rfl⟩
    rw [← hj]
    cases j with
    | zero =>
      have hkm : k = m := by omega
      subst hkm
      simp only [down]
      have HJ := Lib.hid hJ
      clear hJ hag hj
      gi_wp2
      go_end0
      exact ⟨⟨_, rfl⟩, HJ.out⟩
    | succ j =>
      simp only [down]
      have hjm : j < m := by omega
      have hk1 : k + 1 ≤ m := by omega
      obtain ⟨rj, hraw⟩ : ∃ rj, raw[j]? = some rj := ⟨_, List.getElem?_eq_getElem (by rw [HR.out]; exact hjm)⟩
      have hgd : raw.getD j (0, 0, none, 0, 0) = rj := by rw [List.getD_eq_getElem?_getD, hraw]; rfl
      have hne : flat EdE raw ≠ [] := fun e => by
        have := flat_len (E := EdE) raw
        rw [e, HR.out] at this
        simp [EdE] at this; omega
      obtain ⟨b, off, hA, hob, hcc⟩ := HC.out hne
      subst hA
      obtain ⟨f, g, B, p, q⟩ := rj
      have c0 := hag.cell hob (hcc _ _ (flat_at (E := EdE) raw j _ 0 _ hraw rfl))
      have c1 := hag.cell hob (hcc _ _ (flat_at (E := EdE) raw j _ 1 _ hraw rfl))
      have c2 := hag.cell hob (hcc _ _ (flat_at (E := EdE) raw j _ 2 _ hraw rfl))
      simp only [EdE, Nat.add_zero, ← Nat.add_assoc] at c0 c1 c2
      have cB := hag.cell hoB hBs
      obtain ⟨fn, tmps, assign, body, hy, hR⟩ := HY.out k wr (by omega) hJ
      have hkj : raw.length - 1 - k = j := by rw [HR.out]; omega
      unfold backV at hy
      rw [hkj, hgd] at hy
      simp only [edVal] at hy
      have HAG := Lib.hid hag
      have HJJ := Lib.hid (show m - (k + 1) = j by omega)
      have i0 : (0 : Int) ≤ (j : Int) := by omega
      have i1 : (j : Int) < (m : Int) := by omega
      clear hJ hag hcc hraw hgd hne hkj HY HC hj
      gi_wp2
      refine hR.mono ?_
      rintro e W3 ⟨rfl, hJ3, hag3⟩
      have HJ3 := Lib.hid hJ3
      have HA3 := Lib.hid (HAG.out.trans hag3)
      clear hJ3 hag3
      gi_wp2
      go_roundw
      case rel => exact ⟨k + 1, by rw [down_eq, HJJ.out]; rfl, hk1, HJ3.out, HA3.out⟩
      case measure => simp [intOf] <;> omega

set_option maxHeartbeats 1000000 in
theorem back_c (A : Option Addr) (m c : Nat) (w : World) : Calls Try.prog 64 #[.slice A m c] w fun e w' => e = .returned (.func (.func 70) #[] #[.pointer (some ⟨w.heap.size, 0, none⟩)]) ∧ w' = w.alloc (.cells #[.slice A m c] 69) := by
  go_enter Try.func64, Try.ntmps64
  go_wp2_with fail
  go_ret
  exact ⟨rfl, rfl⟩
end Go.Proofs.Ytdccgeiniockpaa
