/- Texts PG, laid together. -/
import Derived.Test.YtdmecijpioljaaaPE
import Derived.Laws.CopyRow
import Derived.Laws.CopyOwn




namespace Go.Proofs.Ytdmecijpioljaaa
open Go.RowKit

/-- the first n elements of a row of rules, as they lie -/
def RawR (w : World) (g base n c : Nat) (raw : List (Nat × SlV)) : Prop :=
  base ≤ g ∧ n ≤ c ∧ c ≤ maxLen ∧ raw.length = n ∧ ∃ cur : Array Value, Blk w g 47 cur ∧ cur.size = c * 2 ∧ cur.toList.take (n * 2) = flat RuE raw
section
variable {w w' : World} {g base n c : Nat} {raw : List (Nat × SlV)}
theorem RawR.lt (h : RawR w g base n c raw) : g < w.heap.size := by obtain ⟨_, _, _, _, cur, hb, _⟩ := h; exact hb.lt
theorem RawR.agr (h : RawR w g base n c raw) (hb : w'.heap[g]? = w.heap[g]?) : RawR w' g base n c raw := by
  obtain ⟨h1, h2, h3, h4, cur, h5, h6, h7⟩ := h
  exact ⟨h1, h2, h3, h4, cur, hb.trans h5, h6, h7⟩
theorem RawR.via (h : RawR w g base n c raw) (hb : Below w.heap.size w w') : RawR w' g base n c raw := h.agr (hb.block g h.lt)
theorem RawR.cell (h : RawR w g base n c raw) {j : Nat} {r : Nat × SlV} (hj : raw[j]? = some r) : w.cell? ⟨g, j * 2, none⟩ = some (.int .i64 (r.1 : Int)) ∧ w.cell? ⟨g, j * 2 + 1, none⟩ = some (.slice r.2.1 r.2.2.1 r.2.2.2) := by
  obtain ⟨h1, h2, h3, h4, cur, h5, h6, h7⟩ := h
  have hjl := (List.getElem?_eq_some_iff.1 hj).1
  have key : ∀ i u, (RuE.cells r)[i]? = some u → i < 2 → cur[j * 2 + i]? = some u := fun i u hu hi => by
    have e := flat_at (E := RuE) raw j r i u hj hu
    rw [← h7, List.getElem?_take, if_pos (by show j * 2 + i < n * 2; omega)] at e
    rw [← Array.getElem?_toList]; exact e
  exact ⟨by rw [h5.cell]; exact key 0 _ rfl (by omega), by rw [h5.cell]; exact key 1 _ rfl (by omega)⟩
theorem RawR.frozen (h : RawR w g base n c raw) (i : Nat) : w.frozen? ⟨g, i, none⟩ = false := by obtain ⟨_, _, _, _, cur, hb, _⟩ := h; exact hb.frozen i
theorem flatRu_set (raw : List (Nat × SlV)) : ∀ (i : Nat) (r : Nat × SlV), i < raw.length → ((flat RuE raw).set (i * 2) (.int .i64 (r.1 : Int))).set (i * 2 + 1) (.slice r.2.1 r.2.2.1 r.2.2.2) = flat RuE (raw.set i r) := by
  induction raw with
  | nil => intro i r h; simp at h
  | cons a raw ih =>
    intro i r h
    cases i with
    | zero => simp [flat, RuE]
    | succ i =>
      have := ih i r (by simpa using h)
      simp only [flat, List.flatMap_cons, List.set_cons_succ] at this ⊢
      rw [← this]
      have e1 : (i + 1) * 2 = i * 2 + 2 := by omega
      simp [RuE, e1]
theorem RawR.set (h : RawR w g base n c raw) {i : Nat} (hi : i < n) (r : Nat × SlV) : RawR ((w.setCell ⟨g, i * 2, none⟩ (.int .i64 (r.1 : Int))).setCell ⟨g, i * 2 + 1, none⟩ (.slice r.2.1 r.2.2.1 r.2.2.2)) g base n c (raw.set i r) := by
  obtain ⟨h1, h2, h3, h4, cur, h5, h6, h7⟩ := h
  refine ⟨h1, h2, h3, by simpa using h4, _, (h5.set_ _ _).set_ _ _, by simpa using h6, ?_⟩
  rw [Array.toList_setIfInBounds, Array.toList_setIfInBounds, List.take_set, List.take_set, h7, flatRu_set raw i r (by omega)]
theorem RawR.less (h : RawR w g base n c raw) {m : Nat} (hm : m ≤ n) : RawR w g base m c (raw.take m) := by
  obtain ⟨h1, h2, h3, h4, cur, h5, h6, h7⟩ := h
  refine ⟨h1, by omega, h3, by rw [List.length_take]; omega, cur, h5, h6, ?_⟩
  have e : cur.toList.take (m * 2) = (cur.toList.take (n * 2)).take (m * 2) := by rw [List.take_take]; congr 1; omega
  rw [e, h7]
  have hf : flat RuE raw = flat RuE (raw.take m) ++ flat RuE (raw.drop m) := by unfold flat; rw [← List.flatMap_append, List.take_append_drop]
  rw [hf, List.take_append_of_le_length (by rw [flat_len, List.length_take]; show m * 2 ≤ min m raw.length * 2; omega), List.take_of_length_le (by rw [flat_len, List.length_take]; show min m raw.length * 2 ≤ m * 2; omega)]
theorem RawR.own {ok : Nat → Prop} {ys : List Ru} (h : RawR w g base n c raw) (hl : ys.length = n) (hr : ∀ (i : Nat) r y, raw[i]? = some r → ys[i]? = some y → RuE.rel (fun b => ok b ∧ some b ≠ (Value.slice (some ⟨g, 0, none⟩) n c).ownBlock) w r y) :
    Own RuE 47 ok w base (.slice (some ⟨g, 0, none⟩) n c) n ys := by
  obtain ⟨h1, h2, h3, h4, cur, h5, h6, h7⟩ := h
  exact ⟨hl, raw, h4, ⟨by rw [flat_len, h4], Or.inr ⟨g, c, cur, rfl, h1, h5, h2, h3, h6, h7⟩⟩, hr⟩
theorem Own.rawR {ok : Nat → Prop} {xs : List Ru} (h : Own RuE 47 ok w base (.slice (some ⟨g, 0, none⟩) n c) n xs) : ∃ raw, RawR w g base n c raw ∧ ∀ (i : Nat) r y, raw[i]? = some r → xs[i]? = some y → RuE.rel (fun b => ok b ∧ some b ≠ (Value.slice (some ⟨g, 0, none⟩) n c).ownBlock) w r y := by
  obtain ⟨h1, raw, h2, h3, h4⟩ := h
  rcases h3.2 with ⟨h0, _⟩ | ⟨g', cap, cur, hv, hb, hh, hc1, hc2, hc3, htk⟩
  · cases h0
  · cases hv
    exact ⟨raw, ⟨hb, hc1, hc2, h2, cur, hh, hc3, htk⟩, h4⟩
end
/-- 'clear(s[m:])' -/
theorem run_clear_ru {w : World} {g base n c m : Nat} {raw : List (Nat × SlV)} (h : RawR w g base n c raw) (hm : m ≤ n) :
    ∃ w', (∀ ty, (Builtin.clear_ #[26] ty #[.slice (some ⟨g, m * 2, none⟩) (n - m) (c - m)]).run Try.prog w = .ok (.tuple #[]) w') ∧ RawR w' g base m c (raw.take m) ∧ Agr (fun b => b ≠ g) w w' ∧ Below base w w' ∧ w'.heap.size = w.heap.size := by
  have hlt := h.lt
  rcases Nat.eq_or_lt_of_le hm with rfl | hmn
  · have hu := Try.underlying26
    refine ⟨w, ?_, by have := h.less (Nat.le_refl m); exact this, Agr.refl, Below.refl _ _, rfl⟩
    intro ty
    rw [Nat.sub_self]
    simp [Builtin.clear_, run_underlying hu]
  · obtain ⟨h1, h2, h3, h4, cur, h5, h6, h7⟩ := id h
    have hv : ∀ w, (zeroValue 47).run Try.prog w = .ok (.agg #[.int .i64 0, .slice none 0 0]) w := fun w => by
      obtain ⟨i, hi, hz⟩ := Option.map_eq_some_iff.1 rule_info
      simp only [Prod.mk.injEq] at hz
      simp [zeroValue, typeInfo, hi, hz.1]
    generalize hvs : (Builtin.zeroCells (Value.agg #[.int .i64 0, .slice none 0 0]).cells (n - m)).toList = vs
    have hlen : vs.length = (n - m) * 2 := by rw [← hvs]; simp [Builtin.zeroCells, Value.cells]
    have hone : ∀ v ∈ vs, v.oneCell' = true := by
      intro v hv'
      rw [← hvs] at hv'
      simp only [Builtin.zeroCells, Array.toList_map, List.mem_map, Value.cells] at hv'
      obtain ⟨i, -, rfl⟩ := hv'
      have : i % 2 = 0 ∨ i % 2 = 1 := by omega
      rcases this with e | e <;> simp [e, Value.oneCell']
    have hst := run_storeCells_at (P := Try.prog) g (m * 2) 47 vs 0 cur w h5 (by rw [hlen, h6]; omega) hone
    refine ⟨w.setRow g (cur.toList.take (m * 2 + 0) ++ vs ++ cur.toList.drop (m * 2 + 0 + vs.length)).toArray, ?_, ?_, ?_, below_setRow (Below.refl base w) h1 _, size_setRow ..⟩
    · intro ty
      obtain ⟨k, hk⟩ : ∃ k, n - m = k + 1 := ⟨n - m - 1, by omega⟩
      rw [hk] at hvs ⊢
      simp [Builtin.clear_, run_underlying Try.underlying26, hv, hvs, hst]
    · refine ⟨h1, by omega, h3, by rw [List.length_take]; omega, _, setRow_heap w g cur _ 47 (0, 0) h5, ?_, ?_⟩
      · simp [hlen, h6]; omega
      · have e := (h.less hm)
        obtain ⟨_, _, _, _, cur2, e5, _, e7⟩ := e
        have : cur2 = cur := by
          have := h5.symm.trans e5
          simp only [Option.some.injEq, Obj.cells.injEq, and_true] at this
          exact this.symm
        subst this
        rw [← e7, Nat.add_zero, List.append_assoc, List.take_append_of_le_length (by rw [List.length_take]; simp [h6]; omega), List.take_take, Nat.min_self]
    · intro b hb _
      exact setRow_other w g b _ hb

/-- the blocks but g's are as they were -/
structure Kp (base g : Nat) (w w' : World) : Prop where
  agr : Agr (fun b => b ≠ g) w w'
  bel : Below base w w'
  size : w.heap.size ≤ w'.heap.size
section
variable {base g : Nat} {w w' w'' : World}
theorem Kp.refl : Kp base g w w := ⟨Agr.refl, Below.refl _ _, Nat.le_refl _⟩
theorem Kp.via (h : Kp base g w w') (hs : base ≤ w.heap.size) (hb : Below w'.heap.size w' w'') : Kp base g w w'' :=
  ⟨h.agr.trans (Agr.below hb), h.bel.trans (hb.mono (Nat.le_trans hs h.size)), Nat.le_trans h.size hb.size⟩
theorem Kp.cell (h : Kp base g w w') {p : Addr} (hp : p.block = g) (hg : base ≤ g) (u : Value) : Kp base g w (w'.setCell p u) :=
  ⟨h.agr.trans (Agr.setCell u fun b hb e => hb (by rw [e, hp])), h.bel.setCell (by rw [hp]; exact hg) u, by simpa using h.size⟩
end
def DelP (base : Nat) (A : Option Addr) (c : Nat) (ok : Nat → Prop) (ys : List Ru) (w : World) (e : Ending) (w' : World) : Prop :=
  e = .returned (.slice A ys.length c) ∧ Own RuE 47 ok w' base (.slice A ys.length c) ys.length ys ∧ (∀ g, A = some ⟨g, 0, none⟩ → Kp base g w w') ∧ (A = none → Below w.heap.size w w') ∧ Below base w w'
theorem filter_take {p : Ru → Bool} {xs : List Ru} {j : Nat} {y : Ru} (h : xs[j]? = some y) : (xs.take (j + 1)).filter (fun x => !p x) = (xs.take j).filter (fun x => !p x) ++ if p y = true then [] else [y] := by
  rw [take_more h, List.filter_append]
  cases hp : p y <;> simp [hp]
/-- behind j elements, i of them kept -/
structure DelS (ok : Nat → Prop) (p : Ru → Bool) (xs : List Ru) (w0 : World) (g base n c i j : Nat) (raw : List (Nat × SlV)) (w : World) : Prop where
  row : RawR w g base n c raw
  len : ((xs.take j).filter fun x => !p x).length = i
  kept : ∀ (k : Nat) r y, k < i → raw[k]? = some r → ((xs.take j).filter fun x => !p x)[k]? = some y → RuE.rel (fun b => ok b ∧ b ≠ g) w r y
  rest : ∀ (k : Nat) r y, j ≤ k → raw[k]? = some r → xs[k]? = some y → RuE.rel (fun b => ok b ∧ b ≠ g) w r y
  kp : Kp base g w0 w
section
variable {ok : Nat → Prop} {p : Ru → Bool} {xs : List Ru} {w0 w w' : World} {g base n c i j : Nat} {raw : List (Nat × SlV)}
theorem DelS.via (h : DelS ok p xs w0 g base n c i j raw w) (hs : base ≤ w0.heap.size) (hb : Below w.heap.size w w') : DelS ok p xs w0 g base n c i j raw w' :=
  ⟨h.row.via hb, h.len, fun k r y h1 h2 h3 => RuE.agr (h.kept k r y h1 h2 h3) (Agr.below hb), fun k r y h1 h2 h3 => RuE.agr (h.rest k r y h1 h2 h3) (Agr.below hb), h.kp.via hs hb⟩
theorem DelS.skip (h : DelS ok p xs w0 g base n c i j raw w) {y : Ru} (hy : xs[j]? = some y) (hp : p y = true) : DelS ok p xs w0 g base n c i (j + 1) raw w := by
  have e := filter_take (p := p) hy
  rw [if_pos hp, List.append_nil] at e
  exact ⟨h.row, by rw [e]; exact h.len, by rw [e]; exact h.kept, fun k r y h1 h2 h3 => h.rest k r y (by omega) h2 h3, h.kp⟩
theorem DelS.keep (h : DelS ok p xs w0 g base n c i j raw w) {y : Ru} {r : Nat × SlV} (hy : xs[j]? = some y) (hp : p y = false) (hr : raw[j]? = some r) (hij : i ≤ j) (hin : i < n) :
    DelS ok p xs w0 g base n c (i + 1) (j + 1) (raw.set i r) ((w.setCell ⟨g, i * 2, none⟩ (.int .i64 (r.1 : Int))).setCell ⟨g, i * 2 + 1, none⟩ (.slice r.2.1 r.2.2.1 r.2.2.2)) := by
  have e := filter_take (p := p) hy
  rw [hp] at e
  simp only [Bool.false_eq_true, if_false] at e
  have hrl := h.row.2.2.2.1
  have ha : Agr (fun b => ok b ∧ b ≠ g) w ((w.setCell ⟨g, i * 2, none⟩ (.int .i64 (r.1 : Int))).setCell ⟨g, i * 2 + 1, none⟩ (.slice r.2.1 r.2.2.1 r.2.2.2)) :=
    (Agr.setCell _ fun b hb => hb.2).trans (Agr.setCell _ fun b hb => hb.2)
  refine ⟨h.row.set hin r, by rw [e, List.length_append, h.len]; rfl, fun k q z h1 h2 h3 => ?_, fun k q z h1 h2 h3 => ?_, (h.kp.cell rfl h.row.1 _).cell rfl h.row.1 _⟩
  · refine RuE.agr ?_ ha
    rw [e] at h3
    rcases Nat.lt_or_ge k i with hk | hk
    · rw [List.getElem?_set_ne (by omega)] at h2
      rw [List.getElem?_append_left (by rw [h.len]; exact hk)] at h3
      exact h.kept k q z hk h2 h3
    · obtain rfl : k = i := by omega
      rw [List.getElem?_set_self (by omega)] at h2
      rw [List.getElem?_append_right (by rw [h.len]; exact Nat.le_refl _), h.len, Nat.sub_self] at h3
      simp only [List.getElem?_cons_zero, Option.some.injEq] at h2 h3
      subst h2 h3
      exact h.rest j r y (Nat.le_refl _) hr hy
  · refine RuE.agr ?_ ha
    rw [List.getElem?_set_ne (by omega)] at h2
    exact h.rest k q z (by omega) h2 h3
end
set_option maxRecDepth 100000 in
set_option maxHeartbeats 4000000 in
theorem delRu_c (fid : Nat) (he : ∀ (args : Array Value) (w : World), (callFunc fid args).run Try.prog w = .ok (.enter fid args) w) (caps : Array Value) (ok : Nat → Prop) (A : Option Addr) (base n c : Nat) (xs : List Ru) (p : Ru → Bool) (w : World) (h : Own RuE 47 ok w base (.slice A n c) n xs) (hbase : base ≤ w.heap.size) (hn : n ≤ 100000)
    (hf : ∀ g w' r x, A = some ⟨g, 0, none⟩ → Kp base g w w' → x ∈ xs → RuE.rel (fun _ => True) w' r x → Calls Try.prog fid (#[ruVal r] ++ caps) w' fun e w'' => e = .returned (.bool (p x)) ∧ Below w'.heap.size w' w'') :
    Calls Try.prog 19 #[.slice A n c, .func (.func fid) #[] caps] w (DelP base A c ok (xs.filter fun x => !p x) w) := by
  rcases A with _ | ad
  · have hx : xs = [] ∧ n = 0 := by
      obtain ⟨h1, raw, h2, h3, h4⟩ := h
      rcases h3.2 with ⟨e, h0⟩ | ⟨g', cap, cur, hv, _⟩
      · exact ⟨List.eq_nil_of_length_eq_zero (by omega), h0⟩
      · cases hv
    obtain ⟨rfl, rfl⟩ := hx
    have H := Lib.hid h
    clear h hf
    go_enter Try.func19, Try.ntmps19
    go_wp2_with fail
    refine (idxRu_c fid he caps (fun _ => True) none 0 c [] p w ⟨rfl, Nat.zero_le _, [], rfl, Cel.nil, fun i r x h => by simp at h⟩ (by omega) (fun w' r x _ hx => absurd hx (List.not_mem_nil))).mono ?_
    rintro e w1 ⟨r, rfl, hb, hr⟩
    obtain rfl : r = -1 := by
      rcases hr with ⟨rfl, -⟩ | ⟨i, -, ⟨x, hx, -⟩, -⟩
      · rfl
      · simp at hx
    have HB := Lib.hid hb
    clear hb hr
    go_wp2_with fail
    go_ret
    exact ⟨rfl, H.out.via HB.out, fun g e => (by cases e), fun _ => HB.out, HB.out.mono hbase⟩
  · obtain ⟨g, rfl⟩ : ∃ g, ad = ⟨g, 0, none⟩ := by
      obtain ⟨h1, raw, h2, h3, h4⟩ := h
      rcases h3.2 with ⟨e, h0⟩ | ⟨g', cap, cur, hv, _⟩
      · cases e
      · cases hv; exact ⟨g', rfl⟩
    obtain ⟨raw0, hrow, hrel⟩ := h.rawR
    have hrel' : ∀ (i : Nat) r y, raw0[i]? = some r → xs[i]? = some y → RuE.rel (fun b => ok b ∧ b ≠ g) w r y := fun i r y h1 h2 => RuE.mono (hrel i r y h1 h2) fun b _ hb => ⟨hb.1, fun e => hb.2 (by rw [e]; rfl)⟩
    have hlx := h.len
    have hg := hrow.1
    have hnc := hrow.2.1
    have hrl := hrow.2.2.2.1
    have H := Lib.hid h
    have HF := Lib.hid (fun w' r x => hf g w' r x rfl)
    have HROW := Lib.hid hrow
    have HREL := Lib.hid hrel'
    have HSL := Lib.hid (h.toSl (ok' := fun _ => True) (fun _ _ _ => trivial) (fun _ _ => trivial))
    clear h hf hrow hrel hrel'
    go_enter Try.func19, Try.ntmps19
    go_wp2_with fail
    refine (idxRu_c fid he caps (fun _ => True) (some ⟨g, 0, none⟩) n c xs p w HSL.out (by omega) (fun w' r x hb hx hr => HF.out w' r x (Kp.refl.via hbase hb) hx hr)).mono ?_
    rintro e w1 ⟨r, rfl, hb, hr⟩
    rcases hr with ⟨rfl, h0⟩ | ⟨i0, rfl, ⟨x0, hx0, hp0⟩, hbef⟩
    · have HB := Lib.hid hb
      have HE := Lib.hid (show (xs.filter fun x => !p x) = xs from List.filter_eq_self.2 fun x hx => by rw [h0 x hx]; rfl)
      clear hb h0
      go_wp2_with fail
      go_ret
      have ho := H.out.via HB.out
      refine ⟨by rw [HE.out, hlx]; rfl, by rw [HE.out, hlx]; exact ho, fun g' e => (by cases e; exact Kp.refl.via hbase HB.out), fun e => (by cases e), HB.out.mono hbase⟩
    · have hi0 : i0 < n := by have := (List.getElem?_eq_some_iff.1 hx0).1; omega
      have hS : DelS ok p xs w g base n c i0 (i0 + 1) raw0 w := by
        have e0 : (xs.take i0).filter (fun x => !p x) = xs.take i0 := List.filter_eq_self.2 fun x hx => by
          obtain ⟨k, hk⟩ := List.getElem?_of_mem hx
          have hkl := (List.getElem?_eq_some_iff.1 hk).1
          rw [List.length_take] at hkl
          rw [List.getElem?_take, if_pos (by omega)] at hk
          rw [hbef k x (by omega) hk]; rfl
        have e1 : (xs.take (i0 + 1)).filter (fun x => !p x) = xs.take i0 := by rw [filter_take hx0, if_pos hp0, List.append_nil, e0]
        refine ⟨HROW.out, by rw [e1, List.length_take]; omega, fun k r y h1 h2 h3 => ?_, fun k r y h1 h2 h3 => HREL.out k r y h2 h3, Kp.refl⟩
        rw [e1, List.getElem?_take, if_pos h1] at h3
        exact HREL.out k r y h2 h3
      have HS := Lib.hid (hS.via hbase hb)
      have hne : ((i0 : Int) == -1) = false := by simp
      clear hb hS hbef hx0 hp0
      go_wp2_with fail
      clear hne
      go_loopw [5, 6] (fun s5 s6 wr => ∃ (i j : Nat) (raw : List (Nat × SlV)), s5 = .int .i64 i ∧ s6 = .int .i64 j ∧ i < j ∧ j ≤ n ∧ Hid (DelS ok p xs w g base n c i j raw wr)) (fun _ s6 _ => n - (intOf s6).toNat)
      case atStart => exact ⟨i0, i0 + 1, raw0, rfl, by go_num, by omega, by omega, HS⟩
      case round =>
        obtain ⟨i, j, raw, rfl, rfl, hij, hjn, HD⟩ := hrel
        have hrl2 := HD.out.row.2.2.2.1
        have hszr := HD.out.kp.size
        by_cases hjl : j < n
        · as_aux_lemma =>
          have hxj : xs[j]? = some xs[j] := List.getElem?_eq_getElem (by omega)
          have hrj : raw[j]? = some raw[j] := List.getElem?_eq_getElem (by omega)
          have hri : raw[i]? = some raw[i] := List.getElem?_eq_getElem (by omega)
          generalize xs[j] = y at hxj
          generalize raw[j] = rj at hrj
          generalize raw[i] = ri at hri
          have hrely := HD.out.rest j rj y (Nat.le_refl _) hrj hxj
          obtain ⟨xl, xA, xn, xc⟩ := rj
          obtain ⟨yl, yA, yn, yc⟩ := ri
          obtain ⟨c0, c1⟩ := HD.out.row.cell hrj
          simp only at c0 c1
          have hBx := (Below.refl wr.heap.size wr).al (.cells #[.int .i64 (xl : Int), .slice xA xn xc] 47)
          have BX := Blk.new wr 47 #[.int .i64 (xl : Int), .slice xA xn xc]
          have HD2 := Lib.hid (HD.out.via hbase hBx)
          have HY := Lib.hid (RuE.mono (RuE.agr hrely (Agr.below hBx)) (ok' := fun _ => True) fun _ _ _ => trivial)
          have i0' : (0 : Int) ≤ (j : Int) := by omega
          have i1 : (j : Int) < (n : Int) := by omega
          have HXJ := Lib.hid hxj
          have HRJ := Lib.hid hrj
          have HRI := Lib.hid hri
          clear hBx hrely hxj hrj hri
          go_upto_region 8 with fail
          clear c0 c1
          generalize wr.alloc (.cells #[.int .i64 (xl : Int), .slice xA xn xc] 47) = wx at *
          have cBX := BX.cell
          have fBX := BX.frozen
          have lBX := BX.lt
          go_wp2_with fail
          clear cBX fBX lBX
          refine (HF.out wx (xl, xA, xn, xc) y HD2.out.kp (List.mem_of_getElem? HXJ.out) HY.out).mono ?_
          rintro e w2 ⟨rfl, hb2⟩
          have HD3 := Lib.hid (HD2.out.via hbase hb2)
          replace BX := BX.via hb2
          clear hb2
          cases hp : p y
          case true =>
            have HP := Lib.hid (HD3.out.skip HXJ.out hp)
            clear hp
            go_wp2_with fail
            exact ⟨⟨i, j + 1, raw, rfl, by go_num, by omega, by omega, HP⟩, by simp [intOf]; omega⟩
          case false =>
            have HP := Lib.hid (HD3.out.keep HXJ.out hp HRJ.out (by omega) (by omega))
            obtain ⟨d0, d1⟩ := HD3.out.row.cell HRI.out
            have fr := HD3.out.row.frozen
            have i2 : (0 : Int) ≤ (i : Int) := by omega
            have i3 : (i : Int) < (n : Int) := by omega
            have hgx : g ≠ wr.heap.size := by have := HD.out.row.lt; omega
            clear hp
            have cBX := BX.cell
            have fBX := BX.frozen
            have lBX := BX.lt
            go_wp2_with fail
            exact ⟨⟨i + 1, j + 1, _, by go_num, by go_num, by omega, by omega, HP⟩, by simp [intOf]; omega⟩
        · obtain rfl : j = n := by omega
          have hT : xs.take j = xs := List.take_of_length_le (by omega)
          have hfl := HD.out.len
          rw [hT] at hfl
          obtain ⟨wc, hclr, hrow2, hagr, hbel, hsz2⟩ := run_clear_ru HD.out.row (show i ≤ j by omega)
          have i2 : (0 : Int) ≤ (i : Int) := by omega
          have i3 : (i : Int) ≤ (j : Int) := by omega
          have i4 : (i : Int) ≤ (c : Int) := by omega
          have i5 : (j : Int) ≤ (c : Int) := by omega
          have hne2 : ¬ (c = i) := by omega
          have HROW2 := Lib.hid hrow2
          have HAG := Lib.hid hagr
          have HBE := Lib.hid hbel
          have HFL := Lib.hid hfl
          clear hrow2 hagr hbel hfl
          have HKP := Lib.hid HD.out.kp
          have HKEPT := Lib.hid (show ∀ (k : Nat) r y, (raw.take i)[k]? = some r → (xs.filter fun x => !p x)[k]? = some y → RuE.rel (fun b => ok b ∧ some b ≠ (Value.slice (some ⟨g, 0, none⟩) i c).ownBlock) wc r y from fun k r y h1 h2 => by
            have hki : k < i := by have := (List.getElem?_eq_some_iff.1 h2).1; rw [HFL.out] at this; exact this
            rw [List.getElem?_take, if_pos hki] at h1
            have := HD.out.kept k r y hki h1 (by rw [hT]; exact h2)
            exact RuE.mono (RuE.agr this (HAG.out.mono fun b hb => hb.2)) fun b _ hb => ⟨hb.1, fun e => hb.2 (by simpa [Value.ownBlock] using e)⟩)
          clear hT
          go_wp2_with fail
          go_ret
          have hfin := HROW2.out.own HFL.out HKEPT.out
          refine ⟨by rw [HFL.out]; rfl, by rw [HFL.out]; exact hfin, fun g' e => ?_, fun e => (by cases e), HKP.out.bel.trans HBE.out⟩
          cases e
          exact ⟨HKP.out.agr.trans HAG.out, HKP.out.bel.trans HBE.out, by omega⟩
end Go.Proofs.Ytdmecijpioljaaa

