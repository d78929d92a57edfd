/- Texts TS, laid together. -/
import Derived.Test.YthiikgjeamoocaaDoorQ21
import Derived.Test.YthiikgjeamoocaaDoorQ11




namespace Go.Proofs.YthiikgjeamoocaaDoor
open Go.RowKit
open Go.MapKept
open Go.ChangeMaps (setBlock heap_setBlock_same heap_setBlock_other)

theorem wkVal_inj (x y : WtK) (h : wkVal x = wkVal y) : x = y := by
  obtain ⟨a, b⟩ := x
  obtain ⟨c, d⟩ := y
  simp [wkVal] at h
  obtain ⟨h1, h2⟩ := h
  simp only [Prod.mk.injEq]
  exact ⟨by omega, by omega⟩
theorem wk_keyed : Maps.Keyed Tryd.prog 148 :=
  Maps.Keyed.of_law (deep_law_laid laidOutK (m := 2) (by omega) (of_decide_eq_true (by kernel_rfl)) (by kernel_rfl) (by rw [Tryd.underlying148]))
theorem wk_key (x : WtK) (h1 : x.1 ≤ 1000000000000) (h2 : x.2 ≤ 1000000000000) : ∃ l, keyOf Tryd.prog 148 (wkVal x) = some l := by
  have hc : Tryd.prog.cellsOf 148 = 2 := by kernel_rfl
  have hi : Tryd.prog.cellsOf 3 = 1 := by kernel_rfl
  have w1 : (Lit.int .i64 (x.1 : Int)).wf = true := WalkArith.wf_i64 (by omega)
  have w2 : (Lit.int .i64 (x.2 : Int)).wf = true := WalkArith.wf_i64 (by omega)
  have hf : (wkVal x).formed Tryd.prog 148 = true := by simp [Value.formed, Tryd.underlying148, hc, wkVal]
  have hk : Tryd.prog.keyLits (Tryd.prog.types.size + 1) 148 [.int .i64 (x.1 : Int), .int .i64 (x.2 : Int)] = some [.int .i64 (x.1 : Int), .int .i64 (x.2 : Int)] := by
    have e : Tryd.prog.types.size + 1 = (Tryd.prog.types.size - 1) + 1 + 1 := by have : 1 ≤ Tryd.prog.types.size := of_decide_eq_true (by kernel_rfl); omega
    rw [e]
    generalize Tryd.prog.types.size - 1 = d
    simp [Program.keyLits, Tryd.underlying148, Tryd.underlying3, hc, hi, w1, w2]
  refine ⟨.string (keyBytes [.int .i64 (x.1 : Int), .int .i64 (x.2 : Int)]), ?_⟩
  unfold keyOf
  rw [Tryd.underlying148]
  simp only [hf, Bool.and_true]
  rw [if_pos (by kernel_rfl)]
  show Option.map _ (Tryd.prog.keyLits _ _ [.int .i64 (x.1 : Int), .int .i64 (x.2 : Int)]) = _
  rw [hk]; rfl
section
variable {κ : Type} [DecidableEq κ] {P : Program} {k : TypeId} {kk : κ → Value} {f : κ → Option Value} {w w' : World} {b : Nat} {t e : TypeId}
/-- as MapK.entry, with what stood there -/
theorem MapK.entryV (h : MapK P k kk w b f) (K : Maps.Keyed P k) (ht : P.underlying t = some (.map k e)) (hinj : ∀ x y, kk x = kk y → x = y) (y : κ) {kl : Lit} (hkey : keyOf P k (kk y) = some kl) {z : Value} (hz : (zeroValue e).run P w = .ok z w)
    (hroom : ∀ es clock, w.heap[b]? = some (.map es clock) → es.size < maxLen) :
    ∃ (w1 : World) (st : Nat) (v0 : Value), (Instr.mapEntry t (.map (some b)) (kk y)).run P w = .ok (.tuple #[v0, .int .i64 (st : Int)]) w1 ∧ v0 = (f y).getD z ∧ w.grownBy w1 (some b) ∧ w1.heap.size = w.heap.size ∧
      ∀ (val : Value) (w1' : World), w1'.heap[b]? = w1.heap[b]? → ∃ w2, (Instr.entryStore t (.map (some b)) (.int .i64 (st : Int)) val).run P w1' = .ok () w2 ∧ MapK P k kk w2 b (fun x => if x = y then some val else f x) ∧ w1'.grownBy w2 (some b) ∧ w2.heap.size = w1'.heap.size := by
  have hst0 := fun val => h.store K ht hinj y val hkey hroom
  obtain ⟨es, clock, hb, F, hk, hf⟩ := h
  have hst := F.stamped
  rcases K.find w hkey es.toList F.keys with ⟨h1, h2⟩ | ⟨j, e0, h1, h2, h3⟩
  · have hr1 : (Instr.mapEntry t (.map (some b)) (kk y)).run P w = .ok (.tuple #[z, .int .i64 (clock : Int)]) (setBlock w b (.map (es.push ⟨kk y, z, clock⟩) (clock + 1))) := by
      simp [Instr.mapEntry, run_underlying ht, MapKept.run_getObj_map hb, K.check w false hkey, h1, hz, MapKept.run_setObj_map _ hb, Result.andThen, setBlock, goInt]
    have hfn : f y = none := by
      cases hfy : f y with
      | none => rfl
      | some v => obtain ⟨x, hx, hk1, -⟩ := (hf y v).1 hfy; exact absurd hk1 (h2 x hx)
    refine ⟨_, clock, z, hr1, by rw [hfn]; rfl, ⟨rfl, rfl, rfl, by simp [setBlock], fun i _ hi => sbK_other (fun e => hi (by rw [e]))⟩, by simp [setBlock], fun val w1' hb1 => ?_⟩
    obtain ⟨w', hrunS, hS, -, -⟩ := hst0 val
    have hr2 : (Instr.mapUpdate t (.map (some b)) (kk y) val).run P w = .ok () (setBlock w b (.map (es.push ⟨kk y, val, clock⟩) (clock + 1))) := by
      simp [Instr.mapUpdate, run_underlying ht, MapKept.run_getObj_map hb, K.check w false hkey, h1, MapKept.run_setObj_map _ hb, Result.andThen, setBlock]
    rw [hrunS] at hr2
    have hw2 : w' = setBlock w b (.map (es.push ⟨kk y, val, clock⟩) (clock + 1)) := by injection hr2
    rw [sbK_same hb] at hb1
    have hfi : (es.push ⟨kk y, z, clock⟩).findIdx? (fun e => (e.born : Int) == ((clock : Nat) : Int)) = some es.size := by
      have hn : ((es.push ⟨kk y, z, clock⟩).toList.map (·.born)).Nodup := by
        simp only [Array.toList_push, List.map_append, List.map_cons, List.map_nil]
        rw [List.nodup_append]
        refine ⟨hst.2.1, by simp, fun a ha c hc e => ?_⟩
        simp only [List.mem_singleton] at hc
        subst hc
        obtain ⟨x, hx, rfl⟩ := List.mem_map.1 ha
        have := hst.1 x hx
        omega
      exact findIdx_born (l := (es.push ⟨kk y, z, clock⟩).toList) rfl (j := es.size) (e0 := ⟨kk y, z, clock⟩) hn (by simp)
    have hmod : (es.push ⟨kk y, z, clock⟩).modify es.size (fun e => { e with val := val }) = es.push ⟨kk y, val, clock⟩ := by
      apply Array.toList_inj.1
      rw [Array.toList_modify, ChangeMaps.modify_eq_set _ _ _ (⟨kk y, z, clock⟩ : MapEntry) (by simp)]
      simp
    have hrE : (Instr.entryStore t (.map (some b)) (.int .i64 (clock : Int)) val).run P w1' = .ok () (setBlock w1' b (.map (es.push ⟨kk y, val, clock⟩) (clock + 1))) := by
      simp [Instr.entryStore, MapKept.run_getObj_map hb1, asInt, asIntOf, hfi, hmod, MapKept.run_setObj_map _ hb1, Result.andThen, setBlock]
    refine ⟨_, hrE, hS.agr_ ?_, ⟨rfl, rfl, rfl, by simp [setBlock], fun i _ hi => sbK_other (fun e => hi (by rw [e]))⟩, by simp [setBlock]⟩
    rw [sbK_same hb1, hw2, sbK_same hb]
  · have hj : es[j]? = some e0 := by simpa using h2
    have hr1 : (Instr.mapEntry t (.map (some b)) (kk y)).run P w = .ok (.tuple #[e0.val, .int .i64 (e0.born : Int)]) (setBlock w b (.map (es.modify j (fun e' => { e' with key := kk y })) clock)) := by
      simp [Instr.mapEntry, run_underlying ht, MapKept.run_getObj_map hb, K.check w false hkey, h1, hj, h3, K.stays w hkey, MapKept.run_setObj_map _ hb, Result.andThen, setBlock, goInt]
    have hfs : f y = some e0.val := (hf y e0.val).2 ⟨e0, List.mem_of_getElem? h2, h3, rfl⟩
    refine ⟨_, e0.born, e0.val, hr1, by rw [hfs]; rfl, ⟨rfl, rfl, rfl, by simp [setBlock], fun i _ hi => sbK_other (fun e => hi (by rw [e]))⟩, by simp [setBlock], fun val w1' hb1 => ?_⟩
    obtain ⟨w', hrunS, hS, -, -⟩ := hst0 val
    have hr2 : (Instr.mapUpdate t (.map (some b)) (kk y) val).run P w = .ok () (setBlock w b (.map (es.modify j (fun e' => { e' with key := kk y, val := val })) clock)) := by
      simp [Instr.mapUpdate, run_underlying ht, MapKept.run_getObj_map hb, K.check w false hkey, h1, hj, h3, K.stays w hkey, MapKept.run_setObj_map _ hb, Result.andThen, setBlock]
    rw [hrunS] at hr2
    have hw2 : w' = setBlock w b (.map (es.modify j (fun e' => { e' with key := kk y, val := val })) clock) := by injection hr2
    rw [sbK_same hb] at hb1
    have hl1 : (es.modify j (fun e' => { e' with key := kk y })).toList = es.toList.set j { e0 with key := kk y } := by rw [Array.toList_modify, ChangeMaps.modify_eq_set _ _ _ _ h2]
    have hjl : j < es.toList.length := (List.getElem?_eq_some_iff.1 h2).1
    have hfi : (es.modify j (fun e' => { e' with key := kk y })).findIdx? (fun e => (e.born : Int) == ((e0.born : Nat) : Int)) = some j := by
      have hn : ((es.modify j (fun e' => { e' with key := kk y })).toList.map (·.born)).Nodup := by
        rw [hl1, List.map_set]
        have : (es.toList.map (·.born)).set j e0.born = es.toList.map (·.born) := by
          have e1 : (es.toList.map (·.born))[j]? = some e0.born := by rw [List.getElem?_map, h2]; rfl
          obtain ⟨e2, e3⟩ := List.getElem?_eq_some_iff.1 e1
          conv => lhs; rw [← e3]
          exact List.set_getElem_self e2
        show ((es.toList.map (·.born)).set j e0.born).Nodup
        rw [this]; exact hst.2.1
      exact findIdx_born (l := (es.modify j (fun e' => { e' with key := kk y })).toList) rfl (j := j) (e0 := { e0 with key := kk y }) hn (by rw [hl1, List.getElem?_set_self hjl])
    have hmod : (es.modify j (fun e' => { e' with key := kk y })).modify j (fun e => { e with val := val }) = es.modify j (fun e' => { e' with key := kk y, val := val }) := by
      apply Array.toList_inj.1
      rw [Array.toList_modify, hl1, ChangeMaps.modify_eq_set _ _ _ ({ e0 with key := kk y } : MapEntry) (by rw [List.getElem?_set_self hjl]), Array.toList_modify, ChangeMaps.modify_eq_set _ _ _ _ h2]
      simp
    have hrE : (Instr.entryStore t (.map (some b)) (.int .i64 (e0.born : Int)) val).run P w1' = .ok () (setBlock w1' b (.map (es.modify j (fun e' => { e' with key := kk y, val := val })) clock)) := by
      simp [Instr.entryStore, MapKept.run_getObj_map hb1, asInt, asIntOf, hfi, hmod, MapKept.run_setObj_map _ hb1, Result.andThen, setBlock]
    refine ⟨_, hrE, hS.agr_ ?_, ⟨rfl, rfl, rfl, by simp [setBlock], fun i _ hi => sbK_other (fun e => hi (by rw [e]))⟩, by simp [setBlock]⟩
    rw [sbK_same hb1, hw2, sbK_same hb]
end
theorem wSum_len : ∀ {W : Wts}, WOk W → W.length ≤ wSum W
  | [], _ => Nat.zero_le _
  | p :: W, h => by
    have hk := h.keys
    rw [List.map_cons, List.nodup_cons] at hk
    have ih := wSum_len (W := W) ⟨hk.2, fun q hq => h.rows q (List.mem_cons_of_mem _ hq)⟩
    have hp : 0 < p.2.length := List.length_pos_iff.2 (h.rows p (List.mem_cons_self ..))
    unfold wSum at ih ⊢
    rw [List.map_cons, List.sum_cons, List.length_cons]; omega
theorem waits_room {P : Program} {k : TypeId} {w : World} {b : Nat} {F : WtK → Option Value} {W : Wts} (h : MapK P k wkVal w b F) (hno : ∀ k, F k = none ↔ wGet W k = []) (hw : WOk W) : ∀ es clock, w.heap[b]? = some (.map es clock) → es.size ≤ W.length := by
  have hin : ∀ y, F y ≠ none → y ∈ W.map (·.1) := fun y hy => by
    have h1 : ¬ wGet W y = [] := fun e => hy ((hno y).2 e)
    rw [wGet_nil hw] at h1
    exact Classical.not_not.1 h1
  refine h.room (fun y => (W.map (·.1)).idxOf y) W.length (fun y hy => by
    have := List.idxOf_lt_length_iff.2 (hin y hy)
    rwa [List.length_map] at this) fun y z hy hz e => ?_
  have e1 := List.getElem_idxOf (List.idxOf_lt_length_iff.2 (hin y hy))
  have e2 := List.getElem_idxOf (List.idxOf_lt_length_iff.2 (hin z hz))
  rw [← e1, ← e2]
  congr 1
/-- what a try may touch -/
abbrev TryS (tg : Nat → Tg) (L : List (List CT)) (b : Nat) : Prop := tg b = .fix ∨ tg b = .que ∨ ∃ k, tg b = .wait k ∧ (lstAt L k.1).length ≤ k.2
section
variable {w0 w w' : World} {bl lb bs bw : Nat} {A : Option Addr} {n c : Nat} {root most : Int} {tg : Nat → Tg} {st : LsS} {qv : Value} {vs : Nat → Value} {F : WtK → Option Value}
open Classical in
/-- heap.Push has been called -/
theorem LsM.pushed {e : Ending} {m : Nat} {q' : List QE} (h : LsM w0 bl lb bs bw A n c root most tg st qv vs F w)
    (hp : PuP w0.heap.size bl (.slice A n c) (.int .i64 root) (.int .i64 most) (.slice (some ⟨lb, 0, none⟩) n n) (.map (some bs)) (.map (some bw)) (OkT tg) m q' qv w e w') (hm : q'.length = m) :
    e = .returned (.tuple #[]) ∧ ∃ tg' qv', LsM w0 bl lb bs bw A n c root most tg' { st with q := q' } qv' vs F w' ∧ (∀ b, b < w.heap.size → tg' b = tg b) ∧ Frq (TryS tg st.lists) w w' := by
  obtain ⟨g, d, he, hQ, hg, hF⟩ := hp
  subst hm
  have old : g < w.heap.size → tg g = .que := fun hlt => by
    rcases hg with hg | hg
    · exact h.qtg g hg.symm
    · omega
  have hT : ∀ b, b < w.heap.size → (if b = g then Tg.que else tg b) = tg b := fun b hb => by
    split
    · next e => subst e; exact (old hb).symm
    · rfl
  refine ⟨he, fun b => if b = g then .que else tg b, _, h.setQ hF (fun b hb _ => ?_) hT (fun b hb => ?_) ⟨hQ.own.mono fun b _ hk => ?_, hQ.blk, hQ.ne, hQ.okq⟩ (fun b hb => ?_), hT, hF.mono fun b _ hb => ?_⟩
  · rcases hb with hb | hb
    · exact Or.inl hb
    · exact Or.inr (h.qtg b hb.symm)
  · by_cases e : b = g
    · subst e; exact hQ.own.lt b rfl
    · simp only [if_neg e] at hb
      have := h.rng b hb
      exact ⟨this.1, Nat.lt_of_lt_of_le this.2 hF.size⟩
  · show (if b = g then Tg.que else tg b) = .tree
    have hk' : tg b = .tree := hk
    by_cases e : b = g
    · subst e
      have := (h.rng b (by rw [hk']; exact fun e => by cases e)).2
      rw [old this] at hk'; cases hk'
    · rw [if_neg e]; exact hk'
  · have e : g = b := by simpa [Value.ownBlock] using hb
    simp [e]
  · rcases hb with hb | hb
    · subst hb; exact Or.inl h.fix.1
    · exact Or.inr (Or.inl (h.qtg b hb.symm))
open Classical in
/-- a candidate has been laid at what it waits for -/
theorem LsM.waited {k : WtK} {c0 : Cand} {V V' : Value} (h : LsM w0 bl lb bs bw A n c root most tg st qv vs F w) (hV : V = (F k).getD (.slice none 0 0)) (hF : Frq (fun b => b = bw ∨ some b = V.ownBlock) w w')
    (ho : Own WtE 114 (fun _ => False) w' w0.heap.size V' (wGet st.waits k ++ [c0]).length (wGet st.waits k ++ [c0])) (hat : V'.ownBlock = V.ownBlock ∨ ∀ b, V'.ownBlock = some b → w.heap.size ≤ b)
    (hm : MapK Tryd.prog 148 wkVal w' bw fun x => if x = k then some V' else F x) (hk : (lstAt st.lists k.1).length ≤ k.2) :
    ∃ tg', LsM w0 bl lb bs bw A n c root most tg' { st with waits := wAdd st.waits k c0 } qv vs (fun x => if x = k then some V' else F x) w' ∧ (∀ b, b < w.heap.size → tg' b = tg b) ∧ Frq (TryS tg st.lists) w w' := by
  have hVt : ∀ b, V.ownBlock = some b → tg b = .wait k := fun b hb => by
    cases hf : F k with
    | none => rw [hV, hf] at hb; cases hb
    | some V0 => rw [hV, hf] at hb; exact h.wtg k V0 b hf hb
  have hT : ∀ b, b < w.heap.size → (if V'.ownBlock = some b then Tg.wait k else tg b) = tg b := fun b hb => by
    split
    · next e =>
      rcases hat with h1 | h1
      · exact (hVt b (h1.symm.trans e)).symm
      · have := h1 b e; omega
    · rfl
  refine ⟨fun b => if V'.ownBlock = some b then .wait k else tg b, h.setWait (k := k) (hF.mono fun b _ hb => ?_) hT (fun b hb => ?_) hm (fun j hj => if_neg hj) (fun j hj => by rw [wGet_add, if_neg hj]) (Or.inr ⟨V', if_pos rfl, by rw [wGet_add, if_pos rfl]; simp, by rw [wGet_add, if_pos rfl]; exact ho, fun b hb => if_pos hb⟩), hT, hF.mono fun b _ hb => ?_⟩
  · rcases hb with hb | hb
    · exact Or.inl hb
    · exact Or.inr (hVt b hb.symm)
  · by_cases e : V'.ownBlock = some b
    · exact ho.lt b e
    · simp only [if_neg e] at hb
      have := h.rng b hb
      exact ⟨this.1, Nat.lt_of_lt_of_le this.2 hF.size⟩
  · rcases hb with hb | hb
    · subst hb; exact Or.inl h.fix.2.2.2
    · exact Or.inr (Or.inr ⟨k, hVt b hb.symm, hk⟩)
end
theorem LInv.small {nd : List NdI} {most base : Nat} {st : LsS} {hand rem : Nat} (h : LInv nd most base st hand rem) {m : Nat} (hb : base + 4 * (nd.length * most) ≤ m) : st.q.length + wSum st.waits + hand ≤ m ∧ st.seen.length ≤ m ∧ st.waits.length ≤ m := by
  have h1 := sumL_le st.lists fun v => (h.lst v).1
  rw [h.len] at h1
  have h2 := h.cnt
  have h3 := h.scn
  have h4 := wSum_len h.wk
  omega
end Go.Proofs.YthiikgjeamoocaaDoor

