/- Texts BS, BV, laid together. -/
import Derived.Test.YtbfcnfgkccgbiaaGreatDoorQ16
import Derived.Test.YtbfcnfgkccgbiaaGreatDoorQ10



namespace Go.Proofs.YtbfcnfgkccgbiaaGreatDoor
open Go.RowKit

/-- in the list or not, as a map's value -/
def memF (L : List Ky) (k : Ky) : Option Value := if k ∈ L then some (.bool true) else none
/-- the map of the packs of the first nodes -/
structure WlM (w0 : World) (g : Gr) (n : Nat) (D : Ky → Bool) (gC : Array Value) (bg bR b8 bs bp : Nat) (root : Ky) (L : List Ky) (v : Value) (Sn F : Ky → Option Value) (wr : World) : Prop where
  bel : Below w0.heap.size w0 wr
  gb : Blk wr bg 24 gC
  rb : Blk wr bR 180 (kyC root)
  fb : Blk wr b8 34 #[.slice none 0 0, .int .i64 0]
  own : Own KyE 180 (fun _ => False) wr w0.heap.size v L.length L
  seen : MapK Tryz.prog 180 kyVal wr bs Sn
  pk : MapK Tryz.prog 180 kyVal wr bp F
  sok : ∀ k, Sn k ≠ none → KyOk g n k
  fok : ∀ k, F k ≠ none → KyOk g n k
  rows : ∀ k V, F k = some V → ∃ A c, V = .slice A (packsF D g.rules k).length c ∧ Sl PkE (fun b => w0.heap.size ≤ b ∧ b ≠ bs ∧ b ≠ bp ∧ some b ≠ v.ownBlock) wr A (packsF D g.rules k).length c (packsF D g.rules k)
  ge : w0.heap.size ≤ bs ∧ w0.heap.size ≤ bp ∧ w0.heap.size ≤ bg ∧ w0.heap.size ≤ bR ∧ w0.heap.size ≤ b8
  ne : bg ≠ bs ∧ bg ≠ bp ∧ bR ≠ bs ∧ bR ≠ bp ∧ b8 ≠ bs ∧ b8 ≠ bp ∧ bs ≠ bp
  nr : some bg ≠ v.ownBlock ∧ some bR ≠ v.ownBlock ∧ some b8 ≠ v.ownBlock ∧ some bs ≠ v.ownBlock ∧ some bp ≠ v.ownBlock
section
variable {w0 wr wr' : World} {g : Gr} {n : Nat} {D : Ky → Bool} {gC : Array Value} {bg bR b8 bs bp : Nat} {root : Ky} {L : List Ky} {v : Value} {Sn F : Ky → Option Value}
theorem WlM.size (h : WlM w0 g n D gC bg bR b8 bs bp root L v Sn F wr) : w0.heap.size ≤ wr.heap.size := h.bel.size
theorem WlM.via (h : WlM w0 g n D gC bg bR b8 bs bp root L v Sn F wr) (hb : Below wr.heap.size wr wr') : WlM w0 g n D gC bg bR b8 bs bp root L v Sn F wr' :=
  ⟨h.bel.via hb, h.gb.via hb, h.rb.via hb, h.fb.via hb, h.own.via hb, h.seen.via hb, h.pk.via hb, h.sok, h.fok, fun k V hV => by
    obtain ⟨A, c, h1, h2⟩ := h.rows k V hV
    exact ⟨A, c, h1, h2.via hb⟩, h.ge, h.ne, h.nr⟩
/-- the seen set has changed -/
theorem WlM.mark {Sn' : Ky → Option Value} (h : WlM w0 g n D gC bg bR b8 bs bp root L v Sn F wr) (hs : MapK Tryz.prog 180 kyVal wr' bs Sn') (hk : ∀ k, Sn' k ≠ none → KyOk g n k) (hg : wr.grownBy wr' (some bs)) : WlM w0 g n D gC bg bR b8 bs bp root L v Sn' F wr' := by
  have hne : ∀ b, b ≠ bs → some b ≠ some bs := fun b hb e => hb (Option.some.inj e)
  refine ⟨h.bel.grown hg h.size (fun b e => by have := Option.some.inj e; have := h.ge.1; omega), h.gb.grown hg (hne _ h.ne.1), h.rb.grown hg (hne _ h.ne.2.2.1), h.fb.grown hg (hne _ h.ne.2.2.2.2.1), h.own.agr (Agr.grown hg fun b hb => ?_), hs, h.pk.grown hg (hne _ (Ne.symm h.ne.2.2.2.2.2.2)), hk, h.fok, fun k V hV => ?_, h.ge, h.ne, h.nr⟩
  · rcases hb with hb | hb
    · exact hb.elim
    · rw [hb]; exact fun e => h.nr.2.2.2.1 e.symm
  · obtain ⟨A, c, h1, h2⟩ := h.rows k V hV
    exact ⟨A, c, h1, h2.agr (Agr.grown hg fun b hb => hne _ hb.2.1)⟩
/-- the list has grown -/
theorem WlM.push {v' : Value} {k : Ky} (h : WlM w0 g n D gC bg bR b8 bs bp root L v Sn F wr) (ho : Own KyE 180 (fun _ => False) wr' w0.heap.size v' (L.length + 1) (L ++ [k])) (hg : wr.grownBy wr' v.ownBlock) (hat : v'.ownBlock = v.ownBlock ∨ v'.ownBlock = some wr.heap.size) : WlM w0 g n D gC bg bR b8 bs bp root (L ++ [k]) v' Sn F wr' := by
  have hn : ∀ b, b < wr.heap.size → some b ≠ v.ownBlock → some b ≠ v'.ownBlock := fun b hb h1 h2 => by
    rcases hat with e | e
    · exact h1 (h2.trans e)
    · rw [e] at h2; have := Option.some.inj h2; omega
  refine ⟨h.bel.grown hg h.size (fun b e => (h.own.lt b e).1), h.gb.grown hg h.nr.1, h.rb.grown hg h.nr.2.1, h.fb.grown hg h.nr.2.2.1, by simpa using ho, h.seen.grown hg h.nr.2.2.2.1, h.pk.grown hg h.nr.2.2.2.2, h.sok, h.fok, fun k V hV => ?_, h.ge, h.ne, hn _ h.gb.lt h.nr.1, hn _ h.rb.lt h.nr.2.1, hn _ h.fb.lt h.nr.2.2.1, hn _ h.seen.lt h.nr.2.2.2.1, hn _ h.pk.lt h.nr.2.2.2.2⟩
  obtain ⟨A, c, h1, h2⟩ := h.rows k V hV
  refine ⟨A, c, h1, ?_⟩
  have h3 := h2.mono (ok' := fun b => (w0.heap.size ≤ b ∧ b ≠ bs ∧ b ≠ bp ∧ some b ≠ v.ownBlock) ∧ b < wr.heap.size) fun b hb hk => ⟨hk, hb⟩
  exact (h3.agr (Agr.grown hg fun b hb => hb.1.2.2.2)).mono fun b _ hk => ⟨hk.1.1, hk.1.2.1, hk.1.2.2.1, hn b hk.2 hk.1.2.2.2⟩
/-- the packs of a node are laid into the map -/
theorem WlM.putp {k0 : Ky} {A0 : Option Addr} {c0 : Nat} (h : WlM w0 g n D gC bg bR b8 bs bp root L v Sn F wr) (hok : KyOk g n k0) (hr : Sl PkE (fun b => w0.heap.size ≤ b ∧ b ≠ bs ∧ b ≠ bp ∧ some b ≠ v.ownBlock) wr A0 (packsF D g.rules k0).length c0 (packsF D g.rules k0)) (hp : MapK Tryz.prog 180 kyVal wr' bp (fun k => if k = k0 then some (.slice A0 (packsF D g.rules k0).length c0) else F k)) (hg : wr.grownBy wr' (some bp)) :
    WlM w0 g n D gC bg bR b8 bs bp root L v Sn (fun k => if k = k0 then some (.slice A0 (packsF D g.rules k0).length c0) else F k) wr' := by
  have hne : ∀ b, b ≠ bp → some b ≠ some bp := fun b hb e => hb (Option.some.inj e)
  refine ⟨h.bel.grown hg h.size (fun b e => by have := Option.some.inj e; have := h.ge.2.1; omega), h.gb.grown hg (hne _ h.ne.2.1), h.rb.grown hg (hne _ h.ne.2.2.2.1), h.fb.grown hg (hne _ h.ne.2.2.2.2.2.1), h.own.agr (Agr.grown hg fun b hb => ?_), h.seen.grown hg (hne _ h.ne.2.2.2.2.2.2), hp, h.sok, fun k hk => ?_, fun k V hV => ?_, h.ge, h.ne, h.nr⟩
  · rcases hb with hb | hb
    · exact hb.elim
    · rw [hb]; exact fun e => h.nr.2.2.2.2 e.symm
  · by_cases e : k = k0
    · subst e; exact hok
    · rw [if_neg e] at hk; exact h.fok k hk
  · by_cases e : k = k0
    · subst e
      rw [if_pos rfl] at hV
      exact ⟨A0, c0, (Option.some.inj hV).symm, hr.agr (Agr.grown hg fun b hb => hne _ hb.2.2.1)⟩
    · rw [if_neg e] at hV
      obtain ⟨A, c, h1, h2⟩ := h.rows k V hV
      exact ⟨A, c, h1, h2.agr (Agr.grown hg fun b hb => hne _ hb.2.2.1)⟩
def okB (base bs bp : Nat) (v : Value) (b : Nat) : Prop := base ≤ b ∧ b ≠ bs ∧ b ≠ bp ∧ some b ≠ v.ownBlock
theorem Sl.okMark {α ρ : Type} {Y : Elem α ρ} {base : Nat} {w w' : World} {A : Option Addr} {m c : Nat} {l : List α} (h : Sl Y (okB base bs bp v) w A m c l) (hg : w.grownBy w' (some bs)) : Sl Y (okB base bs bp v) w' A m c l :=
  h.agr (Agr.grown hg fun _ hb e => hb.2.1 (Option.some.inj e))
theorem Sl.okPush {α ρ : Type} {Y : Elem α ρ} {base : Nat} {w w' : World} {A : Option Addr} {m c : Nat} {l : List α} {v' : Value} (h : Sl Y (okB base bs bp v) w A m c l) (hg : w.grownBy w' v.ownBlock) (hat : v'.ownBlock = v.ownBlock ∨ v'.ownBlock = some w.heap.size) : Sl Y (okB base bs bp v') w' A m c l := by
  have h3 := h.mono (ok' := fun b => okB base bs bp v b ∧ b < w.heap.size) fun b hb hk => ⟨hk, hb⟩
  refine (h3.agr (Agr.grown hg fun b hb => hb.1.2.2.2)).mono fun b _ hk => ⟨hk.1.1, hk.1.2.1, hk.1.2.2.1, fun h2 => ?_⟩
  rcases hat with e | e
  · exact hk.1.2.2.2 (h2.trans e)
  · rw [e] at h2; have := Option.some.inj h2; have := hk.2; omega
theorem memF_look {L : List Ky} {b : Nat} {w : World} (h : MapK Tryz.prog 180 kyVal w b (memF L)) (k : Ky) {kl : Lit} (hkey : keyOf Tryz.prog 180 (kyVal k) = some kl) :
    (Instr.lookup 183 (.map (some b)) (kyVal k) false).run Tryz.prog w = .ok (.bool (decide (k ∈ L))) w := by
  have := h.look false key_keyed Tryz.underlying183 (z := .bool false) (by kernel_rfl) k hkey
  rw [this]
  unfold memF
  by_cases e : k ∈ L <;> simp [e]
/-- a map of such keys has room -/
theorem key_room {b : Nat} {f : Ky → Option Value} {w : World} (h : MapK Tryz.prog 180 kyVal w b f) (hk : ∀ k, f k ≠ none → KyOk g n k) (hg : g.Ok) (hn : n ≤ 12) : ∀ es clock, w.heap[b]? = some (.map es clock) → es.size < maxLen := fun es clock he =>
  Nat.lt_of_le_of_lt (h.room kyC2 3400 (fun y hy => kyC2_lt (hk y hy) hg hn) (fun x y hx hy e => kyC2_inj (hk x hx) (hk y hy) hg hn e) es clock he) (by simp [maxLen])
theorem KyOk.key {k : Ky} (h : KyOk g n k) (hg : g.Ok) (hn : n ≤ 12) : ∃ l, keyOf Tryz.prog 180 (kyVal k) = some l := by
  have := h.ok hg hn
  exact key_key k (by have := this.2.2; omega) (by have := this.1; omega) (by have := this.2.1; omega)
end
theorem gNk_c (n : Int) (w : World) : Calls Tryz.prog 58 #[.int .i64 n] w fun e w' => e = .returned (.agg #[.bool false, .int .i64 n]) ∧ Below w.heap.size w w' := by
  go_enter Tryz.func58, Tryz.ntmps58
  go_wp2_with fail
  exact bodyPost_ret (v := .agg #[.bool false, .int .i64 n]) (by simp [results, Tryz.results58, go_sem]) rfl ⟨rfl, (Below.refl _ _).al _⟩
end Go.Proofs.YtbfcnfgkccgbiaaGreatDoor



namespace Go.Proofs.YtbfcnfgkccgbiaaGreatDoor
open Go.RowKit

theorem in_info : (Tryz.prog.info? 3).map (fun i => (i.zero, i.size, i.bytes)) = some (some (.int .i64 0), 1, 8) := by kernel_rfl
theorem step_append_in {ops : Array Oper} {o : Oper} {a : Act} {K : Act → World → Prop} {Q : Exit → Act → World → Prop} {F : Prop} (w : World) (hgd : o.guard = none) (s y : Operand)
    (ho : o.op = .call { callee := .builtin .append, args := #[s, y], argTypes := #[25, 25] })
    (ok : Nat → Prop) (base : Nat) (v : Value) (n : Nat) (l : List Int) (hv : a.eval s = v) (hown : Own InE 3 ok w base v n l)
    (b : Nat) (r : Int) (x : Int) (hy : a.eval y = .slice (some ⟨b, 0, none⟩) 1 1) (hcell : Blk w b 3 (InE.cells r).toArray) (hrel : InE.rel (fun b => ok b ∧ some b ≠ v.ownBlock) w r x)
    (h63 : n + 1 ≤ 1000000) (hbase : base ≤ w.heap.size)
    (h : ∀ A' c' w', Own InE 3 ok w' base (.slice A' (n + 1) c') (n + 1) (l ++ [x]) → w.grownBy w' v.ownBlock → ((Value.slice A' (n + 1) c').ownBlock = v.ownBlock ∨ (Value.slice A' (n + 1) c').ownBlock = some w.heap.size) → K (a.put o.dst (.slice A' (n + 1) c')) w') :
    if Region.wanted o (yielded ops a.tmps) = true then Oper.wp Tryz.prog o a w K Q else F := by
  obtain ⟨i, hi, hz⟩ := Option.map_eq_some_iff.1 in_info
  simp only [Prod.mk.injEq] at hz
  refine step_append_E (E := InE) w hgd s y 25 3 ho i (.int .i64 0) 8 (by kernel_rfl) hi hz.1 hz.2.1 hz.2.2 rfl ok base v n l hv hown b r x hy (fun j u hu => ?_) hrel (by simp [maxLen]; omega) (by omega) hbase h
  rw [hcell.cell j, List.getElem?_toArray]; exact hu
/-- the numbers of the first m nodes -/
def numF (L : List Ky) (m : Nat) (k : Ky) : Option Value := if idxK L k < m then some (.int .i64 (idxK L k : Int)) else none
theorem numF_zero (L : List Ky) (k : Ky) : numF L 0 k = none := by simp [numF]
theorem idxK_at {L : List Ky} (hn : L.Nodup) {m : Nat} {k : Ky} (h : L[m]? = some k) : idxK L k = m := by
  obtain ⟨hm, he⟩ := List.getElem?_eq_some_iff.1 h
  have h1 := idxK_get (List.mem_of_getElem? h)
  have hi := (List.getElem?_eq_some_iff.1 h1).1
  have h2 : L[idxK L k] = L[m] := by
    rw [he]; exact (List.getElem?_eq_some_iff.1 h1).2
  exact (List.getElem_inj hn).1 h2
theorem numF_next {L : List Ky} (hn : L.Nodup) {m : Nat} {k : Ky} (h : L[m]? = some k) (z : Ky) : numF L (m + 1) z = if z = k then some (.int .i64 (m : Int)) else numF L m z := by
  have hk := idxK_at hn h
  by_cases e : z = k
  · subst e; simp [numF, hk]
  · rw [if_neg e]
    have hne : idxK L z ≠ m := fun e2 => by
      have hm := (List.getElem?_eq_some_iff.1 h).1
      have hz : z ∈ L := List.idxOf_lt_length_iff.1 (show L.idxOf z < L.length by unfold idxK at e2; omega)
      have := idxK_get hz
      rw [e2, h] at this
      exact e (Option.some.inj this).symm
    unfold numF
    by_cases hlt : idxK L z < m
    · rw [if_pos hlt, if_pos (by omega)]
    · rw [if_neg hlt, if_neg (by omega)]
theorem numF_all {L : List Ky} {k : Ky} (h : k ∈ L) : numF L L.length k = some (.int .i64 (idxK L k : Int)) := by
  unfold numF; rw [if_pos (idxK_lt h)]
theorem numF_look {L : List Ky} {b : Nat} {w : World} (h : MapK Tryz.prog 180 kyVal w b (numF L L.length)) {k : Ky} (hk : k ∈ L) {kl : Lit} (hkey : keyOf Tryz.prog 180 (kyVal k) = some kl) :
    (Instr.lookup 190 (.map (some b)) (kyVal k) false).run Tryz.prog w = .ok (.int .i64 (idxK L k : Int)) w := by
  have := h.look false key_keyed Tryz.underlying190 (z := .int .i64 0) (by kernel_rfl) k hkey
  rw [this, numF_all hk]
  rfl
theorem row_look {F : Ky → Option Value} {b : Nat} {w : World} (h : MapK Tryz.prog 180 kyVal w b F) {k : Ky} {V : Value} (hk : F k = some V) {kl : Lit} (hkey : keyOf Tryz.prog 180 (kyVal k) = some kl) :
    (Instr.lookup 181 (.map (some b)) (kyVal k) false).run Tryz.prog w = .ok V w := by
  have := h.look false key_keyed Tryz.underlying181 (z := .slice none 0 0) (by kernel_rfl) k hkey
  rw [this, hk]
  rfl
/-- a struct with a row that grows: all else of the world as it was ahead of it -/
structure GwM {α ρ : Type} (Y : Elem α ρ) (te tb : TypeId) (cs : Value → Array Value) (W : World) (b : Nat) (v : Value) (l : List α) (wr : World) : Prop where
  bel : Below b W wr
  blk : Blk wr b tb (cs v)
  own : Own Y te (fun x => b < x) wr (b + 1) v l.length l
section
variable {α ρ : Type} {Y : Elem α ρ} {te tb : TypeId} {cs : Value → Array Value} {W wr w' : World} {b : Nat} {v v' : Value} {l : List α} {x : α}
theorem GwM.lt (h : GwM Y te tb cs W b v l wr) : b < wr.heap.size := h.blk.lt
theorem GwM.via (h : GwM Y te tb cs W b v l wr) (hb : Below wr.heap.size wr w') : GwM Y te tb cs W b v l w' := ⟨h.bel.trans (hb.mono (Nat.le_of_lt h.lt)), h.blk.via hb, h.own.via hb⟩
/-- what a later struct's making leaves -/
theorem GwM.over (h : GwM Y te tb cs W b v l wr) {c : Nat} (hc : wr.heap.size ≤ c) (hb : Below c wr w') : GwM Y te tb cs W b v l w' := h.via (hb.mono hc)
theorem GwM.push (h : GwM Y te tb cs W b v l wr) (ho : Own Y te (fun x => b < x) w' (b + 1) v' (l.length + 1) (l ++ [x])) (hg : wr.grownBy w' v.ownBlock) {o : Nat} (hcs : (cs v).setIfInBounds o v' = cs v') : GwM Y te tb cs W b v' (l ++ [x]) (w'.setCell ⟨b, o, none⟩ v') := by
  have hr : some b ≠ v.ownBlock := fun e => by have := (h.own.lt b e.symm).1; omega
  refine ⟨(h.bel.grown hg (Nat.le_of_lt h.lt) (fun j e => by have := (h.own.lt j e).1; omega)).setCell (Nat.le_refl _) _, ?_, ?_⟩
  · have := (h.blk.grown hg hr).set_ o v'
    rw [hcs] at this; exact this
  · have := ho.setCell (p := ⟨b, o, none⟩) v' (fun y hy => by show y ≠ b; omega) (by show b < b + 1; omega)
    simpa using this
theorem GwM.start {n : Nat} (W : World) (o : Array Value) (hb : W.heap.size = n) (hcs : o = cs (.slice none 0 0)) : GwM Y te tb cs W n (.slice none 0 0) [] (W.alloc (.cells o tb)) := by
  subst hb; subst hcs
  exact ⟨(Below.refl _ _).al _, Blk.new W tb _, Own.nil _ _⟩
end
/-- a pack with numbers -/
def rowI (L : List Ky) (p : Nat × List Ky) : PkI := ((p.1 : Int), intsN (p.2.map (idxK L)))
theorem ndI_eq (D : Ky → Bool) (R : List Ru) (L : List Ky) (k : Ky) : ndI (ndF D R L k) = ((k.1.1, (k.1.2 : Int), (k.2.1 : Int), (k.2.2 : Int)), (packsF D R k).map (rowI L)) := by
  simp [ndI, ndF, rowI, List.map_map, Function.comp_def]
theorem rows_so {D : Ky → Bool} {R : List Ru} {root : Ky} {L : List Ky} (h : IsNds D R root L) {k : Ky} (hk : k ∈ L) : SoP ((packsF D R k).map (rowI L)) := by
  have hs := packs_sorted (D := D) (idx := idxK L) (P := fun q => q ∈ L) (fun a b ha hb hab => idxK_mono h.sorted ha hb hab) (R := R) (k := k) (fun p hp q hq => (h.mem q).2 (.kid ((h.mem k).1 hk) hp hq))
  intro i j x y hij hx hy
  rw [List.getElem?_map] at hx hy
  obtain ⟨p, hp, rfl⟩ := Option.map_eq_some_iff.1 hx
  obtain ⟨q, hq, rfl⟩ := Option.map_eq_some_iff.1 hy
  rw [List.pairwise_map] at hs
  obtain ⟨hi, ei⟩ := List.getElem?_eq_some_iff.1 hp
  obtain ⟨hj, ej⟩ := List.getElem?_eq_some_iff.1 hq
  have h1 := List.pairwise_iff_getElem.1 hs i j hi hj hij
  rw [ei, ej] at h1
  simp only [pkL] at h1
  rw [pkCmp_key]
  have h2 := cmpL_anti ((q.1 : Int) :: intsN (q.2.map (idxK L))) ((p.1 : Int) :: intsN (p.2.map (idxK L)))
  simp only [rowI]
  omega
end Go.Proofs.YtbfcnfgkccgbiaaGreatDoor

