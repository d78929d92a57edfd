/- Texts PJ, laid together. -/
import Derived.Test.YtdmecijpioljaaaPI
import Derived.Test.YtdmecijpioljaaaPD



namespace Go.Proofs.Ytdmecijpioljaaa
open Go.RowKit

/-! ### plain: how a list of items grows -/
structure Grew (P : It3 → Prop) (l l' : List It3) : Prop where
  pre : ∃ m, l' = l ++ m
  nd : l.Nodup → l'.Nodup
  src : ∀ x, x ∈ l' → x ∈ l ∨ P x
  all : ∀ x, P x → x ∈ l'
def addI (l : List It3) (x : It3) : List It3 := if x ∈ l then l else l ++ [x]
section
variable {P Q : It3 → Prop} {l l' l'' : List It3}
theorem Grew.none (h : ∀ x, ¬ P x) : Grew P l l := ⟨⟨[], by simp⟩, id, fun _ h => Or.inl h, fun x hx => absurd hx (h x)⟩
theorem Grew.mem (h : Grew P l l') {x : It3} (hx : x ∈ l) : x ∈ l' := by obtain ⟨m, rfl⟩ := h.pre; exact List.mem_append_left _ hx
theorem Grew.add (h : Grew P l l') (x : It3) : Grew (fun y => P y ∨ y = x) l (addI l' x) := by
  unfold addI
  by_cases hx : x ∈ l'
  · rw [if_pos hx]
    exact ⟨h.pre, h.nd, fun y hy => (h.src y hy).imp_right Or.inl, fun y hy => hy.elim (h.all y) (fun e => e ▸ hx)⟩
  · rw [if_neg hx]
    obtain ⟨m, hm⟩ := h.pre
    refine ⟨⟨m ++ [x], by rw [hm, List.append_assoc]⟩, fun hn => ?_, fun y hy => ?_, fun y hy => ?_⟩
    · rw [List.nodup_append]
      refine ⟨h.nd hn, by simp, fun a ha b hb => ?_⟩
      rw [List.mem_singleton] at hb
      exact fun e => hx (by rw [← hb, ← e]; exact ha)
    · rcases List.mem_append.1 hy with hy | hy
      · exact (h.src y hy).imp_right Or.inl
      · exact Or.inr (Or.inr (List.mem_singleton.1 hy))
    · rcases hy with hy | hy
      · exact List.mem_append_left _ (h.all y hy)
      · exact List.mem_append_right _ (List.mem_singleton.2 hy)
theorem Grew.iff (h : Grew P l l') (he : ∀ x, Q x ↔ P x) : Grew Q l l' :=
  ⟨h.pre, h.nd, fun x hx => (h.src x hx).imp_right (he x).2, fun x hx => h.all x ((he x).1 hx)⟩
theorem Grew.trans (h : Grew P l l') (k : Grew Q l' l'') : Grew (fun x => P x ∨ Q x) l l'' := by
  obtain ⟨m, hm⟩ := h.pre
  obtain ⟨m', hm'⟩ := k.pre
  refine ⟨⟨m ++ m', by rw [hm', hm, List.append_assoc]⟩, fun hn => k.nd (h.nd hn), fun x hx => ?_, fun x hx => ?_⟩
  · rcases k.src x hx with hx | hx
    · exact (h.src x hx).imp_right Or.inl
    · exact Or.inr (Or.inr hx)
  · rcases hx with hx | hx
    · exact k.mem (h.all x hx)
    · exact k.all x hx
theorem Grew.eq_of_len (h : Grew P l l') (hl : l'.length = l.length) : l' = l := by
  obtain ⟨m, hm⟩ := h.pre
  have : m = [] := List.eq_nil_of_length_eq_zero (by rw [hm, List.length_append] at hl; omega)
  rw [hm, this, List.append_nil]
theorem Grew.le (h : Grew P l l') : l.length ≤ l'.length := by obtain ⟨m, rfl⟩ := h.pre; simp
end
/-- not many items -/
theorem lenI {R : List Ru} {k : Nat} {l : List It3} (h1 : R.length ≤ 32) (h2 : ∀ u ∈ R, u.2.length ≤ 4) (hk : k ≤ 100) (hn : l.Nodup) (ho : ∀ x ∈ l, ItOk R k x) : l.length ≤ 100000 := by
  have h := items_le h2 hn ho
  have a : (4 + 1) * (k + 1) ≤ 505 := by omega
  have b : R.length * ((4 + 1) * (k + 1)) ≤ 32 * 505 := Nat.mul_le_mul h1 a
  omega

/-! ### the sets move on -/
/-- all blocks that N speaks of are as they were (two families of blocks: true, the narrow one that is left alone while one row grows; false, all that is no block of the sets) -/
structure Mov (N N' : Bool → Nat → Prop) (w w' : World) : Prop where
  env : Below 0 w w'
  agr : ∀ i, Agr (N i) w w'
  no : ∀ i b, b < w.heap.size → N i b → N' i b
section
variable {N N' N'' : Bool → Nat → Prop} {w w' w'' : World}
theorem Mov.of (hb : Below w.heap.size w w') : Mov N N w w' := ⟨hb.mono (Nat.zero_le _), fun _ => Agr.below hb, fun _ _ _ h => h⟩
theorem Mov.trans (h : Mov N N' w w') (k : Mov N' N'' w' w'') : Mov N N'' w w'' :=
  ⟨h.env.trans k.env, fun i b hb hlt => (k.agr i b (h.no i b hlt hb) (Nat.lt_of_lt_of_le hlt h.env.size)).trans (h.agr i b hb hlt), fun i b hlt hb => k.no i b (Nat.lt_of_lt_of_le hlt h.env.size) (h.no i b hlt hb)⟩
theorem Mov.via (h : Mov N N' w w') (hb : Below w'.heap.size w' w'') : Mov N N' w w'' := h.trans (.of hb)
theorem Mov.blk {i : Bool} {b : Nat} {t : TypeId} {cs : Array Value} (h : Mov N N' w w') (hB : Blk w b t cs) (hn : N i b) : Blk w' b t cs := (h.agr i b hn hB.lt).trans hB
theorem Mov.sl {i : Bool} {α ρ : Type} {E : Elem α ρ} {ok : Nat → Prop} {A : Option Addr} {n c : Nat} {l : List α} (h : Mov N N' w w') (hs0 : Sl E ok w A n c l) (hn : ∀ b, ok b → N i b) : Sl E ok w' A n c l := hs0.agr ((h.agr i).mono hn)
theorem Mov.below {base : Nat} {i : Bool} (h : Mov N N' w w') (hn : ∀ b, b < base → N i b) (hb : base ≤ w.heap.size) : Below base w w' :=
  ⟨h.env.os, h.env.tape, h.env.output, h.env.size, fun k hk => h.agr i k (hn k hk) (Nat.lt_of_lt_of_le hk hb)⟩
end
/-- neither the block of the headers nor that of the k-th row -/
def NoK (k : Nat) (v : Value) (hs : List SlV) (b : Nat) : Prop := v.ownBlock ≠ some b ∧ ∀ h, hs[k]? = some h → (slV h).ownBlock ≠ some b
def NoF (k : Nat) (v : Value) (hs : List SlV) : Bool → Nat → Prop
  | true, b => NoK k v hs b
  | false, b => Sets.no v hs b
theorem Sets.no.nok {k : Nat} {v : Value} {hs : List SlV} {b : Nat} (h : Sets.no v hs b) : NoK k v hs b := ⟨h.1, fun q hq => h.2 k q hq⟩
theorem Sets.no.nof {k : Nat} {v : Value} {hs : List SlV} {b : Nat} {i : Bool} (h : Sets.no v hs b) : NoF k v hs i b := match i with
  | true => h.nok
  | false => h
structure Mv (v v' : Value) (hs hs' : List SlV) (w w' : World) : Prop where
  env : Below 0 w w'
  agr : Agr (fun b => Sets.no v hs b) w w'
  no : ∀ b, b < w.heap.size → Sets.no v hs b → Sets.no v' hs' b
section
variable {v v' v'' : Value} {hs hs' hs'' : List SlV} {w w' w'' : World}
theorem Mv.of (hb : Below w.heap.size w w') : Mv v v hs hs w w' := ⟨hb.mono (Nat.zero_le _), Agr.below hb, fun _ _ h => h⟩
theorem Mv.trans (h : Mv v v' hs hs' w w') (k : Mv v' v'' hs' hs'' w' w'') : Mv v v'' hs hs'' w w'' :=
  ⟨h.env.trans k.env, fun b hb hlt => (k.agr b (h.no b hlt hb) (Nat.lt_of_lt_of_le hlt h.env.size)).trans (h.agr b hb hlt), fun b hlt hb => k.no b (Nat.lt_of_lt_of_le hlt h.env.size) (h.no b hlt hb)⟩
theorem Mv.via (h : Mv v v' hs hs' w w') (hb : Below w'.heap.size w' w'') : Mv v v' hs hs' w w'' := h.trans (.of hb)
theorem Mv.blk {b : Nat} {t : TypeId} {cs : Array Value} (h : Mv v v' hs hs' w w') (hB : Blk w b t cs) (hn : Sets.no v hs b) : Blk w' b t cs := (h.agr b hn hB.lt).trans hB
theorem Mv.sl {α ρ : Type} {E : Elem α ρ} {ok : Nat → Prop} {A : Option Addr} {n c : Nat} {l : List α} (h : Mv v v' hs hs' w w') (hs0 : Sl E ok w A n c l) (hn : ∀ b, ok b → Sets.no v hs b) : Sl E ok w' A n c l := hs0.agr (h.agr.mono hn)
end
/-- a struct in block bf: a grammar's four cells and more; its sets of items -/
structure FolM (w : World) (base bf : Nat) (c0 c1 c2 : Value) (AR : Option Addr) (nR cR : Nat) (R : List Ru) (v : Value) (hs : List SlV) (L : List (List It3)) : Prop where
  blk : Blk w bf 59 #[c0, c1, c2, .slice AR nR cR, v]
  rules : Sl RuE (fun b => b < base) w AR nR cR R
  sets : Sets 66 68 w base v hs L
  far : Sets.no v hs bf
  base : base ≤ w.heap.size
section
variable {w w' : World} {base bf : Nat} {c0 c1 c2 v : Value} {AR : Option Addr} {nR cR : Nat} {R : List Ru} {hs : List SlV} {L : List (List It3)}
theorem FolM.via (h : FolM w base bf c0 c1 c2 AR nR cR R v hs L) (hb : Below w.heap.size w w') : FolM w' base bf c0 c1 c2 AR nR cR R v hs L :=
  ⟨h.blk.via hb, h.rules.via hb, h.sets.via hb, h.far, Nat.le_trans h.base hb.size⟩
theorem FolM.dr (h : FolM w base bf c0 c1 c2 AR nR cR R v hs L) : FolM w.drew base bf c0 c1 c2 AR nR cR R v hs L := h.via ((Below.refl _ _).drew)
theorem Sets.no_lt {e ti : TypeId} (h : Sets e ti w base v hs L) {b : Nat} (hb : b < base) : Sets.no v hs b := by
  by_cases hn : Sets.no v hs b
  · exact hn
  · have := (h.block_lt hn).1; omega
theorem Sets.no_ge {e ti : TypeId} (h : Sets e ti w base v hs L) {b : Nat} (hb : w.heap.size ≤ b) : Sets.no v hs b := by
  by_cases hn : Sets.no v hs b
  · exact hn
  · have := (h.block_lt hn).2; omega
theorem Mv.below {v' : Value} {hs' : List SlV} (h : Mv v v' hs hs' w w') (hf : FolM w base bf c0 c1 c2 AR nR cR R v hs L) : Below base w w' :=
  ⟨h.env.os, h.env.tape, h.env.output, h.env.size, fun k hk => h.agr k (hf.sets.no_lt hk) (Nat.lt_of_lt_of_le hk hf.base)⟩
end
theorem grown_frozen {row : Option Nat} {w w' : World} {b : Nat} (hg : w.grownBy w' row) (hb : b < w.heap.size) (hr : some b ≠ row) (i : Nat) : w'.frozen? ⟨b, i, none⟩ = w.frozen? ⟨b, i, none⟩ := by
  unfold World.frozen?; rw [hg.block b hb hr]
theorem Mv.grow {v : Value} {hs : List SlV} {q q' : SlV} {w w1 : World} {k g i : Nat} (hq : hs[k]? = some q) (hg : w.grownBy w1 (slV q).ownBlock) (hv : (slV q').ownBlock = (slV q).ownBlock ∨ (slV q').ownBlock = some w.heap.size) (hvg : v.ownBlock = some g) (u : Value) :
    Mv v v hs (hs.set k q') w (w1.setCell ⟨g, i, none⟩ u) := by
  refine ⟨((Below.refl 0 w).grown hg (Nat.zero_le _) (fun b _ => Nat.zero_le _)).setCell (Nat.zero_le _) u, fun b hb hlt => ?_, fun b hlt hb => ⟨hb.1, fun j h hj => ?_⟩⟩
  · refine (Below.heap_setCell w1 ⟨g, i, none⟩ u b (fun e => hb.1 (by rw [hvg, e]))).trans (hg.block b hlt fun e => hb.2 k q hq e.symm)
  · by_cases e : k = j
    · subst e
      rw [List.getElem?_set_self (List.getElem?_eq_some_iff.1 hq).1] at hj
      obtain rfl := Option.some.inj hj
      rcases hv with hv | hv
      · rw [hv]; exact hb.2 k q hq
      · rw [hv]; exact fun e => by have := Option.some.inj e; omega
    · rw [List.getElem?_set_ne e] at hj
      exact hb.2 j h hj
theorem Mov.growK {v : Value} {hs : List SlV} {q q' : SlV} {w w1 : World} {k g i : Nat} (hq : hs[k]? = some q) (hg : w.grownBy w1 (slV q).ownBlock) (hv : (slV q').ownBlock = (slV q).ownBlock ∨ (slV q').ownBlock = some w.heap.size) (hvg : v.ownBlock = some g) (u : Value) :
    Mov (NoF k v hs) (NoF k v (hs.set k q')) w (w1.setCell ⟨g, i, none⟩ u) := by
  have hmv := Mv.grow (v := v) (i := i) hq hg hv hvg u
  refine ⟨hmv.env, fun t => ?_, fun t => ?_⟩
  · cases t with
    | false => exact hmv.agr
    | true => exact fun b hb hlt => (Below.heap_setCell w1 ⟨g, i, none⟩ u b (fun e => hb.1 (by rw [hvg, e]))).trans (hg.block b hlt fun e => hb.2 q hq e.symm)
  · cases t with
    | false => exact hmv.no
    | true =>
      refine fun b hlt hb => ⟨hb.1, fun h hj => ?_⟩
      rw [List.getElem?_set_self (List.getElem?_eq_some_iff.1 hq).1] at hj
      obtain rfl := Option.some.inj hj
      rcases hv with hv | hv
      · rw [hv]; exact hb.2 q hq
      · rw [hv]; exact fun e => by have := Option.some.inj e; omega
/-- the sets are now L', all else is as it was -/
def AddP (k : Nat) (w : World) (base bf : Nat) (c0 c1 c2 : Value) (AR : Option Addr) (nR cR : Nat) (R : List Ru) (v : Value) (hs : List SlV) (L' : List (List It3)) (e : Ending) (w' : World) : Prop :=
  e = .returned (.tuple #[]) ∧ ∃ v' hs', FolM w' base bf c0 c1 c2 AR nR cR R v' hs' L' ∧ Mov (NoF k v hs) (NoF k v' hs') w w'
theorem conIt_b (bv : Bool) (A : Option Addr) (n c : Nat) (xs : List It3) (x : It3) (hbv : decide (x ∈ xs) = bv) (w : World) (ok : Nat → Prop) (h : Sl It3E ok w A n c xs) (hn : n ≤ 1000000) :
    Calls Try.prog 62 #[.slice A n c, .agg #[.int .i64 (x.r : Int), .int .i64 (x.d : Int), .int .i64 (x.f : Int)]] w fun e w' => e = .returned (.bool bv) ∧ Below w.heap.size w w' := by
  subst hbv; exact conIt_c A n c xs x w ok h hn
theorem step_append_hi {ops : Array Oper} {o : Oper} {a : Act} {K : Act → World → Prop} {Q : Exit → Act → World → Prop} {F : Prop} (w : World) (hgd : o.guard = none) (s y : Operand)
    (ho : o.op = .call { callee := .builtin .append, args := #[s, y], argTypes := #[66, 66] })
    (base : Nat) (v : Value) (n : Nat) (l : List It3) (hv : a.eval s = v) (hown : Own It3E 68 (fun _ => False) w base v n l)
    (b : Nat) (x : It3) (hy : a.eval y = .slice (some ⟨b, 0, none⟩) 1 1) (hcell : Blk w b 68 #[.int .i64 (x.r : Int), .int .i64 (x.d : Int), .int .i64 (x.f : Int)])
    (h63 : n + 1 ≤ 1000000) (hbase : base ≤ w.heap.size)
    (h : ∀ A' c' w', Own It3E 68 (fun _ => False) w' base (.slice A' (n + 1) c') (n + 1) (l ++ [x]) → w.grownBy w' v.ownBlock → ((Value.slice A' (n + 1) c').ownBlock = v.ownBlock ∨ (Value.slice A' (n + 1) c').ownBlock = some w.heap.size) → K (a.put o.dst (.slice A' (n + 1) c')) w') :
    if Region.wanted o (yielded ops a.tmps) = true then Oper.wp Try.prog o a w K Q else F := by
  obtain ⟨i, hi, hz⟩ := Option.map_eq_some_iff.1 hitem_info
  simp only [Prod.mk.injEq] at hz
  refine step_append_E (E := It3E) w hgd s y 66 68 ho i (.agg #[.int .i64 0, .int .i64 0, .int .i64 0]) 24 (by kernel_rfl) hi hz.1 hz.2.1 hz.2.2 rfl (fun _ => False) base v n l hv hown b x x hy (fun j u hu => ?_) rfl (by simp [maxLen]; omega) (by omega) hbase h
  rw [hcell.cell j]
  rw [List.getElem?_toArray]; exact hu
set_option maxRecDepth 100000 in
set_option maxHeartbeats 2000000 in
theorem add_c (w : World) (base bf k : Nat) (c0 c1 c2 : Value) (AR : Option Addr) (nR cR : Nat) (R : List Ru) (v : Value) (hs : List SlV) (L : List (List It3)) (l : List It3) (x : It3) (h : FolM w base bf c0 c1 c2 AR nR cR R v hs L) (hk : L.length = k + 1) (hl : L[k]? = some l) (hk2 : k ≤ 1000) (hl2 : l.length ≤ 100000) :
    Calls Try.prog 44 #[.pointer (some ⟨bf, 0, none⟩), .agg #[.int .i64 (x.r : Int), .int .i64 (x.d : Int), .int .i64 (x.f : Int)]] w (AddP k w base bf c0 c1 c2 AR nR cR R v hs (L.set k (addI l x))) := by
  have hsl := h.sets.len
  have hkl : k < hs.length := by omega
  obtain ⟨qA, qn, qc, hq⟩ : ∃ qA qn qc, hs[k]? = some ((qA, qn, qc) : SlV) := ⟨_, _, _, List.getElem?_eq_getElem hkl⟩
  have hit := h.sets.items k _ l hq hl
  obtain ⟨A', c', e', hc'⟩ := hit.form
  simp only [slV, Value.slice.injEq] at e'
  obtain ⟨rfl, rfl, rfl⟩ := e'
  obtain ⟨gb, c, hv, hgb1, hgb2, hcell, hfz⟩ := h.sets.cell hq
  subst hv
  have hgq : some gb ≠ (slV (qA, l.length, qc)).ownBlock := fun e' => h.sets.far k _ gb hq e'.symm rfl
  have hbq : some bf ≠ (slV (qA, l.length, qc)).ownBlock := fun e' => h.far.2 k _ hq e'.symm
  have hql : ∀ b, (slV (qA, l.length, qc)).ownBlock = some b → b < w.heap.size := fun b hb => (hit.lt b hb).2
  have hb := (Below.refl w.heap.size w).alloc (Nat.le_refl _) (.cells #[.int .i64 (x.r : Int), .int .i64 (x.d : Int), .int .i64 (x.f : Int)] 68)
  have hB := Blk.new w 68 #[.int .i64 (x.r : Int), .int .i64 (x.d : Int), .int .i64 (x.f : Int)]
  have p0 : (w.alloc (.cells #[.int .i64 (x.r : Int), .int .i64 (x.d : Int), .int .i64 (x.f : Int)] 68)).cell? ⟨w.heap.size, 0, none⟩ = some (.int .i64 (x.r : Int)) := hB.cell 0
  have p1 : (w.alloc (.cells #[.int .i64 (x.r : Int), .int .i64 (x.d : Int), .int .i64 (x.f : Int)] 68)).cell? ⟨w.heap.size, 1, none⟩ = some (.int .i64 (x.d : Int)) := hB.cell 1
  have p2 : (w.alloc (.cells #[.int .i64 (x.r : Int), .int .i64 (x.d : Int), .int .i64 (x.f : Int)] 68)).cell? ⟨w.heap.size, 2, none⟩ = some (.int .i64 (x.f : Int)) := hB.cell 2
  have hM := h.via hb
  have f4 := hM.blk.cell 4
  have g0 : (w.alloc (.cells #[.int .i64 (x.r : Int), .int .i64 (x.d : Int), .int .i64 (x.f : Int)] 68)).cell? ⟨gb, k, none⟩ = some (.slice qA l.length qc) := by
    rw [hb.cell hgb2]; exact hcell
  have gf : ∀ i, (w.alloc (.cells #[.int .i64 (x.r : Int), .int .i64 (x.d : Int), .int .i64 (x.f : Int)] 68)).frozen? ⟨gb, i, none⟩ = false := fun i => by
    rw [hb.frozen hgb2]; exact hfz i
  have GF := Lib.hid gf
  clear gf hfz
  rw [hk] at f4
  simp at f4
  have i0 : (0 : Int) ≤ (k : Int) := by omega
  have i1 : (k : Int) < ((k : Int) + 1) := by omega
  have e1 : ((k + 1 : Nat) : Int) - 1 = (k : Int) := by omega
  have HH := Lib.hid h
  have HB := Lib.hid hb
  have HM := Lib.hid hM
  have HIT := Lib.hid (hit.via hb)
  have HGQ := Lib.hid hgq
  have HBQ := Lib.hid hbq
  have HQL := Lib.hid hql
  have HQ := Lib.hid hq
  have HL := Lib.hid hl
  have HK := Lib.hid hk
  have HBX := Lib.hid hB
  clear h hb hB hM hcell hit hgq hbq hql hq hl hk hsl
  go_enter Try.func44, Try.ntmps44
  go_upto_region 1 with fail
  generalize hW : w.alloc (.cells #[.int .i64 (x.r : Int), .int .i64 (x.d : Int), .int .i64 (x.f : Int)] 68) = W at *
  have hWs : w.heap.size + 1 ≤ W.heap.size := by rw [← hW]; simp
  clear hW
  have hlw : w.heap.size < W.heap.size := by omega
  have hlb : bf < W.heap.size := HM.out.blk.lt
  have SOF := Lib.hid (show ∀ w', Below W.heap.size W w' → (w'.cell? ⟨bf, 4, none⟩ = some (.slice (some ⟨gb, 0, none⟩) (k + 1) c) ∧ w'.cell? ⟨gb, k, none⟩ = some (.slice qA l.length qc) ∧ w'.cell? ⟨w.heap.size, 0, none⟩ = some (.int .i64 (x.r : Int)) ∧ w'.cell? ⟨w.heap.size, 1, none⟩ = some (.int .i64 (x.d : Int)) ∧ w'.cell? ⟨w.heap.size, 2, none⟩ = some (.int .i64 (x.f : Int)) ∧ Below W.heap.size W w') from fun w' hb => ⟨(hb.cell hlb).trans f4, (hb.cell (p := ⟨gb, k, none⟩) (by show gb < _; omega)).trans g0, (hb.cell (p := ⟨w.heap.size, 0, none⟩) hlw).trans p0, (hb.cell (p := ⟨w.heap.size, 1, none⟩) hlw).trans p1, (hb.cell (p := ⟨w.heap.size, 2, none⟩) hlw).trans p2, hb⟩)
  have HSl := Lib.hid (show ∀ w', Below W.heap.size W w' → Sl It3E (fun _ => True) w' qA l.length qc l from fun w' hb => (HIT.out.via hb).toSl (fun _ _ _ => trivial) (fun _ _ => trivial))
  have hb0 := (Below.refl W.heap.size W).drew
  by_cases hx : x ∈ l
  · have HX := Lib.hid (show L.set k (addI l x) = L by
      unfold addI; rw [if_pos hx]
      exact List.ext_getElem? fun j => by
        rw [List.getElem?_set]
        by_cases hj : k = j
        · subst hj
          rw [if_pos rfl]
          have hlt := (List.getElem?_eq_some_iff.1 HL.out).1
          rw [if_pos hlt, HL.out]
        · rw [if_neg hj])
    have HD := Lib.hid (decide_eq_true hx)
    clear hx
    go_upto_region 2 with fail
    clear p0 p1 p2 f4 g0
    go_region_held3 (fun w' => w'.cell? ⟨bf, 4, none⟩ = some (.slice (some ⟨gb, 0, none⟩) (k + 1) c) ∧ w'.cell? ⟨gb, k, none⟩ = some (.slice qA l.length qc) ∧ w'.cell? ⟨w.heap.size, 0, none⟩ = some (.int .i64 (x.r : Int)) ∧ w'.cell? ⟨w.heap.size, 1, none⟩ = some (.int .i64 (x.d : Int)) ∧ w'.cell? ⟨w.heap.size, 2, none⟩ = some (.int .i64 (x.f : Int)) ∧ Below W.heap.size W w') (exact SOF.out _ (by assumption)) (first
      | (go_at_call 62; (with_reducible refine (conIt_b true qA l.length qc l x HD.out _ (fun _ => True) (HSl.out _ (by assumption)) (by omega)).mono ?_); rintro ee wn ⟨rfl, hbn⟩; have hbm : Below W.heap.size W wn := Below.via (by assumption) hbn))
    have HF := Lib.hid (HB.out.via hbm)
    clear hbm hbn hb0
    go_wp2_with fail
    refine bodyPost_ret (v := .tuple #[]) (by simp [results, Try.results44, go_sem]) rfl ?_
    rw [HX.out]
    exact ⟨rfl, _, hs, HH.out.via HF.out, .of HF.out⟩
  · have HX := Lib.hid (show addI l x = l ++ [x] by unfold addI; rw [if_neg hx])
    have HD := Lib.hid (decide_eq_false hx)
    clear hx
    go_upto_region 2 with fail
    clear p0 p1 p2 f4 g0
    go_region_held3 (fun w' => w'.cell? ⟨bf, 4, none⟩ = some (.slice (some ⟨gb, 0, none⟩) (k + 1) c) ∧ w'.cell? ⟨gb, k, none⟩ = some (.slice qA l.length qc) ∧ w'.cell? ⟨w.heap.size, 0, none⟩ = some (.int .i64 (x.r : Int)) ∧ w'.cell? ⟨w.heap.size, 1, none⟩ = some (.int .i64 (x.d : Int)) ∧ w'.cell? ⟨w.heap.size, 2, none⟩ = some (.int .i64 (x.f : Int)) ∧ Below W.heap.size W w') (exact SOF.out _ (by assumption)) (first
      | (go_at_call 62; (with_reducible refine (conIt_b false qA l.length qc l x HD.out _ (fun _ => True) (HSl.out _ (by assumption)) (by omega)).mono ?_); rintro ee wn ⟨rfl, hbn⟩; have hbm : Below W.heap.size W wn := Below.via (by assumption) hbn))
    have hgw : gb < W.heap.size := by omega
    generalize hWR : wn = wr at *
    clear hWR
    have HBr := Lib.hid hbm
    have q1 := (SOF.out wr hbm).1
    have q2 := (SOF.out wr hbm).2.1
    have q3 := (HBX.out.via hbm).cell
    have HX1 := Lib.hid (HBX.out.via hbm)
    have HM1 := Lib.hid (HM.out.via hbm)
    have HIT1 := Lib.hid (HIT.out.via hbm)
    have GF1 := Lib.hid (show ∀ i, wr.frozen? ⟨gb, i, none⟩ = false from fun i => by rw [hbm.frozen hgw]; exact GF.out i)
    have hsz : W.heap.size ≤ wr.heap.size := hbm.size
    clear hbm hbn hb0 SOF HSl GF HIT HM HBX
    go_upto_region 3 with fail
    have hHeld : wr.drew.cell? ⟨bf, 4, none⟩ = some (.slice (some ⟨gb, 0, none⟩) (k + 1) c) ∧ wr.drew.cell? ⟨gb, k, none⟩ = some (.slice qA l.length qc) ∧ (∀ i, wr.drew.cell? ⟨w.heap.size, i, none⟩ = #[.int .i64 (x.r : Int), .int .i64 (x.d : Int), .int .i64 (x.f : Int)][i]?) := ⟨q1, q2, q3⟩
    refine wp_region_noPanic ?_
    refine wp_region_L 16 (fun w' => w'.cell? ⟨bf, 4, none⟩ = some (.slice (some ⟨gb, 0, none⟩) (k + 1) c) ∧ w'.cell? ⟨gb, k, none⟩ = some (.slice qA l.length qc) ∧ (∀ i, w'.cell? ⟨w.heap.size, i, none⟩ = #[.int .i64 (x.r : Int), .int .i64 (x.d : Int), .int .i64 (x.f : Int)][i]?)) (by kernel_rfl) ?_
    refine wpAnyL.take (i := 0) (d := some 21) (v := ?_) rfl (by kernel_rfl) (by kernel_rfl) (by kernel_rfl) (by kernel_rfl) rfl (fun _ _ _ h => h) (Or.inl ⟨by rfl, ?_⟩) (by assumption) ?_
    rotate_left
    · intro w hSw; (try dsimp only at hSw); go_simp; try with_reducible rfl
    simp only [Act.put, List.setIfInBounds_toArray, List.set_cons_zero, List.set_cons_succ]
    refine wpAnyL.take (i := 1) (d := some 22) (v := ?_) rfl (by kernel_rfl) (by kernel_rfl) (by kernel_rfl) (by kernel_rfl) rfl (fun _ _ _ h => h) (Or.inl ⟨by rfl, ?_⟩) (by assumption) ?_
    rotate_left
    · intro w hSw; (try dsimp only at hSw); go_simp; try with_reducible rfl
    simp only [Act.put, List.setIfInBounds_toArray, List.set_cons_zero, List.set_cons_succ]
    refine wpAnyL.take (i := 2) (d := some 23) (v := ?_) rfl (by kernel_rfl) (by kernel_rfl) (by kernel_rfl) (by kernel_rfl) rfl (fun _ _ _ h => h) (Or.inl ⟨by rfl, ?_⟩) (by assumption) ?_
    rotate_left
    · intro w hSw; (try dsimp only at hSw); go_simp; try with_reducible rfl
    simp only [Act.put, List.setIfInBounds_toArray, List.set_cons_zero, List.set_cons_succ]
    refine wpAnyL.take (i := 3) (d := some 24) (v := ?_) rfl (by kernel_rfl) (by kernel_rfl) (by kernel_rfl) (by kernel_rfl) rfl (fun _ _ _ h => h) (Or.inl ⟨by rfl, ?_⟩) (by assumption) ?_
    rotate_left
    · intro w hSw; (try dsimp only at hSw); go_simp; try with_reducible rfl
    simp only [Act.put, List.setIfInBounds_toArray, List.set_cons_zero, List.set_cons_succ]
    refine wpAnyL.take (i := 4) (d := some 25) (v := ?_) rfl (by kernel_rfl) (by kernel_rfl) (by kernel_rfl) (by kernel_rfl) rfl (fun _ _ _ h => h) (Or.inl ⟨by rfl, ?_⟩) (by assumption) ?_
    rotate_left
    · intro w hSw; (try dsimp only at hSw); go_simp; try with_reducible rfl
    simp only [Act.put, List.setIfInBounds_toArray, List.set_cons_zero, List.set_cons_succ]
    refine wpAnyL.take (i := 5) (d := some 26) (v := ?_) rfl (by kernel_rfl) (by kernel_rfl) (by kernel_rfl) (by kernel_rfl) rfl (fun _ _ _ h => h) (Or.inl ⟨by rfl, ?_⟩) (by assumption) ?_
    rotate_left
    · intro w hSw; (try dsimp only at hSw); go_simp; try with_reducible rfl
    simp only [Act.put, List.setIfInBounds_toArray, List.set_cons_zero, List.set_cons_succ]
    refine wpAnyL.take (i := 6) (d := some 27) (v := ?_) rfl (by kernel_rfl) (by kernel_rfl) (by kernel_rfl) (by kernel_rfl) rfl (fun _ _ _ h => h) (Or.inl ⟨by rfl, ?_⟩) (by assumption) ?_
    rotate_left
    · intro w hSw; (try dsimp only at hSw); go_simp; try with_reducible rfl
    simp only [Act.put, List.setIfInBounds_toArray, List.set_cons_zero, List.set_cons_succ]
    refine wpAnyL.take (i := 7) (d := some 28) (v := ?_) rfl (by kernel_rfl) (by kernel_rfl) (by kernel_rfl) (by kernel_rfl) rfl (fun _ _ _ h => h) (Or.inl ⟨by rfl, ?_⟩) (by assumption) ?_
    rotate_left
    · intro w hSw; (try dsimp only at hSw); go_simp; try with_reducible rfl
    simp only [Act.put, List.setIfInBounds_toArray, List.set_cons_zero, List.set_cons_succ]
    refine wpAnyL.take (i := 8) (d := some 29) (v := ?_) rfl (by kernel_rfl) (by kernel_rfl) (by kernel_rfl) (by kernel_rfl) rfl (fun _ _ _ h => h) (Or.inl ⟨by rfl, ?_⟩) (by assumption) ?_
    rotate_left
    · intro w hSw; (try dsimp only at hSw); go_simp; try with_reducible rfl
    simp only [Act.put, List.setIfInBounds_toArray, List.set_cons_zero, List.set_cons_succ]
    refine wpAnyL.take (i := 9) (d := some 30) (v := ?_) rfl (by kernel_rfl) (by kernel_rfl) (by kernel_rfl) (by kernel_rfl) rfl (fun _ _ _ h => h) (Or.inl ⟨by rfl, ?_⟩) (by assumption) ?_
    rotate_left
    · intro w hSw; (try dsimp only at hSw); go_simp; try with_reducible rfl
    simp only [Act.put, List.setIfInBounds_toArray, List.set_cons_zero, List.set_cons_succ]
    refine wpAnyL.take (i := 10) (d := some 31) (v := ?_) rfl (by kernel_rfl) (by kernel_rfl) (by kernel_rfl) (by kernel_rfl) rfl (fun _ _ _ h => h) (Or.inl ⟨by rfl, ?_⟩) (by assumption) ?_
    rotate_left
    · intro w hSw; (try dsimp only at hSw); go_simp; try with_reducible rfl
    simp only [Act.put, List.setIfInBounds_toArray, List.set_cons_zero, List.set_cons_succ]
    refine wpAnyL.take (i := 11) (d := some 32) (v := ?_) rfl (by kernel_rfl) (by kernel_rfl) (by kernel_rfl) (by kernel_rfl) rfl (fun _ _ _ h => h) (Or.inl ⟨by rfl, ?_⟩) (by assumption) ?_
    rotate_left
    · intro w hSw; (try dsimp only at hSw); go_simp; try with_reducible rfl
    simp only [Act.put, List.setIfInBounds_toArray, List.set_cons_zero, List.set_cons_succ]
    refine wpAnyL.take (i := 12) (d := some 33) (v := ?_) rfl (by kernel_rfl) (by kernel_rfl) (by kernel_rfl) (by kernel_rfl) rfl (fun _ _ _ h => h) (Or.inl ⟨by rfl, ?_⟩) (by assumption) ?_
    rotate_left
    · intro w hSw; (try dsimp only at hSw); go_simp; try with_reducible rfl
    simp only [Act.put, List.setIfInBounds_toArray, List.set_cons_zero, List.set_cons_succ]
    refine wpAnyL.ready (rs := [13]) (by kernel_rfl) (by simp) ?_
    refine AllL.cons rfl (fun K hK => ?_) AllL.nil
    go_simp
    have hal := ((Below.refl wr.heap.size wr).drew).al (.cells #[.int .i64 (x.r : Int), .int .i64 (x.d : Int), .int .i64 (x.f : Int)] 68)
    have hgw' : gb < wr.heap.size := by omega
    have hww' : w.heap.size < wr.heap.size := by omega
    have hbf' : bf < wr.heap.size := by omega
    have hS2 := And.intro ((hal.cell (p := ⟨bf, 4, none⟩) hbf').trans q1) (And.intro ((hal.cell (p := ⟨gb, k, none⟩) hgw').trans q2) (fun i => (hal.cell (p := ⟨w.heap.size, i, none⟩) hww').trans (q3 i)))
    refine hK.out _ _ (fun _ => hS2) ?_
    clear hK K
    try dsimp only [Act.put]
    refine wpAnyL.ready (rs := [14]) (by kernel_rfl) (by simp) ?_
    refine AllL.cons rfl (fun K hK => ?_) AllL.nil
    refine step_append_hi _ rfl (.tmp 32) (.tmp 34) rfl base (.slice qA l.length qc) l.length l rfl (HIT1.out.via hal) wr.heap.size x rfl (Blk.new wr.drew 68 #[.int .i64 (x.r : Int), .int .i64 (x.d : Int), .int .i64 (x.f : Int)]) (by omega) (by have := HM1.out.base; simp; omega) ?_
    intro A1 d1 w1 ho1 hg1 hat1
    have hmv := Mv.grow (v := .slice (some ⟨gb, 0, none⟩) L.length c) (q' := (A1, l.length + 1, d1)) (g := gb) (i := k) HQ.out hg1 hat1 rfl (.slice A1 (l.length + 1) d1)
    have hmk := Mov.growK (v := .slice (some ⟨gb, 0, none⟩) L.length c) (q' := (A1, l.length + 1, d1)) (g := gb) (i := k) HQ.out hg1 hat1 rfl (.slice A1 (l.length + 1) d1)
    have hm0 : Mov (NoF k (.slice (some ⟨gb, 0, none⟩) L.length c) hs) (NoF k (.slice (some ⟨gb, 0, none⟩) L.length c) hs) w (wr.drew.alloc (.cells #[.int .i64 (x.r : Int), .int .i64 (x.d : Int), .int .i64 (x.f : Int)] 68)) := (Mov.of HB.out).trans ((Mov.of HBr.out).trans (.of hal))
    have HMV := Lib.hid (hm0.trans hmk)
    have hMal := HM1.out.via hal
    have hbk := hMal.blk.grown hg1 HBQ.out
    have g4 : w1.cell? ⟨bf, 4, none⟩ = some (.slice (some ⟨gb, 0, none⟩) (k + 1) c) := by
      rw [hbk.cell, ← HK.out]; rfl
    have g5 : w1.cell? ⟨gb, k, none⟩ = some (.slice qA l.length qc) := (Agr.grown (ok := fun b => b = gb) hg1 (fun b e => by rw [e]; exact HGQ.out)).cell rfl hS2.2.1
    have g6 : ∀ i, w1.cell? ⟨w.heap.size, i, none⟩ = #[.int .i64 (x.r : Int), .int .i64 (x.d : Int), .int .i64 (x.f : Int)][i]? := fun i => by
      rw [((HX1.out.via hal).grown hg1 (fun e => by have := HQL.out _ e.symm; omega)).cell]
    have g7 : w1.frozen? ⟨gb, k, none⟩ = false := by
      exact (grown_frozen hg1 (by simp; omega) HGQ.out k).trans ((hal.frozen (p := ⟨gb, k, none⟩) hgw').trans (GF1.out k))
    have hgbf : bf ≠ gb := fun e => HH.out.far.1 (by rw [e]; rfl)
    have hsets := hMal.sets.grow (q' := (A1, l.length + 1, d1)) (l' := l ++ [x]) HQ.out HL.out (by rw [List.length_append]; exact ho1) hg1 hat1
    have hrules : Sl RuE (fun b => b < base) (w1.setCell ⟨gb, k, none⟩ (.slice A1 (l.length + 1) d1)) AR nR cR R := by
      refine (hMal.rules.agr (Agr.grown hg1 fun b hb e => ?_)).agr (Agr.setCell _ fun b hb e => ?_)
      · have := ((hMal.sets.items k _ l HQ.out HL.out).lt b e.symm).1
        omega
      · have hb' : b = gb := e
        omega
    have HFM := Lib.hid (show FolM (w1.setCell ⟨gb, k, none⟩ (.slice A1 (l.length + 1) d1)) base bf c0 c1 c2 AR nR cR R (.slice (some ⟨gb, 0, none⟩) L.length c) (hs.set k (A1, l.length + 1, d1)) (L.set k (l ++ [x])) from
      ⟨hbk.far hgbf _, hrules, hsets, hmv.no bf (by simp; omega) HH.out.far, by have := HM1.out.base; have := hmv.env.size; simp at this ⊢; omega⟩)
    clear hmv hm0 hmk hMal hbk hsets hrules
    refine hK.out _ _ (fun _ => ⟨g4, g5, g6⟩) ?_
    clear hK K
    try dsimp only [Act.put]
    refine wpAnyL.ready (rs := [15]) (by kernel_rfl) (by simp) ?_
    refine AllL.cons rfl (fun K hK => ?_) AllL.nil
    go_simp
    refine hK.out _ _ (fun _ => ⟨g4, g5, g6⟩) ?_
    clear hK K
    try dsimp only [Act.put]
    refine wpAnyL.ready (rs := [16]) (by kernel_rfl) (by simp) ?_
    refine AllL.cons rfl (fun K hK => ?_) AllL.nil
    go_simp
    refine hK.out _ _ (fun h => absurd rfl h) ?_
    clear hK K
    refine wpAnyL.done (by kernel_rfl) ?_ _
    refine NoPanic.normal ?_
    clear g4 g5 g6 g7
    go_wp2_with fail
    refine bodyPost_ret (v := .tuple #[]) (by simp [results, Try.results44, go_sem]) rfl ?_
    rw [HX.out]
    exact ⟨rfl, _, _, HFM.out, HMV.out⟩
end Go.Proofs.Ytdmecijpioljaaa

