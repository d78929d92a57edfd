/- Texts DA, DB, laid together. -/
import Derived.Test.YtbhenicldddlfaaDoorC1


namespace Go.Proofs.YtbhenicldddlfaaDoor
open Go.RowKit

theorem doc_info : (Tryd.prog.info? 29).map (fun i => (i.zero, i.size, i.bytes)) = some (some (.agg #[.int .i64 0, .string ⟨#[]⟩, .int .i64 0, .slice none 0 0]), 4, 56) := by kernel_rfl

inductive Dc where
  | node (kind : Nat) (text : ByteArray) (ind : Nat) (args : List Dc)
def Dc.kind : Dc → Nat | .node k _ _ _ => k
def Dc.text : Dc → ByteArray | .node _ s _ _ => s
def Dc.ind : Dc → Nat | .node _ _ i _ => i
def Dc.args : Dc → List Dc | .node _ _ _ xs => xs

abbrev DcV := Nat × ByteArray × Nat × SlV
def dcCells (r : DcV) : List Value := [.int .i64 (r.1 : Int), .string r.2.1, .int .i64 (r.2.2.1 : Int), .slice r.2.2.2.1 r.2.2.2.2.1 r.2.2.2.2.2]
/-- the value of a document -/
def dcVal (v : DcV) : Value := .agg #[.int .i64 (v.1 : Int), .string v.2.1, .int .i64 (v.2.2.1 : Int), .slice v.2.2.2.1 v.2.2.2.2.1 v.2.2.2.2.2]

inductive DcR (ok : Nat → Prop) (w : World) : DcV → Dc → Prop
  | node (k : Nat) (s : ByteArray) (i : Nat) (A : Option Addr) (n c : Nat) (args : List Dc) (raw : List DcV) (hl : args.length = n) (hc : n ≤ c) (hr : raw.length = n) (hcel : Cel ok w A (raw.flatMap dcCells))
      (hk : ∀ (i : Nat) (x : DcV) (t : Dc), raw[i]? = some x → args[i]? = some t → DcR ok w x t) : DcR ok w (k, s, i, A, n, c) (.node k s i args)

theorem DcR.agr {ok : Nat → Prop} {w w' : World} {v : DcV} {t : Dc} (h : DcR ok w v t) (k : Agr ok w w') : DcR ok w' v t := by
  induction h with
  | node k s i A n c args raw hl hc hr hcel _ ih => exact .node k s i A n c args raw hl hc hr (hcel.agr ‹_›) ih
theorem DcR.mono {ok ok' : Nat → Prop} {w : World} {v : DcV} {t : Dc} (h : DcR ok w v t) (k : ∀ b, b < w.heap.size → ok b → ok' b) : DcR ok' w v t := by
  induction h with
  | node k s i A n c args raw hl hc hr hcel _ ih => exact .node k s i A n c args raw hl hc hr (hcel.mono ‹_›) ih

def DcE : Elem Dc DcV where
  k := 4
  cells := dcCells
  rel := DcR
  pos := by omega
  len _ := rfl
  one r u hu := by simp [dcCells] at hu; rcases hu with rfl | rfl | rfl | rfl <;> rfl
  agr h k := h.agr k
  mono h k := h.mono k

section
variable {ok ok' : Nat → Prop} {w w' : World} {v : DcV} {t : Dc}
theorem DcR.via (h : DcR ok w v t) (hb : Below w.heap.size w w') : DcR ok w' v t := h.agr (Agr.below hb)
theorem DcR.al (h : DcR ok w v t) (o : Obj) : DcR ok (w.alloc o) v t := h.agr (Agr.below ((Below.refl w.heap.size w).alloc (Nat.le_refl _) o))
theorem DcR.dr (h : DcR ok w v t) : DcR ok w.drew v t := h.agr (Agr.below ((Below.refl w.heap.size w).drew))
theorem DcR.parts (h : DcR ok w v t) : v.1 = t.kind ∧ v.2.1 = t.text ∧ v.2.2.1 = t.ind ∧ Sl DcE ok w v.2.2.2.1 v.2.2.2.2.1 v.2.2.2.2.2 t.args := by
  cases h with
  | node k s i A n c args raw hl hc hr hcel hk => exact ⟨rfl, rfl, rfl, hl, hc, raw, hr, hcel, hk⟩
theorem DcR.of (k : Nat) (s : ByteArray) (i : Nat) {A : Option Addr} {n c : Nat} {args : List Dc} (h : Sl DcE ok w A n c args) : DcR ok w (k, s, i, A, n, c) (.node k s i args) := by
  obtain ⟨h1, h2, raw, h3, h4, h5⟩ := h
  exact .node k s i A n c args raw h1 h2 h3 h4 h5
theorem DcR.far {p : Addr} (h : DcR ok w v t) (u : Value) (hk : ∀ b, ok b → b ≠ p.block) : DcR ok (w.setCell p u) v t := h.agr (Agr.setCell u hk)
/-- one document in a row of its own -/
theorem Sl.oneD {b : Nat} (hb : Blk w b 29 #[.int .i64 (v.1 : Int), .string v.2.1, .int .i64 (v.2.2.1 : Int), .slice v.2.2.2.1 v.2.2.2.2.1 v.2.2.2.2.2]) (h : DcR ok w v t) (hok : ok b) : Sl DcE ok w (some ⟨b, 0, none⟩) 1 1 [t] :=
  ⟨rfl, Nat.le_refl _, [v], rfl, fun _ => ⟨b, 0, rfl, hok, fun j u hu => by rw [Nat.zero_add, hb.cell]; simpa [flat, DcE, dcCells] using hu⟩, fun i r x hr hx => by
    match i, hr, hx with
    | 0, hr, hx => simp at hr hx; subst hr hx; exact h
    | i + 1, hr, hx => simp at hr⟩
end

/-! ### size -/
mutual
def Dc.size : Dc → Nat
  | .node _ _ _ ks => Dc.sizes ks + 1
def Dc.sizes : List Dc → Nat
  | [] => 0
  | t :: ts => t.size + Dc.sizes ts
end
theorem Dc.size_pos (t : Dc) : 0 < t.size := by cases t; simp [Dc.size]
theorem Dc.size_eq (t : Dc) : t.size = Dc.sizes t.args + 1 := by cases t; simp [Dc.size, Dc.args]
theorem Dc.size_mem {t : Dc} {ks : List Dc} (h : t ∈ ks) : t.size ≤ Dc.sizes ks := by
  induction ks with
  | nil => cases h
  | cons a ks ih =>
    rcases List.mem_cons.1 h with rfl | h
    · simp [Dc.sizes]
    · have := ih h; simp only [Dc.sizes]; omega
theorem Dc.size_arg {t x : Dc} (h : x ∈ t.args) : x.size < t.size := by
  have := Dc.size_mem h; have := t.size_eq; omega
theorem Dc.sizes_append (a b : List Dc) : Dc.sizes (a ++ b) = Dc.sizes a + Dc.sizes b := by
  induction a with
  | nil => simp [Dc.sizes]
  | cons t ts ih => simp only [List.cons_append, Dc.sizes, ih]; omega
theorem Dc.sizes_take {ks : List Dc} {k : Nat} {y : Dc} (h : ks[k]? = some y) : Dc.sizes (ks.take (k + 1)) = Dc.sizes (ks.take k) + y.size := by
  have hl := List.getElem?_eq_some_iff.1 h
  rw [List.take_succ_eq_append_getElem hl.1, hl.2, Dc.sizes_append]
  simp [Dc.sizes]
theorem Dc.sizes_take_le (ks : List Dc) (k : Nat) : Dc.sizes (ks.take k) ≤ Dc.sizes ks := by
  have e : Dc.sizes (ks.take k) + Dc.sizes (ks.drop k) = Dc.sizes ks := by rw [← Dc.sizes_append, List.take_append_drop]
  omega
theorem Dc.sizes_le {ks : List Dc} {M : Nat} (h : ∀ t ∈ ks, t.size ≤ M) : Dc.sizes ks ≤ ks.length * M := by
  induction ks with
  | nil => simp [Dc.sizes]
  | cons t ks ih =>
    have h1 := h t (List.mem_cons_self ..)
    have h2 := ih fun x hx => h x (List.mem_cons_of_mem _ hx)
    simp only [Dc.sizes, List.length_cons, Nat.add_mul]; omega
theorem Dc.args_len (t : Dc) : t.args.length < t.size := by
  have : ∀ l : List Dc, l.length ≤ Dc.sizes l := by
    intro l
    induction l with
    | nil => simp
    | cons a l ih => have := a.size_pos; simp only [List.length_cons, Dc.sizes]; omega
  have h1 := this t.args; have := t.size_eq; omega

/-! ### a valid document -/
def TextOk (s : ByteArray) : Prop := s.size ≤ 60 ∧ ∀ b ∈ s.data.toList, 32 ≤ b.toNat ∧ b.toNat ≤ 126
inductive Dc.Ok : Dc → Prop
  | text (s : ByteArray) (h : TextOk s) : Dc.Ok (.node 0 s 0 [])
  | line (k : Nat) (h1 : 1 ≤ k) (h3 : k ≤ 3) : Dc.Ok (.node k ⟨#[]⟩ 0 [])
  | cat (ks : List Dc) (h : ∀ t ∈ ks, Dc.Ok t) : Dc.Ok (.node 4 ⟨#[]⟩ 0 ks)
  | nest (n : Nat) (t : Dc) (hn : n ≤ 20) (h : Dc.Ok t) : Dc.Ok (.node 5 ⟨#[]⟩ n [t])
  | group (t : Dc) (h : Dc.Ok t) : Dc.Ok (.node 6 ⟨#[]⟩ 0 [t])
theorem Dc.Ok.arg {t : Dc} (h : t.Ok) : ∀ x ∈ t.args, x.Ok := by
  cases h with
  | text s h => intro x hx; cases hx
  | line k h1 h3 => intro x hx; cases hx
  | cat ks h => exact h
  | nest n t hn h => intro x hx; rw [List.mem_singleton.1 hx]; exact h
  | group t h => intro x hx; rw [List.mem_singleton.1 hx]; exact h
theorem Dc.Ok.kind_le {t : Dc} (h : t.Ok) : t.kind ≤ 6 := by
  cases h <;> simp only [Dc.kind] <;> omega
theorem Dc.Ok.ind_le {t : Dc} (h : t.Ok) : t.ind ≤ 20 := by
  cases h <;> simp only [Dc.ind] <;> omega

/-! ### appending a document -/
theorem step_append_dc {ops : Array Oper} {o : Oper} {a : Act} {K : Act → World → Prop} {Q : Exit → Act → World → Prop} {F : Prop} (w : World) (hgd : o.guard = none) (s y : Operand)
    (ho : o.op = .call { callee := .builtin .append, args := #[s, y], argTypes := #[27, 27] })
    (ok : Nat → Prop) (base : Nat) (v : Value) (n : Nat) (l : List Dc) (hv : a.eval s = v) (hown : Own DcE 29 ok w base v n l)
    (b : Nat) (r : DcV) (x : Dc) (hy : a.eval y = .slice (some ⟨b, 0, none⟩) 1 1) (hcell : Blk w b 29 #[.int .i64 (r.1 : Int), .string r.2.1, .int .i64 (r.2.2.1 : Int), .slice r.2.2.2.1 r.2.2.2.2.1 r.2.2.2.2.2]) (hrel : DcR (fun b => ok b ∧ some b ≠ v.ownBlock) w r x)
    (h63 : n + 1 ≤ 1000000) (hbase : base ≤ w.heap.size)
    (h : ∀ A' c' w', Own DcE 29 ok w' base (.slice A' (n + 1) c') (n + 1) (l ++ [x]) → w.grownBy w' v.ownBlock → ((Value.slice A' (n + 1) c').ownBlock = v.ownBlock ∨ (Value.slice A' (n + 1) c').ownBlock = some w.heap.size) → K (a.put o.dst (.slice A' (n + 1) c')) w') :
    if Region.wanted o (yielded ops a.tmps) = true then Oper.wp Tryd.prog o a w K Q else F := by
  obtain ⟨i, hi, hz⟩ := Option.map_eq_some_iff.1 doc_info
  simp only [Prod.mk.injEq] at hz
  refine step_append_E (E := DcE) w hgd s y 27 29 ho i (.agg #[.int .i64 0, .string ⟨#[]⟩, .int .i64 0, .slice none 0 0]) 56 (by kernel_rfl) hi hz.1 hz.2.1 hz.2.2 rfl ok base v n l hv hown b r x hy (fun j u hu => ?_) hrel (by simp [maxLen]; omega) (by omega) hbase h
  rw [hcell.cell j]
  rw [List.getElem?_toArray]; exact hu
end Go.Proofs.YtbhenicldddlfaaDoor




namespace Go.Proofs.YtbhenicldddlfaaDoor
open Go.RowKit

/-- the four cells of a struct are written -/
def World.set4 (w : World) (r : Nat) (v : DcV) : World :=
  (((w.setCell ⟨r, 0, none⟩ (.int .i64 (v.1 : Int))).setCell ⟨r, 1, none⟩ (.string v.2.1)).setCell ⟨r, 2, none⟩ (.int .i64 (v.2.2.1 : Int))).setCell ⟨r, 3, none⟩ (.slice v.2.2.2.1 v.2.2.2.2.1 v.2.2.2.2.2)
section
variable {w0 w : World} {r : Nat} {v : DcV}
theorem agr_set4 {ok : Nat → Prop} (hk : ∀ b, ok b → b ≠ r) : Agr ok w (World.set4 w r v) :=
  (((Agr.setCell _ hk).trans (Agr.setCell _ hk)).trans (Agr.setCell _ hk)).trans (Agr.setCell _ hk)
theorem below_set4 {B : Nat} (h : Below B w0 w) (hr : B ≤ r) : Below B w0 (World.set4 w r v) :=
  (((h.setCell hr _).setCell hr _).setCell hr _).setCell hr _
theorem size_set4 : (World.set4 w r v).heap.size = w.heap.size := by simp [World.set4]
theorem Rd.set4 {br : Nat} (h : Rd w0 w br) (h1 : r ≠ br) (h3 : w0.heap.size ≤ r) : Rd w0 (World.set4 w r v) br :=
  (((h.far h1 h3 _).far h1 h3 _).far h1 h3 _).far h1 h3 _
end
/-- the most nodes of a document of a depth -/
def dcMax : Nat → Nat
  | 0 => 1
  | d + 1 => 4 * dcMax d + 1
theorem dcMax_le : ∀ {d : Nat}, d ≤ 4 → dcMax d ≤ 341
  | 0, _ | 1, _ | 2, _ | 3, _ | 4, _ => by decide
  | _ + 5, h => by omega
theorem dcMax_pos : ∀ d, 1 ≤ dcMax d
  | 0 => Nat.le_refl _
  | _ + 1 => by simp [dcMax]

def DocP (w0 w : World) (br d : Nat) (e : Ending) (w' : World) : Prop :=
  ∃ (v : DcV) (t : Dc), e = .returned (dcVal v) ∧ DcR (fun b => w.heap.size ≤ b) w' v t ∧ t.Ok ∧ t.size ≤ dcMax d ∧ Rd w0 w' br ∧ Agr (Nr br) w w' ∧ w.heap.size ≤ w'.heap.size
theorem DocP.fin {w0 w wr : World} {br d : Nat} (v : DcV) (t : Dc) (hrd : Rd w0 wr br) (ha : Agr (Nr br) w wr) (hz : w.heap.size + 1 ≤ wr.heap.size) (hb : br < w.heap.size) (ht : DcR (fun b => w.heap.size + 1 ≤ b) wr v t) (hok : t.Ok) (hsz : t.size ≤ dcMax d) :
    DocP w0 w br d (.returned (dcVal v)) (World.set4 wr w.heap.size v) := by
  have hlo := hrd.lo
  refine ⟨v, t, rfl, (ht.agr (agr_set4 fun b hb => by omega)).mono (fun b _ hb => by omega), hok, hsz, hrd.set4 (by omega) (by omega), ?_, by rw [size_set4]; omega⟩
  intro b hb hlt
  exact (agr_set4 (ok := fun b => b ≠ w.heap.size) (fun _ h => h) b (by show b ≠ w.heap.size; omega) (by omega)).trans (ha b hb hlt)

/-- behind k arguments -/
structure DRel (w0 w : World) (br M bt k : Nat) (v : Value) (ks : List Dc) (wr : World) : Prop where
  rd : Rd w0 wr br
  agr : Agr (Nr br) w wr
  own : Own DcE 29 (fun b => bt + 1 ≤ b) wr (bt + 1) v k ks
  b1 : Blk wr w.heap.size 29 #[.int .i64 0, .string ⟨#[]⟩, .int .i64 0, .slice none 0 0]
  b2 : Blk wr bt 29 #[.int .i64 4, .string ⟨#[]⟩, .int .i64 0, v]
  size : bt + 1 ≤ wr.heap.size
  hbt : w.heap.size + 1 ≤ bt
  oks : ∀ t ∈ ks, Dc.Ok t ∧ t.size ≤ M
section
variable {w0 w wr wa w1 : World} {br M bt k : Nat} {v v' : Value} {ks : List Dc}
theorem DRel.call (h : DRel w0 w br M bt k v ks wr) (hb : br < w.heap.size) (ha : Agr (Nr br) wr wa) (hz : wr.heap.size ≤ wa.heap.size) (hs : Rd w0 wa br) : DRel w0 w br M bt k v ks wa := by
  have hbt := h.hbt
  have hm : ∀ j, w.heap.size ≤ j → Nr br j := fun j hj => by show j ≠ br; omega
  refine ⟨hs, h.agr.trans ha, h.own.agr (ha.mono fun j hj => ?_), h.b1.agr ha (hm _ (by omega)), h.b2.agr ha (hm _ (by omega)), Nat.le_trans h.size hz, hbt, h.oks⟩
  rcases hj with hj | hj
  · exact hm j (by omega)
  · have := (h.own.lt j hj.symm).1; exact hm j (by omega)
theorem DRel.via (h : DRel w0 w br M bt k v ks wr) (hb : br < w.heap.size) (ha : Below wr.heap.size wr wa) : DRel w0 w br M bt k v ks wa :=
  h.call hb (Agr.below ha) ha.size (h.rd.via ha)
theorem DRel.push {t : Dc} (h : DRel w0 w br M bt k v ks wr) (hb : br < w.heap.size) (ho : Own DcE 29 (fun b => bt + 1 ≤ b) w1 (bt + 1) v' (k + 1) (ks ++ [t])) (hg : wr.grownBy w1 v.ownBlock) (ht : Dc.Ok t ∧ t.size ≤ M) :
    DRel w0 w br M bt (k + 1) v' (ks ++ [t]) (w1.setCell ⟨bt, 3, none⟩ v') := by
  have hbt := h.hbt
  have hsz := h.size
  have hw0 := h.rd.lo
  have hne : ∀ j, j ≤ bt → some j ≠ v.ownBlock := fun j hj e => by have := (h.own.lt j e.symm).1; omega
  refine ⟨(h.rd.grown hg fun j e => by have := (h.own.lt j e).1; omega).far (by simp; omega) (by simp; omega) _, ?_, ?_, (h.b1.grown hg (hne _ (by omega))).far (by simp; omega) _, ?_, ?_, hbt, ?_⟩
  · intro b hb' hlt
    have e1 := h.agr b hb' hlt
    have e2 := hg.block b (by omega) (hne _ (by omega))
    have e3 := Below.heap_setCell w1 ⟨bt, 3, none⟩ v' b (by simp; omega)
    exact e3.trans (e2.trans e1)
  · exact ho.setCell _ (fun b hb => by show b ≠ bt; omega) (by show bt < _; omega)
  · have := (h.b2.grown hg (hne _ (by omega))).set_ 3 v'; simpa using this
  · have := hg.size; simp; omega
  · intro x hx
    rcases List.mem_append.1 hx with hx | hx
    · exact h.oks x hx
    · rw [List.mem_singleton.1 hx]; exact ht
end
theorem Agr.newCell {ok : Nat → Prop} {w w' : World} {p : Addr} (h : Agr ok w w') (hp : w.heap.size ≤ p.block) (u : Value) : Agr ok w (w'.setCell p u) :=
  fun b hb hlt => (Below.heap_setCell w' p u b (by omega)).trans (h b hb hlt)
theorem Agr.al_ {ok : Nat → Prop} {w w' : World} (h : Agr ok w w') (o : Obj) : Agr ok w (w'.alloc o) := h.trans (Agr.below ((Below.refl w'.heap.size w').al o))
theorem textOk_lit : TextOk ⟨#[97]⟩ ∧ TextOk ⟨#[98, 99]⟩ ∧ TextOk ⟨#[100, 101, 102]⟩ ∧ TextOk ⟨#[]⟩ ∧ TextOk ⟨#[103, 104, 105, 106, 107]⟩ := by
  refine ⟨⟨by decide, by decide⟩, ⟨by decide, by decide⟩, ⟨by decide, by decide⟩, ⟨by decide, by decide⟩, ⟨by decide, by decide⟩⟩

set_option maxRecDepth 100000 in
set_option maxHeartbeats 8000000 in
theorem document_n (w0 : World) (br : Nat) (d : Nat) : d ≤ 4 → ∀ (w : World) (D : Int), D = (d : Int) → Rd w0 w br →
    Calls Tryd.prog 20 #[.pointer (some ⟨br, 0, none⟩), .int .i64 D] w (DocP w0 w br d) := by
  induction d using Nat.strongRecOn with
  | ind d ih =>
    intro hd w D hD hr
    have hbr := hr.lt
    have B1 := Blk.new w 29 #[.int .i64 0, .string ⟨#[]⟩, .int .i64 0, .slice none 0 0]
    have hB := (Below.refl w.heap.size w).al (.cells #[.int .i64 0, .string ⟨#[]⟩, .int .i64 0, .slice none 0 0] 29)
    have hs : w.heap.size + 1 ≤ (w.alloc (.cells #[.int .i64 0, .string ⟨#[]⟩, .int .i64 0, .slice none 0 0] 29)).heap.size := by simp
    replace hr := hr.al (.cells #[.int .i64 0, .string ⟨#[]⟩, .int .i64 0, .slice none 0 0] 29)
    go_enter Tryd.func20, Tryd.ntmps20
    go_wp2_with fail
    generalize w.alloc (.cells #[.int .i64 0, .string ⟨#[]⟩, .int .i64 0, .slice none 0 0] 29) = W at *
    refine (rd_n w0 W br 7 _ rfl hr (by omega) (by omega)).mono ?_
    rintro e W2 ⟨K, rfl, hK7, hr1, ha1, hz1, -⟩
    have B3 := B1.agr ha1 (show Nr br w.heap.size by show w.heap.size ≠ br; omega)
    have hA1 : Agr (Nr br) w W2 := (Agr.below hB).trans ha1
    have hs2 : w.heap.size + 1 ≤ W2.heap.size := by omega
    have HA2 := Lib.hid hA1
    have HR2 := Lib.hid hr1
    have HI := Lib.hid ih
    clear ha1 hr1 hr B1 hA1 hB hs hz1 ih
    by_cases hd0 : d = 0
    case' pos =>
      subst hd0
      have hbd : (D == 0) = true := by simp; omega
      have HD := Lib.hid hD
      clear hD
      go_wp2_with fail
      refine (rd_n w0 W2 br 4 _ rfl HR2.out (by omega) (by omega)).mono ?_
      rintro e W4 ⟨K4, rfl, hK, hr2, ha2, hz2, -⟩
      replace B3 := B3.agr ha2 (show Nr br w.heap.size by show w.heap.size ≠ br; omega)
      replace HR2 := Lib.hid hr2
      replace HA2 := Lib.hid (HA2.out.trans ha2)
      replace hs2 : w.heap.size + 1 ≤ W4.heap.size := by omega
      clear hr2 ha2 hbd hz2 hK7 
      clear W2
      have hK7 : K4 < 7 := by omega
      have HKD := Lib.hid (show 4 ≤ K4 → ∃ d', d' < 0 ∧ dcMax 0 = 4 * dcMax d' + 1 ∧ IntKind.i64.wrap (D - 1) = (d' : Int) from fun h => by omega)
      clear hK
      generalize W4 = W2 at *
      generalize K4 = K at *
      go_upto_region 4 with fail
    case' neg =>
      have hbd : (D == 0) = false := by simp; omega
      have HKD := Lib.hid (show 4 ≤ K → ∃ d', d' < d ∧ dcMax d = 4 * dcMax d' + 1 ∧ IntKind.i64.wrap (D - 1) = (d' : Int) from fun h => by
        obtain ⟨d', rfl⟩ := Nat.exists_eq_succ_of_ne_zero hd0
        exact ⟨d', Nat.lt_succ_self _, rfl, (IntWalk.i64_in _ (by omega)).trans (by omega)⟩)
      have HD := Lib.hid hD
      clear hD
      go_upto_region 4 with fail
      clear hbd
    all_goals
      have B4 := B3.al (.cells #[.int .i64 (K : Int), .string ⟨#[]⟩, .int .i64 0, .slice none 0 0] 29)
      have B5 := Blk.new W2 29 #[.int .i64 (K : Int), .string ⟨#[]⟩, .int .i64 0, .slice none 0 0]
      have HR3 := Lib.hid (HR2.out.al (.cells #[.int .i64 (K : Int), .string ⟨#[]⟩, .int .i64 0, .slice none 0 0] 29))
      have HA3 := Lib.hid (HA2.out.trans (Agr.below ((Below.refl W2.heap.size W2).al (.cells #[.int .i64 (K : Int), .string ⟨#[]⟩, .int .i64 0, .slice none 0 0] 29))))
      have hs3 : W2.heap.size + 1 ≤ (W2.alloc (.cells #[.int .i64 (K : Int), .string ⟨#[]⟩, .int .i64 0, .slice none 0 0] 29)).heap.size := by simp
      clear B3 HR2 HA2
      go_upto_region 5 with fail
      generalize W2.alloc (.cells #[.int .i64 (K : Int), .string ⟨#[]⟩, .int .i64 0, .slice none 0 0] 29) = W3 at *
      generalize W2.heap.size = bt at *
    · have hcase : K = 0 ∨ (1 ≤ K ∧ K ≤ 3) ∨ K = 4 ∨ K = 5 ∨ K = 6 := by omega
      rcases hcase with hk | hk | hk | hk | hk
      · have hb0 : ((K : Int) == 0) = true := by simp; omega
        have hb4 : ((K : Int) == 4) = false := by simp; omega
        have hb5 : ((K : Int) == 5) = false := by simp; omega
        have hb6 : ((K : Int) == 6) = false := by simp; omega
        have HK := Lib.hid hk
        clear hk HKD
        have HB4 := Lib.hid B4
        have HB5 := Lib.hid B5
        clear B4 B5
        go_upto_region 7 with fail
        go_wp2_with fail
        have B6 := Blk.new W3 9 #[Value.string ⟨#[97]⟩, Value.string ⟨#[98, 99]⟩, Value.string ⟨#[100, 101, 102]⟩, Value.string ⟨#[]⟩, Value.string ⟨#[103, 104, 105, 106, 107]⟩]
        refine (rd_n w0 _ br 5 _ rfl (HR3.out.al _) (by omega) (by omega)).mono ?_
        rintro e W5 ⟨j, rfl, hj, hr2, ha2, hz2, -⟩
        have hs4 : W3.heap.size + 1 ≤ W5.heap.size := by simp at hz2; omega
        replace B6 := B6.agr ha2 (show Nr br W3.heap.size by show W3.heap.size ≠ br; omega)
        have B4 := ((HB4.out.al (.cells #[Value.string ⟨#[97]⟩, Value.string ⟨#[98, 99]⟩, Value.string ⟨#[100, 101, 102]⟩, Value.string ⟨#[]⟩, Value.string ⟨#[103, 104, 105, 106, 107]⟩] 9))).agr ha2 (show Nr br w.heap.size by show w.heap.size ≠ br; omega)
        have B5 := ((HB5.out.al (.cells #[Value.string ⟨#[97]⟩, Value.string ⟨#[98, 99]⟩, Value.string ⟨#[100, 101, 102]⟩, Value.string ⟨#[]⟩, Value.string ⟨#[103, 104, 105, 106, 107]⟩] 9))).agr ha2 (show Nr br bt by show bt ≠ br; omega)
        have HA4 := Lib.hid ((HA3.out.trans (Agr.below ((Below.refl W3.heap.size W3).al (.cells #[Value.string ⟨#[97]⟩, Value.string ⟨#[98, 99]⟩, Value.string ⟨#[100, 101, 102]⟩, Value.string ⟨#[]⟩, Value.string ⟨#[103, 104, 105, 106, 107]⟩] 9)))).trans ha2)
        have HR4 := Lib.hid hr2
        obtain ⟨s, hs, cs⟩ : ∃ s, TextOk s ∧ W5.cell? ⟨W3.heap.size, j, none⟩ = some (.string s) := by
          have hl := textOk_lit
          rcases (by omega : j = 0 ∨ j = 1 ∨ j = 2 ∨ j = 3 ∨ j = 4) with rfl | rfl | rfl | rfl | rfl
          · exact ⟨_, hl.1, B6.cell 0⟩
          · exact ⟨_, hl.2.1, B6.cell 1⟩
          · exact ⟨_, hl.2.2.1, B6.cell 2⟩
          · exact ⟨_, hl.2.2.2.1, B6.cell 3⟩
          · exact ⟨_, hl.2.2.2.2, B6.cell 4⟩
        have HS := Lib.hid hs
        clear ha2 hr2 hz2 HA3 HR3 HB4 HB5 hs
        have i0 : (0 : Int) ≤ (j : Int) := by omega
        have i1 : (j : Int) < 5 := by omega
        have cB4 := B4.cell
        have fB4 := B4.frozen
        have lB4 := B4.lt
        have cB5 := B5.cell
        have fB5 := B5.frozen
        have lB5 := B5.lt
        go_wp2_with fail
        refine bodyPost_ret (v := dcVal (K, s, 0, none, 0, 0)) (by simp [results, Tryd.results20, go_sem, dcVal, cB4]) rfl (DocP.fin (K, s, 0, none, 0, 0) (.node K s 0 []) ?_ ?_ ?_ hbr (DcR.of K s 0 (Sl.nil 0)) ?_ ?_)
        · exact HR4.out.far (by simp; omega) (by have := HR4.out.lo; simp; omega) _
        · exact HA4.out.newCell (by simp; omega) _
        · simp; omega
        · have := HK.out; subst this; exact .text s HS.out
        · have := dcMax_pos d; simpa [Dc.size, Dc.sizes]
      · have hb0 : ((K : Int) == 0) = false := by simp; omega
        have hb4 : ((K : Int) == 4) = false := by simp; omega
        have hb5 : ((K : Int) == 5) = false := by simp; omega
        have hb6 : ((K : Int) == 6) = false := by simp; omega
        have HK := Lib.hid hk
        clear hk HKD
        have cB4 := B4.cell
        have fB4 := B4.frozen
        have lB4 := B4.lt
        have cB5 := B5.cell
        have fB5 := B5.frozen
        have lB5 := B5.lt
        go_wp2_with fail
        refine bodyPost_ret (v := dcVal (K, ⟨#[]⟩, 0, none, 0, 0)) (by simp [results, Tryd.results20, go_sem, dcVal, cB4]) rfl (DocP.fin (K, ⟨#[]⟩, 0, none, 0, 0) (.node K ⟨#[]⟩ 0 []) HR3.out HA3.out (by omega) hbr (DcR.of K ⟨#[]⟩ 0 (Sl.nil 0)) (.line K HK.out.1 HK.out.2) ?_)
        have := dcMax_pos d; simpa [Dc.size, Dc.sizes]
      · obtain ⟨d', hd', hmx, hD1⟩ := HKD.out (by omega)
        have hb0 : ((K : Int) == 0) = false := by simp; omega
        have hb4 : ((K : Int) == 4) = true := by simp; omega
        have hb5 : ((K : Int) == 5) = false := by simp; omega
        have hb6 : ((K : Int) == 6) = false := by simp; omega
        have HK := Lib.hid hk
        obtain ⟨D1, hD2⟩ : ∃ D1 : Int, IntKind.i64.wrap (D - 1) = D1 := ⟨_, rfl⟩
        rw [hD2] at hD1
        have HD1 := Lib.hid hD1
        have HM := Lib.hid hmx
        have HB6 := Lib.hid B4
        have HB7 := Lib.hid B5
        clear hk HKD hD1 hmx B4 B5
        go_wp2_with fail
        refine (rd_n w0 _ br 4 _ rfl HR3.out (by omega) (by omega)).mono ?_
        rintro e W4 ⟨j, rfl, hj, hr2, ha2, hz2, -⟩
        have B4 := HB6.out.agr ha2 (show Nr br w.heap.size by show w.heap.size ≠ br; omega)
        have B5 : Blk W4 bt 29 #[.int .i64 4, .string ⟨#[]⟩, .int .i64 0, .slice none 0 0] := by
          have := HB7.out.agr ha2 (show Nr br bt by show bt ≠ br; omega); have e := HK.out; subst e; exact this
        have HA4 := Lib.hid (HA3.out.trans ha2)
        have HR4 := Lib.hid hr2
        have hs4 : bt + 1 ≤ W4.heap.size := by omega
        obtain ⟨Q, hQ⟩ : ∃ Q : Int, Q = (j : Int) + 1 := ⟨_, rfl⟩
        have e1 : IntKind.i64.wrap (1 + (j : Int)) = Q := (IntWalk.i64_in _ (by omega)).trans (by omega)
        have q1 : 1 ≤ Q := by omega
        have q2 : Q ≤ 4 := by omega
        clear ha2 hr2 HR3 HA3 HB6 HB7 hz2 hs3 hQ
        go_wp2_with fail
        clear e1
        go_loopw [29] (fun i wr => ∃ (kk : Nat) (v : Value) (ks : List Dc), i = .int .i64 kk ∧ (kk : Int) ≤ Q ∧ DRel w0 w br (dcMax d') bt kk v ks wr) (fun i _ => Q.toNat - (intOf i).toNat)
        case atStart => exact ⟨0, _, [], rfl, by omega, HR4.out, HA4.out, Own.nil _ _, B4, B5, hs4, hs2, fun t h => by simp at h⟩
        case round =>
          obtain ⟨kk, v, ks, rfl, hkk, hr⟩ := hrel
          obtain ⟨Av, cv, rfl, -⟩ := hr.own.form
          by_cases hlt : (kk : Int) < Q
          · have HR := Lib.hid hr
            have Bo := hr.b2
            have hsz := hr.size
            clear hr B4 B5
            have hbt : Nr br bt := by show bt ≠ br; omega
            have cBo := Bo.cell
            have fBo := Bo.frozen
            have lBo := Bo.lt
            go_wp2_with fail
            go_region_law (first
              | (go_simp; go_at_call 20; refine (HI.out d' hd' (by omega) wr.drew D1 HD1.out HR.out.rd.dr).mono ?_; rintro e w' ⟨v2, t2, rfl, hT2, hO2, hZ2, hr3, ha3, hz3⟩; have cP := (Bo.dr.agr ha3 hbt).cell; have lP := (Bo.dr.agr ha3 hbt).lt; dsimp only [dcVal])
              | (have HA := (HR.out.via hbr ((Below.refl wr.heap.size wr).drew)).call hbr ha3 hz3 hr3
                 have HB := HA.via hbr ((Below.refl w'.heap.size w').alloc (Nat.le_refl _) (.cells #[.int .i64 (v2.1 : Int), .string v2.2.1, .int .i64 (v2.2.2.1 : Int), .slice v2.2.2.2.1 v2.2.2.2.2.1 v2.2.2.2.2.2] 29))
                 refine step_append_dc _ rfl (.tmp 32) (.tmp 37) rfl (fun b => bt + 1 ≤ b) (bt + 1) (.slice Av kk cv) kk ks rfl HB.own w'.heap.size v2 t2 rfl (Blk.new w' 29 #[.int .i64 (v2.1 : Int), .string v2.2.1, .int .i64 (v2.2.2.1 : Int), .slice v2.2.2.2.1 v2.2.2.2.2.1 v2.2.2.2.2.2]) ((hT2.al _).mono fun b _ hb => ⟨Nat.le_trans HR.out.size hb, fun e => Nat.lt_irrefl b (Nat.lt_of_lt_of_le (HR.out.own.lt b e.symm).2 hb)⟩) (by omega) HB.size ?_
                 intro Av1 cv1 w1 ho1 hg1 hat1
                 have B2g := HB.b2.grown hg1 (fun e => by have := (HB.own.lt _ e.symm).1; omega)
                 have c2g := B2g.cell
                 have f2g := B2g.frozen))
            all_goals
              have HP := Lib.hid (DRel.push HB hbr ho1 hg1 ⟨hO2, hZ2⟩)
              clear HA HB
              go_wp2_with fail
              exact ⟨⟨kk + 1, _, _, by go_num, by omega, HP.out⟩, by simp [intOf]; omega⟩
          · have hlt' : ¬ (kk : Int) < Q := hlt
            have B2 := hr.b2
            have B1 := hr.b1
            have HR := Lib.hid hr
            clear hr
            have cB1 := B1.cell
            have fB1 := B1.frozen
            have lB1 := B1.lt
            have cB2 := B2.cell
            have fB2 := B2.frozen
            have lB2 := B2.lt
            go_wp2_with fail
            refine bodyPost_ret (v := dcVal (4, ⟨#[]⟩, 0, Av, kk, cv)) (by simp [results, Tryd.results20, go_sem, dcVal, cB1]) rfl (DocP.fin (4, ⟨#[]⟩, 0, Av, kk, cv) (.node 4 ⟨#[]⟩ 0 ks) HR.out.rd HR.out.agr (by have := HR.out.size; omega) hbr (DcR.of 4 ⟨#[]⟩ 0 ?_) ?_ ?_)
            · exact HR.out.own.toSl (fun b _ hb => by omega) (fun b hb => by omega)
            · exact .cat ks fun t ht => (HR.out.oks t ht).1
            · have h1 := Dc.sizes_le (M := dcMax d') fun t ht => (HR.out.oks t ht).2
              have h2 := HR.out.own.len
              have h3 := HM.out
              have h4 := Nat.mul_le_mul_right (dcMax d') (show ks.length ≤ 4 by omega)
              simp only [Dc.size]; omega
      · obtain ⟨d', hd', hmx, hD1⟩ := HKD.out (by omega)
        have hb0 : ((K : Int) == 0) = false := by simp; omega
        have hb4 : ((K : Int) == 4) = false := by simp; omega
        have hb5 : ((K : Int) == 5) = true := by simp; omega
        have hb6 : ((K : Int) == 6) = false := by simp; omega
        have HK := Lib.hid hk
        obtain ⟨D1, hD2⟩ : ∃ D1 : Int, IntKind.i64.wrap (D - 1) = D1 := ⟨_, rfl⟩
        rw [hD2] at hD1
        have HD1 := Lib.hid hD1
        have HM := Lib.hid hmx
        have HB4 := Lib.hid B4
        have HB5 := Lib.hid B5
        clear hk HKD hD1 hmx B4 B5
        go_wp2_with fail
        refine (rd_n w0 _ br 4 _ rfl HR3.out (by omega) (by omega)).mono ?_
        rintro e W4 ⟨n, rfl, hn, hr2, ha2, hz2, -⟩
        have B4 := HB4.out.agr ha2 (show Nr br w.heap.size by show w.heap.size ≠ br; omega)
        have B5 := HB5.out.agr ha2 (show Nr br bt by show bt ≠ br; omega)
        have HA4 := Lib.hid ((HA3.out.trans ha2).newCell (p := ⟨bt, 2, none⟩) (by simp; omega) (.int .i64 (n : Int)))
        have HR4 := Lib.hid (hr2.far (p := ⟨bt, 2, none⟩) (by simp; omega) (by have := hr2.lo; simp; omega) (.int .i64 (n : Int)))
        have HB6 := Lib.hid (B4.far (p := ⟨bt, 2, none⟩) (by simp; omega) (.int .i64 (n : Int)))
        have HB7 := Lib.hid (B5.set_ 2 (.int .i64 (n : Int)))
        have hs4 : bt + 1 ≤ (W4.setCell ⟨bt, 2, none⟩ (.int .i64 (n : Int))).heap.size := by simp; omega
        clear ha2 hr2 HR3 HA3 HB4 HB5 hz2 hs3 B4
        have cB5 := B5.cell
        have fB5 := B5.frozen
        have lB5 := B5.lt
        go_wp2_with fail
        clear cB5 fB5 lB5
        clear B5
        generalize W4.setCell ⟨bt, 2, none⟩ (.int .i64 (n : Int)) = W5 at *
        refine (HI.out d' hd' (by omega) W5 D1 HD1.out HR4.out).mono ?_
        rintro e W6 ⟨v2, t2, rfl, hT2, hO2, hZ2, hr3, ha3, hz3⟩
        have B4 := HB6.out.agr ha3 (show Nr br w.heap.size by show w.heap.size ≠ br; omega)
        have B5 : Blk W6 bt 29 #[.int .i64 (K : Int), .string ⟨#[]⟩, .int .i64 (n : Int), .slice none 0 0] := by
          have := HB7.out.agr ha3 (show Nr br bt by show bt ≠ br; omega); simpa using this
        have HA6 := Lib.hid (HA4.out.trans ha3)
        have HR6 := Lib.hid hr3
        have HT2 := Lib.hid hT2
        have HZ := Lib.hid (show t2.size + 1 ≤ dcMax d by have := HM.out; omega)
        have hs6 : bt + 1 ≤ W6.heap.size := by omega
        obtain ⟨vk, vs, vi, vA, vn, vc⟩ := v2
        dsimp only [dcVal]
        have B8 := Blk.new W6 29 #[.int .i64 (vk : Int), .string vs, .int .i64 (vi : Int), .slice vA vn vc]
        replace B4 := B4.al (.cells #[.int .i64 (vk : Int), .string vs, .int .i64 (vi : Int), .slice vA vn vc] 29)
        replace B5 := B5.al (.cells #[.int .i64 (vk : Int), .string vs, .int .i64 (vi : Int), .slice vA vn vc] 29)
        clear ha3 hr3 hT2 hZ2 HM HB6 HB7 HR4 HA4
        have cB4 := B4.cell
        have fB4 := B4.frozen
        have lB4 := B4.lt
        have cB5 := B5.cell
        have fB5 := B5.frozen
        have lB5 := B5.lt
        go_wp2_with fail
        refine bodyPost_ret (v := dcVal (K, ⟨#[]⟩, n, some ⟨W6.heap.size, 0, none⟩, 1, 1)) (by simp [results, Tryd.results20, go_sem, dcVal, cB4]) rfl (DocP.fin (K, ⟨#[]⟩, n, some ⟨W6.heap.size, 0, none⟩, 1, 1) (.node K ⟨#[]⟩ n [t2]) ?_ ?_ ?_ hbr (DcR.of K ⟨#[]⟩ n (Sl.oneD (v := (vk, vs, vi, vA, vn, vc)) ?_ ?_ ?_)) ?_ ?_)
        · exact (HR6.out.al _).far (by simp; omega) (by have := HR6.out.lo; simp; omega) _
        · exact (HA6.out.al_ _).newCell (by simp; omega) _
        · simp; omega
        · exact B8.far (by simp; omega) _
        · exact (((HT2.out.mono (ok' := fun b => w.heap.size + 1 ≤ b ∧ b ≠ bt) fun b _ h => ⟨by omega, by omega⟩).al _).far _ fun b hb => hb.2).mono fun b _ h => h.1
        · show w.heap.size + 1 ≤ W6.heap.size; omega
        · have := HK.out; subst this; exact .nest n t2 (by omega) hO2
        · have := HZ.out; simp only [Dc.size, Dc.sizes]; omega
      · obtain ⟨d', hd', hmx, hD1⟩ := HKD.out (by omega)
        have hb0 : ((K : Int) == 0) = false := by simp; omega
        have hb4 : ((K : Int) == 4) = false := by simp; omega
        have hb5 : ((K : Int) == 5) = false := by simp; omega
        have hb6 : ((K : Int) == 6) = true := by simp; omega
        have HK := Lib.hid hk
        obtain ⟨D1, hD2⟩ : ∃ D1 : Int, IntKind.i64.wrap (D - 1) = D1 := ⟨_, rfl⟩
        rw [hD2] at hD1
        have HD1 := Lib.hid hD1
        have HM := Lib.hid hmx
        have HB6 := Lib.hid B4
        have HB7 := Lib.hid B5
        have HA4 := HA3
        have HR4 := HR3
        clear hk HKD hD1 hmx B4 B5
        go_wp2_with fail
        refine (HI.out d' hd' (by omega) W3 D1 HD1.out HR4.out).mono ?_
        rintro e W6 ⟨v2, t2, rfl, hT2, hO2, hZ2, hr3, ha3, hz3⟩
        have B4 := HB6.out.agr ha3 (show Nr br w.heap.size by show w.heap.size ≠ br; omega)
        have B5 : Blk W6 bt 29 #[.int .i64 (K : Int), .string ⟨#[]⟩, .int .i64 0, .slice none 0 0] := by
          have := HB7.out.agr ha3 (show Nr br bt by show bt ≠ br; omega); simpa using this
        have HA6 := Lib.hid (HA4.out.trans ha3)
        have HR6 := Lib.hid hr3
        have HT2 := Lib.hid hT2
        have HZ := Lib.hid (show t2.size + 1 ≤ dcMax d by have := HM.out; omega)
        have hs6 : bt + 1 ≤ W6.heap.size := by omega
        obtain ⟨vk, vs, vi, vA, vn, vc⟩ := v2
        dsimp only [dcVal]
        have B8 := Blk.new W6 29 #[.int .i64 (vk : Int), .string vs, .int .i64 (vi : Int), .slice vA vn vc]
        replace B4 := B4.al (.cells #[.int .i64 (vk : Int), .string vs, .int .i64 (vi : Int), .slice vA vn vc] 29)
        replace B5 := B5.al (.cells #[.int .i64 (vk : Int), .string vs, .int .i64 (vi : Int), .slice vA vn vc] 29)
        clear ha3 hr3 hT2 hZ2 HM HB6 HB7 HR4 HA4
        have cB4 := B4.cell
        have fB4 := B4.frozen
        have lB4 := B4.lt
        have cB5 := B5.cell
        have fB5 := B5.frozen
        have lB5 := B5.lt
        go_wp2_with fail
        refine bodyPost_ret (v := dcVal (K, ⟨#[]⟩, 0, some ⟨W6.heap.size, 0, none⟩, 1, 1)) (by simp [results, Tryd.results20, go_sem, dcVal, cB4]) rfl (DocP.fin (K, ⟨#[]⟩, 0, some ⟨W6.heap.size, 0, none⟩, 1, 1) (.node K ⟨#[]⟩ 0 [t2]) ?_ ?_ ?_ hbr (DcR.of K ⟨#[]⟩ 0 (Sl.oneD (v := (vk, vs, vi, vA, vn, vc)) ?_ ?_ ?_)) ?_ ?_)
        · exact (HR6.out.al _).far (by simp; omega) (by have := HR6.out.lo; simp; omega) _
        · exact (HA6.out.al_ _).newCell (by simp; omega) _
        · simp; omega
        · exact B8.far (by simp; omega) _
        · exact (((HT2.out.mono (ok' := fun b => w.heap.size + 1 ≤ b ∧ b ≠ bt) fun b _ h => ⟨by omega, by omega⟩).al _).far _ fun b hb => hb.2).mono fun b _ h => h.1
        · show w.heap.size + 1 ≤ W6.heap.size; omega
        · have := HK.out; subst this; exact .group t2 hO2
        · have := HZ.out; simp only [Dc.size, Dc.sizes]; omega
    · have hK4 : K < 4 := by
        by_cases h : K < 4
        · exact h
        · obtain ⟨d', hd', _⟩ := HKD.out (by omega); exact absurd hd' (Nat.not_lt_zero _)
      have hcase : K = 0 ∨ (1 ≤ K ∧ K ≤ 3) := by omega
      rcases hcase with hk | hk
      · have hb0 : ((K : Int) == 0) = true := by simp; omega
        have hb4 : ((K : Int) == 4) = false := by simp; omega
        have hb5 : ((K : Int) == 5) = false := by simp; omega
        have hb6 : ((K : Int) == 6) = false := by simp; omega
        have HK := Lib.hid hk
        clear hk HKD
        have HB4 := Lib.hid B4
        have HB5 := Lib.hid B5
        clear B4 B5
        go_upto_region 7 with fail
        go_wp2_with fail
        have B6 := Blk.new W3 9 #[Value.string ⟨#[97]⟩, Value.string ⟨#[98, 99]⟩, Value.string ⟨#[100, 101, 102]⟩, Value.string ⟨#[]⟩, Value.string ⟨#[103, 104, 105, 106, 107]⟩]
        refine (rd_n w0 _ br 5 _ rfl (HR3.out.al _) (by omega) (by omega)).mono ?_
        rintro e W5 ⟨j, rfl, hj, hr2, ha2, hz2, -⟩
        have hs4 : W3.heap.size + 1 ≤ W5.heap.size := by simp at hz2; omega
        replace B6 := B6.agr ha2 (show Nr br W3.heap.size by show W3.heap.size ≠ br; omega)
        have B4 := ((HB4.out.al (.cells #[Value.string ⟨#[97]⟩, Value.string ⟨#[98, 99]⟩, Value.string ⟨#[100, 101, 102]⟩, Value.string ⟨#[]⟩, Value.string ⟨#[103, 104, 105, 106, 107]⟩] 9))).agr ha2 (show Nr br w.heap.size by show w.heap.size ≠ br; omega)
        have B5 := ((HB5.out.al (.cells #[Value.string ⟨#[97]⟩, Value.string ⟨#[98, 99]⟩, Value.string ⟨#[100, 101, 102]⟩, Value.string ⟨#[]⟩, Value.string ⟨#[103, 104, 105, 106, 107]⟩] 9))).agr ha2 (show Nr br bt by show bt ≠ br; omega)
        have HA4 := Lib.hid ((HA3.out.trans (Agr.below ((Below.refl W3.heap.size W3).al (.cells #[Value.string ⟨#[97]⟩, Value.string ⟨#[98, 99]⟩, Value.string ⟨#[100, 101, 102]⟩, Value.string ⟨#[]⟩, Value.string ⟨#[103, 104, 105, 106, 107]⟩] 9)))).trans ha2)
        have HR4 := Lib.hid hr2
        obtain ⟨s, hs, cs⟩ : ∃ s, TextOk s ∧ W5.cell? ⟨W3.heap.size, j, none⟩ = some (.string s) := by
          have hl := textOk_lit
          rcases (by omega : j = 0 ∨ j = 1 ∨ j = 2 ∨ j = 3 ∨ j = 4) with rfl | rfl | rfl | rfl | rfl
          · exact ⟨_, hl.1, B6.cell 0⟩
          · exact ⟨_, hl.2.1, B6.cell 1⟩
          · exact ⟨_, hl.2.2.1, B6.cell 2⟩
          · exact ⟨_, hl.2.2.2.1, B6.cell 3⟩
          · exact ⟨_, hl.2.2.2.2, B6.cell 4⟩
        have HS := Lib.hid hs
        clear ha2 hr2 hz2 HA3 HR3 HB4 HB5 hs
        have i0 : (0 : Int) ≤ (j : Int) := by omega
        have i1 : (j : Int) < 5 := by omega
        have cB4 := B4.cell
        have fB4 := B4.frozen
        have lB4 := B4.lt
        have cB5 := B5.cell
        have fB5 := B5.frozen
        have lB5 := B5.lt
        go_wp2_with fail
        refine bodyPost_ret (v := dcVal (K, s, 0, none, 0, 0)) (by simp [results, Tryd.results20, go_sem, dcVal, cB4]) rfl (DocP.fin (K, s, 0, none, 0, 0) (.node K s 0 []) ?_ ?_ ?_ hbr (DcR.of K s 0 (Sl.nil 0)) ?_ ?_)
        · exact HR4.out.far (by simp; omega) (by have := HR4.out.lo; simp; omega) _
        · exact HA4.out.newCell (by simp; omega) _
        · simp; omega
        · have := HK.out; subst this; exact .text s HS.out
        · have := dcMax_pos 0; simpa [Dc.size, Dc.sizes]
      · have hb0 : ((K : Int) == 0) = false := by simp; omega
        have hb4 : ((K : Int) == 4) = false := by simp; omega
        have hb5 : ((K : Int) == 5) = false := by simp; omega
        have hb6 : ((K : Int) == 6) = false := by simp; omega
        have HK := Lib.hid hk
        clear hk HKD
        have cB4 := B4.cell
        have fB4 := B4.frozen
        have lB4 := B4.lt
        have cB5 := B5.cell
        have fB5 := B5.frozen
        have lB5 := B5.lt
        go_wp2_with fail
        refine bodyPost_ret (v := dcVal (K, ⟨#[]⟩, 0, none, 0, 0)) (by simp [results, Tryd.results20, go_sem, dcVal, cB4]) rfl (DocP.fin (K, ⟨#[]⟩, 0, none, 0, 0) (.node K ⟨#[]⟩ 0 []) HR3.out HA3.out (by omega) hbr (DcR.of K ⟨#[]⟩ 0 (Sl.nil 0)) (.line K HK.out.1 HK.out.2) ?_)
        have := dcMax_pos 0; simpa [Dc.size, Dc.sizes]
end Go.Proofs.YtbhenicldddlfaaDoor

