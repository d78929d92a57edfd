/- Texts DN, laid together. -/
import Derived.Test.YtbhenicldddlfaaDoorD8


namespace Go.Proofs.YtbhenicldddlfaaDoor
open Go.RowKit

/-- what a choice leaves -/
def VisS (lo : Nat) (X : Nat → Prop) (I : Nat → World → Prop) (b : Bool) (k : Nat) (w : World) (e : Ending) (w' : World) : Prop :=
  e = .returned (.bool b) ∧ I (k + 1) w' ∧ Agr (fun b => ¬ X b) w w' ∧ w.heap.size ≤ w'.heap.size ∧ Below lo w w'
/-- what the closure lives on: it depends on what lies below z -/
structure Inv (z lo : Nat) (X : Nat → Prop) (I : Nat → World → Prop) : Prop where
  keep : ∀ k w1 w2, I k w1 → (∀ b, b < z → w2.heap[b]? = w1.heap[b]?) → w1.heap.size ≤ w2.heap.size → I k w2
  lt : ∀ b, X b → b < z
  lo : lo ≤ z

/-- set's frame: w0 the world at its start -/
structure SF (z bs lo : Nat) (X : Nat → Prop) (I : Nat → World → Prop) (w0 : World) (ex ln : Nat) (ch : Value) (xs : List Int) (col : Nat) (tx : List UInt8) (k : Nat) (wr : World) : Prop where
  sb : SB z bs ex ln ch col tx wr
  own : OwnI wr (z + 5) ch xs.length xs
  inv : I k wr
  agr : Agr (fun b => ¬ X b) w0 wr
  bel : Below lo w0 wr
  sz : z + 5 ≤ wr.heap.size
section
variable {z bs lo ex ln col k ex' ln' col' : Nat} {X : Nat → Prop} {I : Nat → World → Prop} {w0 wr wa : World} {ch ch' : Value} {xs : List Int} {tx tx' : List UInt8}
theorem SF.kept (h : SF z bs lo X I w0 ex ln ch xs col tx k wr) (H : Inv z lo X I) (hz : w0.heap.size = z) (hk : KeptZ z wr wa) (hs : SB z bs ex' ln' ch col' tx' wa) : SF z bs lo X I w0 ex' ln' ch xs col' tx' k wa :=
  ⟨hs, hk.ints h.own (Nat.le_refl _), H.keep k _ _ h.inv hk.bel.block hk.bel.size, fun b hb hlt => (hk.bel.block b (by omega)).trans (h.agr b hb hlt), h.bel.trans (hk.bel.mono H.lo), Nat.le_trans h.sz hk.bel.size⟩
theorem SF.via (h : SF z bs lo X I w0 ex ln ch xs col tx k wr) (H : Inv z lo X I) (hb : Below wr.heap.size wr wa) : SF z bs lo X I w0 ex ln ch xs col tx k wa :=
  ⟨h.sb.via hb, h.own.keep hb (Nat.le_refl _), H.keep k _ _ h.inv (fun b hl => hb.block b (by have := h.sz; omega)) hb.size, h.agr.trans (Agr.below hb), h.bel.trans (hb.mono (by have := h.sz; have := H.lo; omega)), Nat.le_trans h.sz hb.size⟩
theorem SF.al (h : SF z bs lo X I w0 ex ln ch xs col tx k wr) (H : Inv z lo X I) (o : Obj) : SF z bs lo X I w0 ex ln ch xs col tx k (wr.alloc o) := h.via H ((Below.refl _ _).alloc (Nat.le_refl _) o)
theorem SF.choose (h : SF z bs lo X I w0 ex ln ch xs col tx k wr) (H : Inv z lo X I) (h1 : I (k + 1) wa) (h2 : Agr (fun b => ¬ X b) wr wa) (h3 : wr.heap.size ≤ wa.heap.size) (h4 : Below lo wr wa) : SF z bs lo X I w0 ex ln ch xs col tx (k + 1) wa := by
  have hx : ∀ b, z ≤ b → ¬ X b := fun b hb hX => by have := H.lt b hX; omega
  refine ⟨h.sb.agr fun b hb hl => h2 b (hx b hb) hl, ?_, h1, h.agr.trans h2, h.bel.trans h4, Nat.le_trans h.sz h3⟩
  obtain ⟨k1, k2⟩ := h.own
  refine ⟨k1, ?_⟩
  rcases k2 with k2 | ⟨g, cap, cur, e1, e2, e3, e4⟩
  · exact Or.inl k2
  · exact Or.inr ⟨g, cap, cur, e1, e2, (h2 g (hx g (by omega)) (Array.getElem?_eq_some_iff.1 e3).1).trans e3, e4⟩
theorem own_ne {b n base : Nat} {t : TypeId} {cs : Array Value} {v : Value} (h : OwnI wr base v n xs) (hb : Blk wr b t cs) (ht : t ≠ 3) : some b ≠ v.ownBlock := by
  intro e
  obtain ⟨-, k2⟩ := h
  rcases k2 with ⟨k2, -⟩ | ⟨g, cap, cur, e1, e2, e3, e4⟩
  · rw [k2] at e; simp [Value.ownBlock] at e
  · rw [e1] at e
    simp [Value.ownBlock] at e
    subst e
    unfold Blk at hb
    rw [hb] at e3
    injection e3 with e3
    injection e3 with q1 q2
    exact ht q2
/-- a choice is written down -/
theorem SF.app (h : SF z bs lo X I w0 ex ln ch xs col tx k wr) (H : Inv z lo X I) (hz : w0.heap.size = z) {A : Option Addr} {c n : Nat} {v : Int} (ho : OwnI wa (z + 5) (.slice A n c) n (xs ++ [v])) (hn : n = xs.length + 1) (hg : wr.grownBy wa ch.ownBlock) :
    SF z bs lo X I w0 ex ln (.slice A n c) (xs ++ [v]) col tx k (wa.setCell ⟨z + 2, 2, none⟩ (.slice A n c)) := by
  have hrow : ∀ g, ch.ownBlock = some g → z + 5 ≤ g ∧ ∃ cur fz, wr.heap[g]? = some (.cells cur 3 fz) := by
    intro g e
    obtain ⟨k1, k2⟩ := h.own
    rcases k2 with ⟨k2, -⟩ | ⟨g', cap, cur, e1, e2, e3, e4⟩
    · rw [k2] at e; simp [Value.ownBlock] at e
    · rw [e1] at e; simp [Value.ownBlock] at e; subst e; exact ⟨e2, cur, _, e3⟩
  have hlow : ∀ b, b < z + 5 → wa.heap[b]? = wr.heap[b]? := fun b hb => hg.block b (by have := h.sz; omega) fun e => by have := (hrow b e.symm).1; omega
  have hs : SB z bs ex ln ch col tx wa := by
    refine ⟨(hlow _ (by omega)).trans h.sb.box, (hlow _ (by omega)).trans h.sb.res, (hlow _ (by omega)).trans h.sb.out, bld_kept h.sb.bld ?_, (hlow _ (by omega)).trans h.sb.col⟩
    intro b hb hl hk
    refine hg.block b hl fun e => ?_
    obtain ⟨h1, cur, fz, h2⟩ := hrow b e.symm
    rcases hk with hk | ⟨c', fz', hk⟩
    · omega
    · rw [h2] at hk
      injection hk with hk
      injection hk with e1 e2
      exact absurd e2 (by decide)
  have hbel : Below z wr wa := ⟨hg.os, hg.tape, hg.output, hg.size, fun b hb => hlow b (by omega)⟩
  have hk : KeptZ z wa (wa.setCell ⟨z + 2, 2, none⟩ (.slice A n c)) := KeptZ.refl.cell _ (Or.inl rfl) _
  refine ⟨hs.setCh _, by rw [List.length_append, List.length_singleton, ← hn]; exact hk.ints ho (Nat.le_refl _), H.keep k _ _ (H.keep k _ _ h.inv hbel.block hbel.size) hk.bel.block hk.bel.size, fun b hb hlt => ?_, (h.bel.trans (hbel.mono H.lo)).trans (hk.bel.mono H.lo), ?_⟩
  · exact (hk.bel.block b (by omega)).trans ((hbel.block b (by omega)).trans (h.agr b hb hlt))
  · have := h.sz; have := hg.size; simp; omega
end
/-- a call's blocks at its start -/
def World.setStart (w : World) (bs : Nat) : World :=
  ((((w.alloc (.cells #[.pointer (some ⟨bs, 0, none⟩)] 41)).alloc (.cells #[.int .i64 0, .int .i64 0, .slice none 0 0, .string ⟨#[]⟩] 34)).alloc (.cells #[.int .i64 0, .int .i64 0, .slice none 0 0, .string ⟨#[]⟩] 34)).alloc (.cells #[.pointer none, .slice none 0 0] 73)).alloc (.cells #[.int .i64 0] 3)
theorem below_start (w : World) (bs : Nat) : Below w.heap.size w (World.setStart w bs) := (((((Below.refl w.heap.size w).al _).al _).al _).al _).al _
theorem size_start (w : World) (bs : Nat) : (World.setStart w bs).heap.size = w.heap.size + 5 := by simp [World.setStart]
theorem SB.start (w : World) (bs z : Nat) (hz : w.heap.size = z) : SB z bs 0 0 (.slice none 0 0) 0 [] (World.setStart w bs) := by
  subst hz
  unfold World.setStart
  generalize h1 : w.alloc (.cells #[.pointer (some ⟨bs, 0, none⟩)] 41) = w1
  have s1 : w1.heap.size = w.heap.size + 1 := by rw [← h1]; simp
  have b1 : Blk w1 w.heap.size 41 #[.pointer (some ⟨bs, 0, none⟩)] := by rw [← h1]; exact Blk.new _ _ _
  clear h1
  generalize h2 : w1.alloc (.cells #[.int .i64 0, .int .i64 0, .slice none 0 0, .string ⟨#[]⟩] 34) = w2
  have s2 : w2.heap.size = w.heap.size + 2 := by rw [← h2]; simp; omega
  have b2 : Blk w2 (w.heap.size + 1) 34 #[.int .i64 0, .int .i64 0, .slice none 0 0, .string ⟨#[]⟩] := by rw [← h2, ← s1]; exact Blk.new _ _ _
  replace b1 : Blk w2 w.heap.size 41 #[.pointer (some ⟨bs, 0, none⟩)] := by rw [← h2]; exact b1.al _
  clear h2
  generalize h3 : w2.alloc (.cells #[.int .i64 0, .int .i64 0, .slice none 0 0, .string ⟨#[]⟩] 34) = w3
  have s3 : w3.heap.size = w.heap.size + 3 := by rw [← h3]; simp; omega
  have b3 : Blk w3 (w.heap.size + 2) 34 #[.int .i64 0, .int .i64 0, .slice none 0 0, .string ⟨#[]⟩] := by rw [← h3, ← s2]; exact Blk.new _ _ _
  replace b1 : Blk w3 w.heap.size 41 #[.pointer (some ⟨bs, 0, none⟩)] := by rw [← h3]; exact b1.al _
  replace b2 : Blk w3 (w.heap.size + 1) 34 #[.int .i64 0, .int .i64 0, .slice none 0 0, .string ⟨#[]⟩] := by rw [← h3]; exact b2.al _
  clear h3
  have b4 := bld_made w3 (w.heap.size + 3) s3
  generalize h4 : w3.alloc (.cells #[.pointer none, .slice none 0 0] 73) = w4 at *
  have s4 : w4.heap.size = w.heap.size + 4 := by rw [← h4]; simp; omega
  have hb := (Below.refl w4.heap.size w4).al (.cells #[.int .i64 0] 3)
  have b5 := Blk.new w4 3 #[.int .i64 0]
  rw [s4] at b5
  refine ⟨?_, ?_, ?_, bld_kept b4 fun k _ hk _ => hb.block k hk, b5⟩
  · rw [← h4]; exact (b1.al _).al _
  · rw [← h4]; exact (b2.al _).al _
  · rw [← h4]; exact (b3.al _).al _

/-- the loop of set -/
structure SR (W : Nat) (p : Nat → Nat → Nat → Bool) (ops : List Opr) (z bs lo : Nat) (X : Nat → Prop) (I : Nat → World → Prop) (w0 : World) (i ex ln : Nat) (ch : Value) (xs : List Int) (col : Nat) (tx : List UInt8) (k : Nat) (wr : World) : Prop where
  sf : SF z bs lo X I w0 ex ln ch xs col tx k wr
  eq : setF W p ops 0 0 0 = Ly.after ex ln xs tx (setF W p ops i col k)
  hi : i ≤ ops.length
  hk : k ≤ i
  hx : xs.length ≤ i
  hn : ln ≤ i
  hc : col ≤ 24000 * (i + 1)
  he : ex ≤ 10000000 * i
  ht : tx.length ≤ 40000 * i
theorem SR.step {W : Nat} {p : Nat → Nat → Nat → Bool} {ops : List Opr} {z bs lo : Nat} {X : Nat → Prop} {I : Nat → World → Prop} {w0 wr wa : World} {i ex ln col k i' ex' ln' col' k' dex dln : Nat} {ch ch' : Value} {xs xs' dch : List Int} {tx tx' dtx : List UInt8}
    (h : SR W p ops z bs lo X I w0 i ex ln ch xs col tx k wr) (hs : setF W p ops i col k = Ly.after dex dln dch dtx (setF W p ops i' col' k')) (hf : SF z bs lo X I w0 ex' ln' ch' xs' col' tx' k' wa)
    (e1 : ex' = ex + dex) (e2 : ln' = ln + dln) (e3 : xs' = xs ++ dch) (e4 : tx' = tx ++ dtx) (b0 : i < i') (b1 : i' ≤ ops.length) (b2 : k' ≤ k + 1) (b3 : dch.length ≤ 1) (b4 : dln ≤ 1) (b5 : col' ≤ 24000 * (i' + 1)) (b6 : dex ≤ 10000000) (b7 : dtx.length ≤ 40000) :
    SR W p ops z bs lo X I w0 i' ex' ln' ch' xs' col' tx' k' wa := by
  subst e1 e2 e3 e4
  have h1 := h.hk; have h2 := h.hx; have h3 := h.hn; have h4 := h.he; have h5 := h.ht
  exact ⟨hf, by rw [h.eq, hs, Ly.after_after], b1, by omega, by rw [List.length_append]; omega, by omega, b5, by omega, by rw [List.length_append]; omega⟩
/-- what is left at the end -/
structure SE (z lo : Nat) (X : Nat → Prop) (I : Nat → World → Prop) (w0 : World) (ch : Value) (xs : List Int) (k : Nat) (w : World) : Prop where
  own : OwnI w (z + 5) ch xs.length xs
  inv : I k w
  agr : Agr (fun b => ¬ X b) w0 w
  bel : Below lo w0 w
  sz : z ≤ w.heap.size
theorem SE.set {z lo : Nat} {X : Nat → Prop} {I : Nat → World → Prop} {w0 w : World} {ch : Value} {xs : List Int} {k : Nat} (h : SE z lo X I w0 ch xs k w) (H : Inv z lo X I) (hz : w0.heap.size = z) (p : Addr) (h1 : z ≤ p.block) (h2 : p.block < z + 5) (u : Value) : SE z lo X I w0 ch xs k (w.setCell p u) :=
  ⟨h.own.setCell h2 u, H.keep k _ _ h.inv (fun b hb => Below.heap_setCell _ _ _ _ (by omega)) (by simp), h.agr.newCell (by omega) u, h.bel.setCell (by have := H.lo; omega) u, by simpa using h.sz⟩
theorem repeat_32 (n : Nat) : bts ⟨(Lib.repeatL [32] n).toArray⟩ = List.replicate n 32 := by
  induction n with
  | zero => rfl
  | succ n ih =>
    simp only [bts] at ih ⊢
    simp only [Lib.repeatL, List.replicate_succ] at ih ⊢
    simpa using ih
def SetP (W : Nat) (p : Nat → Nat → Nat → Bool) (ops : List Opr) (lo : Nat) (X : Nat → Prop) (I : Nat → World → Prop) (w : World) (e : Ending) (w' : World) : Prop :=
  ∃ A n c, e = .returned (.agg #[.int .i64 ((setF W p ops 0 0 0).ex : Int), .int .i64 ((setF W p ops 0 0 0).ln : Int), .slice A n c, .string ⟨(setF W p ops 0 0 0).tx.toArray⟩]) ∧
    OwnI w' (w.heap.size + 5) (.slice A n c) n (setF W p ops 0 0 0).ch ∧ I (setF W p ops 0 0 0).k w' ∧ Agr (fun b => ¬ X b) w w' ∧ Below lo w w' ∧ w.heap.size ≤ w'.heap.size

set_option maxRecDepth 100000 in
set_option maxHeartbeats 8000000 in
theorem set_n (fid : Nat) (he : ∀ (args : Array Value) (w : World), (callFunc fid args).run Tryd.prog w = .ok (.enter fid args) w) (caps : Array Value) (W : Nat) (hW : W ≤ 1000000000) (p : Nat → Nat → Nat → Bool) (ops : List Opr) (ho : OpsOk ops) (hl : ops.length ≤ 400)
    (bs : Nat) (M : Value) (A : Option Addr) (c : Nat) (lo : Nat) (X : Nat → Prop) (I : Nat → World → Prop) (w : World) (H : Inv w.heap.size lo X I)
    (hS : ∀ k w', I k w' → Blk w' bs 47 #[.slice A ops.length c, .int .i64 (W : Int), M] ∧ Sl OpE (fun b => b < w.heap.size) w' A ops.length c ops)
    (hf : ∀ k i col w' o, I k w' → w.heap.size ≤ w'.heap.size → k ≤ i → ops[i]? = some o → o.grp = true → o.can = true → col ≤ 24000 * (i + 1) → Calls Tryd.prog fid (#[.agg #[.int .i64 (i : Int), .int .i64 (col : Int)]] ++ caps) w' (VisS lo X I (p k i col) k w'))
    (hi : I 0 w) :
    Calls Tryd.prog 12 #[.pointer (some ⟨bs, 0, none⟩), .func (.func fid) #[] caps] w (SetP W p ops lo X I w) := by
  have HH := Lib.hid H
  have HSS := Lib.hid hS
  have HFF := Lib.hid hf
  have HOO := Lib.hid ho
  have hb0 := below_start w bs
  have hs0 := size_start w bs
  have hsr : SR W p ops w.heap.size bs lo X I w 0 0 0 (.slice none 0 0) [] 0 [] 0 (World.setStart w bs) :=
    ⟨⟨SB.start w bs _ rfl, OwnI.nil _ _, H.keep 0 w _ hi hb0.block (by omega), Agr.below hb0, hb0.mono H.lo, by omega⟩, (Ly.after_nil _).symm, Nat.zero_le _, Nat.le_refl _, Nat.le_refl _, Nat.le_refl _, Nat.zero_le _, Nat.le_refl _, Nat.le_refl _⟩
  have HR := Lib.hid hsr
  clear hsr hb0 hs0 H hS hf hi ho
  unfold World.setStart at HR
  go_enter Tryd.func12, Tryd.ntmps12
  go_wp2_with fail
  simp only [Nat.add_assoc, Nat.reduceAdd]
  generalize ((((w.alloc (.cells #[.pointer (some ⟨bs, 0, none⟩)] 41)).alloc (.cells #[.int .i64 0, .int .i64 0, .slice none 0 0, .string ⟨#[]⟩] 34)).alloc (.cells #[.int .i64 0, .int .i64 0, .slice none 0 0, .string ⟨#[]⟩] 34)).alloc (.cells #[.pointer none, .slice none 0 0] 73)).alloc (.cells #[.int .i64 0] 3) = W0 at *
  obtain ⟨z, hz⟩ : ∃ z, z = w.heap.size := ⟨_, rfl⟩
  have HZ := Lib.hid hz.symm
  rw [← hz] at HR HH HSS HFF ⊢
  clear hz
  go_loopw [9] (fun s wr => ∃ (i col k ex ln : Nat) (xs : List Int) (ch : Value) (tx : List UInt8), s = .int .i64 i ∧ Hid (SR W p ops z bs lo X I w i ex ln ch xs col tx k wr)) (fun s _ => ops.length - (intOf s).toNat)
  case atStart => exact ⟨0, 0, 0, 0, 0, [], _, [], rfl, HR⟩
  case round =>
    as_aux_lemma =>
    clear HR
    obtain ⟨i, col, k, ex, ln, xs, ch, tx, rfl, HR⟩ := hrel
    obtain ⟨Bs, hsl⟩ := HSS.out k wr HR.out.sf.inv
    have B1 := HR.out.sf.sb.box
    have hile := HR.out.hi
    by_cases hil : i < ops.length
    · obtain ⟨b1, o1, r, o, rfl, hob, hb1, hy, hxy, hcc⟩ := hsl.at_ hil
      obtain rfl : r = o := hxy
      obtain ⟨ot, oi, og, oc, oe⟩ := r
      have c0 := hcc 0 _ rfl
      have c1 := hcc 1 _ rfl
      have c2 := hcc 2 _ rfl
      have c3 := hcc 3 _ rfl
      have c4 := hcc 4 _ rfl
      simp only [OpE, Nat.add_zero] at c0 c1 c2 c3 c4
      have HY := Lib.hid hy
      obtain ⟨ot1, oi1, oi2, of1⟩ := HOO.out i _ hy
      simp only at ot1 oi1 oi2 of1
      have i0 : (0 : Int) ≤ (i : Int) := by omega
      have i1 : (i : Int) < (ops.length : Int) := by omega
      have hsz := HR.out.sf.sz
      have B10 := Blk.new wr 49 #[.string ot, .int .i64 oi, .bool og, .bool oc, .int .i64 (oe : Int)]
      have HG := Lib.hid (HR.out.sf.al HH.out (.cells #[.string ot, .int .i64 oi, .bool og, .bool oc, .int .i64 (oe : Int)] 49))
      clear hcc hy hob hsl
      have cBs := Bs.cell
      have fBs := Bs.frozen
      have lBs := Bs.lt
      have cB1 := B1.cell
      have fB1 := B1.frozen
      have lB1 := B1.lt
      go_upto_block 2 with fail
      clear cBs fBs lBs cB1 fB1 lB1
      clear c0 c1 c2 c3 c4 Bs B1 hb1
      generalize wr.alloc (.cells #[.string ot, .int .i64 oi, .bool og, .bool oc, .int .i64 (oe : Int)] 49) = W1 at *
      generalize wr.heap.size = b10 at *
      obtain ⟨Ac, cc, hch, -⟩ := HG.out.own.form
      subst hch
      have hxi := HR.out.hx
      have hki := HR.out.hk
      have hci := HR.out.hc
      have hei := HR.out.he
      have hti := HR.out.ht
      have hni := HR.out.hn
      cases og
      case true =>
        obtain ⟨of2, of3⟩ := of1 rfl
        clear of1
        cases oc
        case false =>
          have B2 := HG.out.sb.out
          have HA := Lib.hid (HG.out.al HH.out (.cells #[.int .i64 1] 3))
          have hss := HA.out.sz
          have hne2 := own_ne HA.out.own (B2.al _) (by decide)
          have hne10 := own_ne HA.out.own (B10.al _) (by decide)
          have cB2 := B2.cell
          have fB2 := B2.frozen
          have lB2 := B2.lt
          have cB10 := B10.cell
          have fB10 := B10.frozen
          have lB10 := B10.lt
          go_wp2_with (at_builtin; refine wpList_append_ints _ rfl (.tmp 62) (.tmp 63) rfl (z + 5) (.slice Ac xs.length cc) xs.length xs rfl HA.out.own (some ⟨W1.heap.size, 0, none⟩) 1 1 [1] rfl (Ints.one _ _ _) (by omega) (by omega) ?_; intro A1 c1 w2 ho1 hg1 hn1; have B2w := (B2.al (.cells #[.int .i64 1] 3)).grown hg1 hne2; have cB2w := B2w.cell; have fB2w := B2w.frozen; have lB2w := B2w.lt; have B10w := (B10.al (.cells #[.int .i64 1] 3)).grown hg1 hne10; have cB10w := B10w.cell; have fB10w := B10w.frozen; have lB10w := B10w.lt; clear hn1 cB2 fB2 cB10 fB10)
          have HF := Lib.hid (HA.out.app HH.out HZ.out ho1 rfl hg1)
          exact ⟨⟨i + 1, col, k, ex, ln, xs ++ [1], _, tx, by go_num, Lib.hid (HR.out.step (setF_cannot HY.out rfl rfl) HF.out rfl rfl rfl (List.append_nil _).symm (by omega) hil (by omega) (by simp) (by omega) (by omega) (by omega) (by simp))⟩, by simp [intOf]; omega⟩
        case true =>
          have B4 := HG.out.sb.col
          have cB4 := B4.cell
          have fB4 := B4.frozen
          have lB4 := B4.lt
          have cB10 := B10.cell
          have fB10 := B10.frozen
          have lB10 := B10.lt
          go_wp2_with fail
          clear cB4 fB4 lB4 cB10 fB10 lB10
          clear B4
          refine (HFF.out k i col W1 _ HG.out.inv (by have := HG.out.sz; omega) hki HY.out rfl rfl hci).mono ?_
          rintro e w1 ⟨rfl, h1, h2, h3, h4⟩
          have HG1 := Lib.hid (HG.out.choose HH.out h1 h2 h3 h4)
          replace B10 := B10.agr h2 (fun hX => by have := HH.out.lt _ hX; omega)
          clear h1 h2 h3 h4 HG
          clear W1
          have HG := HG1
          clear HG1
          cases hp : p k i col
          case false =>
            as_aux_lemma =>
            have B2 := HG.out.sb.out
            have HA := Lib.hid (HG.out.al HH.out (.cells #[.int .i64 1] 3))
            have hss := HA.out.sz
            have hne2 := own_ne HA.out.own (B2.al _) (by decide)
            have hne10 := own_ne HA.out.own (B10.al _) (by decide)
            have cB2 := B2.cell
            have fB2 := B2.frozen
            have lB2 := B2.lt
            have cB10 := B10.cell
            have fB10 := B10.frozen
            have lB10 := B10.lt
            go_wp2_with (at_builtin; refine wpList_append_ints _ rfl (.tmp 62) (.tmp 63) rfl (z + 5) (.slice Ac xs.length cc) xs.length xs rfl HA.out.own (some ⟨w1.heap.size, 0, none⟩) 1 1 [1] rfl (Ints.one _ _ _) (by omega) (by omega) ?_; intro A1 c1 w2 ho1 hg1 hn1; have B2w := (B2.al (.cells #[.int .i64 1] 3)).grown hg1 hne2; have cB2w := B2w.cell; have fB2w := B2w.frozen; have lB2w := B2w.lt; have B10w := (B10.al (.cells #[.int .i64 1] 3)).grown hg1 hne10; have cB10w := B10w.cell; have fB10w := B10w.frozen; have lB10w := B10w.lt; clear hn1 cB2 fB2 cB10 fB10)
            have HF := Lib.hid (HA.out.app HH.out HZ.out ho1 rfl hg1)
            exact ⟨⟨i + 1, col, k + 1, ex, ln, xs ++ [1], _, tx, by go_num, Lib.hid (HR.out.step (setF_brk HY.out rfl rfl hp) HF.out rfl rfl rfl (List.append_nil _).symm (by omega) hil (by omega) (by simp) (by omega) (by omega) (by omega) (by simp))⟩, by simp [intOf]; omega⟩
          case true =>
            as_aux_lemma =>
            obtain ⟨oe1, hoe⟩ : ∃ oe1, oe1 = oe - 1 := ⟨_, rfl⟩
            have wo : IntKind.i64.wrap ((oe : Int) - 1) = (oe1 : Int) := (IntWalk.i64_in _ (by omega)).trans (by omega)
            have wp : IntKind.i64.wrap ((oe1 : Int) + 1) = (oe : Int) := (IntWalk.i64_in _ (by omega)).trans (by omega)
            clear hoe
            have B2 := HG.out.sb.out
            have HA := Lib.hid (HG.out.al HH.out (.cells #[.int .i64 0] 3))
            have hss := HA.out.sz
            have hne2 := own_ne HA.out.own (B2.al _) (by decide)
            have hne10 := own_ne HA.out.own (B10.al _) (by decide)
            have cB2 := B2.cell
            have fB2 := B2.frozen
            have lB2 := B2.lt
            have cB10 := B10.cell
            have fB10 := B10.frozen
            have lB10 := B10.lt
            go_wp2_with (at_builtin; refine wpList_append_ints _ rfl (.tmp 47) (.tmp 48) rfl (z + 5) (.slice Ac xs.length cc) xs.length xs rfl HA.out.own (some ⟨w1.heap.size, 0, none⟩) 1 1 [0] rfl (Ints.one _ _ _) (by omega) (by omega) ?_; intro A1 c1 w2 ho1 hg1 hn1; have B2w := (B2.al (.cells #[.int .i64 0] 3)).grown hg1 hne2; have cB2w := B2w.cell; have fB2w := B2w.frozen; have lB2w := B2w.lt; have B10w := (B10.al (.cells #[.int .i64 0] 3)).grown hg1 hne10; have cB10w := B10w.cell; have fB10w := B10w.frozen; have lB10w := B10w.lt; clear hn1 cB2 fB2 cB10 fB10)
            have HF := Lib.hid (HA.out.app HH.out HZ.out ho1 rfl hg1)
            clear cB2w fB2w lB2w cB10w fB10w lB10w B2w
            have B10x := B10w.far (p := ⟨z + 2, 2, none⟩) (show b10 ≠ z + 2 by omega) (.slice A1 (xs.length + 1) c1)
            refine (write_c W z bs _ M ot ex ln _ col tx _ (HSS.out _ _ HF.out.inv).1 HF.out.sb hW (by omega) (by omega) (by omega)).mono ?_
            rintro e w3 ⟨rfl, h1, h2⟩
            have HF3 := Lib.hid (HF.out.kept HH.out HZ.out h2 h1)
            have B10y := h2.blk B10x (by omega) (by omega) (by omega) (by decide)
            have hov := ovr_le W (col + ot.size)
            clear h1 h2 B10x B10w HF
            have cB10y := B10y.cell
            have fB10y := B10y.frozen
            have lB10y := B10y.lt
            go_wp2_with fail
            exact ⟨⟨oe, col + ot.size, k + 1, _, ln, xs ++ [0], _, _, rfl, Lib.hid (HR.out.step (dex := ovr W (col + ot.size) - ovr W col) (dln := 0) (dch := [0]) (dtx := bts ot) (setF_flat HY.out rfl rfl hp of2) HF3.out rfl rfl rfl rfl of2 of3 (by omega) (by simp) (by omega) (by omega) (by omega) (by rw [bts_len]; omega))⟩, by simp [intOf]; omega⟩
      case false =>
        by_cases hn : 0 ≤ oi
        · obtain ⟨nn, rfl⟩ : ∃ nn : Nat, oi = (nn : Int) := ⟨oi.toNat, by omega⟩
          have hnn : decide ((nn : Int) ≥ 0) = true := by simp
          clear hn
          have B2 := HG.out.sb.out
          have cB2 := B2.cell
          have fB2 := B2.frozen
          have lB2 := B2.lt
          have cB10 := B10.cell
          have fB10 := B10.frozen
          have lB10 := B10.lt
          go_wp2_with fail
          clear cB2 fB2 lB2 cB10 fB10 lB10
          clear hnn B2
          have HF1 : Hid (SF z bs lo X I w ex (ln + 1) (.slice Ac xs.length cc) xs col tx k (W1.setCell ⟨z + 2, 1, none⟩ (.int .i64 ((ln : Int) + 1)))) := Lib.hid (HG.out.kept HH.out HZ.out (KeptZ.refl.cell ⟨z + 2, 1, none⟩ (Or.inl rfl) (.int .i64 ((ln : Int) + 1))) (HG.out.sb.setLn (ln + 1)))
          replace B10 := B10.far (p := ⟨z + 2, 1, none⟩) (show b10 ≠ z + 2 by omega) (.int .i64 ((ln : Int) + 1))
          clear HG
          generalize W1.setCell ⟨z + 2, 1, none⟩ (.int .i64 ((ln : Int) + 1)) = W2 at *
          clear W1
          refine (Tryd.Builder_WriteByte_k (z + 3) (z + 3) (Lib.byteCells tx) 10 W2 HF1.out.sb.bld (by rw [Lib.byteCells_length]; omega) (by have := HF1.out.sz; omega)).mono ?_
          rintro e w1 ⟨rfl, h1, h2, h3⟩
          have h4 : Lib.byteCells tx ++ [.int .u8 10] = Lib.byteCells (tx ++ [10]) := by simp [Lib.byteCells]
          rw [h4] at h1
          have HK := (KeptZ.refl (z := z) (w := W2)).wrote h2 h3
          have HF2 := Lib.hid (HF1.out.kept HH.out HZ.out HK (HF1.out.sb.wrote (Or.inr h1) h2 h3))
          replace B10 := HK.blk B10 (by omega) (by omega) (by omega) (by decide)
          clear h1 h2 h3 h4 HK HF1
          clear W2
          have B4 := HF2.out.sb.col
          have cB4 := B4.cell
          have fB4 := B4.frozen
          have lB4 := B4.lt
          have cB10 := B10.cell
          have fB10 := B10.frozen
          have lB10 := B10.lt
          go_wp2_with fail
          clear cB4 fB4 lB4 cB10 fB10 lB10
          clear B4
          have HF3 : Hid (SF z bs lo X I w ex (ln + 1) (.slice Ac xs.length cc) xs 0 (tx ++ [10]) k (w1.setCell ⟨z + 4, 0, none⟩ (.int .i64 0))) := Lib.hid (HF2.out.kept HH.out HZ.out (KeptZ.refl.cell ⟨z + 4, 0, none⟩ (Or.inr (Or.inr rfl)) (.int .i64 0)) (HF2.out.sb.setCol 0))
          replace B10 := B10.far (p := ⟨z + 4, 0, none⟩) (show b10 ≠ z + 4 by omega) (.int .i64 0)
          clear HF2
          generalize w1.setCell ⟨z + 4, 0, none⟩ (.int .i64 0) = W3 at *
          clear w1
          refine (Tryd.strings_Repeat ⟨#[32]⟩ nn W3 (by omega) (by show 1 * nn ≤ _; omega)).mono ?_
          rintro e W4 ⟨rfl, hb4⟩
          have HF4 := Lib.hid (HF3.out.via HH.out hb4)
          replace B10 := B10.via hb4
          obtain ⟨ss, hss⟩ : ∃ ss : ByteArray, ss = ⟨(Lib.repeatL [32] nn).toArray⟩ := ⟨_, rfl⟩
          have hsn : ss.size = nn := by rw [hss]; show (Lib.repeatL [32] nn).toArray.size = nn; simp [Lib.repeatL_length]
          have HSN := Lib.hid (show bts ss = List.replicate nn 32 by rw [hss]; exact repeat_32 nn)
          rw [← hss]
          clear hss hb4 HF3
          clear W3
          go_wp2_with fail
          refine (write_c W z bs _ M ss ex (ln + 1) _ 0 (tx ++ [10]) _ (HSS.out _ _ HF4.out.inv).1 HF4.out.sb hW (by omega) (by omega) (by rw [List.length_append]; simp; omega)).mono ?_
          rintro e w3 ⟨rfl, h1, h2⟩
          have HF5 := Lib.hid (HF4.out.kept HH.out HZ.out h2 h1)
          have hov := ovr_le W nn
          have hsf := setF_line (W := W) (p := p) (col := col) (k := k) HY.out rfl (by simp)
          simp only [Int.toNat_natCast] at hsf
          clear h1 h2 HF4 B10
          go_wp2_with fail
          exact ⟨⟨i + 1, 0 + ss.size, k, _, ln + 1, xs, _, _, by go_num, Lib.hid (HR.out.step (dex := ovr W nn) (dln := 1) (dch := []) (dtx := 10 :: List.replicate nn 32) (by rw [hsf, hsn, Nat.zero_add]) HF5.out (by rw [hsn, Nat.zero_add]; simp [ovr]) rfl (List.append_nil _).symm (by rw [HSN.out, List.append_assoc]; rfl) (by omega) hil (by omega) (by simp) (by omega) (by omega) (by omega) (by simp; omega))⟩, by simp [intOf]; omega⟩
        · have hnn : decide (oi ≥ 0) = false := by simp; omega
          have HN := Lib.hid hn
          clear hn
          have cB10 := B10.cell
          have fB10 := B10.frozen
          have lB10 := B10.lt
          go_wp2_with fail
          clear cB10 fB10 lB10
          clear hnn
          refine (write_c W z bs _ M ot ex ln _ col tx _ (HSS.out _ _ HG.out.inv).1 HG.out.sb hW (by omega) (by omega) (by omega)).mono ?_
          rintro e w3 ⟨rfl, h1, h2⟩
          have HF3 := Lib.hid (HG.out.kept HH.out HZ.out h2 h1)
          have hov := ovr_le W (col + ot.size)
          clear h1 h2 HG B10
          go_wp2_with fail
          exact ⟨⟨i + 1, col + ot.size, k, _, ln, xs, _, _, by go_num, Lib.hid (HR.out.step (dex := ovr W (col + ot.size) - ovr W col) (dln := 0) (dch := []) (dtx := bts ot) (setF_text HY.out rfl (by have := HN.out; simp only; omega)) HF3.out rfl rfl (List.append_nil _).symm rfl (by omega) hil (by omega) (by simp) (by omega) (by omega) (by omega) (by rw [bts_len]; omega))⟩, by simp [intOf]; omega⟩
    · have HIL := Lib.hid (show i = ops.length by omega)
      clear hsl
      have cBs := Bs.cell
      have fBs := Bs.frozen
      have lBs := Bs.lt
      have cB1 := B1.cell
      have fB1 := B1.frozen
      have lB1 := B1.lt
      go_wp2_with fail
      clear cBs fBs lBs cB1 fB1 lB1
      refine (Tryd.Builder_String_any_k (z + 3) (z + 3) tx wr HR.out.sf.sb.bld (by have := HR.out.sf.sz; omega)).mono ?_
      rintro e w1 ⟨rfl, h1, h2, h3⟩
      have HK := Lib.hid ((KeptZ.refl (z := z) (w := wr)).wrote h2 h3)
      have HF := Lib.hid (HR.out.sf.kept HH.out HZ.out HK.out (HR.out.sf.sb.wrote h1 h2 h3))
      obtain ⟨Ac, cc, hch, -⟩ := HF.out.own.form
      subst hch
      have B2 := HF.out.sb.out
      have B3 := HF.out.sb.res
      clear h1 h2 h3
      have cB2 := B2.cell
      have fB2 := B2.frozen
      have lB2 := B2.lt
      have cB3 := B3.cell
      have fB3 := B3.frozen
      have lB3 := B3.lt
      go_wp2_with fail
      clear cB2 fB2 lB2
      have HE0 : SE z lo X I w (.slice Ac xs.length cc) xs k w1 := ⟨HF.out.own, HF.out.inv, HF.out.agr, HF.out.bel, by have := HF.out.sz; omega⟩
      have HE := Lib.hid (((((HE0.set HH.out HZ.out ⟨z + 2, 3, none⟩ (by show z ≤ z + 2; omega) (by show z + 2 < z + 5; omega) (.string ⟨tx.toArray⟩)).set HH.out HZ.out ⟨z + 1, 0, none⟩ (by show z ≤ z + 1; omega) (by show z + 1 < z + 5; omega) (.int .i64 (ex : Int))).set HH.out HZ.out ⟨z + 1, 1, none⟩ (by show z ≤ z + 1; omega) (by show z + 1 < z + 5; omega) (.int .i64 (ln : Int))).set HH.out HZ.out ⟨z + 1, 2, none⟩ (by show z ≤ z + 1; omega) (by show z + 1 < z + 5; omega) (.slice Ac xs.length cc)).set HH.out HZ.out ⟨z + 1, 3, none⟩ (by show z ≤ z + 1; omega) (by show z + 1 < z + 5; omega) (.string ⟨tx.toArray⟩))
      have hfin : setF W p ops 0 0 0 = ⟨ex, ln, xs, tx, k⟩ := by
        rw [HR.out.eq, setF_end (by rw [HIL.out]; exact Nat.le_refl _)]
        simp [Ly.after]
      have HFI := Lib.hid hfin
      clear HE0 hfin
      refine bodyPost_ret (v := .agg #[.int .i64 (ex : Int), .int .i64 (ln : Int), .slice Ac xs.length cc, .string ⟨tx.toArray⟩]) (by simp [results, Tryd.results12, go_sem, cB3]) rfl ?_
      refine ⟨Ac, xs.length, cc, ?_, ?_, ?_, HE.out.agr, HE.out.bel, by rw [HZ.out]; exact HE.out.sz⟩
      · rw [HFI.out]
      · rw [HFI.out, HZ.out]; exact HE.out.own
      · rw [HFI.out]; exact HE.out.inv
end Go.Proofs.YtbhenicldddlfaaDoor

