/- Texts HX, HU, HV, laid together. -/
import Derived.Test.YtghnkgbingcbcaaL4
import Derived.Test.YtghnkgbingcbcaaP1
import Derived.Test.YtghnkgbingcbcaaH2


namespace Go.Proofs.Ytghnkgbingcbcaa
open Go.RowKit

theorem LenG.small {n : Nat} {xs : List Int} (h : LenG n xs) (hn : n ≤ 10) (N : Nat) : xs.getD N (-1) ≤ 100000000 := by
  rw [List.getD_eq_getElem?_getD]
  cases hx : xs[N]? with
  | none => simp
  | some x =>
    have h1 := (h.bnd x (List.mem_of_getElem? hx)).2
    have h2 := h.top
    have h3 : (4 ^ n : Nat) ≤ 4 ^ 10 := Nat.pow_le_pow_right (by omega) hn
    have h4 : (4 ^ 10 : Nat) = 1048576 := by decide
    simp only [Option.getD_some]
    omega
def LensQ (w : World) (gr : Gr) (e : Ending) (w' : World) : Prop := ∃ (g : Nat) (xs : List Int), e = .returned (.tuple #[.slice (some ⟨g, 0, none⟩) gr.nons gr.nons, .int .i64 0]) ∧ LenG gr.nons xs ∧ SndL gr.rules xs ∧ FixL gr.rules xs ∧ Blk w' g 3 (iVals xs) ∧ Below w.heap.size w w' ∧ w.heap.size ≤ g
set_option maxRecDepth 100000 in
set_option maxHeartbeats 4000000 in
theorem Lengths_q (ok : Nat → Prop) (g : Gr) (Ag : Option Addr) (ng cg : Nat) (w : World) (hg : GrOk g) (hl : Sl RuE ok w Ag ng cg g.rules) :
    Calls Try.prog 62 #[grVal g Ag ng cg] w (LensQ w g) := by
  have B0 := Blk.new w 28 #[.int .i64 (g.terms : Int), .int .i64 (g.nons : Int), .int .i64 (g.start : Int), .slice Ag ng cg]
  have HB := Lib.hid ((Below.refl w.heap.size w).al (.cells #[.int .i64 (g.terms : Int), .int .i64 (g.nons : Int), .int .i64 (g.start : Int), .slice Ag ng cg] 28))
  have HGO := Lib.hid hg
  have HL := Lib.hid (hl.al (.cells #[.int .i64 (g.terms : Int), .int .i64 (g.nons : Int), .int .i64 (g.start : Int), .slice Ag ng cg] 28))
  simp only [grVal]
  clear hg hl
  go_enter Try.func62, Try.ntmps62
  have cB0 := B0.cell
  have fB0 := B0.frozen
  have lB0 := B0.lt
  go_wp2_with fail
  clear cB0 fB0 lB0
  generalize w.alloc (.cells #[.int .i64 (g.terms : Int), .int .i64 (g.nons : Int), .int .i64 (g.start : Int), .slice Ag ng cg] 28) = W at *
  refine (check_c ok g Ag ng cg W HGO.out HL.out).mono ?_
  rintro e w1 ⟨rfl, hb⟩
  have HB1 := Lib.hid hb
  have B1 := B0.via hb
  clear hb B0
  have cB1 := B1.cell
  have fB1 := B1.frozen
  have lB1 := B1.lt
  go_wp2_with fail
  clear cB1 fB1 lB1
  refine (lengths_q ok g Ag ng cg w1 HGO.out (HL.out.via HB1.out)).mono ?_
  rintro e w2 ⟨b, xs, rfl, hxl, hbk, hb2, hlt, hsn, hfx⟩
  have HSN := Lib.hid hsn
  have HFX := Lib.hid hfx
  have HX := Lib.hid hxl
  have HK := Lib.hid hbk
  have HB2 := Lib.hid ((HB.out.via HB1.out).via hb2)
  have HLT := Lib.hid (show w.heap.size ≤ b by have := (HB.out.via HB1.out).size; omega)
  clear hxl hbk hb2 hlt hsn hfx B1
  go_wp2_with fail
  go_ret2
  exact ⟨b, xs, rfl, HX.out, HSN.out, HFX.out, HK.out, HB2.out, HLT.out⟩
end Go.Proofs.Ytghnkgbingcbcaa



namespace Go.Proofs.Ytghnkgbingcbcaa
open Go.RowKit

abbrev SzU := Nat → Int
def szC (sz : SzU) (c : Ce) : Int := if c.1 then 1 else sz c.2.toNat
def szL (sz : SzU) : List Ce → Int
  | [] => 0
  | c :: l => szC sz c + szL sz l
/-- a cell that serves -/
def OkU (nons : Nat) (sz : SzU) (c : Ce) : Prop :=
  (c.1 = true ∧ 0 ≤ c.2 ∧ c.2 < 8) ∨ (c.1 = false ∧ 0 ≤ c.2 ∧ c.2.toNat < nons ∧ 0 ≤ sz c.2.toNat ∧ sz c.2.toNat ≤ 100000000)
section
variable {nons : Nat} {sz : SzU}
theorem szL_append (a b : List Ce) : szL sz (a ++ b) = szL sz a + szL sz b := by
  induction a with
  | nil => simp [szL]
  | cons c a ih => rw [List.cons_append, szL, szL, ih]; omega
theorem OkU.szb {c : Ce} (h : OkU nons sz c) : 0 ≤ szC sz c ∧ szC sz c ≤ 100000000 := by
  rcases h with ⟨h1, h2⟩ | ⟨h1, h2, h6, h3, h4⟩
  · unfold szC; rw [if_pos h1]; omega
  · unfold szC; rw [if_neg (by simp [h1])]; exact ⟨h3, h4⟩
theorem szL_ok {cs : List Ce} (h : ∀ c ∈ cs, OkU nons sz c) : 0 ≤ szL sz cs ∧ szL sz cs ≤ 100000000 * (cs.length : Int) := by
  induction cs with
  | nil => simp [szL]
  | cons c l ih =>
    have h1 := (h c (List.mem_cons_self ..)).szb
    have h2 := ih fun d hd => h d (List.mem_cons_of_mem _ hd)
    rw [szL, List.length_cons]; omega
theorem mem_gpart {α : Type} {w : List α} {i j : Nat} {x : α} (h : x ∈ gpart w i j) : x ∈ w := List.mem_of_mem_take (List.mem_of_mem_drop h)
end
/-- what an entry is: its size, a word of that size if it is not too long -/
structure IsU (sz : SzU) (cs : List Ce) (x : Way) : Prop where
  c : x.cost = 0
  s : x.size = szL sz cs
  l : x.w.length = if x.size ≤ 2000 then x.size.toNat else 0
  a : ∀ y ∈ x.w, 0 ≤ y ∧ y < 8
def SndU (sz : SzU) (cells : List Ce) (i j : Nat) (x : Way) : Prop := x.ok = true → i ≤ j ∧ j ≤ cells.length ∧ IsU sz (gpart cells i j) x
section
variable {nons : Nat} {sz : SzU} {cells : List Ce} {st : WSt}
theorem SndU.no (i j : Nat) : SndU sz cells i j Way.no := fun h => by cases h
theorem SndU.then_ (hc : ∀ c ∈ cells, OkU nons sz c) {i m j : Nat} {a b : Way} (h : SndU sz cells i m a) (k : SndU sz cells m j b) : SndU sz cells i j (thenW a b) := by
  intro ho
  have ha : a.ok = true := by simp [thenW] at ho; exact ho.1
  have hb : b.ok = true := by simp [thenW] at ho; exact ho.2
  obtain ⟨h1, h2, h3, h4, h5, h6⟩ := h ha
  obtain ⟨k1, k2, k3, k4, k5, k6⟩ := k hb
  have s1 := szL_ok (sz := sz) (cs := gpart cells i m) fun c h => hc c (mem_gpart h)
  have s2 := szL_ok (sz := sz) (cs := gpart cells m j) fun c h => hc c (mem_gpart h)
  refine ⟨by omega, k2, by simp only [thenW, h3, k3]; rfl, ?_, ?_, ?_⟩
  · rw [← gpart_append h1 k1, szL_append]; simp only [thenW, h4, k4]
  · simp only [thenW, ha, hb, Bool.and_self, Bool.true_and, decide_eq_true_eq]
    by_cases hs : a.size + b.size ≤ 2000
    · rw [if_pos hs, if_pos hs, List.length_append, h5, k5, if_pos (by omega), if_pos (by omega)]; omega
    · rw [if_neg hs, if_neg hs]; rfl
  · simp only [thenW, ha, hb, Bool.and_self, Bool.true_and, decide_eq_true_eq]
    by_cases hs : a.size + b.size ≤ 2000
    · rw [if_pos hs]
      intro y hy
      rcases List.mem_append.1 hy with hy | hy
      · exact h6 y hy
      · exact k6 y hy
    · rw [if_neg hs]; intro y hy; cases hy
theorem SndU.sym (hc : ∀ c ∈ cells, OkU nons sz c) (hst : ∀ N i j, SndU sz cells i j (st N i j)) (s : Sy) {i j : Nat} (h2 : j ≤ cells.length) : SndU sz cells i j (symH cells st s i j) := by
  obtain ⟨b, t⟩ := s
  cases b with
  | false => exact hst t i j
  | true =>
    rw [symH, if_pos rfl]
    by_cases e : j = i + 1 ∧ (cells[i]?.map (isC (true, t))) = some true
    · rw [if_pos e]
      intro _
      obtain ⟨rfl, e2⟩ := e
      cases hci : cells[i]? with
      | none => rw [hci] at e2; simp at e2
      | some c =>
        rw [hci] at e2
        simp [isC] at e2
        have hok := hc c (List.mem_of_getElem? hci)
        have ec : c = (true, (t : Int)) := by
          rcases e2 with e2 | e2
          · exact e2
          · subst e2
            rcases hok with ⟨_, h, _⟩ | ⟨h, _⟩
            · exact absurd h (by decide)
            · cases h
        subst ec
        have ht : 0 ≤ (t : Int) ∧ (t : Int) < 8 := by
          rcases hok with ⟨_, h⟩ | ⟨h, _⟩
          · exact h
          · cases h
        refine ⟨by omega, h2, rfl, ?_, by simp, fun y hy => ?_⟩
        · rw [gpart_at hci]; simp [szL, szC]
        · have := List.mem_singleton.1 hy; rw [this]; exact ht
    · rw [if_neg e]; exact .no _ _
theorem SndU.rule (hc : ∀ c ∈ cells, OkU nons sz c) (hst : ∀ N i j, SndU sz cells i j (st N i j)) {i : Nat} (hi : i ≤ cells.length) (l : List Sy) : ∀ j, SndU sz cells i j (ruleH cells st i l j) := by
  unfold ruleH
  induction l using snoc_induction with
  | h0 =>
    intro j
    by_cases e : j = i
    · subst e
      intro _
      have e : foldRow (symH cells st) cells.length j [] j = ⟨0, 0, [], true⟩ := by simp [foldRow, upd_same]
      rw [e]
      exact ⟨Nat.le_refl _, hi, rfl, by rw [gpart_same]; rfl, rfl, fun y hy => (by cases hy)⟩
    · simp only [foldRow, List.foldl_nil, upd_ne _ _ e]; exact .no _ _
  | hs l s ih =>
    rw [foldRow_snoc]
    exact rowK_inv (P := fun j x => SndU sz cells i j x) (fun j => .no _ _) fun k j _ _ h3 h4 _ _ => (ih k).then_ hc (SndU.sym hc hst s h4)
end
/-- states of hole, of such cells -/
structure GoodU (sz : SzU) (cells : List Ce) (st : WSt) : Prop where
  snd : ∀ N i j, SndU sz cells i j (st N i j)
  no : ∀ N i j, (st N i j).ok = false → st N i j = Way.no
  ini : ∀ (N i : Nat), cells[i]? = some (false, (N : Int)) → (st N i (i + 1)).ok = true
/-- rows at the start -/
structure GRow (sz : SzU) (cells : List Ce) (N i : Nat) (f : Nat → Way) : Prop where
  snd : ∀ j, SndU sz cells i j (f j)
  no : ∀ j, (f j).ok = false → f j = Way.no
  ini : cells[i]? = some (false, (N : Int)) → (f (i + 1)).ok = true
section
variable {rules : List Ru} {sz : SzU} {cells : List Ce} {st stI : WSt} {r : Ru} {i j N nons : Nat}
theorem GRow.start (h : cells[i]? ≠ some (false, (N : Int))) : GRow sz cells N i (fun _ => Way.no) := ⟨fun _ => .no _ _, fun _ _ => rfl, fun h2 => absurd h2 h⟩
theorem GRow.word (h : cells[i]? = some (false, (N : Int))) {x : Way} (ho : x.ok = true) (hx : IsU sz [(false, (N : Int))] x) : GRow sz cells N i (upd (fun _ => Way.no) (i + 1) x) := by
  have hl := (List.getElem?_eq_some_iff.1 h).1
  refine ⟨fun j => ?_, fun j hj => ?_, fun _ => by rw [upd_same]; exact ho⟩
  · by_cases e : j = i + 1
    · subst e; rw [upd_same]; exact fun _ => ⟨by omega, by omega, by rw [gpart_at h]; exact hx⟩
    · rw [upd_ne _ _ e]; exact .no _ _
  · by_cases e : j = i + 1
    · subst e; rw [upd_same, ho] at hj; cases hj
    · rw [upd_ne _ _ e]
theorem GoodU.start (hc : ∀ c ∈ cells, OkU nons sz c) (h : ∀ N i, N < nons → i ≤ cells.length → GRow sz cells N i (st N i)) : GoodU sz cells (fun N i j => if N < nons ∧ i ≤ cells.length then st N i j else Way.no) := by
  refine ⟨fun N i j => ?_, fun N i j hn => ?_, fun N i hi => ?_⟩
  · by_cases e : N < nons ∧ i ≤ cells.length
    · simp only [if_pos e]; exact (h N i e.1 e.2).snd j
    · simp only [if_neg e]; exact .no _ _
  · by_cases e : N < nons ∧ i ≤ cells.length
    · simp only [if_pos e] at hn ⊢; exact (h N i e.1 e.2).no j hn
    · simp only [if_neg e]
  · have hl := (List.getElem?_eq_some_iff.1 hi).1
    have hN : N < nons := by
      rcases hc _ (List.mem_of_getElem? hi) with ⟨h, _⟩ | ⟨_, _, h, _⟩
      · cases h
      · simpa using h
    simp only [if_pos (show N < nons ∧ i ≤ cells.length from ⟨hN, by omega⟩)]
    exact (h N i hN (by omega)).ini hi
theorem GoodU.put (hc : ∀ c ∈ cells, OkU nons sz c) (hI : GoodU sz cells stI) (h : GoodU sz cells st) (hi : i ≤ cells.length) (hx : lessW (ruleH cells stI i r.2 j) (st r.1 i j) = true) : GoodU sz cells (updS st r.1 i j (ruleH cells stI i r.2 j)) := by
  refine ⟨fun N a b => ?_, fun N a b hn => ?_, fun N a ha => ?_⟩
  · by_cases e : N = r.1 ∧ a = i ∧ b = j
    · obtain ⟨rfl, rfl, rfl⟩ := e; rw [updS_same]; exact SndU.rule hc hI.snd hi r.2 b
    · rw [updS_ne _ _ e]; exact h.snd N a b
  · by_cases e : N = r.1 ∧ a = i ∧ b = j
    · obtain ⟨rfl, rfl, rfl⟩ := e; rw [updS_same] at hn; rw [lessW_ok hx] at hn; cases hn
    · rw [updS_ne _ _ e] at hn ⊢; exact h.no N a b hn
  · by_cases e : N = r.1 ∧ a = i ∧ a + 1 = j
    · obtain ⟨rfl, rfl, rfl⟩ := e; rw [updS_same]; exact lessW_ok hx
    · rw [updS_ne _ _ e]; exact h.ini N a ha
theorem SndU.frm (hc : ∀ c ∈ cells, OkU nons sz c) (hl : cells.length ≤ 12) {x : Way} (h : SndU sz cells i j x) (ho : x.ok = true) : Frm big 8 x := by
  obtain ⟨h1, h2, h3, h4, h5, h6⟩ := h ho
  have s1 := szL_ok (sz := sz) (cs := gpart cells i j) fun c h => hc c (mem_gpart h)
  rw [gpart_len h2] at s1
  refine ⟨by rw [h3]; unfold big; omega, by rw [h4]; unfold big; omega, h5, h6⟩
theorem GoodU.bnds (h : GoodU sz cells st) (hc : ∀ c ∈ cells, OkU nons sz c) (hl : cells.length ≤ 12) (N i j : Nat) : Bnd 2000000000 (st N i j) := by
  cases ho : (st N i j).ok with
  | true => exact (SndU.frm hc hl (h.snd N i j) ho).bnd
  | false => rw [h.no N i j ho]; exact .no (by omega)
theorem PrgU.put {n : Nat} {st0 : WSt} {again : Bool} {V V' : Ru → Nat → Nat → Prop} (hc : ∀ c ∈ cells, OkU nons sz c) (hl : cells.length ≤ 12) (hn : r.1 < n) (hI : GoodU sz cells stI) (hm : GoodU sz cells st) (h : PrgH cells n st0 st again V)
    (hi : i ≤ cells.length) (hj : j ≤ cells.length) (hx : lessW (ruleH cells stI i r.2 j) (st r.1 i j) = true) : PrgH cells n st0 (updS st r.1 i j (ruleH cells stI i r.2 j)) true V' := by
  refine ⟨fun h => by (cases h), fun _ => ?_⟩
  have h1 : rankW big 8 (ruleH cells stI i r.2 j) < rankW big 8 (st r.1 i j) :=
    rankW_lt (by omega) (fun ho => SndU.frm hc hl (SndU.rule hc hI.snd hi r.2 j) ho) (fun ho => SndU.frm hc hl (hm.snd r.1 i j) ho) hx
  have h2 := total_lt (nons := n) (n := cells.length) (st := st) hn hi hj h1
  cases ha : again with
  | false => obtain ⟨rfl, -⟩ := h.no ha; exact h2
  | true => exact Nat.lt_trans h2 (h.yes ha)
theorem ruleU_short (h : GoodU sz cells st) (hc : ∀ c ∈ cells, OkU nons sz c) (hl : cells.length ≤ 12) (i : Nat) (l : List Sy) (j : Nat) : (ruleH cells st i l j).w.length ≤ 2000 :=
  (Bnd.foldRow (M := 2000000000) (by omega) (fun s k j => Bnd.symH (by omega) (h.bnds hc hl) s k j) l j).short
end
/-- derivations that stop at cells -/
inductive DrvU (rules : List Ru) : List Sy → List Ce → Prop
  | nil : DrvU rules [] []
  | term (t : Nat) {l : List Sy} {cs : List Ce} (h : DrvU rules l cs) : DrvU rules ((true, t) :: l) ((true, (t : Int)) :: cs)
  | cell (N : Nat) {l : List Sy} {cs : List Ce} (h : DrvU rules l cs) : DrvU rules ((false, N) :: l) ((false, (N : Int)) :: cs)
  | non (N : Nat) {rhs l : List Sy} {c1 c2 : List Ce} (hr : (N, rhs) ∈ rules) (h1 : DrvU rules rhs c1) (h2 : DrvU rules l c2) : DrvU rules ((false, N) :: l) (c1 ++ c2)
section
variable {rules : List Ru}
theorem DrvU.append {a b : List Sy} {c d : List Ce} (h : DrvU rules a c) (k : DrvU rules b d) : DrvU rules (a ++ b) (c ++ d) := by
  induction h with
  | nil => simpa using k
  | term t _ ih => exact .term t ih
  | cell N _ ih => exact .cell N ih
  | non N hr h1 _ _ ih => rw [List.cons_append, List.append_assoc]; exact .non N hr h1 ih
theorem DrvU.one {N : Nat} {rhs : List Sy} {c : List Ce} (hr : (N, rhs) ∈ rules) (h : DrvU rules rhs c) : DrvU rules [(false, N)] c := by
  have := DrvU.non N hr h (DrvU.nil (rules := rules))
  simpa using this
theorem DrvU.ofDv {l : List Sy} {v : List Int} (h : Dv rules l v) : DrvU rules l (v.map fun x => (true, x)) := by
  induction h with
  | nil => exact .nil
  | term t _ ih => exact .term t ih
  | @non N rhs l u v hr hu hv ih1 ih2 => rw [List.map_append]; exact .non _ hr ih1 ih2
theorem FixH.covU {cells : List Ce} {st : WSt} (hf : FixH rules cells st) (hini : ∀ (N i : Nat), cells[i]? = some (false, (N : Int)) → (st N i (i + 1)).ok = true) {l : List Sy} {cs : List Ce} (h : DrvU rules l cs) :
    ∀ i j, i ≤ j → j ≤ cells.length → cs = gpart cells i j → ∃ k, Cov (symH cells st) l i j k := by
  induction h with
  | nil =>
    intro i j h1 h2 e
    have := gpart_len (i := i) h2
    rw [← e] at this
    simp at this
    have : i = j := by omega
    subst this
    exact ⟨0, .nil i⟩
  | @term t l cs h ih =>
    intro i j h1 h2 e
    obtain ⟨m, hm, m1, m2, e1, e2⟩ := gpart_split (p1 := [(true, (t : Int))]) h1 h2 e.symm
    simp at hm
    subst hm
    obtain ⟨k, hk⟩ := ih (i + 1) j m2 h2 e2.symm
    exact ⟨_, Cov.cons (cell := symH cells st) (true, t) m1 m2 (by rw [symH, if_pos rfl, if_pos ⟨rfl, by rw [gpart_one e1]; simp [isC]⟩]) hk⟩
  | @cell N l cs h ih =>
    intro i j h1 h2 e
    obtain ⟨m, hm, m1, m2, e1, e2⟩ := gpart_split (p1 := [(false, (N : Int))]) h1 h2 e.symm
    simp at hm
    subst hm
    obtain ⟨k, hk⟩ := ih (i + 1) j m2 h2 e2.symm
    exact ⟨_, Cov.cons (cell := symH cells st) (false, N) m1 m2 (by rw [symH, if_neg (by simp)]; exact hini N i (gpart_one e1)) hk⟩
  | @non N rhs l c1 c2 hr hu hv ih1 ih2 =>
    intro i j h1 h2 e
    obtain ⟨m, -, m1, m2, e1, e2⟩ := gpart_split h1 h2 e.symm
    obtain ⟨k1, hk1⟩ := ih1 i m m1 (by omega) e1.symm
    obtain ⟨k2, hk2⟩ := ih2 m j m2 h2 e2.symm
    have hrule := (foldRow_cov (sym := symH cells st) (n := cells.length) rhs (by omega) hk1).1
    have hfx : lessW (ruleH cells st i rhs m) (st N i m) = false := hf _ hr i m m1 (by omega)
    have hst := (lessW_not hfx hrule).1
    exact ⟨_, Cov.cons (cell := symH cells st) (false, N) m1 m2 (by rw [symH, if_neg (by simp)]; exact hst) hk2⟩
/-- what the table holds at the start symbol -/
theorem FixH.full {cells : List Ce} {sz : SzU} {st : WSt} (hf : FixH rules cells st) (hg : GoodU sz cells st) {N : Nat} (h : DrvU rules [(false, N)] cells) : (st N 0 cells.length).ok = true ∧ IsU sz cells (st N 0 cells.length) := by
  obtain ⟨k, hk⟩ := hf.covU hg.ini h 0 cells.length (Nat.zero_le _) (Nat.le_refl _) (gpart_all cells).symm
  have ho : (st N 0 cells.length).ok = true := by
    cases hk with
    | cons _ h1 h2 hs h =>
      cases h
      rwa [symH, if_neg (by simp)] at hs
  have := (hg.snd N 0 cells.length ho).2.2
  rw [gpart_all] at this
  exact ⟨ho, this⟩
end
end Go.Proofs.Ytghnkgbingcbcaa




namespace Go.Proofs.Ytghnkgbingcbcaa
open Go.RowKit

theorem HRow.congr {ok : Nat → Prop} {w : World} {b n : Nat} {f f' : Nat → Way} (h : HRow ok w b n f) (e : ∀ j, j ≤ n → f j = f' j) : HRow ok w b n f' := by
  obtain ⟨C, h1, h2, h3⟩ := h
  exact ⟨C, h1, h2, fun j hj => by rw [← e j hj]; exact h3 j hj⟩
/-- the first k nonterminals have their rows; all that lies below hi -/
structure UIR (w : World) (bc bg n hi k : Nat) (rb : Nat → Nat) (cb : Nat → Nat → Nat) (cs : Value → Array Value) (gcs : Array Value) (v : Value) (st : WSt) (Wd : Nat → Prop) (wr : World) : Prop where
  hc : Blk wr bc 123 (cs v)
  hg : Blk wr bg 28 gcs
  own : Own SlE 125 (fun _ => False) wr (bc + 1) v k ((List.range k).map fun a => (some ⟨rb a, 0, none⟩, n + 1, n + 1))
  mid : ∀ a i, a < k → i ≤ n → wr.cell? ⟨rb a, i, none⟩ = some (.slice (some ⟨cb a i, 0, none⟩) (n + 1) (n + 1))
  row : ∀ a i, a < k → i ≤ n → HRow Wd wr (cb a i) n (st a i)
  inj : ∀ a i a' i', a < k → i ≤ n → a' < k → i' ≤ n → cb a i = cb a' i' → a = a' ∧ i = i'
  ne : ∀ a a' i, a < k → a' < k → i ≤ n → rb a ≠ cb a' i
  lb : ∀ a, a < k → bc < rb a ∧ rb a < hi
  lc : ∀ a i, a < k → i ≤ n → bc < cb a i ∧ cb a i < hi
  vb : ∀ b, v.ownBlock = some b → b < hi ∧ ∀ a, a < k → b ≠ rb a ∧ ∀ i, i ≤ n → b ≠ cb a i
  wdb : ∀ b, Wd b → (bc < b ∧ b < hi) ∧ v.ownBlock ≠ some b ∧ ∀ a i, a < k → i ≤ n → b ≠ cb a i
  bel : Below w.heap.size w wr
  l0 : w.heap.size ≤ bg
  l1 : bg < bc
  l2 : bc < hi
  l3 : hi ≤ wr.heap.size
section
variable {w wr wa : World} {bc bg n hi k : Nat} {rb : Nat → Nat} {cb : Nat → Nat → Nat} {cs : Value → Array Value} {gcs : Array Value} {v : Value} {st : WSt} {Wd : Nat → Prop}
theorem UIR.below (h : UIR w bc bg n hi k rb cb cs gcs v st Wd wr) (hb : Below hi wr wa) : UIR w bc bg n hi k rb cb cs gcs v st Wd wa := by
  have l0 := h.l0; have l1 := h.l1; have l2 := h.l2; have l3 := h.l3
  refine ⟨h.hc.below hb h.l2, h.hg.below hb (by omega), h.own.agr ?_, fun a i ha hi => (hb.cell (p := ⟨rb a, i, none⟩) (h.lb a ha).2).trans (h.mid a i ha hi), fun a i ha hi => (h.row a i ha hi).agr (hb.block _ (h.lc a i ha hi).2) (fun b hw _ => hb.block b (h.wdb b hw).1.2), h.inj, h.ne, h.lb, h.lc, h.vb, h.wdb, h.bel.trans (hb.mono (by omega)), l0, l1, l2, Nat.le_trans l3 hb.size⟩
  intro b hb' _
  rcases hb' with hb' | hb'
  · exact hb'.elim
  · exact hb.block b (h.vb b hb'.symm).1
theorem UIR.up {hi' : Nat} (h : UIR w bc bg n hi k rb cb cs gcs v st Wd wr) (h1 : hi ≤ hi') (h2 : hi' ≤ wr.heap.size) : UIR w bc bg n hi' k rb cb cs gcs v st Wd wr :=
  ⟨h.hc, h.hg, h.own, h.mid, h.row, h.inj, h.ne, fun a ha => ⟨(h.lb a ha).1, by have := (h.lb a ha).2; omega⟩, fun a i ha hi => ⟨(h.lc a i ha hi).1, by have := (h.lc a i ha hi).2; omega⟩, fun b hb => ⟨by have := (h.vb b hb).1; omega, (h.vb b hb).2⟩, fun b hb => ⟨⟨(h.wdb b hb).1.1, by have := (h.wdb b hb).1.2; omega⟩, (h.wdb b hb).2⟩, h.bel, h.l0, h.l1, by have := h.l2; omega, h2⟩
end
/-- the rows of nonterminal k: block R, of which the first i places are made -/
structure UJR (w : World) (bc bg n hi k : Nat) (rb : Nat → Nat) (cb : Nat → Nat → Nat) (cs : Value → Array Value) (gcs : Array Value) (v : Value) (st : WSt) (Wd : Nat → Prop) (R i : Nat) (ck : Nat → Nat) (sk : Nat → Nat → Way) (Wk : Nat → Prop) (wr : World) : Prop where
  ir : UIR w bc bg n hi k rb cb cs gcs v st Wd wr
  top : ∃ C : Array Value, Blk wr R 126 C ∧ C.size = n + 1 ∧ ∀ a, a < i → C[a]? = some (.slice (some ⟨ck a, 0, none⟩) (n + 1) (n + 1))
  row : ∀ a, a < i → HRow Wk wr (ck a) n (sk a)
  inj : ∀ a a', a < i → a' < i → ck a = ck a' → a = a'
  lo : hi ≤ R
  lc : ∀ a, a < i → R < ck a ∧ ck a < wr.heap.size
  wk : ∀ b, Wk b → (R < b ∧ b < wr.heap.size) ∧ ∀ a, a < i → b ≠ ck a
/-- one row more is made, but not yet its word -/
structure UJM (w : World) (bc bg n hi k : Nat) (rb : Nat → Nat) (cb : Nat → Nat → Nat) (cs : Value → Array Value) (gcs : Array Value) (v : Value) (st : WSt) (Wd : Nat → Prop) (R i : Nat) (ck : Nat → Nat) (sk : Nat → Nat → Way) (Wk : Nat → Prop) (cn : Nat) (wr : World) : Prop where
  jr : UJR w bc bg n hi k rb cb cs gcs v st Wd R i ck sk Wk wr
  topn : ∃ C : Array Value, Blk wr R 126 C ∧ C.size = n + 1 ∧ (∀ a, a < i → C[a]? = some (.slice (some ⟨ck a, 0, none⟩) (n + 1) (n + 1))) ∧ C[i]? = some (.slice (some ⟨cn, 0, none⟩) (n + 1) (n + 1))
  rown : HRow (fun _ => False) wr cn n (fun _ => Way.no)
  lcn : R < cn ∧ cn < wr.heap.size ∧ (∀ a, a < i → ck a < cn) ∧ ∀ b, Wk b → b < cn
section
variable {w wr wa : World} {bc bg n hi k R i cn : Nat} {rb : Nat → Nat} {cb : Nat → Nat → Nat} {cs : Value → Array Value} {gcs : Array Value} {v : Value} {st : WSt} {Wd Wk : Nat → Prop} {ck : Nat → Nat} {sk : Nat → Nat → Way}
theorem UJR.start (h : UIR w bc bg n hi k rb cb cs gcs v st Wd wr) (ck : Nat → Nat) (sk : Nat → Nat → Way) : UJR w bc bg n hi k rb cb cs gcs v st Wd wr.heap.size 0 ck sk (fun _ => False) (wr.alloc (.cells (mkCells (.slice none 0 0) (n + 1)) 126)) :=
  ⟨h.below ((Below.refl hi wr).alloc h.l3 _), ⟨_, Blk.new wr _ _, mkCells_size _ _, fun a h => by omega⟩, fun a h => by omega, fun a a' h => by omega, h.l3, fun a h => by omega, fun b h => h.elim⟩
theorem UJR.via (h : UJR w bc bg n hi k rb cb cs gcs v st Wd R i ck sk Wk wr) (hb : Below wr.heap.size wr wa) : UJR w bc bg n hi k rb cb cs gcs v st Wd R i ck sk Wk wa := by
  obtain ⟨hir, ⟨C, c1, c2, c3⟩, hrow, hinj, hlo, hlc, hwk⟩ := h
  exact ⟨hir.below (hb.mono hir.l3), ⟨C, c1.via hb, c2, c3⟩, fun a ha => (hrow a ha).via hb, hinj, hlo, fun a ha => ⟨(hlc a ha).1, Nat.lt_of_lt_of_le (hlc a ha).2 hb.size⟩, fun b hw => ⟨⟨(hwk b hw).1.1, Nat.lt_of_lt_of_le (hwk b hw).1.2 hb.size⟩, (hwk b hw).2⟩⟩
theorem UJM.via (h : UJM w bc bg n hi k rb cb cs gcs v st Wd R i ck sk Wk cn wr) (hb : Below wr.heap.size wr wa) : UJM w bc bg n hi k rb cb cs gcs v st Wd R i ck sk Wk cn wa := by
  obtain ⟨hj, ⟨C, c1, c2, c3⟩, hrow, h1, h2, h3⟩ := h
  exact ⟨hj.via hb, ⟨C, c1.via hb, c2, c3⟩, hrow.via hb, h1, Nat.lt_of_lt_of_le h2 hb.size, h3⟩
/-- one place more -/
theorem UJM.start (h : UJR w bc bg n hi k rb cb cs gcs v st Wd R i ck sk Wk wr) (hi' : i ≤ n) :
    UJM w bc bg n hi k rb cb cs gcs v st Wd R i ck sk Wk wr.heap.size ((wr.alloc (.cells (hoCells n) 101)).setCell ⟨R, i, none⟩ (.slice (some ⟨wr.heap.size, 0, none⟩) (n + 1) (n + 1))) := by
  obtain ⟨hir, ⟨C, c1, c2, c3⟩, hrow, hinj, hlo, hlc, hwk⟩ := h
  have hR := c1.lt
  have e1 : Below hi wr ((wr.alloc (.cells (hoCells n) 101)).setCell ⟨R, i, none⟩ (.slice (some ⟨wr.heap.size, 0, none⟩) (n + 1) (n + 1))) := ((Below.refl hi wr).alloc hir.l3 _).setCell hlo _
  have ag : Agr Wk wr ((wr.alloc (.cells (hoCells n) 101)).setCell ⟨R, i, none⟩ (.slice (some ⟨wr.heap.size, 0, none⟩) (n + 1) (n + 1))) :=
    (Agr.below ((Below.refl wr.heap.size wr).al _)).trans (Agr.setCell _ fun b hb => by show b ≠ R; have := (hwk b hb).1.1; omega)
  have hc3 : ∀ a, a < i → (C.setIfInBounds i (.slice (some ⟨wr.heap.size, 0, none⟩) (n + 1) (n + 1)))[a]? = some (.slice (some ⟨ck a, 0, none⟩) (n + 1) (n + 1)) := fun a ha => by
    rw [Array.getElem?_setIfInBounds, if_neg (by omega)]; exact c3 a ha
  refine ⟨⟨hir.below e1, ⟨_, (c1.al (.cells (hoCells n) 101)).set_ i (.slice (some ⟨wr.heap.size, 0, none⟩) (n + 1) (n + 1)), by simp [c2], hc3⟩, fun a ha => ?_, hinj, hlo, fun a ha => ?_, fun b hb => ?_⟩,
    ⟨_, (c1.al (.cells (hoCells n) 101)).set_ i (.slice (some ⟨wr.heap.size, 0, none⟩) (n + 1) (n + 1)), by simp [c2], hc3, by rw [Array.getElem?_setIfInBounds, if_pos rfl, if_pos (by omega)]⟩, ?_, hR, by simp, fun a ha => (hlc a ha).2, fun b hb => (hwk b hb).1.2⟩
  · have hl := hlc a ha
    exact (hrow a ha).agr ((Below.heap_setCell _ _ _ _ (by show ck a ≠ R; omega)).trans (Below.heap_alloc wr _ _ hl.2)) ag
  · rw [World.size_setCell, World.size_alloc]; have := hlc a ha; omega
  · rw [World.size_setCell, World.size_alloc]; have := (hwk b hb); exact ⟨by omega, this.2⟩
  · exact (HRow.made _ wr n).agr (Below.heap_setCell _ _ _ _ (by show wr.heap.size ≠ R; omega)) (fun b h => h.elim)
theorem UJM.no (h : UJM w bc bg n hi k rb cb cs gcs v st Wd R i ck sk Wk cn wr) : UJR w bc bg n hi k rb cb cs gcs v st Wd R (i + 1) (fun a => if a = i then cn else ck a) (fun a => if a = i then (fun _ => Way.no) else sk a) Wk wr := by
  obtain ⟨⟨hir, -, hrow, hinj, hlo, hlc, hwk⟩, ⟨C, c1, c2, c3, c4⟩, hrown, l1, l2, l3, l4⟩ := h
  refine ⟨hir, ⟨C, c1, c2, fun a ha => ?_⟩, fun a ha => ?_, fun a a' ha ha' e => ?_, hlo, fun a ha => ?_, fun b hb => ⟨(hwk b hb).1, fun a ha => ?_⟩⟩
  · by_cases e : a = i
    · subst e; rw [if_pos rfl]; exact c4
    · rw [if_neg e]; exact c3 a (by omega)
  · by_cases e : a = i
    · subst e; simp only [if_true]
      exact hrown.mono fun b _ h => h.elim
    · simp only [if_neg e]; exact hrow a (by omega)
  · by_cases e1 : a = i <;> by_cases e2 : a' = i
    · omega
    · rw [if_pos e1, if_neg e2] at e; have := l3 a' (by omega); omega
    · rw [if_neg e1, if_pos e2] at e; have := l3 a (by omega); omega
    · rw [if_neg e1, if_neg e2] at e; exact hinj a a' (by omega) (by omega) e
  · by_cases e : a = i
    · subst e; rw [if_pos rfl]; exact ⟨l1, l2⟩
    · rw [if_neg e]; exact hlc a (by omega)
  · by_cases e : a = i
    · subst e; rw [if_pos rfl]; have := l4 b hb; omega
    · rw [if_neg e]; exact (hwk b hb).2 a (by omega)
theorem UJM.word (h : UJM w bc bg n hi k rb cb cs gcs v st Wd R i ck sk Wk cn wr) {B j : Nat} {u : HyV} {y : Way} (hB : cn < B) (hj : j ≤ n) (hv : HoR (fun b => B ≤ b) wr u y) :
    UJR w bc bg n hi k rb cb cs gcs v st Wd R (i + 1) (fun a => if a = i then cn else ck a) (fun a => if a = i then upd (fun _ => Way.no) j y else sk a) (fun b => Wk b ∨ (B ≤ b ∧ b < wr.heap.size)) (World.put3 wr cn (j * 3) u) := by
  obtain ⟨⟨hir, -, hrow, hinj, hlo, hlc, hwk⟩, ⟨C, c1, c2, c3, c4⟩, hrown, l1, l2, l3, l4⟩ := h
  refine ⟨hir.below (below_p3 (Below.refl hi wr) (by omega)), ⟨C, (heap_p3 (by omega)).trans c1, c2, fun a ha => ?_⟩, fun a ha => ?_, fun a a' ha ha' e => ?_, hlo, fun a ha => ?_, fun b hb => ⟨?_, fun a ha => ?_⟩⟩
  · by_cases e : a = i
    · subst e; rw [if_pos rfl]; exact c4
    · rw [if_neg e]; exact c3 a (by omega)
  · by_cases e : a = i
    · subst e; simp only [if_true]
      have h2 : HRow (fun b => B ≤ b ∧ b < wr.heap.size) wr cn n (fun _ => Way.no) := hrown.mono fun b _ h => h.elim
      have h3 := h2.put hj (hv.mono fun b hb h => ⟨h, hb⟩) (fun x hx => by omega)
      exact h3.mono fun b _ h => Or.inr h
    · simp only [if_neg e]
      have h2 := (hrow a (by omega)).agr (w' := World.put3 wr cn (j * 3) u) (heap_p3 (by have := l3 a (by omega); omega)) (agr_p3 fun x hx => by have := l4 x hx; omega)
      exact h2.mono fun b _ h => Or.inl h
  · by_cases e1 : a = i <;> by_cases e2 : a' = i
    · omega
    · rw [if_pos e1, if_neg e2] at e; have := l3 a' (by omega); omega
    · rw [if_neg e1, if_pos e2] at e; have := l3 a (by omega); omega
    · rw [if_neg e1, if_neg e2] at e; exact hinj a a' (by omega) (by omega) e
  · rw [size_p3]
    by_cases e : a = i
    · subst e; rw [if_pos rfl]; exact ⟨l1, l2⟩
    · rw [if_neg e]; exact hlc a (by omega)
  · rw [size_p3]
    rcases hb with hb | hb
    · exact (hwk b hb).1
    · omega
  · by_cases e : a = i
    · subst e; rw [if_pos rfl]
      rcases hb with hb | hb
      · have := l4 b hb; omega
      · omega
    · rw [if_neg e]
      rcases hb with hb | hb
      · exact (hwk b hb).2 a (by omega)
      · have := l3 a (by omega); omega
/-- the rows are hung into the table -/
theorem UJR.hang (h : UJR w bc bg n hi k rb cb cs gcs v st Wd R (n + 1) ck sk Wk wr) {w1 : World} {A' : Option Addr} {c' : Nat} (o : Obj)
    (hown : Own SlE 125 (fun _ => False) w1 (bc + 1) (.slice A' (k + 1) c') (k + 1) ((List.range k).map (fun a => (some ⟨rb a, 0, none⟩, n + 1, n + 1)) ++ [(some ⟨R, 0, none⟩, n + 1, n + 1)]))
    (hg : (wr.alloc o).grownBy w1 v.ownBlock) (ha : (Value.slice A' (k + 1) c').ownBlock = v.ownBlock ∨ (Value.slice A' (k + 1) c').ownBlock = some (wr.alloc o).heap.size) (hcs : ∀ u, (cs v).setIfInBounds 5 u = cs u) :
    UIR w bc bg n w1.heap.size (k + 1) (fun a => if a = k then R else rb a) (fun a i => if a = k then ck i else cb a i) cs gcs (.slice A' (k + 1) c') (fun a i => if a = k then sk i else st a i) (fun b => Wd b ∨ Wk b) (w1.setCell ⟨bc, 5, none⟩ (.slice A' (k + 1) c')) := by
  obtain ⟨hir, ⟨C, c1, c2, c3⟩, hrow, hinj, hlo, hlc, hwk⟩ := h
  have hR := c1.lt
  have l1 := hir.l1; have l2 := hir.l2; have l3 := hir.l3; have l0 := hir.l0
  have hsz : (wr.alloc o).heap.size = wr.heap.size + 1 := World.size_alloc _ _
  have hs1 := hg.size
  have hvR : v.ownBlock ≠ some R := fun e => by have := (hir.vb R e).1; omega
  have hvb : ∀ b, v.ownBlock = some b → b ≠ bc ∧ b ≠ bg := fun b e => by have := (hir.own.lt b e).1; omega
  -- a block that is not v's own is as it was
  have same : ∀ b, b < wr.heap.size → v.ownBlock ≠ some b → b ≠ bc → (w1.setCell ⟨bc, 5, none⟩ (.slice A' (k + 1) c')).heap[b]? = wr.heap[b]? := fun b hb hv hne => by
    rw [Below.heap_setCell _ _ _ _ (by show b ≠ bc; exact hne), hg.block b (by omega) (fun e => hv e.symm)]
    exact Below.heap_alloc wr o b hb
  refine ⟨?_, ?_, ?_, ?_, ?_, ?_, ?_, ?_, ?_, ?_, ?_, ?_, l0, l1, by omega, by simp⟩
  · have e := ((hir.hc.al o).grown hg (fun e => (hvb bc e.symm).1 rfl)).set_ 5 (.slice A' (k + 1) c')
    rwa [hcs] at e
  · exact ((hir.hg.al o).grown hg (fun e => (hvb bg e.symm).2 rfl)).far (by show bg ≠ bc; omega) _
  · have e := hown.setCell (p := ⟨bc, 5, none⟩) (.slice A' (k + 1) c') (fun b h => h.elim) (by show bc < bc + 1; omega)
    rw [List.range_succ, List.map_append, List.map_singleton, if_pos rfl]
    have e2 : (List.range k).map (fun a => ((some ⟨if a = k then R else rb a, 0, none⟩, n + 1, n + 1) : SlV)) = (List.range k).map (fun a => (some ⟨rb a, 0, none⟩, n + 1, n + 1)) :=
      List.map_congr_left fun a ha => by rw [if_neg (by have := List.mem_range.1 ha; omega)]
    rw [e2]; exact e
  · intro a i ha hi2
    by_cases e : a = k
    · subst e
      rw [if_pos rfl, if_pos rfl]
      have hb := same R hR hvR (by omega)
      rw [World.cell?_of_block (w := wr) (a := ⟨R, i, none⟩) hb, c1.cell]
      exact c3 i (by omega)
    · rw [if_neg e, if_neg e]
      have hl := hir.lb a (by omega)
      have hb := same (rb a) (by omega) (fun e2 => ((hir.vb _ e2).2 a (by omega)).1 rfl) (by omega)
      rw [World.cell?_of_block (w := wr) (a := ⟨rb a, i, none⟩) hb]
      exact hir.mid a i (by omega) hi2
  · intro a i ha hi2
    by_cases e : a = k
    · subst e
      simp only [if_true]
      have hl := hlc i (by omega)
      exact (hrow i (by omega)).agr (same (ck i) hl.2 (fun e2 => by have := (hir.vb _ e2).1; omega) (by omega)) (fun b hb hlt => same b hlt (fun e2 => by have := (hir.vb _ e2).1; have := (hwk b hb).1.1; omega) (by have := (hwk b hb).1.1; omega)) |>.mono fun b _ h => Or.inr h
    · simp only [if_neg e]
      have hl := hir.lc a i (by omega) hi2
      exact (hir.row a i (by omega) hi2).agr (same (cb a i) (by omega) (fun e2 => ((hir.vb _ e2).2 a (by omega)).2 i hi2 rfl) (by omega)) (fun b hb hlt => same b hlt (fun e2 => (hir.wdb b hb).2.1 e2) (by have := (hir.wdb b hb).1.1; omega)) |>.mono fun b _ h => Or.inl h
  · intro a i a' i' ha hi2 ha' hi2' e
    by_cases e1 : a = k <;> by_cases e2 : a' = k
    · rw [if_pos e1, if_pos e2] at e; exact ⟨by omega, hinj i i' (by omega) (by omega) e⟩
    · rw [if_pos e1, if_neg e2] at e; have := (hlc i (by omega)).1; have := (hir.lc a' i' (by omega) hi2').2; omega
    · rw [if_neg e1, if_pos e2] at e; have := (hlc i' (by omega)).1; have := (hir.lc a i (by omega) hi2).2; omega
    · rw [if_neg e1, if_neg e2] at e; exact hir.inj a i a' i' (by omega) hi2 (by omega) hi2' e
  · intro a a' i ha ha' hi2
    by_cases e1 : a = k <;> by_cases e2 : a' = k
    · rw [if_pos e1, if_pos e2]; have := (hlc i (by omega)).1; omega
    · rw [if_pos e1, if_neg e2]; have := (hir.lc a' i (by omega) hi2).2; omega
    · rw [if_neg e1, if_pos e2]; have := (hlc i (by omega)).1; have := (hir.lb a (by omega)).2; omega
    · rw [if_neg e1, if_neg e2]; exact hir.ne a a' i (by omega) (by omega) hi2
  · intro a ha
    by_cases e : a = k
    · rw [if_pos e]; omega
    · rw [if_neg e]; have := hir.lb a (by omega); omega
  · intro a i ha hi2
    by_cases e : a = k
    · rw [if_pos e]; have := hlc i (by omega); omega
    · rw [if_neg e]; have := hir.lc a i (by omega) hi2; omega
  · intro b hb
    have hb1 := (hown.lt b hb).2
    have key : v.ownBlock = some b ∨ b = wr.heap.size + 1 := by
      rcases ha with e | e
      · left; rw [← e]; exact hb
      · right; rw [hb, hsz] at e; exact Option.some.inj e
    refine ⟨hb1, fun a hak => ⟨?_, fun i hi2 => ?_⟩⟩
    · by_cases e : a = k
      · rw [if_pos e]
        rcases key with e2 | e2
        · have := (hir.vb b e2).1; omega
        · omega
      · rw [if_neg e]
        rcases key with e2 | e2
        · exact ((hir.vb b e2).2 a (by omega)).1
        · have := (hir.lb a (by omega)).2; omega
    · by_cases e : a = k
      · rw [if_pos e]
        have := hlc i (by omega)
        rcases key with e2 | e2
        · have := (hir.vb b e2).1; omega
        · omega
      · rw [if_neg e]
        rcases key with e2 | e2
        · exact ((hir.vb b e2).2 a (by omega)).2 i hi2
        · have := (hir.lc a i (by omega) hi2).2; omega
  · intro b hb
    have hbs : b < wr.heap.size := by
      rcases hb with hb | hb
      · have := (hir.wdb b hb).1.2; omega
      · exact (hwk b hb).1.2
    refine ⟨⟨?_, by omega⟩, ?_, fun a i ha hi2 => ?_⟩
    · rcases hb with hb | hb
      · exact (hir.wdb b hb).1.1
      · have := (hwk b hb).1.1; omega
    · intro e
      rcases ha with e2 | e2
      · rw [e2] at e
        rcases hb with hb | hb
        · exact (hir.wdb b hb).2.1 e
        · have := (hir.vb b e).1; have := (hwk b hb).1.1; omega
      · rw [e2, hsz] at e; have := Option.some.inj e; omega
    · by_cases e : a = k
      · rw [if_pos e]
        rcases hb with hb | hb
        · have := (hir.wdb b hb).1.2; have := (hlc i (by omega)).1; omega
        · exact (hwk b hb).2 i (by omega)
      · rw [if_neg e]
        rcases hb with hb | hb
        · exact (hir.wdb b hb).2.2 a i (by omega) hi2
        · have := (hwk b hb).1.1; have := (hir.lc a i (by omega) hi2).2; omega
  · exact ((hir.bel.al o).grown hg (by have := hir.bel.size; omega) fun j hj => by have := (hir.own.lt j hj).1; omega).setCell (by show w.heap.size ≤ bc; omega) _
end
structure UBRel (w : World) (bc bg ob oo N n B0 : Nat) (rb : Nat → Nat) (cb : Nat → Nat → Nat) (ca gcs : Array Value) (st : WSt) (Wd : Nat → Prop) (wr : World) : Prop where
  hc : Blk wr bc 123 ca
  hg : Blk wr bg 28 gcs
  bt : HTab (fun b => B0 ≤ b ∨ Wd b) wr ob oo N n rb cb st
  hd : ∀ b, Wd b → ∀ a i, a < N → i ≤ n → b ≠ cb a i
  bel : Below w.heap.size w wr
  l3 : B0 ≤ wr.heap.size
section
variable {w wr wa : World} {bc bg ob oo N n B0 : Nat} {rb : Nat → Nat} {cb : Nat → Nat → Nat} {ca gcs : Array Value} {st : WSt} {Wd : Nat → Prop}
theorem UBRel.via (h : UBRel w bc bg ob oo N n B0 rb cb ca gcs st Wd wr) (hb : Below wr.heap.size wr wa) : UBRel w bc bg ob oo N n B0 rb cb ca gcs st Wd wa :=
  ⟨h.hc.via hb, h.hg.via hb, h.bt.via hb, h.hd, h.bel.via hb, Nat.le_trans h.l3 hb.size⟩
theorem UBRel.dr (h : UBRel w bc bg ob oo N n B0 rb cb ca gcs st Wd wr) : UBRel w bc bg ob oo N n B0 rb cb ca gcs st Wd wr.drew := h.via ((Below.refl _ _).drew)
theorem UBRel.put (hs : BSt w bc bg ob N n B0 rb cb) (h : UBRel w bc bg ob oo N n B0 rb cb ca gcs st Wd wr) {a i j : Nat} (ha : a < N) (hi : i ≤ n) (hj : j ≤ n) {v : HyV} {y : Way} (hv : HoR (fun b => B0 ≤ b ∨ Wd b) wr v y) :
    UBRel w bc bg ob oo N n B0 rb cb ca gcs (updS st a i j y) Wd (World.put3 wr (cb a i) (j * 3) v) := by
  have hl := hs.lc a i ha hi
  have l0 := hs.l0; have l1 := hs.l1
  refine ⟨(heap_p3 (by omega)).trans h.hc, (heap_p3 (by omega)).trans h.hg, ⟨fun k hk => ?_, fun k i' hk hi' => ?_, fun k i' hk hi' => ?_⟩, h.hd, below_p3 h.bel (by omega), by rw [size_p3]; exact h.l3⟩
  · rw [World.cell?_of_block (w := wr) (a := ⟨ob, oo + k, none⟩) (heap_p3 (hs.n2 a i ha hi))]; exact h.bt.top k hk
  · rw [World.cell?_of_block (w := wr) (a := ⟨rb k, i', none⟩) (heap_p3 (hs.n1 k a i hk ha hi))]; exact h.bt.mid k i' hk hi'
  · by_cases e : k = a ∧ i' = i
    · obtain ⟨rfl, rfl⟩ := e
      have e2 : updS st k i' j y k i' = upd (st k i') j y := by
        funext q
        by_cases eq : q = j
        · subst eq; rw [updS_same, upd_same]
        · rw [updS_ne _ _ (fun h => eq h.2.2), upd_ne _ _ eq]
      rw [e2]
      exact (h.bt.row k i' hk hi').put hj hv fun x hx => hx.elim (fun hx => by omega) (fun hx => h.hd x hx _ _ hk hi')
    · have e2 : updS st a i j y k i' = st k i' := by
        funext q; exact updS_ne _ _ fun h => e ⟨h.1, h.2.1⟩
      rw [e2]
      exact (h.bt.row k i' hk hi').agr (heap_p3 fun h => e (hs.inj k i' a i hk hi' ha hi h)) (agr_p3 fun x hx => hx.elim (fun hx => by omega) (fun hx => h.hd x hx _ _ ha hi))
end
theorem UIR.fin {w wr : World} {bc bg n hi N c : Nat} {A : Option Addr} {rb : Nat → Nat} {cb : Nat → Nat → Nat} {cs : Value → Array Value} {gcs : Array Value} {st : WSt} {Wd : Nat → Prop} (h : UIR w bc bg n hi N rb cb cs gcs (.slice A N c) st Wd wr) (hN : 1 ≤ N) (st' : WSt) (he : ∀ a i, a < N → i ≤ n → st a i = st' a i) :
    ∃ ob oo, A = some ⟨ob, oo, none⟩ ∧ BSt w bc bg ob N n wr.heap.size rb cb ∧ UBRel w bc bg ob oo N n wr.heap.size rb cb (cs (.slice A N c)) gcs st' Wd wr := by
  have hS : Sl SlE (fun _ => True) wr A N c _ := h.own.toSl (fun _ _ h => h.elim) (fun _ _ => trivial)
  obtain ⟨ob, oo, -, -, rfl, -⟩ := hS.at_ (i := 0) (by omega)
  have hv := h.vb ob rfl
  have l3 := h.l3
  refine ⟨ob, oo, rfl, ⟨h.inj, h.ne, fun a i ha hi => (hv.2 a ha).2 i hi, fun a i ha hi => ⟨(h.lc a i ha hi).1, by have := (h.lc a i ha hi).2; omega⟩, h.l0, h.l1⟩, h.hc, h.hg, ⟨fun k hk => ?_, fun k i hk hi => h.mid k i hk hi, fun k i hk hi => by rw [← he k i hk hi]; exact (h.row k i hk hi).mono fun b _ h => Or.inr h⟩, fun b hb => (h.wdb b hb).2.2, h.bel, Nat.le_refl _⟩
  obtain ⟨b', o', r, x, e, -, -, hx, hr, hc⟩ := hS.at_ hk
  cases e
  have hc0 := hc 0 _ rfl
  simp only [SlE, Nat.mul_one, Nat.add_zero] at hc0
  rw [hc0]
  have hrx : r = x := hr
  rw [hrx]
  rw [List.getElem?_map, List.getElem?_range hk] at hx
  simp at hx
  rw [← hx]
end Go.Proofs.Ytghnkgbingcbcaa

