/- Texts IA, laid together. -/
import Derived.Test.YthkldiehokblcaaJY


namespace Go.Proofs.Ythkldiehokblcaa
open Go.RowKit

/-- the terminal ahead, or the end -/
def laP (g : Gr) (W : List Nat) (k : Nat) : Nat := W.getD k g.terms
/-- a row of symbols, one after the other; none: the depth did not do; (none, k): no tree, k read -/
def prsL (f : Sy → Nat → Option (Option Tr × Nat)) : List Sy → Nat → Option (Option (List Tr) × Nat)
  | [], k => some (some [], k)
  | s :: l, k => match f s k with
    | none => none
    | some (none, k') => some (none, k')
    | some (some t, k') => match prsL f l k' with
      | none => none
      | some (none, k'') => some (none, k'')
      | some (some ts, k'') => some (some (t :: ts), k'')
noncomputable def prs (g : Gr) (W : List Nat) : Nat → Sy → Nat → Option (Option Tr × Nat)
  | 0, _, _ => none
  | d + 1, s, k => if s.1 then (if laP g W k = s.2 then some (some (.leaf s.2), k + 1) else some (none, k)) else
    match posL g s.2 (laP g W k) with
    | [] => some (none, k)
    | i :: _ => match g.rules[i]? with
      | none => none
      | some u => match prsL (prs g W d) u.2 k with
        | none => none
        | some (none, k') => some (none, k')
        | some (some ts, k') => some (some (.node i ts), k')
section
variable {f : Sy → Nat → Option (Option Tr × Nat)} {l l' : List Sy} {s : Sy} {k k1 k2 : Nat} {ts : List Tr} {t : Tr}
theorem prsL_app (h : prsL f l k = some (some ts, k1)) : prsL f (l ++ l') k = match prsL f l' k1 with
    | none => none
    | some (none, k'') => some (none, k'')
    | some (some us, k'') => some (some (ts ++ us), k'') := by
  induction l generalizing k ts with
  | nil =>
    simp only [prsL, Option.some.injEq, Prod.mk.injEq] at h
    obtain ⟨rfl, rfl⟩ := h
    simp only [List.nil_append]
    split <;> simp_all
  | cons a l ih =>
    simp only [prsL, List.cons_append] at h ⊢
    cases hf : f a k with
    | none => rw [hf] at h; cases h
    | some p =>
      obtain ⟨o, k'⟩ := p
      cases o with
      | none => rw [hf] at h; simp at h
      | some x =>
        rw [hf] at h
        simp only at h ⊢
        cases hl : prsL f l k' with
        | none => rw [hl] at h; cases h
        | some p =>
          obtain ⟨o, k''⟩ := p
          cases o with
          | none => rw [hl] at h; simp at h
          | some us =>
            rw [hl] at h
            simp only [Option.some.injEq, Prod.mk.injEq] at h
            obtain ⟨rfl, rfl⟩ := h
            rw [ih hl]
            cases prsL f l' k'' with
            | none => rfl
            | some p => obtain ⟨o, k3⟩ := p; cases o <;> rfl
theorem prsL_snoc (h : prsL f l k = some (some ts, k1)) (hs : f s k1 = some (some t, k2)) : prsL f (l ++ [s]) k = some (some (ts ++ [t]), k2) := by
  rw [prsL_app h]; simp [prsL, hs]
theorem prsL_stop (h : prsL f l k = some (some ts, k1)) (hs : f s k1 = some (none, k2)) : prsL f (l ++ s :: l') k = some (none, k2) := by
  rw [prsL_app h]; simp [prsL, hs]
theorem prsL_deep (h : prsL f l k = some (some ts, k1)) (hs : f s k1 = none) : prsL f (l ++ s :: l') k = none := by
  rw [prsL_app h]; simp [prsL, hs]
end
theorem laP_end (g : Gr) (W : List Nat) : laP g W W.length = g.terms := by simp [laP]
theorem laP_at {g : Gr} {W : List Nat} {k : Nat} (h : k < W.length) : W[k]? = some (laP g W k) := by simp [laP, h]
theorem laP_le {g : Gr} {W : List Nat} (hW : ∀ x ∈ W, x < g.terms) (k : Nat) : laP g W k ≤ g.terms := by
  unfold laP
  by_cases h : k < W.length
  · simp only [List.getD_eq_getElem?_getD, List.getElem?_eq_getElem h, Option.getD_some]
    exact Nat.le_of_lt (hW _ (List.getElem_mem h))
  · simp [List.getD_eq_getElem?_getD, List.getElem?_eq_none (by omega : W.length ≤ k)]
theorem prsL_le {f : Sy → Nat → Option (Option Tr × Nat)} {m : Nat} {l : List Sy} (hf : ∀ s ∈ l, ∀ k r k', k ≤ m → f s k = some (r, k') → k' ≤ m) : ∀ k r k', k ≤ m → prsL f l k = some (r, k') → k' ≤ m := by
  induction l with
  | nil => intro k r k' hk h; simp only [prsL, Option.some.injEq, Prod.mk.injEq] at h; omega
  | cons a l ih =>
    intro k r k' hk h
    simp only [prsL] at h
    cases ha : f a k with
    | none => rw [ha] at h; cases h
    | some p =>
      obtain ⟨o, k1⟩ := p
      have h1 := hf a (by simp) k o k1 hk ha
      cases o with
      | none => rw [ha] at h; simp only [Option.some.injEq, Prod.mk.injEq] at h; omega
      | some t =>
        rw [ha] at h
        simp only at h
        cases hl : prsL f l k1 with
        | none => rw [hl] at h; cases h
        | some p =>
          obtain ⟨o, k2⟩ := p
          have h2 := ih (fun s hs => hf s (by simp [hs])) k1 o k2 h1 hl
          rw [hl] at h
          cases o <;> simp only [Option.some.injEq, Prod.mk.injEq] at h <;> omega
/-- what is read stays within the word -/
theorem prs_le {g : Gr} (hg : g.Ok) {W : List Nat} (d : Nat) : ∀ s, g.okSy s → ∀ k r k', k ≤ W.length → prs g W d s k = some (r, k') → k' ≤ W.length := by
  induction d with
  | zero => intro s _ k r k' _ h; simp [prs] at h
  | succ d ih =>
    intro s hs k r k' hk h
    obtain ⟨b, a⟩ := s
    cases b with
    | true =>
      simp only [prs, if_true] at h
      by_cases hla : laP g W k = a
      · rw [if_pos hla] at h
        simp only [Option.some.injEq, Prod.mk.injEq] at h
        have ha : a < g.terms := by simpa [Gr.okSy] using hs
        have : k ≠ W.length := fun e => by subst e; rw [laP_end] at hla; omega
        omega
      · rw [if_neg hla] at h
        simp only [Option.some.injEq, Prod.mk.injEq] at h
        omega
    | false =>
      simp only [prs, Bool.false_eq_true, if_false] at h
      cases hp : posL g a (laP g W k) with
      | nil => rw [hp] at h; simp only [Option.some.injEq, Prod.mk.injEq] at h; omega
      | cons i is =>
        rw [hp] at h
        simp only at h
        cases hu : g.rules[i]? with
        | none => rw [hu] at h; cases h
        | some u =>
          rw [hu] at h
          simp only at h
          cases hl : prsL (prs g W d) u.2 k with
          | none => rw [hl] at h; cases h
          | some p =>
            obtain ⟨o, k2⟩ := p
            have h2 := prsL_le (fun s hs => ih s ((hg.right u (List.mem_of_getElem? hu)).2 s hs)) k o k2 hk hl
            rw [hl] at h
            cases o <;> simp only [Option.some.injEq, Prod.mk.injEq] at h <;> omega
/-- what the parser leads to -/
structure PzS (w : World) (bp : Nat) (g : Gr) (W : List Nat) (Ag : Option Addr) (ng cg : Nat) (tA : Option Addr) (tc : Nat) (wA : Option Addr) (wc : Nat) : Prop where
  rules : Sl RuE (fun b => b ≠ bp) w Ag ng cg g.rules
  tab : Sl RwE (fun b => b ≠ bp) w tA g.nons tc (tabT g g.nons)
  word : Sl InE (fun b => b ≠ bp) w wA W.length wc (ints W)
theorem PzS.agr {w w' : World} {bp : Nat} {g : Gr} {W : List Nat} {Ag : Option Addr} {ng cg : Nat} {tA : Option Addr} {tc : Nat} {wA : Option Addr} {wc : Nat} (h : PzS w bp g W Ag ng cg tA tc wA wc) (k : Agr (fun b => b ≠ bp) w w') : PzS w' bp g W Ag ng cg tA tc wA wc :=
  ⟨h.rules.agr k, h.tab.agr k, h.word.agr k⟩
abbrev pzC (g : Gr) (W : List Nat) (Ag : Option Addr) (ng cg : Nat) (tA : Option Addr) (tc : Nat) (vA : Option Addr) (vn vc : Nat) (wA : Option Addr) (wc k : Nat) : Array Value :=
  #[.int .i64 (g.terms : Int), .int .i64 (g.nons : Int), .int .i64 (g.start : Int), .slice Ag ng cg, .slice tA g.nons tc, .slice vA vn vc, .slice wA W.length wc, .int .i64 (k : Int)]
set_option maxHeartbeats 1000000 in
theorem pnext_c (bp : Nat) (g : Gr) (W : List Nat) (Ag : Option Addr) (ng cg : Nat) (tA : Option Addr) (tc : Nat) (vA : Option Addr) (vn vc : Nat) (wA : Option Addr) (wc k : Nat) (w : World) (hk : k ≤ W.length)
    (hb : Blk w bp 62 (pzC g W Ag ng cg tA tc vA vn vc wA wc k)) (hw : Ints w wA W.length wc (ints W)) :
    Calls Try.prog 42 #[.pointer (some ⟨bp, 0, none⟩)] w fun e w' => e = .returned (.int .i64 (laP g W k : Int)) ∧ Below w.heap.size w w' := by
  by_cases h : k = W.length
  · obtain ⟨n, hn⟩ : ∃ n, n = W.length := ⟨_, rfl⟩
    rw [← hn] at h hk
    have hla : laP g W k = g.terms := by rw [h, hn, laP_end]
    rw [hla]
    simp only [pzC] at hb
    rw [← hn, h] at hb
    clear hla hw h hk hn
    have chb := hb.cell
    have fhb := hb.frozen
    have lhb := hb.lt
    go_enter Try.func42, Try.ntmps42
    go_upto_region 1 with fail
    go_quiet (fail)
    go_wp2_with fail
    go_ret
    exact ⟨rfl, below_drewN (Below.refl _ _) _⟩
  · have hlt : k < W.length := by omega
    have hc := laP_at (g := g) hlt
    obtain ⟨q, hq⟩ : ∃ q, q = laP g W k := ⟨_, rfl⟩
    rw [← hq] at hc ⊢
    obtain ⟨-, -, hI0⟩ := hw
    obtain ⟨b, off, rfl, hI⟩ := hI0 (by omega)
    have cw := hI k hlt
    have e1 : (ints W).getD k 0 = (q : Int) := by
      unfold ints; rw [List.getD_eq_getElem?_getD, List.getElem?_map, hc]; rfl
    rw [e1] at cw
    obtain ⟨n, hn⟩ : ∃ n, n = W.length := ⟨_, rfl⟩
    simp only [pzC] at hb
    rw [← hn] at hlt h hb hk
    have e2 : ((k : Int) = (n : Int)) = False := by simp; omega
    have e3 : (0 : Int) ≤ (k : Int) := by omega
    have e4 : (k : Int) < (n : Int) := by omega
    clear hI hI0 e1 hc hq h
    have chb := hb.cell
    have fhb := hb.frozen
    have lhb := hb.lt
    go_enter Try.func42, Try.ntmps42
    go_upto_region 1 with fail
    have e5 : decide ((k : Int) = (n : Int)) = false := by simp; omega
    go_quiet (fail)
    go_wp2_with fail
    go_quiet (fail)
    go_wp2_with fail
    go_ret
    exact ⟨rfl, below_drewN (below_drewN (Below.refl _ _) _) _⟩
end Go.Proofs.Ythkldiehokblcaa

