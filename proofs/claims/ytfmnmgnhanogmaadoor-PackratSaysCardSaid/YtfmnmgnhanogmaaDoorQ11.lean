/- Texts LC, LD, LM, laid together. -/
import Derived.Test.YtfmnmgnhanogmaaDoorQ8
import Derived.Test.YtfmnmgnhanogmaaDoorQ10



namespace Go.Proofs.YtfmnmgnhanogmaaDoor
open Go.RowKit

/-- a row of symbols; none: the depth did not do; some none: it fails -/
def pgL (f : Sy → Nat → Option (Option (Tr × Nat))) : List Sy → Nat → Option (Option (List Tr × Nat))
  | [], k => some (some ([], k))
  | s :: l, k => match f s k with
    | none => none
    | some none => some none
    | some (some (t, k')) => match pgL f l k' with
      | none => none
      | some none => some none
      | some (some (ts, k'')) => some (some (t :: ts, k''))
/-- the rules in order, from the i-th on -/
def pgC (f : Sy → Nat → Option (Option (Tr × Nat))) (n k : Nat) : Nat → List Ru → Option (Option (Tr × Nat))
  | _, [] => some none
  | i, u :: rs => if u.1 = n then (match pgL f u.2 k with
      | none => none
      | some none => pgC f n k (i + 1) rs
      | some (some (ts, k')) => some (some (.node i ts, k'))) else pgC f n k (i + 1) rs
def pg (R : List Ru) (W : List Nat) : Nat → Sy → Nat → Option (Option (Tr × Nat))
  | 0, _, _ => none
  | d + 1, s, k => if s.1 then (if W[k]? = some s.2 then some (some (.leaf s.2, k + 1)) else some none) else pgC (pg R W d) s.2 k 0 R
section
variable {f f' : Sy → Nat → Option (Option (Tr × Nat))} {R : List Ru} {W : List Nat}
theorem pgL_mono (h : ∀ s k r, f s k = some r → f' s k = some r) : ∀ (l : List Sy) (k : Nat) (r : Option (List Tr × Nat)), pgL f l k = some r → pgL f' l k = some r
  | [], k, r, e => e
  | s :: l, k, r, e => by
    simp only [pgL] at e ⊢
    cases hf : f s k with
    | none => rw [hf] at e; cases e
    | some x =>
      rw [hf] at e; rw [h s k x hf]
      cases x with
      | none => exact e
      | some p =>
        obtain ⟨t, k'⟩ := p
        simp only at e ⊢
        cases hl : pgL f l k' with
        | none => rw [hl] at e; cases e
        | some y => rw [hl] at e; rw [pgL_mono h l k' y hl]; exact e
theorem pgC_mono (h : ∀ s k r, f s k = some r → f' s k = some r) (n k : Nat) : ∀ (rs : List Ru) (i : Nat) (r : Option (Tr × Nat)), pgC f n k i rs = some r → pgC f' n k i rs = some r
  | [], i, r, e => e
  | u :: rs, i, r, e => by
    simp only [pgC] at e ⊢
    by_cases hn : u.1 = n
    · rw [if_pos hn] at e ⊢
      cases hl : pgL f u.2 k with
      | none => rw [hl] at e; cases e
      | some y =>
        rw [hl] at e; rw [pgL_mono h u.2 k y hl]
        cases y with
        | none => exact pgC_mono h n k rs (i + 1) r e
        | some p => exact e
    · rw [if_neg hn] at e ⊢; exact pgC_mono h n k rs (i + 1) r e
theorem pg_succ : ∀ (d : Nat) (s : Sy) (k : Nat) (r : Option (Tr × Nat)), pg R W d s k = some r → pg R W (d + 1) s k = some r
  | 0, s, k, r, e => by simp [pg] at e
  | d + 1, s, k, r, e => by
    rw [pg] at e ⊢
    by_cases hs : s.1 = true
    · rw [if_pos hs] at e ⊢; exact e
    · rw [if_neg hs] at e ⊢; exact pgC_mono (pg_succ d) s.2 k R 0 r e
theorem pg_mono {d : Nat} : ∀ {d' : Nat}, d ≤ d' → ∀ (s : Sy) (k : Nat) (r : Option (Tr × Nat)), pg R W d s k = some r → pg R W d' s k = some r
  | 0, h, s, k, r, e => by obtain rfl : d = 0 := by omega
                           exact e
  | d' + 1, h, s, k, r, e => by
    rcases Nat.lt_or_ge d (d' + 1) with h1 | h1
    · exact pg_succ d' s k r (pg_mono (by omega) s k r e)
    · obtain rfl : d = d' + 1 := by omega
      exact e
/-- the result is the same for all depths that do -/
theorem pg_uniq {d d' : Nat} {s : Sy} {k : Nat} {r r' : Option (Tr × Nat)} (h : pg R W d s k = some r) (h' : pg R W d' s k = some r') : r = r' := by
  have a := pg_mono (Nat.le_max_left d d') s k r h
  have b := pg_mono (Nat.le_max_right d d') s k r' h'
  rw [a] at b; exact Option.some.inj b
/-! ### what is read -/
theorem pgL_end {m : Nat} (hf : ∀ s k t k', k ≤ m → f s k = some (some (t, k')) → k ≤ k' ∧ k' ≤ m ∧ (k' = k → s.1 = false ∧ NullN R s.2)) : ∀ (l : List Sy) (k : Nat) (ts : List Tr) (k' : Nat), k ≤ m → pgL f l k = some (some (ts, k')) → k ≤ k' ∧ k' ≤ m ∧ (k' = k → NulL R l)
  | [], k, ts, k', hk, e => by
    simp only [pgL, Option.some.injEq, Prod.mk.injEq] at e
    obtain ⟨_, rfl⟩ := e
    exact ⟨Nat.le_refl _, hk, fun _ s hs => absurd hs (List.not_mem_nil)⟩
  | s :: l, k, ts, k', hk, e => by
    simp only [pgL] at e
    cases hs : f s k with
    | none => rw [hs] at e; cases e
    | some x =>
      rw [hs] at e
      cases x with
      | none => cases e
      | some p =>
        obtain ⟨t, k1⟩ := p
        simp only at e
        obtain ⟨a1, a2, a3⟩ := hf s k t k1 hk hs
        cases hl : pgL f l k1 with
        | none => rw [hl] at e; cases e
        | some y =>
          rw [hl] at e
          cases y with
          | none => cases e
          | some p =>
            obtain ⟨us, k2⟩ := p
            simp only [Option.some.injEq, Prod.mk.injEq] at e
            obtain ⟨_, rfl⟩ := e
            obtain ⟨b1, b2, b3⟩ := pgL_end hf l k1 us k2 a2 hl
            refine ⟨by omega, b2, fun he => ?_⟩
            have h1 : k1 = k := by omega
            intro y hy
            rcases List.mem_cons.1 hy with rfl | hy
            · exact a3 h1
            · exact b3 (by omega) y hy
theorem pgC_end {m n k : Nat} (hk : k ≤ m) (hf : ∀ s k t k', k ≤ m → f s k = some (some (t, k')) → k ≤ k' ∧ k' ≤ m ∧ (k' = k → s.1 = false ∧ NullN R s.2)) : ∀ (rs : List Ru) (i : Nat) (t : Tr) (k' : Nat), (∀ u ∈ rs, u ∈ R) → pgC f n k i rs = some (some (t, k')) → k ≤ k' ∧ k' ≤ m ∧ (k' = k → NullN R n)
  | [], i, t, k', _, e => by simp [pgC] at e
  | u :: rs, i, t, k', hR, e => by
    simp only [pgC] at e
    by_cases hn : u.1 = n
    · rw [if_pos hn] at e
      cases hl : pgL f u.2 k with
      | none => rw [hl] at e; cases e
      | some y =>
        rw [hl] at e
        cases y with
        | none => exact pgC_end hk hf rs (i + 1) t k' (fun v hv => hR v (List.mem_cons_of_mem _ hv)) e
        | some p =>
          obtain ⟨us, k2⟩ := p
          simp only [Option.some.injEq, Prod.mk.injEq] at e
          obtain ⟨_, rfl⟩ := e
          obtain ⟨b1, b2, b3⟩ := pgL_end hf u.2 k us k2 hk hl
          refine ⟨b1, b2, fun he => ?_⟩
          have hu : (n, u.2) ∈ R := by rw [← hn]; exact hR u (List.mem_cons_self ..)
          exact .mk n u.2 hu (fun s hs => (b3 he s hs).1) (fun s hs => (b3 he s hs).2)
    · rw [if_neg hn] at e; exact pgC_end hk hf rs (i + 1) t k' (fun v hv => hR v (List.mem_cons_of_mem _ hv)) e
theorem pg_end (d : Nat) : ∀ (s : Sy) (k : Nat) (t : Tr) (k' : Nat), k ≤ W.length → pg R W d s k = some (some (t, k')) → k ≤ k' ∧ k' ≤ W.length ∧ (k' = k → s.1 = false ∧ NullN R s.2) := by
  induction d with
  | zero => intro s k t k' _ e; simp [pg] at e
  | succ d ih =>
    intro s k t k' hk e
    rw [pg] at e
    by_cases hs : s.1 = true
    · rw [if_pos hs] at e
      by_cases hw : W[k]? = some s.2
      · rw [if_pos hw] at e
        simp only [Option.some.injEq, Prod.mk.injEq] at e
        obtain ⟨hlt, _⟩ := List.getElem?_eq_some_iff.1 hw
        omega
      · rw [if_neg hw] at e; cases e
    · rw [if_neg hs] at e
      obtain ⟨h1, h2, h3⟩ := pgC_end hk ih R 0 t k' (fun u hu => hu) e
      exact ⟨h1, h2, fun he => ⟨by simpa using hs, h3 he⟩⟩
/-! ### a depth that suffices -/
/-- N has a rule in which M stands behind symbols that may be empty -/
def BegM (R : List Ru) (N M : Nat) : Prop := ∃ a b, (N, a ++ (false, M) :: b) ∈ R ∧ NulL R a
theorem pgL_ex1 : ∀ (l : List Sy) (k : Nat), k ≤ W.length → (∀ k', k ≤ k' → k' ≤ W.length → ∀ s, ∃ d r, pg R W d s k' = some r) → ∃ d r, pgL (pg R W d) l k = some r
  | [], k, _, _ => ⟨0, _, rfl⟩
  | s :: l, k, hk, H => by
    obtain ⟨d, r, hr⟩ := H k (Nat.le_refl _) hk s
    cases r with
    | none => exact ⟨d, none, by simp only [pgL, hr]⟩
    | some p =>
      obtain ⟨t, k1⟩ := p
      obtain ⟨a1, a2, _⟩ := pg_end d s k t k1 hk hr
      obtain ⟨d2, r2, h2⟩ := pgL_ex1 l k1 a2 fun k' h h' => H k' (by omega) h'
      have e1 := pg_mono (Nat.le_max_left d d2) s k _ hr
      have e2 := pgL_mono (pg_mono (Nat.le_max_right d d2)) l k1 r2 h2
      refine ⟨max d d2, ?_⟩
      simp only [pgL, e1, e2]
      cases r2 with
      | none => exact ⟨_, rfl⟩
      | some p => exact ⟨_, rfl⟩
theorem pgL_ex2 : ∀ (l : List Sy) (k : Nat), k ≤ W.length → (∀ k', k < k' → k' ≤ W.length → ∀ s, ∃ d r, pg R W d s k' = some r) → (∀ a s b, l = a ++ s :: b → NulL R a → ∃ d r, pg R W d s k = some r) → ∃ d r, pgL (pg R W d) l k = some r
  | [], k, _, _, _ => ⟨0, _, rfl⟩
  | s :: l, k, hk, H, H2 => by
    obtain ⟨d, r, hr⟩ := H2 [] s l rfl (fun x hx => absurd hx List.not_mem_nil)
    cases r with
    | none => exact ⟨d, none, by simp only [pgL, hr]⟩
    | some p =>
      obtain ⟨t, k1⟩ := p
      obtain ⟨a1, a2, a3⟩ := pg_end d s k t k1 hk hr
      have : ∃ d r, pgL (pg R W d) l k1 = some r := by
        by_cases he : k1 = k
        · rw [he]
          refine pgL_ex2 l k hk H fun a x b e ha => H2 (s :: a) x b (by rw [e]; rfl) fun y hy => ?_
          rcases List.mem_cons.1 hy with rfl | hy
          · exact a3 he
          · exact ha y hy
        · exact pgL_ex1 l k1 a2 fun k' h h' => H k' (by omega) h'
      obtain ⟨d2, r2, h2⟩ := this
      have e1 := pg_mono (Nat.le_max_left d d2) s k _ hr
      have e2 := pgL_mono (pg_mono (Nat.le_max_right d d2)) l k1 r2 h2
      refine ⟨max d d2, ?_⟩
      simp only [pgL, e1, e2]
      cases r2 with
      | none => exact ⟨_, rfl⟩
      | some p => exact ⟨_, rfl⟩
theorem pgC_ex (n k : Nat) : ∀ (rs : List Ru) (i : Nat), (∀ u ∈ rs, u.1 = n → ∃ d r, pgL (pg R W d) u.2 k = some r) → ∃ d r, pgC (pg R W d) n k i rs = some r
  | [], i, _ => ⟨0, _, rfl⟩
  | u :: rs, i, H => by
    obtain ⟨d2, r2, h2⟩ := pgC_ex n k rs (i + 1) fun v hv => H v (List.mem_cons_of_mem _ hv)
    by_cases hn : u.1 = n
    · obtain ⟨d, r, hr⟩ := H u (List.mem_cons_self ..) hn
      have e1 := pgL_mono (pg_mono (Nat.le_max_left d d2)) u.2 k r hr
      have e2 := pgC_mono (pg_mono (Nat.le_max_right d d2)) n k rs (i + 1) r2 h2
      refine ⟨max d d2, ?_⟩
      simp only [pgC, if_pos hn, e1]
      cases r with
      | none => exact ⟨_, e2⟩
      | some p => exact ⟨_, rfl⟩
    · exact ⟨d2, r2, by simp only [pgC, if_neg hn]; exact h2⟩
theorem pg_term (x k : Nat) : ∃ d r, pg R W d (true, x) k = some r := by
  refine ⟨1, if W[k]? = some x then some (.leaf x, k + 1) else none, ?_⟩
  rw [pg, if_pos rfl]; split <;> rfl
/-- where no nonterminal begins with itself, some depth does -/
theorem pg_ex {D : Nat → Nat → Bool} {N : Nat} (hD : ∀ i j, D i j = true → i < N ∧ j < N) (hB : ∀ i j, BegM R i j → D i j = true) (hno : ∀ i, ¬ Plus D i i) : ∀ (m k : Nat), k ≤ W.length → W.length - k ≤ m → ∀ s, ∃ d r, pg R W d s k = some r := by
  intro m
  induction m using Nat.strongRecOn with
  | ind m ihm =>
    intro k hk hm
    have later : ∀ k', k < k' → k' ≤ W.length → ∀ s, ∃ d r, pg R W d s k' = some r := fun k' h1 h2 s => ihm (W.length - k') (by omega) k' h2 (Nat.le_refl _) s
    have here : ∀ q n, begN D N n ≤ q → ∃ d r, pg R W d (false, n) k = some r := by
      intro q
      induction q using Nat.strongRecOn with
      | ind q ihq =>
        intro n hq
        have : ∃ d r, pgC (pg R W d) n k 0 R = some r := by
          refine pgC_ex n k R 0 fun u hu hn => pgL_ex2 u.2 k hk later fun a s b e ha => ?_
          obtain ⟨t, x⟩ := s
          cases t with
          | true => exact pg_term x k
          | false =>
            have hb : D n x = true := hB n x ⟨a, b, by rw [← e, ← hn]; exact hu, ha⟩
            have := begN_lt hD hno (.one x hb)
            exact ihq (begN D N x) (by omega) x (Nat.le_refl _)
        obtain ⟨d, r, h⟩ := this
        exact ⟨d + 1, r, by rw [pg, if_neg (by simp)]; exact h⟩
    intro s
    obtain ⟨t, x⟩ := s
    cases t with
    | true => exact pg_term x k
    | false => exact here _ x (Nat.le_refl _)
end
end Go.Proofs.YtfmnmgnhanogmaaDoor



namespace Go.Proofs.YtfmnmgnhanogmaaDoor
open Go.RowKit

/-- the nonterminals with which a right side begins -/
def begL (nul : Nat → Bool) : List Sy → List Nat
  | [] => []
  | s :: l => if s.1 then [] else s.2 :: (if nul s.2 then begL nul l else [])
def begT (nul : Nat → Bool) (R : List Ru) (i j : Nat) : Bool := R.any fun u => u.1 == i && (begL nul u.2).contains j
section
variable {nul : Nat → Bool} {R : List Ru}
theorem begL_pass {s : Sy} {l : List Sy} (h : s.1 = false) (hn : nul s.2 = true) : begL nul (s :: l) = s.2 :: begL nul l := by
  rw [begL, if_neg (by simp [h]), if_pos hn]
theorem begL_last {s : Sy} {l : List Sy} (h : s.1 = false) (hn : nul s.2 = false) : begL nul (s :: l) = [s.2] := by
  rw [begL, if_neg (by simp [h]), if_neg (by simp [hn])]
theorem begL_term {s : Sy} {l : List Sy} (h : s.1 = true) : begL nul (s :: l) = [] := by
  rw [begL, if_pos h]
/-- all ahead of the p-th symbol may be empty -/
theorem begL_at : ∀ {a l : List Sy}, (∀ s ∈ a, s.1 = false ∧ nul s.2 = true) → begL nul (a ++ l) = a.map (·.2) ++ begL nul l
  | [], l, _ => rfl
  | s :: a, l, h => by
    have h1 := h s (List.mem_cons_self ..)
    rw [List.cons_append, begL_pass h1.1 h1.2, begL_at fun x hx => h x (List.mem_cons_of_mem _ hx)]; rfl
theorem begL_iff (hn : ∀ n, nul n = true ↔ NullN R n) : ∀ (l : List Sy) (j : Nat), j ∈ begL nul l ↔ ∃ a b, l = a ++ (false, j) :: b ∧ NulL R a
  | [], j => by simp [begL]
  | s :: l, j => by
    have ih := begL_iff hn l j
    obtain ⟨t, x⟩ := s
    cases t with
    | true =>
      rw [begL_term rfl]
      refine ⟨fun h => absurd h List.not_mem_nil, fun ⟨a, b, e, ha⟩ => ?_⟩
      cases a with
      | nil => cases e
      | cons y a =>
        simp only [List.cons_append, List.cons.injEq] at e
        have := (ha y (List.mem_cons_self ..)).1
        rw [← e.1] at this; cases this
    | false =>
      rw [begL, if_neg (by simp), List.mem_cons]
      constructor
      · rintro (rfl | h)
        · exact ⟨[], l, rfl, fun s hs => absurd hs List.not_mem_nil⟩
        · by_cases hx : nul x = true
          · rw [if_pos hx] at h
            obtain ⟨a, b, rfl, ha⟩ := ih.1 h
            refine ⟨(false, x) :: a, b, rfl, fun y hy => ?_⟩
            rcases List.mem_cons.1 hy with rfl | hy
            · exact ⟨rfl, (hn x).1 hx⟩
            · exact ha y hy
          · rw [if_neg hx] at h; exact absurd h List.not_mem_nil
      · rintro ⟨a, b, e, ha⟩
        cases a with
        | nil =>
          simp only [List.nil_append, List.cons.injEq, Prod.mk.injEq] at e
          exact Or.inl e.1.2.symm
        | cons y a =>
          simp only [List.cons_append, List.cons.injEq] at e
          have h1 := ha y (List.mem_cons_self ..)
          rw [← e.1] at h1
          have hx : nul x = true := (hn x).2 h1.2
          rw [if_pos hx]
          exact Or.inr (ih.2 ⟨a, b, e.2, fun z hz => ha z (List.mem_cons_of_mem _ hz)⟩)
theorem begT_iff (hn : ∀ n, nul n = true ↔ NullN R n) (i j : Nat) : begT nul R i j = true ↔ BegM R i j := by
  unfold begT BegM
  rw [List.any_eq_true]
  constructor
  · rintro ⟨u, hu, h⟩
    rw [Bool.and_eq_true, beq_iff_eq, List.contains_iff_mem, begL_iff hn] at h
    obtain ⟨rfl, a, b, e, ha⟩ := h
    exact ⟨a, b, by rw [← e]; exact hu, ha⟩
  · rintro ⟨a, b, h, ha⟩
    refine ⟨_, h, ?_⟩
    rw [Bool.and_eq_true, beq_iff_eq, List.contains_iff_mem, begL_iff hn]
    exact ⟨rfl, a, b, rfl, ha⟩
theorem begL_mem : ∀ {l : List Sy} {j : Nat}, j ∈ begL nul l → (false, j) ∈ l
  | [], j, h => absurd h List.not_mem_nil
  | (true, x) :: l, j, h => by rw [begL_term rfl] at h; exact absurd h List.not_mem_nil
  | (false, x) :: l, j, h => by
    rw [begL, if_neg (by simp)] at h
    rcases List.mem_cons.1 h with rfl | h
    · exact List.mem_cons_self ..
    · by_cases hx : nul x = true
      · rw [if_pos hx] at h; exact List.mem_cons_of_mem _ (begL_mem h)
      · rw [if_neg hx] at h; exact absurd h List.not_mem_nil
theorem begT_lt {g : Gr} (hg : g.Ok) (i j : Nat) (h : begT nul g.rules i j = true) : i < g.nons ∧ j < g.nons := by
  unfold begT at h
  rw [List.any_eq_true] at h
  obtain ⟨u, hu, h⟩ := h
  rw [Bool.and_eq_true, beq_iff_eq, List.contains_iff_mem] at h
  obtain ⟨rfl, h⟩ := h
  have h2 := (hg.right u hu).2 _ (begL_mem h)
  exact ⟨hg.left u hu, by simpa [Gr.okSy] using h2⟩
/-- the table while the loops stand at the p-th symbol of the k-th rule -/
def begP (nul : Nat → Bool) (R : List Ru) (k p a b : Nat) : Bool :=
  begT nul (R.take k) a b || (match R[k]? with | some u => u.1 == a && ((u.2.take p).map (·.2)).contains b | none => false)
theorem begP_start (k a b : Nat) : begP nul R k 0 a b = begT nul (R.take k) a b := by
  unfold begP; cases R[k]? <;> simp
theorem begP_step {k p : Nat} {u : Ru} {s : Sy} (hu : R[k]? = some u) (hs : u.2[p]? = some s) (a b : Nat) : begP nul R k (p + 1) a b = (if a = u.1 ∧ b = s.2 then true else begP nul R k p a b) := by
  unfold begP
  rw [hu]
  have : u.2.take (p + 1) = u.2.take p ++ [s] := by rw [List.take_add_one, hs]; rfl
  simp only [this, List.map_append, List.map_cons, List.map_nil, List.contains_eq_mem, List.mem_append, List.mem_singleton]
  by_cases h : a = u.1 ∧ b = s.2
  · rw [if_pos h, h.1, h.2]; simp
  · rw [if_neg h]
    by_cases h1 : u.1 = a
    · have : ¬ b = s.2 := fun e => h ⟨h1.symm, e⟩
      simp [this]
    · have h2 : (u.1 == a) = false := by simpa using h1
      rw [h2]; simp
theorem begP_end {k p : Nat} {u : Ru} (hu : R[k]? = some u) (hp : ∀ s ∈ u.2.take p, s.1 = false ∧ nul s.2 = true) (hl : begL nul (u.2.drop p) = []) (a b : Nat) : begP nul R k p a b = begT nul (R.take (k + 1)) a b := by
  have e : begL nul u.2 = (u.2.take p).map (·.2) := by
    conv => lhs; rw [← List.take_append_drop p u.2]
    rw [begL_at hp, hl, List.append_nil]
  unfold begP begT
  rw [hu, List.take_add_one, hu]
  simp only [Option.toList_some, List.any_append, List.any_cons, List.any_nil, Bool.or_false, e]
/-- the last symbol that counts is one that is never empty -/
theorem begP_cut {k p : Nat} {u : Ru} {s : Sy} (hu : R[k]? = some u) (hs : u.2[p]? = some s) (hp : ∀ s ∈ u.2.take p, s.1 = false ∧ nul s.2 = true) (ht : s.1 = false) (hn : nul s.2 = false) (a b : Nat) : begP nul R k (p + 1) a b = begT nul (R.take (k + 1)) a b := by
  have hd : u.2.drop p = s :: u.2.drop (p + 1) := by
    obtain ⟨h, rfl⟩ := List.getElem?_eq_some_iff.1 hs
    exact List.drop_eq_getElem_cons h
  have e : begL nul u.2 = (u.2.take (p + 1)).map (·.2) := by
    conv => lhs; rw [← List.take_append_drop p u.2]
    rw [begL_at hp, hd, begL_last ht hn, List.take_add_one, hs]
    simp
  unfold begP begT
  rw [hu, List.take_add_one, hu]
  simp only [Option.toList_some, List.any_append, List.any_cons, List.any_nil, Bool.or_false, e]
end
/-! ### going on from one with a row of work -/
section
variable {D : Nat → Nat → Bool} {n m N : Nat} {seen : Nat → Bool} {work left : List Nat}
structure Bfs (D : Nat → Nat → Bool) (n : Nat) (seen : Nat → Bool) (work : List Nat) : Prop where
  snd : ∀ k, seen k = true → Plus D n k
  shut : ∀ m, m = n ∨ seen m = true → m ∈ work ∨ ∀ k, D m k = true → seen k = true
  wk : ∀ m ∈ work, m = n ∨ seen m = true
/-- m has been taken; of those that it leads to, those of left are to come -/
structure BfsR (D : Nat → Nat → Bool) (n m : Nat) (left : List Nat) (seen : Nat → Bool) (work : List Nat) : Prop where
  snd : ∀ k, seen k = true → Plus D n k
  shut : ∀ x, x = n ∨ seen x = true → x ∈ work ∨ (∀ k, D x k = true → seen k = true) ∨ x = m
  here : ∀ k, D m k = true → seen k = true ∨ k ∈ left
  wk : ∀ m ∈ work, m = n ∨ seen m = true
  is : m = n ∨ seen m = true
theorem Bfs.start : Bfs D n (fun _ => false) [n] :=
  ⟨fun k h => absurd h (by simp), fun m h => by simp at h; simp [h], fun m h => by simp at h; exact Or.inl h⟩
theorem Bfs.pop (h : Bfs D n seen (m :: work)) (hl : ∀ k, D m k = true → k ∈ left) : BfsR D n m left seen work :=
  ⟨h.snd, fun x hx => by
    rcases h.shut x hx with h1 | h1
    · rcases List.mem_cons.1 h1 with rfl | h1
      · exact Or.inr (Or.inr rfl)
      · exact Or.inl h1
    · exact Or.inr (Or.inl h1), fun k hk => Or.inr (hl k hk), fun x hx => h.wk x (List.mem_cons_of_mem _ hx), h.wk m (List.mem_cons_self ..)⟩
theorem BfsR.old {k : Nat} {left' : List Nat} (h : BfsR D n m left seen work) (hl : ∀ x, x ∈ left → x = k ∨ x ∈ left') (hs : seen k = true) : BfsR D n m left' seen work :=
  ⟨h.snd, h.shut, fun x hx => by
    rcases h.here x hx with h1 | h1
    · exact Or.inl h1
    · rcases hl x h1 with rfl | h1
      · exact Or.inl hs
      · exact Or.inr h1, h.wk, h.is⟩
theorem BfsR.new {k : Nat} {left' : List Nat} (h : BfsR D n m left seen work) (hl : ∀ x, x ∈ left → x = k ∨ x ∈ left') (hd : D m k = true) : BfsR D n m left' (fun x => if x = k then true else seen x) (work ++ [k]) := by
  have up : ∀ x, seen x = true → (if x = k then true else seen x) = true := fun x hx => by split <;> simp [hx]
  refine ⟨fun x hx => ?_, fun x hx => ?_, fun x hx => ?_, fun x hx => ?_, h.is.imp_right (up m)⟩
  · by_cases e : x = k
    · rw [e]
      rcases h.is with rfl | hm
      · exact .one k hd
      · exact .more m k (h.snd m hm) hd
    · simp only [if_neg e] at hx; exact h.snd x hx
  · have hold : x = n ∨ seen x = true → x ∈ work ++ [k] ∨ (∀ q, D x q = true → (if q = k then true else seen q) = true) ∨ x = m := by
      intro hx
      rcases h.shut x hx with h1 | h1 | h1
      · exact Or.inl (List.mem_append_left _ h1)
      · exact Or.inr (Or.inl fun q hq => up q (h1 q hq))
      · exact Or.inr (Or.inr h1)
    rcases hx with hx | hx
    · exact hold (Or.inl hx)
    · by_cases e : x = k
      · exact Or.inl (by simp [e])
      · simp only [if_neg e] at hx; exact hold (Or.inr hx)
  · by_cases e : x = k
    · exact Or.inl (by simp [e])
    · rcases h.here x hx with h1 | h1
      · exact Or.inl (up x h1)
      · rcases hl x h1 with h1 | h1
        · exact absurd h1 e
        · exact Or.inr h1
  · rcases List.mem_append.1 hx with hx | hx
    · exact (h.wk x hx).imp_right (up x)
    · simp only [List.mem_singleton] at hx; exact Or.inr (by simp [hx])
theorem BfsR.done (h : BfsR D n m [] seen work) : Bfs D n seen work :=
  ⟨h.snd, fun x hx => by
    rcases h.shut x hx with h1 | h1 | h1
    · exact Or.inl h1
    · exact Or.inr h1
    · refine Or.inr fun k hk => ?_
      rw [h1] at hk
      exact (h.here k hk).resolve_right List.not_mem_nil, h.wk⟩
theorem Bfs.all (h : Bfs D n seen []) (k : Nat) : seen k = true ↔ Plus D n k := by
  refine ⟨h.snd k, fun hp => ?_⟩
  have shut : ∀ m, m = n ∨ seen m = true → ∀ k, D m k = true → seen k = true := fun m hm => (h.shut m hm).resolve_left List.not_mem_nil
  induction hp with
  | one j hj => exact shut n (Or.inl rfl) j hj
  | more m j _ hj ih => exact shut m (Or.inr ih) j hj
/-- how many have not been seen -/
def unS (N : Nat) (seen : Nat → Bool) : Nat := ((List.range N).filter fun k => !seen k).length
theorem unS_put {k : Nat} (hk : k < N) (hs : seen k = false) : unS N (fun x => if x = k then true else seen x) + 1 ≤ unS N seen := by
  unfold unS
  have e : (fun x => !(if x = k then true else seen x)) = fun x => decide (x ≠ k) && (!seen x) := by
    funext x
    by_cases h : x = k <;> simp [h]
  rw [e, ← List.filter_filter]
  have hm : k ∈ (List.range N).filter fun x => !seen x := by simp [hk, hs]
  exact List.length_filter_lt_length_iff_exists.2 ⟨k, hm, by simp⟩
theorem unS_le : unS N seen ≤ N := by
  unfold unS
  have := List.length_filter_le (fun k => !seen k) (List.range N)
  simpa using this
end
end Go.Proofs.YtfmnmgnhanogmaaDoor



namespace Go.Proofs.YtfmnmgnhanogmaaDoor
open Go.RowKit

section
variable {f : Sy → Nat → Option (Option (Tr × Nat))} {l l' : List Sy} {s : Sy} {k k1 k2 : Nat} {ts : List Tr} {t : Tr}
theorem pgL_app (h : pgL f l k = some (some (ts, k1))) : pgL f (l ++ l') k = match pgL f l' k1 with
    | none => none
    | some none => some none
    | some (some (us, k'')) => some (some (ts ++ us, k'')) := by
  induction l generalizing k ts with
  | nil =>
    simp only [pgL, Option.some.injEq, Prod.mk.injEq] at h
    obtain ⟨rfl, rfl⟩ := h
    simp only [List.nil_append]
    split <;> simp_all
  | cons a l ih =>
    simp only [pgL, List.cons_append] at h ⊢
    cases hf : f a k with
    | none => rw [hf] at h; cases h
    | some p =>
      cases p with
      | none => rw [hf] at h; simp at h
      | some q =>
        obtain ⟨x, k'⟩ := q
        rw [hf] at h
        simp only at h ⊢
        cases hl : pgL f l k' with
        | none => rw [hl] at h; cases h
        | some p =>
          cases p with
          | none => rw [hl] at h; simp at h
          | some q =>
            obtain ⟨us, k''⟩ := q
            rw [hl] at h
            simp only [Option.some.injEq, Prod.mk.injEq] at h
            obtain ⟨rfl, rfl⟩ := h
            rw [ih hl]
            cases pgL f l' k'' with
            | none => rfl
            | some p => cases p <;> rfl
theorem pgL_snoc (h : pgL f l k = some (some (ts, k1))) (hs : f s k1 = some (some (t, k2))) : pgL f (l ++ [s]) k = some (some (ts ++ [t], k2)) := by
  rw [pgL_app h]; simp [pgL, hs]
theorem pgL_stop (h : pgL f l k = some (some (ts, k1))) (hs : f s k1 = some none) : pgL f (l ++ s :: l') k = some none := by
  rw [pgL_app h]; simp [pgL, hs]
theorem pgL_deep (h : pgL f l k = some (some (ts, k1))) (hs : f s k1 = none) : pgL f (l ++ s :: l') k = none := by
  rw [pgL_app h]; simp [pgL, hs]
theorem pgC_skip {n i : Nat} {u : Ru} {rs : List Ru} (h : ¬ u.1 = n) : pgC f n k i (u :: rs) = pgC f n k (i + 1) rs := by
  simp only [pgC, if_neg h]
theorem pgC_miss {n i : Nat} {u : Ru} {rs : List Ru} (h : u.1 = n) (hl : pgL f u.2 k = some none) : pgC f n k i (u :: rs) = pgC f n k (i + 1) rs := by
  simp only [pgC, if_pos h, hl]
theorem pgC_hit {n i : Nat} {u : Ru} {rs : List Ru} (h : u.1 = n) (hl : pgL f u.2 k = some (some (ts, k1))) : pgC f n k i (u :: rs) = some (some (.node i ts, k1)) := by
  simp only [pgC, if_pos h, hl]
theorem pgC_deep {n i : Nat} {u : Ru} {rs : List Ru} {r : Option (Tr × Nat)} (h : u.1 = n) (hc : pgC f n k i (u :: rs) = some r) : ∃ x, pgL f u.2 k = some x := by
  simp only [pgC, if_pos h] at hc
  cases hl : pgL f u.2 k with
  | none => rw [hl] at hc; cases hc
  | some x => exact ⟨x, rfl⟩
end
/-! ### no nonterminal begins with itself -/
theorem plus_lt {D : Nat → Nat → Bool} {N : Nat} (hD : ∀ i j, D i j = true → i < N ∧ j < N) {i j : Nat} (h : Plus D i j) : i < N ∧ j < N := by
  induction h with
  | one j h => exact hD i j h
  | more m j _ h2 ih => exact ⟨ih.1, (hD m j h2).2⟩
theorem loops_no {D : Nat → Nat → Bool} {N : Nat} (hD : ∀ i j, D i j = true → i < N ∧ j < N) (h : ∀ n, n < N → wshF D N n n = false) (i : Nat) : ¬ Plus D i i := fun hp => by
  have h1 := h i (plus_lt hD hp).1
  rw [(wshF_all hD i i).2 hp] at h1; cases h1
/-- those with which n begins, rising -/
def lefL (D : Nat → Nat → Bool) (N n : Nat) : List Nat := (List.range N).filter fun k => wshF D N n k
def lefB (D : Nat → Nat → Bool) (N : Nat) : Bool := (List.range N).any fun n => wshF D N n n
theorem lefB_no {D : Nat → Nat → Bool} {N : Nat} (hD : ∀ i j, D i j = true → i < N ∧ j < N) (h : lefB D N = false) (i : Nat) : ¬ Plus D i i :=
  loops_no hD (fun n hn => by
    unfold lefB at h
    rw [List.any_eq_false] at h
    simpa using h n (List.mem_range.2 hn)) i
theorem lefL_has {D : Nat → Nat → Bool} {N n k : Nat} (hk : k < N) : k ∈ lefL D N n ↔ wshF D N n k = true := by
  unfold lefL; rw [List.mem_filter, List.mem_range]; exact ⟨fun h => h.2, fun h => ⟨hk, h⟩⟩
end Go.Proofs.YtfmnmgnhanogmaaDoor

