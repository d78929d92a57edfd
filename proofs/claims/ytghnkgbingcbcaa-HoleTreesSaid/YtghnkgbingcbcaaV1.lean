/- Texts WH, WI, WK, laid together. -/
import Derived.Test.YtghnkgbingcbcaaU3
import Derived.Test.YtghnkgbingcbcaaC2
import Derived.Test.YtghnkgbingcbcaaZ3




namespace Go.Proofs.Ytghnkgbingcbcaa
open Go.RowKit

def tms (t : Tr) : List Ce := (t.word.map fun i : Nat => (i : Int)).map fun x => (true, x)
def tmsL : List Tr → List Ce
  | [] => []
  | t :: l => tms t ++ tmsL l
def froL (F : Tr → List Ce) : List Tr → Nat → List Ce
  | [], _ => []
  | k :: ks, 0 => F k ++ tmsL ks
  | k :: ks, i + 1 => tms k ++ froL F ks i
def fro (y : Ce) : List Nat → Tr → List Ce
  | [], _ => [y]
  | i :: p, t => froL (fro y p) t.kids i
def symC (s : Sy) : Ce := (s.1, (s.2 : Int))
theorem DrvU.sym (rules : List Ru) (s : Sy) : DrvU rules [s] [symC s] := by
  obtain ⟨b, t⟩ := s
  cases b with
  | true => exact .term t .nil
  | false => exact .cell t .nil
theorem Der.same {g : Gr} {s s' : Sy} {t : Tr} (h : Der g s t) (h' : Der g s' t) : s = s' := by
  cases h with
  | leaf t => cases h'; rfl
  | node r N rhs ks hr hl hk =>
    cases h' with
    | node r N' rhs' ks hr' hl' hk' => rw [hr] at hr'; cases hr'; rfl
theorem Der.tms {g : Gr} {s : Sy} {t : Tr} (h : Der g s t) : DrvU g.rules [s] (tms t) := DrvU.ofDv h.dv
theorem tmsL_drv {g : Gr} : ∀ {rhs : List Sy} {ks : List Tr}, ks.length = rhs.length → (∀ (j : Nat) (s : Sy) (t : Tr), rhs[j]? = some s → ks[j]? = some t → Der g s t) → DrvU g.rules rhs (tmsL ks) := by
  intro rhs
  induction rhs with
  | nil => intro ks hl _; rw [List.length_eq_zero_iff.1 hl]; exact .nil
  | cons s rhs ih =>
    intro ks hl h
    cases ks with
    | nil => simp at hl
    | cons t ks =>
      have h1 := (h 0 s t rfl rfl).tms
      have h2 := ih (ks := ks) (by simpa using hl) fun j s' t' hs ht => h (j + 1) s' t' (by simpa using hs) (by simpa using ht)
      exact h1.append h2
theorem froL_drv {g : Gr} {F : Tr → List Ce} {k : Tr} : ∀ {rhs : List Sy} {ks : List Tr} {i : Nat}, ks.length = rhs.length → (∀ (j : Nat) (s : Sy) (t : Tr), rhs[j]? = some s → ks[j]? = some t → Der g s t) → ks[i]? = some k → (∀ s, Der g s k → DrvU g.rules [s] (F k)) → DrvU g.rules rhs (froL F ks i) := by
  intro rhs
  induction rhs with
  | nil => intro ks i hl _ hi _; rw [List.length_eq_zero_iff.1 hl] at hi; simp at hi
  | cons s rhs ih =>
    intro ks i hl h hi hF
    cases ks with
    | nil => simp at hl
    | cons t ks =>
      have hd := h 0 s t rfl rfl
      have hr : ∀ (j : Nat) (s : Sy) (t : Tr), rhs[j]? = some s → ks[j]? = some t → Der g s t := fun j s' t' hs ht => h (j + 1) s' t' (by simpa using hs) (by simpa using ht)
      cases i with
      | zero =>
        simp at hi; subst hi
        exact (hF s hd).append (tmsL_drv (by simpa using hl) hr)
      | succ i =>
        exact hd.tms.append (ih (by simpa using hl) hr (by simpa using hi) hF)
theorem fro_drv {g : Gr} {x : Tr} {sx : Sy} (hx : Der g sx x) : ∀ {p : List Nat} {t : Tr} {s : Sy}, Der g s t → t.at? p = some x → DrvU g.rules [s] (fro (symC sx) p t) := by
  intro p
  induction p with
  | nil =>
    intro t s h ha
    simp [Tr.at?] at ha; subst ha
    rw [h.same hx]; exact DrvU.sym _ _
  | cons i p ih =>
    intro t s h ha
    simp only [Tr.at?] at ha
    cases hk : t.kids[i]? with
    | none => rw [hk] at ha; cases ha
    | some k =>
      rw [hk] at ha
      cases h with
      | leaf t => simp [Tr.kids] at hk
      | node r N rhs ks hr hl hd => exact DrvU.one (List.mem_of_getElem? hr) (froL_drv hl hd hk fun s hs => ih hs ha)
end Go.Proofs.Ytghnkgbingcbcaa



namespace Go.Proofs.Ytghnkgbingcbcaa
open Go.RowKit

theorem szL_terms (sz : SzU) (l : List Int) : szL sz (l.map fun x => (true, x)) = (l.length : Int) := by
  induction l with
  | nil => rfl
  | cons x l ih => rw [List.map_cons, szL, ih, List.length_cons]; simp [szC]; omega
theorem szL_tms (sz : SzU) (t : Tr) : szL sz (tms t) = (t.word.length : Int) := by
  unfold tms; rw [szL_terms]; simp
theorem szL_tmsL (sz : SzU) (ks : List Tr) : szL sz (tmsL ks) = ((Tr.words ks).length : Int) := by
  induction ks with
  | nil => rfl
  | cons k ks ih => rw [tmsL, szL_append, szL_tms, ih, Tr.words, List.length_append]; omega
theorem szL_froL {sz : SzU} {F : Tr → List Ce} {k : Tr} (hF : szL sz (F k) ≤ (k.word.length : Int)) : ∀ {ks : List Tr} {i : Nat}, ks[i]? = some k → szL sz (froL F ks i) ≤ ((Tr.words ks).length : Int) := by
  intro ks
  induction ks with
  | nil => intro i h; simp at h
  | cons t ks ih =>
    intro i h
    cases i with
    | zero =>
      simp at h; subst h
      rw [froL, szL_append, szL_tmsL, Tr.words, List.length_append]; omega
    | succ i =>
      have := ih (i := i) (by simpa using h)
      rw [froL, szL_append, szL_tms, Tr.words, List.length_append]; omega
theorem szL_fro {g : Gr} {lens : List Int} (hf : FixL g.rules lens) {x : Tr} {sx : Sy} (hx : Der g sx x) : ∀ {p : List Nat} {t : Tr}, t.at? p = some x → szL (szOf lens) (fro (symC sx) p t) ≤ (t.word.length : Int) := by
  intro p
  induction p with
  | nil =>
    intro t ha
    simp [Tr.at?] at ha; subst ha
    obtain ⟨b, N⟩ := sx
    cases b with
    | true => cases hx; simp [fro, symC, szL, szC, Tr.word]
    | false =>
      have h1 := (hf.one hx.dv).2
      rw [List.length_map] at h1
      show szC (szOf lens) (false, (N : Int)) + 0 ≤ _
      simp only [szC, szOf, Bool.false_eq_true, if_false, Int.toNat_natCast, Int.add_zero]
      exact h1
  | cons i p ih =>
    intro t ha
    simp only [Tr.at?] at ha
    cases hk : t.kids[i]? with
    | none => rw [hk] at ha; cases ha
    | some k =>
      rw [hk] at ha
      cases t with
      | leaf t => simp [Tr.kids] at hk
      | node r ks =>
        rw [Tr.word]
        exact szL_froL (ih ha) hk
end Go.Proofs.Ytghnkgbingcbcaa



namespace Go.Proofs.Ytghnkgbingcbcaa
open Go.RowKit

theorem okSy_term {g : Gr} {t : Nat} : g.okSy (true, t) ↔ t < g.terms := by rw [Gr.okSy, if_pos rfl]
theorem tms_ok {g : Gr} (hg : g.Ok) {s : Sy} {t : Tr} (h : Der g s t) (hs : g.okSy s) : ∀ c ∈ tms t, okSyC g c := by
  intro c hc
  unfold tms at hc
  obtain ⟨y, hy, rfl⟩ := List.mem_map.1 hc
  have h1 := h.dv.lets (B := g.terms) (fun r hr s hs hb => by
    have := (hg.right r hr).2 s hs
    rw [Gr.okSy, if_pos hb] at this; exact this) (fun s' hs' hb => by
    rw [List.mem_singleton.1 hs'] at hb ⊢
    rw [Gr.okSy, if_pos hb] at hs; exact hs) y hy
  exact ⟨y.toNat, by show y = _; omega, by show g.okSy (true, y.toNat); rw [okSy_term]; omega⟩
theorem tmsL_ok {g : Gr} (hg : g.Ok) : ∀ {rhs : List Sy} {ks : List Tr}, ks.length = rhs.length → (∀ s ∈ rhs, g.okSy s) → (∀ (j : Nat) (s : Sy) (t : Tr), rhs[j]? = some s → ks[j]? = some t → Der g s t) → ∀ c ∈ tmsL ks, okSyC g c := by
  intro rhs
  induction rhs with
  | nil => intro ks hl _ _ c hc; rw [List.length_eq_zero_iff.1 hl] at hc; cases hc
  | cons s rhs ih =>
    intro ks hl ho h c hc
    cases ks with
    | nil => simp at hl
    | cons t ks =>
      rw [tmsL] at hc
      rcases List.mem_append.1 hc with hc | hc
      · exact tms_ok hg (h 0 s t rfl rfl) (ho s (List.mem_cons_self ..)) c hc
      · exact ih (ks := ks) (by simpa using hl) (fun s' hs' => ho s' (List.mem_cons_of_mem _ hs')) (fun j s' t' hs ht => h (j + 1) s' t' (by simpa using hs) (by simpa using ht)) c hc
theorem froL_ok {g : Gr} (hg : g.Ok) {F : Tr → List Ce} {k : Tr} : ∀ {rhs : List Sy} {ks : List Tr} {i : Nat}, ks.length = rhs.length → (∀ s ∈ rhs, g.okSy s) → (∀ (j : Nat) (s : Sy) (t : Tr), rhs[j]? = some s → ks[j]? = some t → Der g s t) → ks[i]? = some k → (∀ s, Der g s k → g.okSy s → ∀ c ∈ F k, okSyC g c) → ∀ c ∈ froL F ks i, okSyC g c := by
  intro rhs
  induction rhs with
  | nil => intro ks i hl _ _ hi _; rw [List.length_eq_zero_iff.1 hl] at hi; simp at hi
  | cons s rhs ih =>
    intro ks i hl ho h hi hF c hc
    cases ks with
    | nil => simp at hl
    | cons t ks =>
      have hd := h 0 s t rfl rfl
      have hr : ∀ (j : Nat) (s : Sy) (t : Tr), rhs[j]? = some s → ks[j]? = some t → Der g s t := fun j s' t' hs ht => h (j + 1) s' t' (by simpa using hs) (by simpa using ht)
      have ho2 : ∀ s ∈ rhs, g.okSy s := fun s' hs' => ho s' (List.mem_cons_of_mem _ hs')
      cases i with
      | zero =>
        simp at hi; subst hi
        rw [froL] at hc
        rcases List.mem_append.1 hc with hc | hc
        · exact hF s hd (ho s (List.mem_cons_self ..)) c hc
        · exact tmsL_ok hg (by simpa using hl) ho2 hr c hc
      | succ i =>
        rw [froL] at hc
        rcases List.mem_append.1 hc with hc | hc
        · exact tms_ok hg hd (ho s (List.mem_cons_self ..)) c hc
        · exact ih (by simpa using hl) ho2 hr (by simpa using hi) hF c hc
theorem fro_ok {g : Gr} (hg : g.Ok) {x : Tr} {sx : Sy} (hx : Der g sx x) : ∀ {p : List Nat} {t : Tr} {s : Sy}, Der g s t → g.okSy s → t.at? p = some x → ∀ c ∈ fro (symC sx) p t, okSyC g c := by
  intro p
  induction p with
  | nil =>
    intro t s h hs ha c hc
    simp [Tr.at?] at ha; subst ha
    rw [fro, List.mem_singleton] at hc
    subst hc
    rw [hx.same h]
    exact ⟨s.2, rfl, hs⟩
  | cons i p ih =>
    intro t s h hs ha
    simp only [Tr.at?] at ha
    cases hk : t.kids[i]? with
    | none => rw [hk] at ha; cases ha
    | some k =>
      rw [hk] at ha
      cases h with
      | leaf t => simp [Tr.kids] at hk
      | node r N rhs ks hr hl hd => exact froL_ok hg hl (hg.right _ (List.mem_of_getElem? hr)).2 hd hk fun s hs ho => ih hs ho ha
end Go.Proofs.Ytghnkgbingcbcaa

