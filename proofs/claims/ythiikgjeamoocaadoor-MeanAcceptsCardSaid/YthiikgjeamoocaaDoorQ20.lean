/- Texts SU, TP, TQ, laid together. -/
import Derived.Test.YthiikgjeamoocaaDoorQ4
import Derived.Test.YthiikgjeamoocaaDoorQ19


namespace Go.Proofs.YthiikgjeamoocaaDoor
open Go.RowKit

/-- counts, states -/
abbrev CSt := List Int × List Int
def kidsV (f : Nat → CSt → Bool × CSt) : List Int → Int → CSt → Bool × Int × CSt
  | [], x, st => (true, x, st)
  | k :: ks, x, st => if (f k.toNat st).1 = true then kidsV f ks (min (x * (f k.toNat st).2.1.getD k.toNat 0) 1000000000) (f k.toNat st).2 else (false, x, (f k.toNat st).2)
def packsV (f : Nat → CSt → Bool × CSt) (v : Nat) : List PkI → CSt → Bool × CSt
  | [], st => (true, st)
  | p :: ps, st => if (kidsV f p.2 1 st).1 = true then packsV f v ps ((kidsV f p.2 1 st).2.2.1.set v (min ((kidsV f p.2 1 st).2.2.1.getD v 0 + (kidsV f p.2 1 st).2.1) 1000000000), (kidsV f p.2 1 st).2.2.2) else (false, (kidsV f p.2 1 st).2.2)
def ndAt (nd : List NdI) (v : Nat) : NdI := (nd[v]?).getD ((false, 0, 0, 0), [])
def opn (nd : List NdI) (v : Nat) (st : CSt) : CSt := (if (ndAt nd v).1.1 = true then st.1.set v 1 else st.1, st.2.set v 1)
def visV (nd : List NdI) : Nat → Nat → CSt → Bool × CSt
  | 0, _, st => (false, st)
  | d + 1, v, st => if 0 < st.2.getD v 0 then (decide (st.2.getD v 0 = 2), st) else
      if (packsV (visV nd d) v (ndAt nd v).2 (opn nd v st)).1 = true then (true, ((packsV (visV nd d) v (ndAt nd v).2 (opn nd v st)).2.1, (packsV (visV nd d) v (ndAt nd v).2 (opn nd v st)).2.2.set v 2)) else (false, (packsV (visV nd d) v (ndAt nd v).2 (opn nd v st)).2)
/-- how many nodes are not begun -/
def zer (ss : List Int) : Nat := ss.countP fun s => decide (¬ 0 < s)
structure CGood (n : Nat) (st : CSt) : Prop where
  cl : st.1.length = n
  sl : st.2.length = n
  cb : ∀ c ∈ st.1, 0 ≤ c ∧ c ≤ 1000000000
theorem CGood.at_ {n : Nat} {st : CSt} (h : CGood n st) (v : Nat) : 0 ≤ st.1.getD v 0 ∧ st.1.getD v 0 ≤ 1000000000 := by
  rw [List.getD_eq_getElem?_getD]
  cases hv : st.1[v]? with
  | none => simp
  | some c => exact h.cb c (List.mem_of_getElem? hv)
theorem CGood.setC {n : Nat} {st : CSt} (h : CGood n st) (v : Nat) {c : Int} (h0 : 0 ≤ c) (h1 : c ≤ 1000000000) : CGood n (st.1.set v c, st.2) :=
  ⟨by simp [h.cl], h.sl, fun x hx => by
    rcases List.mem_or_eq_of_mem_set hx with hx | rfl
    · exact h.cb x hx
    · exact ⟨h0, h1⟩⟩
theorem CGood.setS {n : Nat} {st : CSt} (h : CGood n st) (v : Nat) (c : Int) : CGood n (st.1, st.2.set v c) := ⟨h.cl, by simp [h.sl], h.cb⟩
theorem zer_set_le : ∀ (ss : List Int) (v : Nat) (c : Int), 0 < c → zer (ss.set v c) ≤ zer ss
  | [], v, c, h => by simp [zer]
  | s :: ss, 0, c, h => by
    have : ¬ ¬ 0 < c := by omega
    simp only [zer, List.set_cons_zero, List.countP_cons, decide_eq_true_eq, this, if_false]
    omega
  | s :: ss, v + 1, c, h => by
    have := zer_set_le ss v c h
    simp only [zer, List.set_cons_succ, List.countP_cons] at this ⊢
    omega
theorem zer_set_lt : ∀ (ss : List Int) (v : Nat) (c : Int), 0 < c → v < ss.length → ¬ 0 < ss.getD v 0 → zer (ss.set v c) < zer ss
  | [], v, c, h, hv, _ => by simp at hv
  | s :: ss, 0, c, h, _, hz => by
    have : ¬ ¬ 0 < c := by omega
    have h2 : ¬ 0 < s := by simpa using hz
    simp only [zer, List.set_cons_zero, List.countP_cons, decide_eq_true_eq, this, if_false, h2, not_false_eq_true, if_true]
    omega
  | s :: ss, v + 1, c, h, hv, hz => by
    have := zer_set_lt ss v c h (by simpa using hv) (by simpa [List.getD_eq_getElem?_getD] using hz)
    simp only [zer, List.set_cons_succ, List.countP_cons] at this ⊢
    omega
/-- what each visit keeps -/
def KeepsV (n : Nat) (f : Nat → CSt → Bool × CSt) : Prop := ∀ k st, k < n → CGood n st → CGood n (f k st).2 ∧ zer (f k st).2.2 ≤ zer st.2
theorem mul_lim {x c : Int} (hx : 0 ≤ x ∧ x ≤ 1000000000) (hc : 0 ≤ c ∧ c ≤ 1000000000) : 0 ≤ x * c ∧ x * c ≤ 1000000000000000000 := by
  refine ⟨Int.mul_nonneg hx.1 hc.1, ?_⟩
  have h1 : x * c ≤ 1000000000 * c := Int.mul_le_mul_of_nonneg_right hx.2 hc.1
  have h2 : 1000000000 * c ≤ 1000000000 * 1000000000 := Int.mul_le_mul_of_nonneg_left hc.2 (by omega)
  omega
theorem kidsV_good {n : Nat} {f : Nat → CSt → Bool × CSt} (hf : KeepsV n f) : ∀ (ks : List Int) (x : Int) (st : CSt), (∀ k ∈ ks, 0 ≤ k ∧ k < (n : Int)) → 0 ≤ x ∧ x ≤ 1000000000 → CGood n st →
    CGood n (kidsV f ks x st).2.2 ∧ zer (kidsV f ks x st).2.2.2 ≤ zer st.2 ∧ 0 ≤ (kidsV f ks x st).2.1 ∧ (kidsV f ks x st).2.1 ≤ 1000000000
  | [], x, st, _, hx, h => ⟨h, Nat.le_refl _, hx.1, hx.2⟩
  | k :: ks, x, st, hk, hx, h => by
    have h1 := hk k (by simp)
    obtain ⟨g1, g2⟩ := hf k.toNat st (by omega) h
    have hm := mul_lim hx (g1.at_ k.toNat)
    unfold kidsV
    split
    · obtain ⟨a, b, c, d⟩ := kidsV_good hf ks (min (x * (f k.toNat st).2.1.getD k.toNat 0) 1000000000) (f k.toNat st).2 (fun z hz => hk z (by simp [hz])) (by omega) g1
      exact ⟨a, Nat.le_trans b g2, c, d⟩
    · exact ⟨g1, g2, hx.1, hx.2⟩
theorem packsV_good {n v : Nat} {f : Nat → CSt → Bool × CSt} (hf : KeepsV n f) : ∀ (ps : List PkI) (st : CSt), (∀ p ∈ ps, ∀ k ∈ p.2, 0 ≤ k ∧ k < (n : Int)) → CGood n st →
    CGood n (packsV f v ps st).2 ∧ zer (packsV f v ps st).2.2 ≤ zer st.2
  | [], st, _, h => ⟨h, Nat.le_refl _⟩
  | p :: ps, st, hk, h => by
    obtain ⟨g1, g2, g3, g4⟩ := kidsV_good hf p.2 1 st (hk p (by simp)) (by omega) h
    have h5 := g1.at_ v
    unfold packsV
    split
    · obtain ⟨a, b⟩ := packsV_good (v := v) hf ps _ (fun z hz => hk z (by simp [hz])) (g1.setC v (c := min ((kidsV f p.2 1 st).2.2.1.getD v 0 + (kidsV f p.2 1 st).2.1) 1000000000) (by omega) (by omega))
      exact ⟨a, Nat.le_trans b g2⟩
    · exact ⟨g1, g2⟩
/-- the kids of all nodes are nodes -/
def KidsIn (nd : List NdI) : Prop := ∀ x ∈ nd, ∀ p ∈ x.2, ∀ k ∈ p.2, 0 ≤ k ∧ k < (nd.length : Int)
theorem KidsIn.at_ {nd : List NdI} (h : KidsIn nd) (v : Nat) : ∀ p ∈ (ndAt nd v).2, ∀ k ∈ p.2, 0 ≤ k ∧ k < (nd.length : Int) := by
  unfold ndAt
  cases hv : nd[v]? with
  | none => simp
  | some x => exact h x (List.mem_of_getElem? hv)
theorem CGood.opn {n v : Nat} {nd : List NdI} {st : CSt} (h : CGood n st) : CGood n (opn nd v st) := by
  unfold Proofs.YthiikgjeamoocaaDoor.opn
  split
  · exact (h.setC v (by omega) (by omega)).setS v 1
  · exact h.setS v 1
theorem visV_keeps {nd : List NdI} (hk : KidsIn nd) : ∀ d, KeepsV nd.length (visV nd d)
  | 0, v, st, _, h => ⟨h, Nat.le_refl _⟩
  | d + 1, v, st, hv, h => by
    have hz : zer (opn nd v st).2 ≤ zer st.2 := zer_set_le st.2 v 1 (by omega)
    obtain ⟨a, b⟩ := packsV_good (v := v) (visV_keeps hk d) (ndAt nd v).2 (opn nd v st) (hk.at_ v) h.opn
    unfold visV
    split
    · exact ⟨h, Nat.le_refl _⟩
    · split
      · exact ⟨a.setS v 2, Nat.le_trans (zer_set_le _ v 2 (by omega)) (Nat.le_trans b hz)⟩
      · exact ⟨a, Nat.le_trans b hz⟩
/-- what Count answers -/
def cntV (f : FoI) : Int := if f.1 < 0 then 0 else
  if (visV f.2 (f.2.length + 1) f.1.toNat (List.replicate f.2.length 0, List.replicate f.2.length 0)).1 = true then (visV f.2 (f.2.length + 1) f.1.toNat (List.replicate f.2.length 0, List.replicate f.2.length 0)).2.1.getD f.1.toNat 0 else -1
end Go.Proofs.YthiikgjeamoocaaDoor




namespace Go.Proofs.YthiikgjeamoocaaDoor
open Go.RowKit

abbrev WtK := Nat × Nat
abbrev Wts := List (WtK × List Cand)
def wGet : Wts → WtK → List Cand
  | [], _ => []
  | p :: W, k => if p.1 = k then p.2 else wGet W k
def wAdd : Wts → WtK → Cand → Wts
  | [], k, c => [(k, [c])]
  | p :: W, k, c => if p.1 = k then (k, p.2 ++ [c]) :: W else p :: wAdd W k c
def wDel : Wts → WtK → Wts
  | [], _ => []
  | p :: W, k => if p.1 = k then W else p :: wDel W k
def wSum (W : Wts) : Nat := (W.map (·.2.length)).sum
theorem wSum_add : ∀ (W : Wts) (k : WtK) (c : Cand), wSum (wAdd W k c) = wSum W + 1
  | [], k, c => rfl
  | p :: W, k, c => by
    have ih := wSum_add W k c
    unfold wAdd
    unfold wSum at ih ⊢
    split
    · simp; omega
    · simp only [List.map_cons, List.sum_cons, ih]; omega
theorem wSum_del : ∀ (W : Wts) (k : WtK), wSum (wDel W k) + (wGet W k).length = wSum W
  | [], k => rfl
  | p :: W, k => by
    have ih := wSum_del W k
    unfold wDel wGet
    unfold wSum at ih ⊢
    split
    · simp; omega
    · simp only [List.map_cons, List.sum_cons]; omega
theorem wGet_add : ∀ (W : Wts) (k : WtK) (c : Cand) (j : WtK), wGet (wAdd W k c) j = if j = k then wGet W k ++ [c] else wGet W j
  | [], k, c, j => by
    unfold wAdd
    simp only [wGet]
    by_cases h : k = j
    · rw [if_pos h, if_pos h.symm]; rfl
    · rw [if_neg h, if_neg (Ne.symm h)]
  | p :: W, k, c, j => by
    have ih := wGet_add W k c j
    unfold wAdd
    by_cases h : p.1 = k
    · rw [if_pos h]
      simp only [wGet, if_pos h]
      by_cases hj : j = k
      · rw [if_pos hj, if_pos hj.symm]
      · rw [if_neg hj, if_neg (Ne.symm hj), if_neg (fun e => hj (e.symm.trans h))]
    · rw [if_neg h]
      simp only [wGet, if_neg h]
      by_cases hj : p.1 = j
      · rw [if_pos hj, if_neg (fun e => h (hj.trans e)), if_pos hj]
      · rw [if_neg hj, if_neg hj]; exact ih
theorem wMem_add {W : Wts} {k : WtK} {c : Cand} : ∀ p ∈ wAdd W k c, ∀ d ∈ p.2, d = c ∨ ∃ q ∈ W, d ∈ q.2 := by
  induction W with
  | nil =>
    intro p hp d hd
    simp only [wAdd, List.mem_singleton] at hp
    subst hp
    exact Or.inl (by simpa using hd)
  | cons a W ih =>
    intro p hp d hd
    unfold wAdd at hp
    split at hp
    · rcases List.mem_cons.1 hp with rfl | hp
      · rcases List.mem_append.1 hd with hd | hd
        · exact Or.inr ⟨a, List.mem_cons_self .., hd⟩
        · exact Or.inl (by simpa using hd)
      · exact Or.inr ⟨p, List.mem_cons_of_mem _ hp, hd⟩
    · rcases List.mem_cons.1 hp with rfl | hp
      · exact Or.inr ⟨p, List.mem_cons_self .., hd⟩
      · rcases ih p hp d hd with h | ⟨q, hq, h⟩
        · exact Or.inl h
        · exact Or.inr ⟨q, List.mem_cons_of_mem _ hq, h⟩
theorem wMem_del {W : Wts} {k : WtK} : ∀ p ∈ wDel W k, p ∈ W := by
  induction W with
  | nil => intro p hp; exact hp
  | cons a W ih =>
    intro p hp
    unfold wDel at hp
    split at hp
    · exact List.mem_cons_of_mem _ hp
    · rcases List.mem_cons.1 hp with rfl | hp
      · exact List.mem_cons_self ..
      · exact List.mem_cons_of_mem _ (ih p hp)
theorem wGet_mem {W : Wts} {k : WtK} {d : Cand} (h : d ∈ wGet W k) : ∃ p ∈ W, d ∈ p.2 := by
  induction W with
  | nil => exact absurd h List.not_mem_nil
  | cons a W ih =>
    unfold wGet at h
    split at h
    · exact ⟨a, List.mem_cons_self .., h⟩
    · obtain ⟨p, hp, hd⟩ := ih h
      exact ⟨p, List.mem_cons_of_mem _ hp, hd⟩
/-- each key once, no row empty -/
structure WOk (W : Wts) : Prop where
  keys : (W.map (·.1)).Nodup
  rows : ∀ p ∈ W, p.2 ≠ []
theorem wKey_add {W : Wts} {k : WtK} {c : Cand} : ∀ j, j ∈ (wAdd W k c).map (·.1) ↔ j = k ∨ j ∈ W.map (·.1) := by
  induction W with
  | nil => intro j; simp [wAdd]
  | cons p W ih =>
    intro j
    unfold wAdd
    by_cases h : p.1 = k
    · rw [if_pos h]; simp [h]
    · rw [if_neg h]
      rw [List.map_cons, List.mem_cons, ih, List.map_cons, List.mem_cons]
      constructor
      · rintro (h1 | h1 | h1)
        · exact Or.inr (Or.inl h1)
        · exact Or.inl h1
        · exact Or.inr (Or.inr h1)
      · rintro (h1 | h1 | h1)
        · exact Or.inr (Or.inl h1)
        · exact Or.inl h1
        · exact Or.inr (Or.inr h1)
theorem WOk.add : ∀ {W : Wts}, WOk W → ∀ (k : WtK) (c : Cand), WOk (wAdd W k c)
  | [], _, k, c => ⟨by simp [wAdd], by simp [wAdd]⟩
  | p :: W, h, k, c => by
    have hk := h.keys
    rw [List.map_cons, List.nodup_cons] at hk
    have ih := WOk.add (W := W) ⟨hk.2, fun q hq => h.rows q (List.mem_cons_of_mem _ hq)⟩ k c
    unfold wAdd
    by_cases e : p.1 = k
    · rw [if_pos e]
      refine ⟨by rw [List.map_cons, List.nodup_cons]; exact ⟨e ▸ hk.1, hk.2⟩, fun q hq => ?_⟩
      rcases List.mem_cons.1 hq with rfl | hq
      · simp
      · exact h.rows q (List.mem_cons_of_mem _ hq)
    · rw [if_neg e]
      refine ⟨by
        rw [List.map_cons, List.nodup_cons]
        refine ⟨fun hm => ?_, ih.keys⟩
        rcases (wKey_add _).1 hm with h1 | h1
        · exact e h1
        · exact hk.1 h1, fun q hq => ?_⟩
      rcases List.mem_cons.1 hq with rfl | hq
      · exact h.rows _ (List.mem_cons_self ..)
      · exact ih.rows q hq
theorem wGet_none {W : Wts} {k : WtK} (h : k ∉ W.map (·.1)) : wGet W k = [] := by
  induction W with
  | nil => rfl
  | cons p W ih =>
    rw [List.map_cons, List.mem_cons] at h
    unfold wGet
    rw [if_neg (fun e => h (Or.inl e.symm))]
    exact ih fun hm => h (Or.inr hm)
theorem wGet_del : ∀ {W : Wts}, WOk W → ∀ (k j : WtK), wGet (wDel W k) j = if j = k then [] else wGet W j
  | [], _, k, j => by simp [wDel, wGet]
  | p :: W, h, k, j => by
    have hk := h.keys
    rw [List.map_cons, List.nodup_cons] at hk
    have ih := wGet_del (W := W) ⟨hk.2, fun q hq => h.rows q (List.mem_cons_of_mem _ hq)⟩ k j
    unfold wDel
    by_cases e : p.1 = k
    · rw [if_pos e]
      by_cases hj : j = k
      · rw [if_pos hj, hj, ← e]; exact wGet_none hk.1
      · rw [if_neg hj]
        conv => rhs; unfold wGet
        rw [if_neg (fun e2 => hj (e2.symm.trans e))]
    · rw [if_neg e]
      unfold wGet
      by_cases hp : p.1 = j
      · rw [if_pos hp, if_pos hp, if_neg (fun e2 => e (hp.trans e2))]
      · rw [if_neg hp, if_neg hp]; exact ih
theorem WOk.del {W : Wts} (h : WOk W) (k : WtK) : WOk (wDel W k) := by
  have hs : ∀ (W : Wts), (wDel W k).Sublist W := by
    intro W
    induction W with
    | nil => exact List.Sublist.slnil
    | cons p W ih =>
      unfold wDel
      split
      · exact List.sublist_cons_self ..
      · exact ih.cons_cons _
  exact ⟨(((hs W).map _).nodup) h.keys, fun p hp => h.rows p (wMem_del p hp)⟩
theorem wGet_nil {W : Wts} (h : WOk W) (k : WtK) : wGet W k = [] ↔ k ∉ W.map (·.1) := by
  refine ⟨fun e hm => ?_, wGet_none⟩
  induction W with
  | nil => simp at hm
  | cons p W ih =>
    have hk := h.keys
    rw [List.map_cons, List.nodup_cons] at hk
    unfold wGet at e
    by_cases e1 : p.1 = k
    · rw [if_pos e1] at e; exact h.rows p (List.mem_cons_self ..) e
    · rw [if_neg e1] at e
      rw [List.map_cons, List.mem_cons] at hm
      rcases hm with hm | hm
      · exact e1 hm.symm
      · exact ih ⟨hk.2, fun q hq => h.rows q (List.mem_cons_of_mem _ hq)⟩ e hm
/-- the state -/
structure LsS where
  lists : List (List CT)
  seen : List Cand
  waits : Wts
  q : List QE
abbrev lstAt (L : List (List CT)) (v : Nat) : List CT := L.getD v []
def packOf (nd : List NdI) (c : Cand) : PkI := ((ndAt nd c.1).2[c.2.1]?).getD (0, [])
/-- the trees of the kids from the i-th on, or the first one that is not there yet -/
def coll (L : List (List CT)) (r : Rk) : Nat → List Int → Sum WtK (List CT)
  | _, [] => .inr []
  | i, k :: ks => match (lstAt L k.toNat)[r.get i]? with
    | none => .inl (k.toNat, r.get i)
    | some x => match coll L r (i + 1) ks with
      | .inl w => .inl w
      | .inr l => .inr (x :: l)
noncomputable def tryL (nd : List NdI) (c : Cand) (st : LsS) : LsS := match coll st.lists c.2.2 0 (packOf nd c).2 with
  | .inl k => { st with waits := wAdd st.waits k c }
  | .inr ks => { st with q := upQ (st.q ++ [(c, .mk (packOf nd c).1 0 (1 + szL ks) ks)]) st.q.length }
noncomputable def firstL (nd : List NdI) (c : Cand) (st : LsS) : LsS := if c ∈ st.seen then st else tryL nd c { st with seen := st.seen ++ [c] }
noncomputable def takeL (nd : List NdI) (most : Nat) (x : QE) (st : LsS) : LsS :=
  if (lstAt st.lists x.1.1).length = most then st else
    (List.range (packOf nd x.1).2.length).foldl (fun s i => firstL nd (x.1.1, x.1.2.1, Rk.inc x.1.2.2 i) s)
      ((wGet st.waits (x.1.1, (lstAt st.lists x.1.1).length)).foldl (fun s c => tryL nd c s)
        { st with lists := st.lists.set x.1.1 (lstAt st.lists x.1.1 ++ [x.2]), waits := wDel st.waits (x.1.1, (lstAt st.lists x.1.1).length) })
noncomputable def runL (nd : List NdI) (root most : Nat) : Nat → LsS → Option LsS
  | 0, _ => none
  | d + 1, st => if st.q = [] ∨ most ≤ (lstAt st.lists root).length then some st else
      match (popQ st.q).getLast? with
      | none => some st
      | some x => if 5000 < x.2.size then some { st with q := (popQ st.q).dropLast } else runL nd root most d (takeL nd most x { st with q := (popQ st.q).dropLast })
theorem upQ_len : ∀ (n : Nat) (q : List QE) (j : Nat), j ≤ n → (upQ q j).length = q.length
  | 0, q, j, h => by obtain rfl : j = 0 := by omega
                     rw [upQ_zero]
  | n + 1, q, j, h => by
    by_cases h0 : j = 0
    · rw [h0, upQ_zero]
    · rw [upQ_step h0]
      split
      · rw [upQ_len n _ _ (by omega), swapQ_len]
      · rfl
theorem upQ_mem : ∀ (n : Nat) (q : List QE) (j : Nat), j ≤ n → ∀ x ∈ upQ q j, x ∈ q
  | 0, q, j, h => by obtain rfl : j = 0 := by omega
                     rw [upQ_zero]; exact fun x hx => hx
  | n + 1, q, j, h => by
    by_cases h0 : j = 0
    · rw [h0, upQ_zero]; exact fun x hx => hx
    · rw [upQ_step h0]
      split
      · exact fun x hx => swapQ_mem x (upQ_mem n _ _ (by omega) x hx)
      · exact fun x hx => hx
theorem downQ_mem (m : Nat) : ∀ (k i : Nat) (q : List QE), m - i ≤ k → ∀ x ∈ downQ m q i, x ∈ q
  | 0, i, q, h => by rw [downQ_end (by omega)]; exact fun x hx => hx
  | k + 1, i, q, h => by
    by_cases h1 : m ≤ 2 * i + 1
    · rw [downQ_end h1]; exact fun x hx => hx
    · obtain ⟨j, hj⟩ : ∃ j, j = if 2 * i + 2 < m ∧ lessQ q (2 * i + 2) (2 * i + 1) = true then 2 * i + 2 else 2 * i + 1 := ⟨_, rfl⟩
      have hij : i < j := by rw [hj]; split <;> omega
      rw [downQ_step h1 hj]
      by_cases hl : lessQ q j i = true
      · rw [if_pos hl]; exact fun x hx => swapQ_mem x (downQ_mem m k j _ (by omega) x hx)
      · rw [if_neg hl]; exact fun x hx => hx
theorem popQ_mem {q : List QE} : ∀ x ∈ popQ q, x ∈ q := fun x hx => swapQ_mem x (downQ_mem _ _ _ _ (Nat.le_refl _) x hx)
end Go.Proofs.YthiikgjeamoocaaDoor



namespace Go.Proofs.YthiikgjeamoocaaDoor
open Go.RowKit

/-- a candidate of the forest -/
def CdOk (nd : List NdI) (most : Nat) (c : Cand) : Prop := c.1 < nd.length ∧ c.2.1 < (ndAt nd c.1).2.length ∧ ∀ i, c.2.2.get i ≤ most
/-- what is asked of a forest -/
def FoK (nd : List NdI) : Prop := KidsIn nd ∧ ∀ v, ∀ p ∈ (ndAt nd v).2, p.2.length ≤ 4 ∧ 0 ≤ p.1
def sumL (L : List (List CT)) : Nat := (L.map List.length).sum
/-- hand: candidates that are in hand; rem: candidates that may still be seen -/
structure LInv (nd : List NdI) (most base : Nat) (st : LsS) (hand rem : Nat) : Prop where
  len : st.lists.length = nd.length
  lst : ∀ v, (lstAt st.lists v).length ≤ most ∧ ∀ t ∈ lstAt st.lists v, t.Wf ∧ t.size ≤ 5000
  qok : ∀ x ∈ st.q, CdOk nd most x.1 ∧ (∀ i, i < (packOf nd x.1).2.length → x.1.2.2.get i < most) ∧ x.2.Wf ∧ x.2.size ≤ 20001
  wok : ∀ p ∈ st.waits, ∀ c ∈ p.2, CdOk nd most c
  cnt : st.q.length + wSum st.waits + hand ≤ st.seen.length
  scn : st.seen.length + rem ≤ base + 4 * sumL st.lists
  wk : WOk st.waits
theorem packOf_mem {nd : List NdI} {most : Nat} {c : Cand} (h : CdOk nd most c) : packOf nd c ∈ (ndAt nd c.1).2 := by
  unfold packOf
  rw [List.getElem?_eq_getElem h.2.1]
  exact List.getElem_mem h.2.1
theorem szL_le {m : Int} : ∀ {l : List CT}, (∀ t ∈ l, t.size ≤ m) → szL l ≤ m * l.length
  | [], _ => by simp [szL]
  | a :: l, h => by
    have h1 := h a (List.mem_cons_self ..)
    have h2 := szL_le (l := l) fun t ht => h t (List.mem_cons_of_mem _ ht)
    rw [szL_cons, List.length_cons]
    have : m * ((l.length + 1 : Nat) : Int) = m * l.length + m := by rw [Int.natCast_add, Int.mul_add]; simp
    omega
theorem coll_inr {L : List (List CT)} {r : Rk} : ∀ {ks : List Int} {i : Nat} {l : List CT}, coll L r i ks = .inr l → l.length = ks.length ∧ (∀ t ∈ l, ∃ v, t ∈ lstAt L v) ∧ ∀ j, j < ks.length → ∃ v, r.get (i + j) < (lstAt L v).length
  | [], i, l, h => by
    simp only [coll, Sum.inr.injEq] at h
    subst h; exact ⟨rfl, fun t ht => absurd ht List.not_mem_nil, fun j hj => absurd hj (Nat.not_lt_zero _)⟩
  | k :: ks, i, l, h => by
    unfold coll at h
    cases hx : (lstAt L k.toNat)[r.get i]? with
    | none => rw [hx] at h; simp at h
    | some x =>
      rw [hx] at h
      cases hc : coll L r (i + 1) ks with
      | inl w => rw [hc] at h; simp at h
      | inr m =>
        rw [hc] at h
        simp only [Sum.inr.injEq] at h
        subst h
        obtain ⟨h1, h2, h3⟩ := coll_inr hc
        refine ⟨by simp [h1], fun t ht => ?_, fun j hj => ?_⟩
        · rcases List.mem_cons.1 ht with rfl | ht
          · exact ⟨k.toNat, List.mem_of_getElem? hx⟩
          · exact h2 t ht
        · cases j with
          | zero => exact ⟨k.toNat, (List.getElem?_eq_some_iff.1 hx).1⟩
          | succ j =>
            obtain ⟨v, hv⟩ := h3 j (by simpa using hj)
            exact ⟨v, by rw [show i + (j + 1) = i + 1 + j by omega]; exact hv⟩
theorem tryL_lists (nd : List NdI) (c : Cand) (st : LsS) : (tryL nd c st).lists = st.lists ∧ (tryL nd c st).seen = st.seen := by
  unfold tryL; split <;> exact ⟨rfl, rfl⟩
theorem tryL_inv {nd : List NdI} {most base : Nat} {st : LsS} {hand rem : Nat} (hf : FoK nd) {c : Cand} (hc : CdOk nd most c) (h : LInv nd most base st (hand + 1) rem) : LInv nd most base (tryL nd c st) hand rem := by
  unfold tryL
  split
  · next k hk =>
    refine ⟨h.len, h.lst, h.qok, fun p hp d hd => ?_, ?_, h.scn, h.wk.add k c⟩
    · rcases wMem_add p hp d hd with rfl | ⟨q, hq, hd⟩
      · exact hc
      · exact h.wok q hq d hd
    · have := h.cnt
      simp only [wSum_add]; omega
  · next ks hk =>
    obtain ⟨h1, h2, h3⟩ := coll_inr hk
    have hp := hf.2 c.1 _ (packOf_mem hc)
    have hall : ∀ t ∈ ks, t.Wf ∧ t.size ≤ 5000 := fun t ht => by
      obtain ⟨v, hv⟩ := h2 t ht
      exact (h.lst v).2 t hv
    have hsz := szL_le (m := 5000) fun t ht => (hall t ht).2
    have hl4 : ks.length ≤ 4 := by rw [h1]; exact hp.1
    refine ⟨h.len, h.lst, fun x hx => ?_, h.wok, ?_, h.scn, h.wk⟩
    · have hx := upQ_mem _ _ _ (Nat.le_refl _) x hx
      rcases List.mem_append.1 hx with hx | hx
      · exact h.qok x hx
      · rw [List.mem_singleton.1 hx]
        refine ⟨hc, fun i hi => ?_, .mk _ _ ks (fun t ht => (hall t ht).1) hl4 (fun h => by have := hp.2; omega), ?_⟩
        · obtain ⟨v, hv⟩ := h3 i hi
          rw [Nat.zero_add] at hv
          exact Nat.lt_of_lt_of_le hv (h.lst v).1
        show 1 + szL ks ≤ 20001
        have : (5000 : Int) * ks.length ≤ 5000 * 4 := by omega
        omega
    · have := h.cnt
      simp only [upQ_len _ _ _ (Nat.le_refl _), List.length_append, List.length_singleton]; omega
theorem firstL_lists (nd : List NdI) (c : Cand) (st : LsS) : (firstL nd c st).lists = st.lists := by
  unfold firstL; split
  · rfl
  · exact (tryL_lists nd c _).1
theorem firstL_inv {nd : List NdI} {most base : Nat} {st : LsS} {hand rem : Nat} (hf : FoK nd) {c : Cand} (hc : CdOk nd most c) (h : LInv nd most base st hand (rem + 1)) : LInv nd most base (firstL nd c st) hand rem := by
  unfold firstL
  split
  · exact ⟨h.len, h.lst, h.qok, h.wok, h.cnt, by have := h.scn; omega, h.wk⟩
  · refine tryL_inv hf hc ⟨h.len, h.lst, h.qok, h.wok, ?_, ?_, h.wk⟩
    · have := h.cnt; simp only [List.length_append, List.length_singleton]; omega
    · have := h.scn; simp only [List.length_append, List.length_singleton]; omega
theorem sumL_set : ∀ (L : List (List CT)) (v : Nat) (l : List CT) (t : CT), L[v]? = some l → sumL (L.set v (l ++ [t])) = sumL L + 1
  | [], v, l, t, h => by simp at h
  | a :: L, 0, l, t, h => by
    simp only [List.getElem?_cons_zero, Option.some.injEq] at h
    subst h
    simp [sumL]; omega
  | a :: L, v + 1, l, t, h => by
    have := sumL_set L v l t (by simpa using h)
    unfold sumL at this ⊢
    simp only [List.set_cons_succ, List.map_cons, List.sum_cons, this]; omega
theorem Rk.inc_le {r : Rk} {i m : Nat} (hi : r.get i < m) (h : ∀ j, r.get j ≤ m) (j : Nat) : (r.inc i).get j ≤ m := by
  have h0 := h 0
  have h1 := h 1
  have h2 := h 2
  have h3 := h 3
  obtain ⟨a, b, c, d⟩ := r
  match i, hi, j with
  | 0, hi, 0 => simp [Rk.inc, Rk.get] at *; omega
  | 0, hi, 1 => simp [Rk.inc, Rk.get] at *; omega
  | 0, hi, 2 => simp [Rk.inc, Rk.get] at *; omega
  | 0, hi, j + 3 => simp [Rk.inc, Rk.get] at *; omega
  | 1, hi, 0 => simp [Rk.inc, Rk.get] at *; omega
  | 1, hi, 1 => simp [Rk.inc, Rk.get] at *; omega
  | 1, hi, 2 => simp [Rk.inc, Rk.get] at *; omega
  | 1, hi, j + 3 => simp [Rk.inc, Rk.get] at *; omega
  | 2, hi, 0 => simp [Rk.inc, Rk.get] at *; omega
  | 2, hi, 1 => simp [Rk.inc, Rk.get] at *; omega
  | 2, hi, 2 => simp [Rk.inc, Rk.get] at *; omega
  | 2, hi, j + 3 => simp [Rk.inc, Rk.get] at *; omega
  | i + 3, hi, 0 => simp [Rk.inc, Rk.get] at *; omega
  | i + 3, hi, 1 => simp [Rk.inc, Rk.get] at *; omega
  | i + 3, hi, 2 => simp [Rk.inc, Rk.get] at *; omega
  | i + 3, hi, j + 3 => simp [Rk.inc, Rk.get] at *; omega
theorem foldTry_inv {nd : List NdI} {most base : Nat} (hf : FoK nd) : ∀ (l : List Cand) (st : LsS) (hand rem : Nat), (∀ c ∈ l, CdOk nd most c) → LInv nd most base st (l.length + hand) rem →
    LInv nd most base (l.foldl (fun s c => tryL nd c s) st) hand rem ∧ (l.foldl (fun s c => tryL nd c s) st).lists = st.lists
  | [], st, hand, rem, _, h => ⟨by simpa using h, rfl⟩
  | c :: l, st, hand, rem, hc, h => by
    obtain ⟨a, b⟩ := foldTry_inv hf l (tryL nd c st) hand rem (fun d hd => hc d (List.mem_cons_of_mem _ hd)) (tryL_inv hf (hc c (List.mem_cons_self ..)) (by rw [List.length_cons] at h; rwa [show l.length + hand + 1 = l.length + 1 + hand by omega]))
    exact ⟨a, b.trans (tryL_lists nd c st).1⟩
theorem foldFirst_inv {nd : List NdI} {most base : Nat} (hf : FoK nd) (f : Nat → Cand) : ∀ (l : List Nat) (st : LsS) (rem : Nat), (∀ i ∈ l, CdOk nd most (f i)) → LInv nd most base st 0 (l.length + rem) →
    LInv nd most base (l.foldl (fun s i => firstL nd (f i) s) st) 0 rem ∧ (l.foldl (fun s i => firstL nd (f i) s) st).lists = st.lists
  | [], st, rem, _, h => ⟨by simpa using h, rfl⟩
  | i :: l, st, rem, hc, h => by
    obtain ⟨a, b⟩ := foldFirst_inv hf f l (firstL nd (f i) st) rem (fun d hd => hc d (List.mem_cons_of_mem _ hd)) (firstL_inv hf (hc i (List.mem_cons_self ..)) (by rw [List.length_cons] at h; rwa [show l.length + rem + 1 = l.length + 1 + rem by omega]))
    exact ⟨a, b.trans (firstL_lists nd (f i) st)⟩
/-- a tree is taken -/
theorem takeL_inv {nd : List NdI} {most base : Nat} {st : LsS} (hf : FoK nd) {x : QE} (hx : CdOk nd most x.1) (hr : ∀ i, i < (packOf nd x.1).2.length → x.1.2.2.get i < most) (hw : x.2.Wf) (hs : x.2.size ≤ 5000) (h : LInv nd most base st 0 0) :
    LInv nd most base (takeL nd most x st) 0 0 ∧ ((lstAt st.lists x.1.1).length = most → takeL nd most x st = st) ∧ ((lstAt st.lists x.1.1).length ≠ most → sumL (takeL nd most x st).lists = sumL st.lists + 1) := by
  unfold takeL
  by_cases hm : (lstAt st.lists x.1.1).length = most
  · rw [if_pos hm]; exact ⟨h, fun _ => rfl, fun hn => absurd hm hn⟩
  · rw [if_neg hm]
    have hvl : x.1.1 < st.lists.length := by rw [h.len]; exact hx.1
    have hget : st.lists[x.1.1]? = some (lstAt st.lists x.1.1) := by
      unfold lstAt
      rw [List.getD_eq_getElem?_getD, List.getElem?_eq_getElem hvl]; rfl
    have hset : ∀ v, lstAt (st.lists.set x.1.1 (lstAt st.lists x.1.1 ++ [x.2])) v = if v = x.1.1 then lstAt st.lists x.1.1 ++ [x.2] else lstAt st.lists v := fun v => by
      unfold lstAt
      rw [List.getD_eq_getElem?_getD]
      by_cases e : v = x.1.1
      · rw [if_pos e, e, List.getElem?_set_self hvl]; rfl
      · rw [if_neg e, List.getElem?_set_ne (Ne.symm e), List.getD_eq_getElem?_getD]
    have hsum := sumL_set st.lists x.1.1 _ x.2 hget
    have hp := hf.2 x.1.1 _ (packOf_mem hx)
    have i1 : LInv nd most base { st with lists := st.lists.set x.1.1 (lstAt st.lists x.1.1 ++ [x.2]), waits := wDel st.waits (x.1.1, (lstAt st.lists x.1.1).length) } ((wGet st.waits (x.1.1, (lstAt st.lists x.1.1).length)).length + 0) (packOf nd x.1).2.length := by
      refine ⟨by simpa using h.len, fun v => ?_, h.qok, fun p hp c hc => h.wok p (wMem_del p hp) c hc, ?_, ?_, h.wk.del _⟩
      · show (lstAt (st.lists.set x.1.1 (lstAt st.lists x.1.1 ++ [x.2])) v).length ≤ most ∧ ∀ t ∈ lstAt (st.lists.set x.1.1 (lstAt st.lists x.1.1 ++ [x.2])) v, t.Wf ∧ t.size ≤ 5000
        rw [hset]
        by_cases e : v = x.1.1
        · rw [if_pos e]
          refine ⟨by rw [List.length_append, List.length_singleton]; have := (h.lst x.1.1).1; omega, fun t ht => ?_⟩
          rcases List.mem_append.1 ht with ht | ht
          · exact (h.lst x.1.1).2 t ht
          · rw [List.mem_singleton.1 ht]; exact ⟨hw, hs⟩
        · rw [if_neg e]; exact h.lst v
      · have := h.cnt
        have := wSum_del st.waits (x.1.1, (lstAt st.lists x.1.1).length)
        show st.q.length + wSum (wDel st.waits (x.1.1, (lstAt st.lists x.1.1).length)) + _ ≤ st.seen.length
        omega
      · have := h.scn
        show st.seen.length + (packOf nd x.1).2.length ≤ base + 4 * sumL (st.lists.set x.1.1 (lstAt st.lists x.1.1 ++ [x.2]))
        rw [hsum]; have := hp.1; omega
    obtain ⟨a, b⟩ := foldTry_inv hf _ _ 0 _ (fun c hc => by obtain ⟨p, hp, hc⟩ := wGet_mem hc; exact h.wok p hp c hc) i1
    obtain ⟨c, d⟩ := foldFirst_inv (most := most) (base := base) hf (fun i => (x.1.1, x.1.2.1, Rk.inc x.1.2.2 i)) (List.range (packOf nd x.1).2.length) _ 0 (fun i hi => ⟨hx.1, hx.2.1, Rk.inc_le (hr i (List.mem_range.1 hi)) hx.2.2⟩) (by rw [List.length_range]; exact a)
    exact ⟨c, fun e => absurd e hm, fun _ => by rw [d, b]; exact hsum⟩
theorem sumL_le {m : Nat} : ∀ (L : List (List CT)), (∀ v, (lstAt L v).length ≤ m) → sumL L ≤ L.length * m
  | [], _ => by simp [sumL]
  | a :: L, h => by
    have h0 := h 0
    have ih := sumL_le L fun v => h (v + 1)
    have h0' : a.length ≤ m := h0
    unfold sumL at ih ⊢
    rw [List.map_cons, List.sum_cons, List.length_cons, Nat.succ_mul]
    omega
/-- the state behind a pop -/
theorem LInv.pop {nd : List NdI} {most base : Nat} {st : LsS} {q : List QE} (h : LInv nd most base st 0 0) (hl : q.length ≤ st.q.length) (hq : ∀ x ∈ q, x ∈ st.q) : LInv nd most base { st with q := q } 0 0 :=
  ⟨h.len, h.lst, fun x hx => h.qok x (hq x hx), h.wok, by have := h.cnt; show q.length + wSum st.waits + 0 ≤ st.seen.length; omega, h.scn, h.wk⟩
theorem popQ_cut {q : List QE} {x : QE} (h : (popQ q).getLast? = some x) : popQ q = (popQ q).dropLast ++ [x] ∧ x ∈ q ∧ (∀ y ∈ (popQ q).dropLast, y ∈ q) ∧ (popQ q).dropLast.length + 1 = q.length := by
  have hne : popQ q ≠ [] := fun e => by rw [e] at h; simp at h
  have hx : (popQ q).getLast hne = x := by rw [List.getLast?_eq_some_getLast hne] at h; exact Option.some.inj h
  have hc : popQ q = (popQ q).dropLast ++ [x] := by rw [← hx]; exact (List.dropLast_concat_getLast hne).symm
  refine ⟨hc, popQ_mem x (by rw [hc]; simp), fun y hy => popQ_mem y (by have h := List.mem_append_left [x] hy; rwa [← hc] at h), ?_⟩
  have := popQ_len q
  have h2 := congrArg List.length hc
  rw [List.length_append, List.length_singleton, this] at h2
  omega
/-- the main loop ends -/
theorem runL_ex {nd : List NdI} {root most base : Nat} (hf : FoK nd) : ∀ (a b : Nat) (st : LsS), nd.length * most - sumL st.lists ≤ a → st.q.length ≤ b → LInv nd most base st 0 0 → ∃ d r, runL nd root most d st = some r := by
  intro a
  induction a with
  | zero =>
    intro b
    induction b with
    | zero =>
      intro st _ hb _
      exact ⟨1, st, by rw [runL, if_pos (Or.inl (List.eq_nil_of_length_eq_zero (by omega)))]⟩
    | succ b ih =>
      intro st ha hb hi
      by_cases hend : st.q = [] ∨ most ≤ (lstAt st.lists root).length
      · exact ⟨1, st, by rw [runL, if_pos hend]⟩
      · cases hp : (popQ st.q).getLast? with
        | none => exact ⟨1, st, by rw [runL, if_neg hend, hp]⟩
        | some x =>
          obtain ⟨h1, h2, h3, h4⟩ := popQ_cut hp
          by_cases hbig : 5000 < x.2.size
          · exact ⟨1, { st with q := (popQ st.q).dropLast }, by rw [runL, if_neg hend, hp]; simp only [if_pos hbig]⟩
          · have hi2 := hi.pop (q := (popQ st.q).dropLast) (by omega) h3
            have hx := hi.qok x h2
            obtain ⟨t1, t2, t3⟩ := takeL_inv hf (x := x) hx.1 hx.2.1 hx.2.2.1 (by omega) hi2
            by_cases hfull : (lstAt st.lists x.1.1).length = most
            · have e := t2 hfull
              obtain ⟨d, r, hd⟩ := ih { st with q := (popQ st.q).dropLast } ha (by show (popQ st.q).dropLast.length ≤ b; omega) hi2
              exact ⟨d + 1, r, by rw [runL, if_neg hend, hp]; simp only [if_neg hbig, e]; exact hd⟩
            · have e := t3 hfull
              have hle := sumL_le _ fun v => (t1.lst v).1
              rw [t1.len] at hle
              have e' : sumL (takeL nd most x { st with q := (popQ st.q).dropLast }).lists = sumL st.lists + 1 := e
              omega
  | succ a iha =>
    intro b
    induction b with
    | zero =>
      intro st _ hb _
      exact ⟨1, st, by rw [runL, if_pos (Or.inl (List.eq_nil_of_length_eq_zero (by omega)))]⟩
    | succ b ih =>
      intro st ha hb hi
      by_cases hend : st.q = [] ∨ most ≤ (lstAt st.lists root).length
      · exact ⟨1, st, by rw [runL, if_pos hend]⟩
      · cases hp : (popQ st.q).getLast? with
        | none => exact ⟨1, st, by rw [runL, if_neg hend, hp]⟩
        | some x =>
          obtain ⟨h1, h2, h3, h4⟩ := popQ_cut hp
          by_cases hbig : 5000 < x.2.size
          · exact ⟨1, { st with q := (popQ st.q).dropLast }, by rw [runL, if_neg hend, hp]; simp only [if_pos hbig]⟩
          · have hi2 := hi.pop (q := (popQ st.q).dropLast) (by omega) h3
            have hx := hi.qok x h2
            obtain ⟨t1, t2, t3⟩ := takeL_inv hf (x := x) hx.1 hx.2.1 hx.2.2.1 (by omega) hi2
            by_cases hfull : (lstAt st.lists x.1.1).length = most
            · have e := t2 hfull
              obtain ⟨d, r, hd⟩ := ih { st with q := (popQ st.q).dropLast } ha (by show (popQ st.q).dropLast.length ≤ b; omega) hi2
              exact ⟨d + 1, r, by rw [runL, if_neg hend, hp]; simp only [if_neg hbig, e]; exact hd⟩
            · have e' : sumL (takeL nd most x { st with q := (popQ st.q).dropLast }).lists = sumL st.lists + 1 := t3 hfull
              obtain ⟨d, r, hd⟩ := iha _ (takeL nd most x { st with q := (popQ st.q).dropLast }) (by omega) (Nat.le_refl _) t1
              exact ⟨d + 1, r, by rw [runL, if_neg hend, hp]; simp only [if_neg hbig]; exact hd⟩
end Go.Proofs.YthiikgjeamoocaaDoor

