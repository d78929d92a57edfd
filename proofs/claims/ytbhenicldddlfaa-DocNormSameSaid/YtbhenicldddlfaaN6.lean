/- Texts NF, laid together. -/
import Derived.Test.YtbhenicldddlfaaN5


namespace Go.Proofs.Ytbhenicldddlfaa
open Go.RowKit

mutual
def Dc.grps : Dc → Nat
  | .node k _ _ ks => (if k = 6 then 1 else 0) + Dc.grpss ks
def Dc.grpss : List Dc → Nat
  | [] => 0
  | t :: ts => t.grps + Dc.grpss ts
end
theorem grps_eq (t : Dc) : t.grps = (if t.kind = 6 then 1 else 0) + Dc.grpss t.args := by cases t; rfl
theorem grpss_append (a b : List Dc) : Dc.grpss (a ++ b) = Dc.grpss a + Dc.grpss b := by
  induction a with
  | nil => simp [Dc.grpss]
  | cons t ts ih => simp only [List.cons_append, Dc.grpss, ih]; omega
theorem grpss_snoc (a : List Dc) (x : Dc) : Dc.grpss (a ++ [x]) = Dc.grpss a + x.grps := by rw [grpss_append]; simp [Dc.grpss]
theorem grpN_append (a b : List Opr) : grpN (a ++ b) = grpN a + grpN b := by simp [grpN]
theorem text_grps {t : Dc} (h : t.Ok) (hk : t.kind = 0) : t.grps = 0 := by
  rw [grps_eq, (h.text_of hk).1]; rfl
mutual
theorem grpN_ops (t : Dc) (h : t.Ok) : ∀ ind k, grpN (t.ops ind k) = t.grps := by
  intro ind k
  cases t with
  | node kd s i ks =>
    have hk := fun ind k => grpN_opsL ks h.arg ind k
    rw [Dc.ops, Dc.grps]
    cases h with
    | text s h => simp [grpN, Dc.grpss]
    | line k h1 h3 => rw [if_neg (by omega), if_pos h3, if_neg (by omega)]; simp [grpN, Dc.grpss]
    | cat ks h => simp [hk]
    | nest n t hn h => simp [hk]
    | group t h =>
      have e : ∀ (o : Opr) (l : List Opr), o.grp = true → grpN (o :: l) = 1 + grpN l := fun o l ho => by simp [grpN, ho]; omega
      simp only [show ¬ (6 = 0) by omega, show ¬ (6 ≤ 3) by omega, show ¬ (6 = 5) by omega, if_true, if_false]
      rw [e _ _ rfl, hk]
theorem grpN_opsL (ks : List Dc) (h : ∀ x ∈ ks, Dc.Ok x) : ∀ ind k, grpN (Dc.opsL ind ks k) = Dc.grpss ks := by
  intro ind k
  cases ks with
  | nil => rfl
  | cons t ts =>
    rw [Dc.opsL, grpN_append, grpN_ops t (h t (List.mem_cons_self ..)), grpN_opsL ts (fun x hx => h x (List.mem_cons_of_mem _ hx))]
    rfl
end

theorem grpss_splice (xs : List Dc) : Dc.grpss (spliceD xs) = Dc.grpss xs := by
  induction xs with
  | nil => rfl
  | cons x xs ih =>
    have e : spliceD (x :: xs) = (if x.kind = 4 then x.args else [x]) ++ spliceD xs := rfl
    rw [e, grpss_append, ih]
    simp only [Dc.grpss]
    split
    · rename_i hk; rw [grps_eq x, if_neg (by omega), Nat.zero_add]
    · simp [Dc.grpss]
theorem grpss_push (out : List Dc) (x : Dc) (ho : ∀ y ∈ out, y.Ok) (hx : x.Ok) : Dc.grpss (pushD out x) = Dc.grpss out + x.grps := by
  unfold pushD
  split
  · rename_i hc; rw [text_grps hx hc.1]; rfl
  · split
    · rename_i z hz
      have hzo := ho z (List.mem_of_getLast? hz)
      split
      · rename_i hc
        rw [List.getLast?_eq_some_iff] at hz
        obtain ⟨ys, rfl⟩ := hz
        have e4 : z.args = [] := by rw [(hzo.text_of hc.2.1).1]; rfl
        have e5 : (Dc.node z.kind (z.text ++ x.text) z.ind z.args).grps = 0 := by
          rw [grps_eq]
          show (if z.kind = 6 then 1 else 0) + Dc.grpss z.args = 0
          rw [e4, if_neg (by omega)]; rfl
        rw [List.dropLast_concat, grpss_snoc, grpss_snoc, text_grps hx hc.1, text_grps hzo hc.2.1, e5]
      · rw [grpss_snoc]
    · rw [grpss_snoc]
theorem grpss_merge (l : List Dc) (hl : ∀ x ∈ l, x.Ok) : Dc.grpss (mergeD l) = Dc.grpss l := by
  have key : ∀ (l out : List Dc), (∀ x ∈ l, x.Ok) → (∀ y ∈ out, y.Ok) → Dc.grpss (l.foldl pushD out) = Dc.grpss out + Dc.grpss l := by
    intro l
    induction l with
    | nil => intro out _ _; simp [Dc.grpss]
    | cons a l ih =>
      intro out h1 h2
      have ha := h1 a (List.mem_cons_self ..)
      rw [List.foldl_cons, ih _ (fun x hx => h1 x (List.mem_cons_of_mem _ hx)) (pushD_ok h2 ha), grpss_push out a h2 ha]
      simp only [Dc.grpss]; omega
  rw [mergeD, key l [] hl (by simp)]
  simp [Dc.grpss]
mutual
theorem grps_nrm (t : Dc) (h : t.Ok) : t.nrm.grps = t.grps := by
  cases t with
  | node k s i ks =>
    have hk : Dc.grpss (Dc.nrms ks) = Dc.grpss ks := grpss_nrms ks h.arg
    have hok := Dc.nrms_ok ks h.arg
    rw [Dc.nrm]
    cases h with
    | text s h => simp [Dc.nrms]
    | line k h1 h3 => rw [if_neg (by omega), if_neg (by omega)]; rfl
    | cat ks h =>
      rw [if_neg (by omega), if_pos rfl, grps_eq (.node 4 _ _ ks)]
      simp only [Dc.args, Dc.kind]
      rw [← hk, ← grpss_splice (Dc.nrms ks), ← grpss_merge _ (spliceD_ok hok)]
      unfold catD
      split
      · rename_i x e; rw [e]; simp [Dc.grpss]
      · rw [grps_eq]; rfl
    | nest n t hn h =>
      rw [if_pos rfl, grps_eq (.node 5 _ _ [t])]
      simp only [Dc.args, Dc.kind, Dc.nrms, Dc.grpss, Nat.add_zero] at hk ⊢
      rw [← hk]
      unfold nestD
      split
      · simp
      · split
        · rename_i hc
          have e1 : t.nrm.grps = Dc.grpss t.nrm.args := by rw [grps_eq t.nrm, if_neg (by omega), Nat.zero_add]
          have e2 : (Dc.node 5 ⟨#[]⟩ (t.nrm.ind + i) t.nrm.args).grps = Dc.grpss t.nrm.args := by
            simp [Dc.grps]
          rw [e1, e2]; simp
        · rw [grps_eq]; simp [Dc.args, Dc.kind, Dc.grpss]
    | group t h =>
      rw [if_neg (by omega), if_neg (by omega), grps_eq, grps_eq (.node 6 _ _ [t])]
      simp only [Dc.args, Dc.kind]
      rw [hk]
theorem grpss_nrms (ks : List Dc) (h : ∀ x ∈ ks, Dc.Ok x) : Dc.grpss (Dc.nrms ks) = Dc.grpss ks := by
  cases ks with
  | nil => rfl
  | cons t ts =>
    simp only [Dc.nrms, Dc.grpss]
    rw [grps_nrm t (h t (List.mem_cons_self ..)), grpss_nrms ts fun x hx => h x (List.mem_cons_of_mem _ hx)]
end
theorem grpN_nrm {t : Dc} (h : t.Ok) : grpN (t.nrm.ops 0 0) = grpN (t.ops 0 0) := by
  rw [grpN_ops _ (Dc.nrm_ok t h), grpN_ops _ h, grps_nrm t h]
end Go.Proofs.Ytbhenicldddlfaa

