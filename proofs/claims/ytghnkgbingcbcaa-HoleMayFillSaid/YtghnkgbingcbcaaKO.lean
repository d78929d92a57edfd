/- Symbols, rules, grammars, trees: as plain data and in memory. -/
import Derived.Test.YtghnkgbingcbcaaKN
namespace Go.Proofs.Ytghnkgbingcbcaa
open Go.RowKit

abbrev SlV := Option Addr × Nat × Nat

/-! ### symbols: a terminal or not, its number -/
abbrev Sy := Bool × Nat
def SyE : Elem Sy Sy where
  k := 2
  cells s := [.bool s.1, .int .i64 (s.2 : Int)]
  rel _ _ r x := r = x
  pos := by omega
  len _ := rfl
  one r u hu := by simp at hu; rcases hu with rfl | rfl <;> rfl
  agr h _ := h
  mono h _ := h

/-! ### rules: the left side's number, the right side -/
abbrev Ru := Nat × List Sy
def RuE : Elem Ru (Nat × SlV) where
  k := 2
  cells r := [.int .i64 (r.1 : Int), .slice r.2.1 r.2.2.1 r.2.2.2]
  rel ok w r x := r.1 = x.1 ∧ Sl SyE ok w r.2.1 r.2.2.1 r.2.2.2 x.2
  pos := by omega
  len _ := rfl
  one r u hu := by simp at hu; rcases hu with rfl | rfl <;> rfl
  agr h k := ⟨h.1, h.2.agr k⟩
  mono h k := ⟨h.1, h.2.mono k⟩

/-- a grammar -/
structure Gr where
  terms : Nat
  nons : Nat
  start : Nat
  rules : List Ru

/-! ### trees -/
inductive Tr where
  | leaf (t : Nat)
  | node (r : Nat) (kids : List Tr)

abbrev TrV := Int × Int × SlV
def trCells (r : TrV) : List Value := [.int .i64 r.1, .int .i64 r.2.1, .slice r.2.2.1 r.2.2.2.1 r.2.2.2.2]

inductive TreeR (ok : Nat → Prop) (w : World) : TrV → Tr → Prop
  | leaf (t : Nat) (A : Option Addr) (c : Nat) : TreeR ok w (-1, (t : Int), A, 0, c) (.leaf t)
  | node (r : Nat) (A : Option Addr) (n c : Nat) (kids : List Tr) (raw : List TrV) (hl : kids.length = n) (hc : n ≤ c) (hr : raw.length = n) (hcel : Cel ok w A (raw.flatMap trCells))
      (hk : ∀ (i : Nat) (x : TrV) (t : Tr), raw[i]? = some x → kids[i]? = some t → TreeR ok w x t) : TreeR ok w ((r : Int), 0, A, n, c) (.node r kids)

theorem TreeR.agr {ok : Nat → Prop} {w w' : World} {v : TrV} {t : Tr} (h : TreeR ok w v t) (k : Agr ok w w') : TreeR ok w' v t := by
  induction h with
  | leaf t A c => exact .leaf t A c
  | node r A n c kids raw hl hc hr hcel _ ih => exact .node r A n c kids raw hl hc hr (hcel.agr k) ih
theorem TreeR.mono {ok ok' : Nat → Prop} {w : World} {v : TrV} {t : Tr} (h : TreeR ok w v t) (k : ∀ b, b < w.heap.size → ok b → ok' b) : TreeR ok' w v t := by
  induction h with
  | leaf t A c => exact .leaf t A c
  | node r A n c kids raw hl hc hr hcel _ ih => exact .node r A n c kids raw hl hc hr (hcel.mono k) ih

def TrE : Elem Tr TrV where
  k := 3
  cells := trCells
  rel := TreeR
  pos := by omega
  len _ := rfl
  one r u hu := by simp [trCells] at hu; rcases hu with rfl | rfl | rfl <;> rfl
  agr h k := h.agr k
  mono h k := h.mono k

section
variable {ok ok' : Nat → Prop} {w w' : World} {v : TrV} {t : Tr}
theorem TreeR.via (h : TreeR ok w v t) (hb : Below w.heap.size w w') : TreeR ok w' v t := h.agr (Agr.below hb)
theorem TreeR.al (h : TreeR ok w v t) (o : Obj) : TreeR ok (w.alloc o) v t := h.agr (Agr.below ((Below.refl w.heap.size w).alloc (Nat.le_refl _) o))
theorem TreeR.dr (h : TreeR ok w v t) : TreeR ok w.drew v t := h.agr (Agr.below ((Below.refl w.heap.size w).drew))
theorem TreeR.kids {r tm : Int} {A : Option Addr} {n c : Nat} {rn : Nat} {kids : List Tr} (h : TreeR ok w (r, tm, A, n, c) (.node rn kids)) : r = rn ∧ tm = 0 ∧ Sl TrE ok w A n c kids := by
  cases h with
  | node _ _ _ _ _ raw hl hc hr hcel hk => exact ⟨rfl, rfl, hl, hc, raw, hr, hcel, hk⟩
theorem TreeR.mk (rn : Nat) {A : Option Addr} {n c : Nat} {kids : List Tr} (h : Sl TrE ok w A n c kids) : TreeR ok w ((rn : Int), 0, A, n, c) (.node rn kids) := by
  obtain ⟨h1, h2, raw, h3, h4, h5⟩ := h
  exact .node rn A n c kids raw h1 h2 h3 h4 h5
theorem TreeR.ofLeaf {r tm : Int} {A : Option Addr} {n c : Nat} {k : Nat} (h : TreeR ok w (r, tm, A, n, c) (.leaf k)) : r = -1 ∧ tm = k ∧ n = 0 := by
  cases h; exact ⟨rfl, rfl, rfl⟩
end

/-- the value of a tree -/
def trVal (v : TrV) : Value := .agg #[.int .i64 v.1, .int .i64 v.2.1, .slice v.2.2.1 v.2.2.2.1 v.2.2.2.2]
/-- the value of a grammar in memory -/
structure GrR (ok : Nat → Prop) (w : World) (A : Option Addr) (n c : Nat) (g : Gr) : Prop where
  rules : Sl RuE ok w A n c g.rules
def grVal (g : Gr) (A : Option Addr) (n c : Nat) : Value := .agg #[.int .i64 (g.terms : Int), .int .i64 (g.nons : Int), .int .i64 (g.start : Int), .slice A n c]

/-! ### plain functions on trees -/
mutual
def Tr.size : Tr → Nat
  | .leaf _ => 1
  | .node _ ks => Tr.sizes ks + 1
def Tr.sizes : List Tr → Nat
  | [] => 0
  | t :: ts => t.size + Tr.sizes ts
end
mutual
def Tr.word : Tr → List Nat
  | .leaf t => [t]
  | .node _ ks => Tr.words ks
def Tr.words : List Tr → List Nat
  | [] => []
  | t :: ts => t.word ++ Tr.words ts
end
def Tr.kids : Tr → List Tr
  | .leaf _ => []
  | .node _ ks => ks
theorem Tr.sizes_append (a b : List Tr) : Tr.sizes (a ++ b) = Tr.sizes a + Tr.sizes b := by
  induction a with
  | nil => simp [Tr.sizes]
  | cons t ts ih => simp only [List.cons_append, Tr.sizes, ih]; omega
theorem Tr.words_append (a b : List Tr) : Tr.words (a ++ b) = Tr.words a ++ Tr.words b := by
  induction a with
  | nil => simp [Tr.words]
  | cons t ts ih => simp only [List.cons_append, Tr.words, ih, List.append_assoc]
theorem Tr.size_pos (t : Tr) : 0 < t.size := by cases t <;> simp [Tr.size]
theorem Tr.size_mem {t : Tr} {ks : List Tr} (h : t ∈ ks) : t.size ≤ Tr.sizes ks := by
  induction ks with
  | nil => cases h
  | cons a ks ih =>
    rcases List.mem_cons.1 h with rfl | h
    · simp [Tr.sizes]
    · have := ih h; simp only [Tr.sizes]; omega

/-- a valid grammar -/
def Gr.okSy (g : Gr) (s : Sy) : Prop := if s.1 then s.2 < g.terms else s.2 < g.nons
structure Gr.Ok (g : Gr) : Prop where
  terms : 1 ≤ g.terms ∧ g.terms ≤ 8
  nons : 1 ≤ g.nons ∧ g.nons ≤ 10
  start : g.start < g.nons
  count : g.rules.length ≤ 32
  left : ∀ r ∈ g.rules, r.1 < g.nons
  right : ∀ r ∈ g.rules, r.2.length ≤ 4 ∧ ∀ s ∈ r.2, g.okSy s
end Go.Proofs.Ytghnkgbingcbcaa
