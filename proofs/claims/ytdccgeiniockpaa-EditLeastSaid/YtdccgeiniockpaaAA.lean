/- TreePutAt: the plain law, the walk. -/
import Derived.Test.YtdccgeiniockpaaZ
namespace Go.Proofs.Ytdccgeiniockpaa
open Go.RowKit

theorem Tr.put_at {s z : Tr} {q : List Nat} : ∀ {t : Tr}, t.at? q = some z → (Tr.put s q t).at? q = some s := by
  induction q with
  | nil => intro t _; rfl
  | cons i p ih =>
    intro t h
    simp only [Tr.at?] at h ⊢
    cases hk : t.kids[i]? with
    | none => rw [hk] at h; cases h
    | some k =>
      rw [hk] at h
      rw [Tr.put, Tr.mapKids_kids, List.getElem?_mapIdx, hk]
      simp only [Option.map_some, if_pos]
      exact ih h
theorem Tr.put_put {s z : Tr} {q : List Nat} : ∀ {t : Tr}, t.at? q = some z → Tr.put z q (Tr.put s q t) = t := by
  induction q with
  | nil => intro t h; simp only [Tr.at?] at h; cases h; rfl
  | cons i p ih =>
    intro t h
    simp only [Tr.at?] at h
    cases hk : t.kids[i]? with
    | none => rw [hk] at h; cases h
    | some k =>
      rw [hk] at h
      cases t with
      | leaf a => simp [Tr.kids] at hk
      | node r ks =>
        simp only [Tr.put, Tr.mapKids, Tr.node.injEq, true_and]
        refine List.ext_getElem? fun j => ?_
        rw [List.getElem?_mapIdx, List.getElem?_mapIdx]
        by_cases hj : j = i
        · subst hj
          rw [show ks[j]? = some k from hk]
          simp [ih h]
        · cases hkj : ks[j]? with
          | none => rfl
          | some y => simp [hj]
theorem Tr.sizes_mapIdx {g : Tr → Tr} {k : Tr} : ∀ {ks : List Tr} {i : Nat}, ks[i]? = some k → Tr.sizes (ks.mapIdx fun j x => if j = i then g x else x) + k.size = Tr.sizes ks + (g k).size := by
  intro ks
  induction ks with
  | nil => intro i h; simp at h
  | cons a l ih =>
    intro i h
    rw [List.mapIdx_cons]
    cases i with
    | zero =>
      simp only [List.getElem?_cons_zero, Option.some.injEq] at h
      subst h
      have e : (l.mapIdx fun j x => if j + 1 = 0 then g x else x) = l := by
        refine List.ext_getElem? fun j => ?_
        rw [List.getElem?_mapIdx]
        cases l[j]? <;> simp
      rw [e]
      simp only [Tr.sizes, if_pos]; omega
    | succ i =>
      simp only [List.getElem?_cons_succ] at h
      have e := ih h
      have e2 : (l.mapIdx fun j x => if j + 1 = i + 1 then g x else x) = l.mapIdx fun j x => if j = i then g x else x := by
        congr 1; funext j x; simp
      rw [e2]
      simp only [Tr.sizes]
      rw [if_neg (by omega)]
      omega
theorem Tr.put_size {s z : Tr} {q : List Nat} : ∀ {t : Tr}, t.at? q = some z → (Tr.put s q t).size + z.size = t.size + s.size := by
  induction q with
  | nil => intro t h; simp only [Tr.at?] at h; cases h; simp only [Tr.put]; omega
  | cons i p ih =>
    intro t h
    simp only [Tr.at?] at h
    cases hk : t.kids[i]? with
    | none => rw [hk] at h; cases h
    | some k =>
      rw [hk] at h
      have e1 := ih h
      have e2 := Tr.sizes_mapIdx (g := Tr.put s p) hk
      rw [Tr.size_eq (Tr.put s (i :: p) t), Tr.size_eq t, Tr.put, Tr.mapKids_kids]
      omega

theorem MadeG.hng {g : Gr} (h : MadeG g) : g.rules.length ≤ 1000 := by have := h.count; omega
theorem MadeG.hrl {g : Gr} (h : MadeG g) : ∀ r ∈ g.rules, r.2.length ≤ 1000 := fun r hr => by have := (h.ok r hr).2.1; omega
theorem twoSize : twoT.size = 4 := by simp [twoT, Tr.size, Tr.sizes]

theorem same_a (a b : Int) (A : Option Addr) (n c : Nat) (a2 b2 : Int) (B : Option Addr) (m d : Nat) (t : Tr) (w : World) (h1 : TreeR (fun _ => True) w (a, b, A, n, c) t) (h2 : TreeR (fun _ => True) w (a2, b2, B, m, d) t) (hz : t.size ≤ 1000000) :
    Calls Try.prog 23 #[.agg #[.int .i64 a, .int .i64 b, .slice A n c], .agg #[.int .i64 a2, .int .i64 b2, .slice B m d]] w (BoolB w true) := by
  have := same_n 1000000 (Nat.le_refl _) (fun _ => True) (a, b, A, n, c) (a2, b2, B, m, d) t w h1 h2 hz
  simp only [trVal] at this
  exact this
theorem size_a (a b : Int) (A : Option Addr) (n c : Nat) (t : Tr) (w : World) (h1 : TreeR (fun _ => True) w (a, b, A, n, c) t) (hz : t.size ≤ 1000000) :
    Calls Try.prog 16 #[.agg #[.int .i64 a, .int .i64 b, .slice A n c]] w (IntB w t.size) := by
  have := size_c (fun _ => True) (a, b, A, n, c) t w h1 hz
  simp only [trVal] at this
  exact this

set_option maxRecDepth 100000 in
set_option maxHeartbeats 8000000 in
theorem putAt_walk (A B C D : Option Addr) (n c m d p e' q' f : Nat) (l1 l2 l3 l4 : List Int) (w : World) (h1 : Ints w A n c l1) (h2 : Ints w B m d l2) (h3 : Ints w C p e' l3) (h4 : Ints w D q' f l4) :
    Calls Try.prog 4 #[.slice A n c, .slice B m d, .slice C p e', .slice D q' f] w fun e w' => e = .returned (.bool true) ∧ Below w.heap.size w w' := by
  go_enter Try.func4, Try.ntmps4
  go_wp2_with fail
  refine (two_c w).mono ?_
  rintro e w1 ⟨⟨va, vb, vA, vn, vc⟩, rfl, hT, hb⟩
  dsimp only [trVal]
  have hB := hb
  go_wp2_with fail
  refine (size_c _ (va, vb, vA, vn, vc) twoT w1 hT (by rw [twoSize]; omega)).mono ?_
  rintro e w2 ⟨he, hb⟩
  rw [twoSize] at he
  subst he
  replace hB := hB.via hb
  clear hT hb
  go_wp2_with fail
  refine (grammar_c A n c l1 w2 (h1.keep hB (Nat.le_refl _))).mono ?_
  rintro e w3 ⟨g, Ag, ng, cg, rfl, hG, hS, hb⟩
  replace hB := hB.via hb
  clear hb h1
  dsimp only [grVal]
  have Bg := Blk.new w3 40 #[.int .i64 (g.terms : Int), .int .i64 (g.nons : Int), .int .i64 (g.start : Int), .slice Ag ng cg]
  replace hS := hS.al (.cells #[.int .i64 (g.terms : Int), .int .i64 (g.nons : Int), .int .i64 (g.start : Int), .slice Ag ng cg] 40)
  replace hB := hB.al (.cells #[.int .i64 (g.terms : Int), .int .i64 (g.nons : Int), .int .i64 (g.start : Int), .slice Ag ng cg] 40)
  have HS := Lib.hid hS
  clear hS
  go_wp2_with fail
  generalize w3.alloc (.cells #[.int .i64 (g.terms : Int), .int .i64 (g.nons : Int), .int .i64 (g.start : Int), .slice Ag ng cg] 40) = w4 at *
  refine (make_c _ g Ag ng cg hG.hng hG.hrl B m d l2 w4 HS.out (h2.keep hB (Nat.le_refl _))).mono ?_
  rintro e w5 ⟨⟨ta, tb, tA, tn, tc⟩, b1, rfl, hb, ht⟩
  have hS := HS.out.via hb
  replace hB := hB.via hb
  replace Bg := Bg.via hb
  have K5 := Below.refl w5.heap.size w5
  have HT := Lib.hid ht
  clear HS hb h2 ht
  dsimp only [trVal]
  have Bt := Blk.new w5 36 #[.int .i64 ta, .int .i64 tb, .slice tA tn tc]
  replace Bg := Bg.al (.cells #[.int .i64 ta, .int .i64 tb, .slice tA tn tc] 36)
  replace hB := hB.al (.cells #[.int .i64 ta, .int .i64 tb, .slice tA tn tc] 36)
  replace hS := hS.al (.cells #[.int .i64 ta, .int .i64 tb, .slice tA tn tc] 36)
  replace K5 := K5.al (.cells #[.int .i64 ta, .int .i64 tb, .slice tA tn tc] 36)
  have cBg := Bg.cell
  have fBg := Bg.frozen
  have lBg := Bg.lt
  go_wp2_with fail
  clear cBg fBg lBg
  generalize hW : w5.alloc (.cells #[.int .i64 ta, .int .i64 tb, .slice tA tn tc] 36) = W5 at *
  clear hW
  refine (make_c _ g Ag ng cg hG.hng hG.hrl C p e' l3 W5 hS (h3.keep hB (Nat.le_refl _))).mono ?_
  rintro e w6 ⟨⟨sa, sb, sA, sn, sc⟩, b2, rfl, hb, hs⟩
  replace hB := hB.via hb
  replace Bt := Bt.via hb
  replace K5 := K5.via hb
  have K6 := Below.refl w6.heap.size w6
  have HS := Lib.hid hs
  clear hS hb h3 hs Bg
  dsimp only [trVal]
  have hbound : ∀ t : Tr, t.size ≤ 60 → t.size ≤ 1000000 := fun t ht => by omega
  cases b1 with
  | false =>
    go_wp2_with fail
    go_ret
    exact ⟨rfl, hB.al _⟩
  | true =>
  cases b2 with
  | false =>
    go_wp2_with fail
    go_ret
    exact ⟨rfl, hB.al _⟩
  | true =>
  obtain ⟨t, hT, -, hTs⟩ := HT.out rfl
  obtain ⟨s, hU, -, hUs⟩ := HS.out rfl
  have hTz := hbound t hTs
  have hUz := hbound s hUs
  have HT2 := Lib.hid hT
  have HU2 := Lib.hid hU
  clear HT HS hT hU hbound
  have Bs := Blk.new w6 36 #[.int .i64 sa, .int .i64 sb, .slice sA sn sc]
  replace Bt := Bt.al (.cells #[.int .i64 sa, .int .i64 sb, .slice sA sn sc] 36)
  replace hB := hB.al (.cells #[.int .i64 sa, .int .i64 sb, .slice sA sn sc] 36)
  replace K5 := K5.al (.cells #[.int .i64 sa, .int .i64 sb, .slice sA sn sc] 36)
  replace K6 := K6.al (.cells #[.int .i64 sa, .int .i64 sb, .slice sA sn sc] 36)
  have cBt := Bt.cell
  have fBt := Bt.frozen
  have lBt := Bt.lt
  go_wp2_with fail
  clear cBt fBt lBt
  generalize hW : w6.alloc (.cells #[.int .i64 sa, .int .i64 sb, .slice sA sn sc] 36) = W6 at *
  clear hW
  refine (path_c _ (ta, tb, tA, tn, tc) t W6 (HT2.out.via K5) hTz D q' f l4 (h4.keep hB (Nat.le_refl _))).mono ?_
  rintro e w7 ⟨PA, pn, pc, q, z, rfl, hP, hq, hb⟩
  replace hB := hB.via hb
  replace Bt := Bt.via hb
  replace Bs := Bs.via hb
  replace K5 := K5.via hb
  replace K6 := K6.via hb
  have HQ := Lib.hid hq
  clear hb h4 hq
  have cBt := Bt.cell
  have fBt := Bt.frozen
  have lBt := Bt.lt
  have cBs := Bs.cell
  have fBs := Bs.frozen
  have lBs := Bs.lt
  go_wp2_with fail
  clear cBt fBt lBt cBs fBs lBs
  refine (at_c _ (ta, tb, tA, tn, tc) t w7 (HT2.out.via K5) hTz PA pn pc q hP z HQ.out).mono ?_
  rintro e w8 ⟨⟨oa, ob, oA, on', oc⟩, rfl, hO, hb⟩
  replace hB := hB.via hb
  replace Bt := Bt.via hb
  replace Bs := Bs.via hb
  replace K5 := K5.via hb
  replace K6 := K6.via hb
  replace hP := hP.via hb
  have K8 := Below.refl w8.heap.size w8
  have HO := Lib.hid hO
  clear hb hO
  dsimp only [trVal]
  have Bo := Blk.new w8 36 #[.int .i64 oa, .int .i64 ob, .slice oA on' oc]
  replace Bt := Bt.al (.cells #[.int .i64 oa, .int .i64 ob, .slice oA on' oc] 36)
  replace Bs := Bs.al (.cells #[.int .i64 oa, .int .i64 ob, .slice oA on' oc] 36)
  replace hB := hB.al (.cells #[.int .i64 oa, .int .i64 ob, .slice oA on' oc] 36)
  replace K5 := K5.al (.cells #[.int .i64 oa, .int .i64 ob, .slice oA on' oc] 36)
  replace K6 := K6.al (.cells #[.int .i64 oa, .int .i64 ob, .slice oA on' oc] 36)
  replace K8 := K8.al (.cells #[.int .i64 oa, .int .i64 ob, .slice oA on' oc] 36)
  replace hP := hP.al (.cells #[.int .i64 oa, .int .i64 ob, .slice oA on' oc] 36)
  have cBt := Bt.cell
  have fBt := Bt.frozen
  have lBt := Bt.lt
  have cBs := Bs.cell
  have fBs := Bs.frozen
  have lBs := Bs.lt
  go_wp2_with fail
  clear cBt fBt lBt
  clear cBs fBs lBs
  generalize hW : w8.alloc (.cells #[.int .i64 oa, .int .i64 ob, .slice oA on' oc] 36) = W8 at *
  clear hW
  refine (putO_c (fun _ => True) (ta, tb, tA, tn, tc) (sa, sb, sA, sn, sc) t s W8 ((HT2.out.via K5).mono fun _ _ _ => trivial) ((HU2.out.via K6).mono fun _ _ _ => trivial) hTz hUz PA pn pc q hP z HQ.out).mono ?_
  rintro e w9 ⟨⟨ua, ub, uA, un, uc⟩, rfl, hV, hb⟩
  replace hB := hB.via hb
  replace Bt := Bt.via hb
  replace Bs := Bs.via hb
  replace Bo := Bo.via hb
  replace K5 := K5.via hb
  replace K6 := K6.via hb
  replace K8 := K8.via hb
  replace hP := hP.via hb
  have K9 := Below.refl w9.heap.size w9
  have HV := Lib.hid hV
  clear hb hV
  dsimp only [trVal]
  have hzs := Tr.put_size (s := s) HQ.out
  have hzz := Tr.at_size HQ.out
  have hpz : (Tr.put s q t).size ≤ 1000000 := by omega
  have hz1 : z.size ≤ 1000000 := by omega
  have Bu := Blk.new w9 36 #[.int .i64 ua, .int .i64 ub, .slice uA un uc]
  replace Bt := Bt.al (.cells #[.int .i64 ua, .int .i64 ub, .slice uA un uc] 36)
  replace Bs := Bs.al (.cells #[.int .i64 ua, .int .i64 ub, .slice uA un uc] 36)
  replace Bo := Bo.al (.cells #[.int .i64 ua, .int .i64 ub, .slice uA un uc] 36)
  replace hB := hB.al (.cells #[.int .i64 ua, .int .i64 ub, .slice uA un uc] 36)
  replace K5 := K5.al (.cells #[.int .i64 ua, .int .i64 ub, .slice uA un uc] 36)
  replace K6 := K6.al (.cells #[.int .i64 ua, .int .i64 ub, .slice uA un uc] 36)
  replace K8 := K8.al (.cells #[.int .i64 ua, .int .i64 ub, .slice uA un uc] 36)
  replace K9 := K9.al (.cells #[.int .i64 ua, .int .i64 ub, .slice uA un uc] 36)
  replace hP := hP.al (.cells #[.int .i64 ua, .int .i64 ub, .slice uA un uc] 36)
  have cBt := Bt.cell
  have fBt := Bt.frozen
  have lBt := Bt.lt
  have cBs := Bs.cell
  have fBs := Bs.frozen
  have lBs := Bs.lt
  have cBo := Bo.cell
  have fBo := Bo.frozen
  have lBo := Bo.lt
  go_wp2_with fail
  clear cBt fBt lBt
  clear cBs fBs lBs
  clear cBo fBo lBo
  generalize hW : w9.alloc (.cells #[.int .i64 ua, .int .i64 ub, .slice uA un uc] 36) = W9 at *
  clear hW
  refine (at_c _ (ua, ub, uA, un, uc) (Tr.put s q t) W9 (HV.out.via K9) hpz PA pn pc q hP s (Tr.put_at HQ.out)).mono ?_
  rintro e w10 ⟨⟨xa, xb, xA, xn, xc⟩, rfl, hX, hb⟩
  replace hB := hB.via hb
  replace Bt := Bt.via hb
  replace Bs := Bs.via hb
  replace Bo := Bo.via hb
  replace Bu := Bu.via hb
  replace K5 := K5.via hb
  replace K6 := K6.via hb
  replace K8 := K8.via hb
  replace K9 := K9.via hb
  replace hP := hP.via hb
  have K10 := Below.refl w10.heap.size w10
  have HX := Lib.hid hX
  clear hb hX
  dsimp only [trVal]
  have Bx := Blk.new w10 36 #[.int .i64 xa, .int .i64 xb, .slice xA xn xc]
  replace Bt := Bt.al (.cells #[.int .i64 xa, .int .i64 xb, .slice xA xn xc] 36)
  replace Bs := Bs.al (.cells #[.int .i64 xa, .int .i64 xb, .slice xA xn xc] 36)
  replace Bo := Bo.al (.cells #[.int .i64 xa, .int .i64 xb, .slice xA xn xc] 36)
  replace Bu := Bu.al (.cells #[.int .i64 xa, .int .i64 xb, .slice xA xn xc] 36)
  replace hB := hB.al (.cells #[.int .i64 xa, .int .i64 xb, .slice xA xn xc] 36)
  replace K5 := K5.al (.cells #[.int .i64 xa, .int .i64 xb, .slice xA xn xc] 36)
  replace K6 := K6.al (.cells #[.int .i64 xa, .int .i64 xb, .slice xA xn xc] 36)
  replace K8 := K8.al (.cells #[.int .i64 xa, .int .i64 xb, .slice xA xn xc] 36)
  replace K9 := K9.al (.cells #[.int .i64 xa, .int .i64 xb, .slice xA xn xc] 36)
  replace K10 := K10.al (.cells #[.int .i64 xa, .int .i64 xb, .slice xA xn xc] 36)
  replace hP := hP.al (.cells #[.int .i64 xa, .int .i64 xb, .slice xA xn xc] 36)
  have cBt := Bt.cell
  have fBt := Bt.frozen
  have lBt := Bt.lt
  have cBs := Bs.cell
  have fBs := Bs.frozen
  have lBs := Bs.lt
  have cBo := Bo.cell
  have fBo := Bo.frozen
  have lBo := Bo.lt
  have cBu := Bu.cell
  have fBu := Bu.frozen
  have lBu := Bu.lt
  go_wp2_with fail
  clear cBt fBt lBt
  clear cBs fBs lBs
  clear cBo fBo lBo
  clear cBu fBu lBu
  generalize hW : w10.alloc (.cells #[.int .i64 xa, .int .i64 xb, .slice xA xn xc] 36) = W10 at *
  clear hW
  refine (putO_c (fun _ => True) (ua, ub, uA, un, uc) (oa, ob, oA, on', oc) (Tr.put s q t) z W10 ((HV.out.via K9).mono fun _ _ _ => trivial) ((HO.out.via K8).mono fun _ _ _ => trivial) hpz hz1 PA pn pc q hP s (Tr.put_at HQ.out)).mono ?_
  rintro e w11 ⟨⟨ya, yb, yA, yn, yc⟩, rfl, hY, hb⟩
  rw [Tr.put_put HQ.out] at hY
  replace hB := hB.via hb
  replace Bt := Bt.via hb
  replace Bs := Bs.via hb
  replace Bo := Bo.via hb
  replace Bu := Bu.via hb
  replace Bx := Bx.via hb
  replace K5 := K5.via hb
  replace K6 := K6.via hb
  replace K8 := K8.via hb
  replace K9 := K9.via hb
  replace K10 := K10.via hb
  have K11 := Below.refl w11.heap.size w11
  have HY := Lib.hid hY
  clear hb hY hP
  dsimp only [trVal]
  have By := Blk.new w11 36 #[.int .i64 ya, .int .i64 yb, .slice yA yn yc]
  replace Bt := Bt.al (.cells #[.int .i64 ya, .int .i64 yb, .slice yA yn yc] 36)
  replace Bs := Bs.al (.cells #[.int .i64 ya, .int .i64 yb, .slice yA yn yc] 36)
  replace Bo := Bo.al (.cells #[.int .i64 ya, .int .i64 yb, .slice yA yn yc] 36)
  replace Bu := Bu.al (.cells #[.int .i64 ya, .int .i64 yb, .slice yA yn yc] 36)
  replace Bx := Bx.al (.cells #[.int .i64 ya, .int .i64 yb, .slice yA yn yc] 36)
  replace hB := hB.al (.cells #[.int .i64 ya, .int .i64 yb, .slice yA yn yc] 36)
  replace K5 := K5.al (.cells #[.int .i64 ya, .int .i64 yb, .slice yA yn yc] 36)
  replace K6 := K6.al (.cells #[.int .i64 ya, .int .i64 yb, .slice yA yn yc] 36)
  replace K8 := K8.al (.cells #[.int .i64 ya, .int .i64 yb, .slice yA yn yc] 36)
  replace K9 := K9.al (.cells #[.int .i64 ya, .int .i64 yb, .slice yA yn yc] 36)
  replace K10 := K10.al (.cells #[.int .i64 ya, .int .i64 yb, .slice yA yn yc] 36)
  replace K11 := K11.al (.cells #[.int .i64 ya, .int .i64 yb, .slice yA yn yc] 36)
  have cBt := Bt.cell
  have fBt := Bt.frozen
  have lBt := Bt.lt
  have cBs := Bs.cell
  have fBs := Bs.frozen
  have lBs := Bs.lt
  have cBo := Bo.cell
  have fBo := Bo.frozen
  have lBo := Bo.lt
  have cBu := Bu.cell
  have fBu := Bu.frozen
  have lBu := Bu.lt
  have cBx := Bx.cell
  have fBx := Bx.frozen
  have lBx := Bx.lt
  go_wp2_with fail
  clear cBt fBt lBt
  clear cBs fBs lBs
  clear cBo fBo lBo
  clear cBu fBu lBu
  clear cBx fBx lBx
  generalize hW : w11.alloc (.cells #[.int .i64 ya, .int .i64 yb, .slice yA yn yc] 36) = W11 at *
  clear hW
  have T1 := Lib.hid (show ∀ w', Below W11.heap.size W11 w' → TreeR (fun _ => True) w' (xa, xb, xA, xn, xc) s from fun w' hb => (HX.out.via (K10.via hb)).mono fun _ _ _ => trivial)
  have T2 := Lib.hid (show ∀ w', Below W11.heap.size W11 w' → TreeR (fun _ => True) w' (sa, sb, sA, sn, sc) s from fun w' hb => (HU2.out.via (K6.via hb)).mono fun _ _ _ => trivial)
  have T3 := Lib.hid (show ∀ w', Below W11.heap.size W11 w' → TreeR (fun _ => True) w' (ya, yb, yA, yn, yc) t from fun w' hb => (HY.out.via (K11.via hb)).mono fun _ _ _ => trivial)
  have T4 := Lib.hid (show ∀ w', Below W11.heap.size W11 w' → TreeR (fun _ => True) w' (ta, tb, tA, tn, tc) t from fun w' hb => (HT2.out.via (K5.via hb)).mono fun _ _ _ => trivial)
  have T5 := Lib.hid (show ∀ w', Below W11.heap.size W11 w' → TreeR (fun _ => True) w' (ua, ub, uA, un, uc) (Tr.put s q t) from fun w' hb => (HV.out.via (K9.via hb)).mono fun _ _ _ => trivial)
  have T6 := Lib.hid (show ∀ w', Below W11.heap.size W11 w' → TreeR (fun _ => True) w' (oa, ob, oA, on', oc) z from fun w' hb => (HO.out.via (K8.via hb)).mono fun _ _ _ => trivial)
  have SOF := Lib.hid (show ∀ w', Below W11.heap.size W11 w' → ((∀ i, w'.cell? ⟨w5.heap.size, i, none⟩ = #[.int .i64 ta, .int .i64 tb, .slice tA tn tc][i]?) ∧ (∀ i, w'.cell? ⟨w6.heap.size, i, none⟩ = #[.int .i64 sa, .int .i64 sb, .slice sA sn sc][i]?) ∧ (∀ i, w'.cell? ⟨w8.heap.size, i, none⟩ = #[.int .i64 oa, .int .i64 ob, .slice oA on' oc][i]?) ∧ (∀ i, w'.cell? ⟨w9.heap.size, i, none⟩ = #[.int .i64 ua, .int .i64 ub, .slice uA un uc][i]?) ∧ (∀ i, w'.cell? ⟨w10.heap.size, i, none⟩ = #[.int .i64 xa, .int .i64 xb, .slice xA xn xc][i]?) ∧ (∀ i, w'.cell? ⟨w11.heap.size, i, none⟩ = #[.int .i64 ya, .int .i64 yb, .slice yA yn yc][i]?) ∧ Below W11.heap.size W11 w') from fun w' hb => ⟨(Bt.via hb).cell, (Bs.via hb).cell, (Bo.via hb).cell, (Bu.via hb).cell, (Bx.via hb).cell, (By.via hb).cell, hb⟩)
  have r1 : IntKind.i64.wrap ((t.size : Int) - (z.size : Int)) = (t.size : Int) - (z.size : Int) := IntWalk.i64_in _ (by omega)
  have r2 : IntKind.i64.wrap ((t.size : Int) - (z.size : Int) + (s.size : Int)) = (t.size : Int) - (z.size : Int) + (s.size : Int) := IntWalk.i64_in _ (by omega)
  have r3 : (((Tr.put s q t).size : Int) == (t.size : Int) - (z.size : Int) + (s.size : Int)) = true := by rw [beq_iff_eq]; omega
  have HBB := Lib.hid hB
  have hb0 := (Below.refl W11.heap.size W11).drew
  clear hB hb hG Bt Bs Bo Bu Bx By K5 K6 K8 K9 K10 K11 HX HU2 HY HT2 HV HO hzs hzz
  go_region_held3 (fun w' => (∀ i, w'.cell? ⟨w5.heap.size, i, none⟩ = #[.int .i64 ta, .int .i64 tb, .slice tA tn tc][i]?) ∧ (∀ i, w'.cell? ⟨w6.heap.size, i, none⟩ = #[.int .i64 sa, .int .i64 sb, .slice sA sn sc][i]?) ∧ (∀ i, w'.cell? ⟨w8.heap.size, i, none⟩ = #[.int .i64 oa, .int .i64 ob, .slice oA on' oc][i]?) ∧ (∀ i, w'.cell? ⟨w9.heap.size, i, none⟩ = #[.int .i64 ua, .int .i64 ub, .slice uA un uc][i]?) ∧ (∀ i, w'.cell? ⟨w10.heap.size, i, none⟩ = #[.int .i64 xa, .int .i64 xb, .slice xA xn xc][i]?) ∧ (∀ i, w'.cell? ⟨w11.heap.size, i, none⟩ = #[.int .i64 ya, .int .i64 yb, .slice yA yn yc][i]?) ∧ Below W11.heap.size W11 w') (exact SOF.out _ (by assumption)) (first
    | (go_at_call 23; (with_reducible refine (same_a xa xb xA xn xc sa sb sA sn sc s _ (T1.out _ (by assumption)) (T2.out _ (by assumption)) hUz).mono ?_); rintro ee wn ⟨rfl, hbn⟩; have hbm : Below W11.heap.size W11 wn := Below.via (by assumption) hbn)
    | (go_at_call 23; (with_reducible refine (same_a ya yb yA yn yc ta tb tA tn tc t _ (T3.out _ (by assumption)) (T4.out _ (by assumption)) hTz).mono ?_); rintro ee wn ⟨rfl, hbn⟩; have hbm : Below W11.heap.size W11 wn := Below.via (by assumption) hbn)
    | (go_at_call 16; (with_reducible refine (size_a ua ub uA un uc (Tr.put s q t) _ (T5.out _ (by assumption)) hpz).mono ?_); rintro ee wn ⟨rfl, hbn⟩; have hbm : Below W11.heap.size W11 wn := Below.via (by assumption) hbn)
    | (go_at_call 16; (with_reducible refine (size_a ta tb tA tn tc t _ (T4.out _ (by assumption)) hTz).mono ?_); rintro ee wn ⟨rfl, hbn⟩; have hbm : Below W11.heap.size W11 wn := Below.via (by assumption) hbn)
    | (go_at_call 16; (with_reducible refine (size_a oa ob oA on' oc z _ (T6.out _ (by assumption)) hz1).mono ?_); rintro ee wn ⟨rfl, hbn⟩; have hbm : Below W11.heap.size W11 wn := Below.via (by assumption) hbn)
    | (go_at_call 16; (with_reducible refine (size_a sa sb sA sn sc s _ (T2.out _ (by assumption)) hUz).mono ?_); rintro ee wn ⟨rfl, hbn⟩; have hbm : Below W11.heap.size W11 wn := Below.via (by assumption) hbn))
  all_goals
    have HF := Lib.hid (HBB.out.via hbm)
    clear r1 r2 r3 hb0 hbm hbn
    go_wp2_with fail
    go_ret
    exact ⟨rfl, HF.out⟩
end Go.Proofs.Ytdccgeiniockpaa
