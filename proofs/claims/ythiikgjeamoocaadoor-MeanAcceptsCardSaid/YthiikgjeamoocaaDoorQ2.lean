/- Texts KQ, KR, laid together. -/
import Derived.Test.YthiikgjeamoocaaDoorQ1
import Derived.Deep.RegionLaw


namespace Go.Proofs.YthiikgjeamoocaaDoor
open Go.RowKit

theorem slice_decide_take {α : Type} [DecidableEq α] (xs ys : List α) (k : Nat) (hx : k < xs.length) (hy : k < ys.length) :
    decide (xs.take (k + 1) = ys.take (k + 1)) = (decide (xs.take k = ys.take k) && decide (xs[k] = ys[k])) := by
  rw [List.take_succ_eq_append_getElem hx, List.take_succ_eq_append_getElem hy, Bool.eq_iff_iff]
  simp only [Bool.and_eq_true, decide_eq_true_eq]
  constructor
  · intro h
    have hl : (xs.take k).length = (ys.take k).length := by simp; omega
    obtain ⟨h1, h2⟩ := List.append_inj h hl
    exact ⟨h1, by simpa using h2⟩
  · rintro ⟨h1, h2⟩
    rw [h1, h2]

/-- a function that computes a Bool, and may make blocks -/
def BoolB (w : World) (b : Bool) (e : Ending) (w' : World) : Prop := e = .returned (.bool b) ∧ Below w.heap.size w w'
/-- behind k rounds of has -/
def HasRel (w : World) (l : List Ru) (x : Ru) (k : Nat) (B : Option Addr) (m d : Nat) (wr : World) : Prop :=
  (∀ j, j < k → l[j]? ≠ some x) ∧ Blk wr w.heap.size 62 #[.int .i64 (x.1 : Int), .slice B m d] ∧ Below w.heap.size w wr

theorem HasRel.next {w : World} {l : List Ru} {x : Ru} {k : Nat} {B : Option Addr} {m d : Nat} {wr : World} {o : Obj} (h : HasRel w l x k B m d wr) (hn : l[k]? ≠ some x) : HasRel w l x (k + 1) B m d (wr.alloc o) :=
  ⟨fun j hj => by
    rcases Nat.lt_or_ge j k with h1 | h1
    · exact h.1 j h1
    · obtain rfl : j = k := by omega
      exact hn, h.2.1.al _, h.2.2.al _⟩
theorem HasRel.drewN {w : World} {l : List Ru} {x : Ru} {k : Nat} {B : Option Addr} {m d : Nat} {wr : World} (h : HasRel w l x k B m d wr) (q : Nat) : HasRel w l x k B m d (wr.drewN q) :=
  ⟨h.1, h.2.1, below_drewN h.2.2 q⟩
theorem not_mem_of {l : List Ru} {x : Ru} {n : Nat} (h : ∀ j, j < n → l[j]? ≠ some x) (hl : l.length = n) : x ∉ l := fun hm => by
  obtain ⟨j, hj, e⟩ := List.mem_iff_getElem.1 hm
  exact h j (by omega) (by rw [List.getElem?_eq_getElem hj, e])

set_option maxRecDepth 100000 in
set_option maxHeartbeats 4000000 in
theorem has_c (ok ok' : Nat → Prop) (A B : Option Addr) (n c m d : Nat) (l : List Ru) (x : Ru) (w : World) (hl : Sl RuE ok w A n c l) (hx : Sl SyE ok' w B m d x.2) (hn : n ≤ 1000000) (hm : m ≤ 1000000) :
    Calls Tryd.prog 21 #[.slice A n c, .agg #[.int .i64 (x.1 : Int), .slice B m d]] w (BoolB w (decide (x ∈ l))) := by
  obtain ⟨bb, hbb⟩ : ∃ bb, bb = decide (x ∈ l) := ⟨_, rfl⟩
  rw [← hbb]
  have HB := Lib.hid hbb
  clear hbb
  have HL := Lib.hid hl
  have HX := Lib.hid hx
  have hlen := hl.len
  have Hlen := Lib.hid hlen
  have hxl := Lib.hid hx.len
  clear hl hx hlen
  go_enter Tryd.func21, Tryd.ntmps21
  go_wp2_with fail
  go_loopw [11] (fun i wr => ∃ k : Nat, i = .int .i64 k ∧ k ≤ n ∧ HasRel w l x k B m d wr) (fun i _ => n - (intOf i).toNat)
  case atStart => exact ⟨0, rfl, Nat.zero_le _, fun j hj => absurd hj (by omega), Blk.new _ _ _, (Below.refl _ _).al _⟩
  case round =>
    obtain ⟨k, rfl, hk, hr⟩ := hrel
    by_cases hlt : k < n
    · obtain ⟨b, off, raw, y, rfl, -, hb, hy, ⟨hy1, hy2⟩, hc⟩ := HL.out.at_ hlt
      have c0 := hc 0 _ rfl
      have c1 := hc 1 _ rfl
      simp only [RuE, Nat.add_zero] at c0 c1
      replace c0 := (hr.2.2.cell (p := ⟨b, off + k * 2, none⟩) hb).trans c0
      replace c1 := (hr.2.2.cell (p := ⟨b, off + k * 2 + 1, none⟩) hb).trans c1
      have i0 : (0 : Int) ≤ (k : Int) := by omega
      have i1 : (k : Int) < (n : Int) := by omega
      obtain ⟨rl, Ay, ny, cy⟩ := raw
      simp only at hy1 hy2 c0 c1
      subst hy1
      have HY := Lib.hid hy
      have HY2 := Lib.hid hy2
      have HR := Lib.hid hr
      have Br := hr.2.1
      have hB := hr.2.2
      clear hc hy hy2 hr hb
      by_cases e1 : y.1 = x.1
      · have t1 : ((y.1 : Int) != (x.1 : Int)) = false := by rw [bne_eq_false_iff_eq]; omega
        have E1 := Lib.hid e1
        clear e1
        by_cases e2 : ny = m
        · subst e2
          have t2 : ((ny : Int) != (ny : Int)) = false := by simp
          have hnB := hB.size
          have cBr := Br.cell
          have fBr := Br.frozen
          have lBr := Br.lt
          go_wp2_with fail
          obtain ⟨wo, rfl⟩ : ∃ wo : World, wo = wr := ⟨_, rfl⟩
          have Bx := Blk.new wo 62 #[.int .i64 (y.1 : Int), .slice Ay ny cy]
          replace Br := Br.al (.cells #[.int .i64 (y.1 : Int), .slice Ay ny cy] 62)
          have hB2 := hB.al (.cells #[.int .i64 (y.1 : Int), .slice Ay ny cy] 62)
          clear cBr fBr lBr
          go_loopw [7, 32] (fun sm i wr => ∃ j : Nat, i = .int .i64 j ∧ j ≤ ny ∧ sm = .bool (decide (y.2.take j = x.2.take j)) ∧ ∃ q, wr = (wo.alloc (.cells #[.int .i64 (y.1 : Int), .slice Ay ny cy] 62)).drewN q) (fun _ i _ => ny - (intOf i).toNat)
          case atStart => exact ⟨0, rfl, Nat.zero_le _, by simp, 0, rfl⟩
          case round =>
            obtain ⟨j, rfl, hj, rfl, q, rfl⟩ := hrel
            by_cases hjl : j < ny
            · obtain ⟨b1, o1, s1, s1', rfl, -, hb1, hs1, hs1', hc1⟩ := HY2.out.at_ hjl
              obtain ⟨b2, o2, s2, s2', rfl, -, hb2, hs2, hs2', hc2⟩ := HX.out.at_ hjl
              have hs1'' : s1 = s1' := hs1'
              have hs2'' : s2 = s2' := hs2'
              subst hs1'' hs2''
              have d0 := (hB2.cell (p := ⟨b1, o1 + j * 2, none⟩) hb1).trans (hc1 0 _ rfl)
              have d1 := (hB2.cell (p := ⟨b1, o1 + j * 2 + 1, none⟩) hb1).trans (hc1 1 _ rfl)
              have d2 := (hB2.cell (p := ⟨b2, o2 + j * 2, none⟩) hb2).trans (hc2 0 _ rfl)
              have d3 := (hB2.cell (p := ⟨b2, o2 + j * 2 + 1, none⟩) hb2).trans (hc2 1 _ rfl)
              have hly : j < y.2.length := (List.getElem?_eq_some_iff.1 hs1).1
              have hlx : j < x.2.length := (List.getElem?_eq_some_iff.1 hs2).1
              have hsn := slice_decide_take y.2 x.2 j hly hlx
              rw [(List.getElem?_eq_some_iff.1 hs1).2, (List.getElem?_eq_some_iff.1 hs2).2] at hsn
              have HS := Lib.hid hsn
              have j0 : (0 : Int) ≤ (j : Int) := by omega
              have j1 : (j : Int) < (ny : Int) := by omega
              clear hs1 hs2 hc1 hc2 hsn hs1' hs2' hb1 hb2 hly hlx
              obtain ⟨p1, p2⟩ := s1
              obtain ⟨p3, p4⟩ := s2
              have cBr := Br.cell
              have fBr := Br.frozen
              have lBr := Br.lt
              have cBx := Bx.cell
              have fBx := Bx.frozen
              have lBx := Bx.lt
              by_cases hd : y.2.take j = x.2.take j
              · have hd' : decide (y.2.take j = x.2.take j) = true := by simpa using hd
                have HD := Lib.hid hd'
                rw [hd']
                clear hd hd'
                by_cases g1 : p1 = p3
                · by_cases g2 : p2 = p4
                  · subst g1 g2
                    go_wp2_with fail
                    go_quiet (fail)
                    go_wp2_with fail
                    exact ⟨⟨j + 1, by go_num, by omega, by rw [HS.out, HD.out]; simp, _, rfl⟩, by simp [intOf]; omega⟩
                  · have t3 : ((p2 : Int) == (p4 : Int)) = false := by rw [beq_eq_false_iff_ne]; omega
                    have t4 : (p2 == p4) = false := by rw [beq_eq_false_iff_ne]; omega
                    have G2 := Lib.hid g2
                    subst g1
                    clear g2
                    go_wp2_with fail
                    go_quiet (fail)
                    go_wp2_with fail
                    exact ⟨⟨j + 1, by go_num, by omega, by rw [HS.out, HD.out]; simp [G2.out], _, rfl⟩, by simp [intOf]; omega⟩
                · have t3 : (p1 == p3) = false := by rw [beq_eq_false_iff_ne]; exact g1
                  have G1 := Lib.hid g1
                  clear g1
                  go_wp2_with fail
                  go_quiet (fail)
                  go_wp2_with fail
                  exact ⟨⟨j + 1, by go_num, by omega, by rw [HS.out, HD.out]; simp [G1.out], _, rfl⟩, by simp [intOf]; omega⟩
              · have hd' : decide (y.2.take j = x.2.take j) = false := by simpa using hd
                have HD := Lib.hid hd'
                rw [hd']
                clear hd hd'
                go_wp2_with fail
                go_quiet (fail)
                go_wp2_with fail
                exact ⟨⟨j + 1, by go_num, by omega, by rw [HS.out, HD.out]; simp, _, rfl⟩, by simp [intOf]; omega⟩
            · have hje : j = ny := by omega
              have hjj : decide (y.2.take j = x.2.take j) = decide (l[k]? = some x) := by
                rw [HY.out, List.take_of_length_le (by rw [HY2.out.len]; omega), List.take_of_length_le (by rw [hxl.out]; omega), Bool.eq_iff_iff]
                simp only [decide_eq_true_eq, Option.some.injEq]
                constructor
                · intro e; exact Prod.ext E1.out e
                · intro e; rw [e]
              rw [hjj]
              by_cases hd : l[k]? = some x
              · have hd' : decide (l[k]? = some x) = true := by simpa using hd
                rw [hd']
                have hin : decide (x ∈ l) = true := by simpa using List.mem_of_getElem? hd
                have HI := Lib.hid hin
                clear hd hd' hin hjj hje
                go_wp2_with fail
                go_ret
                exact ⟨by rw [HB.out, HI.out]; rfl, below_drewN hB2 _⟩
              · have hd' : decide (l[k]? = some x) = false := by simpa using hd
                rw [hd']
                have HN := Lib.hid hd
                clear hd hd' hjj hje
                go_wp2_with fail
                exact ⟨⟨k + 1, by go_num, by omega, (HasRel.next HR.out HN.out).drewN q⟩, by simp [intOf]; omega⟩
        · have t2 : ((ny : Int) != (m : Int)) = true := by rw [bne_iff_ne]; omega
          have hne : l[k]? ≠ some x := fun e => e2 (by rw [HY.out] at e; cases e; rw [← HY2.out.len, hxl.out])
          have HN := Lib.hid hne
          clear e2 hne
          have cBr := Br.cell
          have fBr := Br.frozen
          have lBr := Br.lt
          go_wp2_with fail
          exact ⟨⟨k + 1, by go_num, by omega, HasRel.next HR.out HN.out⟩, by simp [intOf]; omega⟩
      · have t1 : ((y.1 : Int) != (x.1 : Int)) = true := by rw [bne_iff_ne]; omega
        have hne : l[k]? ≠ some x := fun e => e1 (by rw [HY.out] at e; cases e; rfl)
        have HN := Lib.hid hne
        clear e1 hne
        have cBr := Br.cell
        have fBr := Br.frozen
        have lBr := Br.lt
        go_wp2_with fail
        exact ⟨⟨k + 1, by go_num, by omega, HasRel.next HR.out HN.out⟩, by simp [intOf]; omega⟩
    · have hfin : decide (x ∈ l) = false := by
        have := not_mem_of (n := n) (fun j hj => hr.1 j (by omega)) Hlen.out
        simpa using this
      have HF := Lib.hid hfin
      have hB := hr.2.2
      clear hfin hr
      go_wp2_with fail
      go_ret
      exact ⟨by rw [HB.out, HF.out]; rfl, hB⟩
end Go.Proofs.YthiikgjeamoocaaDoor




namespace Go.Proofs.YthiikgjeamoocaaDoor
open Go.RowKit

theorem sym_info : (Tryd.prog.info? 39).map (fun i => (i.zero, i.size, i.bytes)) = some (some (.agg #[.bool false, .int .i64 0]), 2, 16) := by kernel_rfl
theorem rule_info : (Tryd.prog.info? 62).map (fun i => (i.zero, i.size, i.bytes)) = some (some (.agg #[.int .i64 0, .slice none 0 0]), 2, 32) := by kernel_rfl

theorem Blk.set1 {w : World} {g : Nat} {t : TypeId} {a : Value} (h : Blk w g t #[a]) (u : Value) : Blk (w.setCell ⟨g, 0, none⟩ u) g t #[u] := by have := h.set_ 0 u; simpa using this

theorem step_append_sy {ops : Array Oper} {o : Oper} {a : Act} {K : Act → World → Prop} {Q : Exit → Act → World → Prop} {F : Prop} (w : World) (hgd : o.guard = none) (s y : Operand)
    (ho : o.op = .call { callee := .builtin .append, args := #[s, y], argTypes := #[60, 60] })
    (ok : Nat → Prop) (base : Nat) (v : Value) (n : Nat) (l : List Sy) (hv : a.eval s = v) (hown : Own SyE 39 ok w base v n l)
    (b : Nat) (x : Sy) (hy : a.eval y = .slice (some ⟨b, 0, none⟩) 1 1) (hcell : Blk w b 39 #[.bool x.1, .int .i64 (x.2 : Int)])
    (h63 : n + 1 ≤ 1000000) (hbase : base ≤ w.heap.size)
    (h : ∀ A' c' w', Own SyE 39 ok w' base (.slice A' (n + 1) c') (n + 1) (l ++ [x]) → w.grownBy w' v.ownBlock → ((Value.slice A' (n + 1) c').ownBlock = v.ownBlock ∨ (Value.slice A' (n + 1) c').ownBlock = some w.heap.size) → K (a.put o.dst (.slice A' (n + 1) c')) w') :
    if Region.wanted o (yielded ops a.tmps) = true then Oper.wp Tryd.prog o a w K Q else F := by
  obtain ⟨i, hi, hz⟩ := Option.map_eq_some_iff.1 sym_info
  simp only [Prod.mk.injEq] at hz
  refine step_append_E (E := SyE) w hgd s y 60 39 ho i (.agg #[.bool false, .int .i64 0]) 16 (by kernel_rfl) hi hz.1 hz.2.1 hz.2.2 rfl ok base v n l hv hown b x x hy (fun j u hu => ?_) rfl (by simp [maxLen]; omega) (by omega) hbase h
  rw [hcell.cell j]
  rw [List.getElem?_toArray]; exact hu

theorem wpList_append_ru {ops : Array Oper} {rest : List Oper} {o : Oper} {a : Act} {Q : Exit → Act → World → Prop} (w : World) (hgd : o.guard = none) (s y : Operand)
    (ho : o.op = .call { callee := .builtin .append, args := #[s, y], argTypes := #[22, 22] })
    (ok : Nat → Prop) (base : Nat) (v : Value) (n : Nat) (l : List Ru) (hv : a.eval s = v) (hown : Own RuE 62 ok w base v n l)
    (b : Nat) (x : Ru) (A : Option Addr) (m c : Nat) (hy : a.eval y = .slice (some ⟨b, 0, none⟩) 1 1) (hcell : Blk w b 62 #[.int .i64 (x.1 : Int), .slice A m c]) (hrel : Sl SyE (fun b => ok b ∧ some b ≠ v.ownBlock) w A m c x.2)
    (h63 : n + 1 ≤ 1000000) (hbase : base ≤ w.heap.size)
    (h : ∀ A' c' w', Own RuE 62 ok w' base (.slice A' (n + 1) c') (n + 1) (l ++ [x]) → w.grownBy w' v.ownBlock → ((Value.slice A' (n + 1) c').ownBlock = v.ownBlock ∨ (Value.slice A' (n + 1) c').ownBlock = some w.heap.size) → wpList Tryd.prog ops Q rest (a.put o.dst (.slice A' (n + 1) c')) w') : wpList Tryd.prog ops Q (o :: rest) a w := by
  obtain ⟨i, hi, hz⟩ := Option.map_eq_some_iff.1 rule_info
  simp only [Prod.mk.injEq] at hz
  refine wpList_append_E (E := RuE) w hgd s y 22 62 ho i (.agg #[.int .i64 0, .slice none 0 0]) 32 (by kernel_rfl) hi hz.1 hz.2.1 hz.2.2 rfl ok base v n l hv hown b (x.1, A, m, c) x hy (fun j u hu => ?_) ⟨rfl, hrel⟩ (by simp [maxLen]; omega) (by omega) hbase h
  rw [hcell.cell j]
  rw [List.getElem?_toArray]; exact hu

theorem Blk.newAt (w : World) (t : TypeId) (cs : Array Value) (k : Nat) (h : w.heap.size = k) : Blk (w.alloc (.cells cs t)) k t cs := by subst h; exact Blk.new w t cs

/-- a rule as Grammar makes it -/
def RuOk (t n : Nat) (r : Ru) : Prop := r.1 < n ∧ r.2.length ≤ 3 ∧ ∀ s ∈ r.2, if s.1 then s.2 < t else s.2 < n

/-- the outer loop of Grammar -/
structure GRel (w : World) (t n st m : Nat) (A : Option Addr) (m1 c1 : Nat) (l1 : List Int) (v : Value) (rules : List Ru) (wr : World) : Prop where
  b0 : Blk wr w.heap.size 24 #[.int .i64 0, .int .i64 0, .int .i64 0, .slice none 0 0]
  b1 : Blk wr (w.heap.size + 1) 66 #[.slice A m1 c1]
  b2 : Blk wr (w.heap.size + 1 + 1) 24 #[.int .i64 (t : Int), .int .i64 (n : Int), .int .i64 (st : Int), v]
  ints : Ints w A m1 c1 l1
  le : m1 ≤ m
  own : Own RuE 62 (fun b => w.heap.size + 3 ≤ b) wr (w.heap.size + 3) v rules.length rules
  bel : Below w.heap.size w wr
  size : w.heap.size + 3 ≤ wr.heap.size
  nodup : rules.Nodup
  ok : ∀ r ∈ rules, RuOk t n r

/-- the inner loop: the rule r in block br, its right side so far -/
structure IRel (w : World) (t n st m left br : Nat) (A : Option Addr) (m1 c1 : Nat) (l1 : List Int) (v : Value) (rules : List Ru) (vs : Value) (syms : List Sy) (wr : World) : Prop where
  b0 : Blk wr w.heap.size 24 #[.int .i64 0, .int .i64 0, .int .i64 0, .slice none 0 0]
  b1 : Blk wr (w.heap.size + 1) 66 #[.slice A m1 c1]
  b2 : Blk wr (w.heap.size + 1 + 1) 24 #[.int .i64 (t : Int), .int .i64 (n : Int), .int .i64 (st : Int), v]
  b3 : Blk wr br 62 #[.int .i64 (left : Int), vs]
  hbr : w.heap.size + 3 ≤ br
  ints : Ints w A m1 c1 l1
  le : m1 ≤ m
  own : Own RuE 62 (fun b => w.heap.size + 3 ≤ b ∧ b < br) wr (w.heap.size + 3) v rules.length rules
  vlt : ∀ g, v.ownBlock = some g → g < br
  sown : Own SyE 39 (fun b => br + 1 ≤ b) wr (br + 1) vs syms.length syms
  bel : Below w.heap.size w wr
  size : br + 1 ≤ wr.heap.size
  left : left < n
  nodup : rules.Nodup
  ok : ∀ r ∈ rules, RuOk t n r
  sok : ∀ s ∈ syms, if s.1 then s.2 < t else s.2 < n

theorem GRel.start {w : World} {t n st m : Nat} {A : Option Addr} {m1 c1 : Nat} {l1 : List Int} (hI : Ints w A m1 c1 l1) (hm : m1 ≤ m) :
    GRel w t n st m A m1 c1 l1 (.slice none 0 0) [] (((w.alloc (.cells #[.int .i64 0, .int .i64 0, .int .i64 0, .slice none 0 0] 24)).alloc (.cells #[.slice A m1 c1] 66)).alloc (.cells #[.int .i64 (t : Int), .int .i64 (n : Int), .int .i64 (st : Int), .slice none 0 0] 24)) where
  b0 := ((Blk.new w _ _).al _).al _
  b1 := by have := (Blk.new (w.alloc (.cells #[.int .i64 0, .int .i64 0, .int .i64 0, .slice none 0 0] 24)) 66 #[.slice A m1 c1]).al (.cells #[.int .i64 (t : Int), .int .i64 (n : Int), .int .i64 (st : Int), .slice none 0 0] 24); simpa using this
  b2 := by have := (Blk.new ((w.alloc (.cells #[.int .i64 0, .int .i64 0, .int .i64 0, .slice none 0 0] 24)).alloc (.cells #[.slice A m1 c1] 66)) 24 #[.int .i64 (t : Int), .int .i64 (n : Int), .int .i64 (st : Int), .slice none 0 0]); simpa using this
  ints := hI
  le := hm
  own := Own.nil _ _
  bel := (((Below.refl _ _).al _).al _).al _
  size := by simp
  nodup := List.nodup_nil
  ok := fun r hr => by cases hr

/-- a new rule begins -/
theorem GRel.rule {w wr : World} {t n st m left : Nat} {A A2 : Option Addr} {m1 c1 m2 c2 : Nat} {l1 l2 : List Int} {v : Value} {rules : List Ru} (h : GRel w t n st m A m1 c1 l1 v rules wr)
    (hI : Ints w A2 m2 c2 l2) (hm : m2 ≤ m1) (hl : left < n) :
    IRel w t n st m left wr.heap.size A2 m2 c2 l2 v rules (.slice none 0 0) [] ((wr.setCell ⟨w.heap.size + 1, 0, none⟩ (.slice A2 m2 c2)).alloc (.cells #[.int .i64 (left : Int), .slice none 0 0] 62)) where
  b0 := (h.b0.far (by simp) _).al _
  b1 := by have := (h.b1.set_ 0 (.slice A2 m2 c2)).al (.cells #[.int .i64 (left : Int), .slice none 0 0] 62); simpa using this
  b2 := (h.b2.far (by simp) _).al _
  b3 := by have := Blk.new (wr.setCell ⟨w.heap.size + 1, 0, none⟩ (.slice A2 m2 c2)) 62 #[.int .i64 (left : Int), .slice none 0 0]; simpa using this
  hbr := h.size
  ints := hI
  le := Nat.le_trans hm h.le
  own := ((h.own.setCell (p := ⟨w.heap.size + 1, 0, none⟩) _ (fun b hb => by simp; omega) (by simp)).mono (fun b hb hk => ⟨hk, by simpa using hb⟩)).al _
  vlt := fun g hg => (h.own.lt g hg).2
  sown := Own.nil _ _
  bel := (h.bel.setCell (by simp) _).al _
  size := by simp
  left := hl
  nodup := h.nodup
  ok := h.ok
  sok := fun s hs => by cases hs

/-- the stream has given a number, inside a rule -/
theorem IRel.next {w wr : World} {t n st m left br : Nat} {A A2 : Option Addr} {m1 c1 m2 c2 : Nat} {l1 l2 : List Int} {v vs : Value} {rules : List Ru} {syms : List Sy} (h : IRel w t n st m left br A m1 c1 l1 v rules vs syms wr)
    (hI : Ints w A2 m2 c2 l2) (hm : m2 ≤ m1) : IRel w t n st m left br A2 m2 c2 l2 v rules vs syms (wr.setCell ⟨w.heap.size + 1, 0, none⟩ (.slice A2 m2 c2)) where
  b0 := h.b0.far (by simp) _
  b1 := by have := h.b1.set_ 0 (.slice A2 m2 c2); simpa using this
  b2 := h.b2.far (by simp) _
  b3 := h.b3.far (by have := h.hbr; simp; omega) _
  hbr := h.hbr
  ints := hI
  le := Nat.le_trans hm h.le
  own := h.own.setCell _ (fun b hb => by simp; omega) (by simp)
  vlt := h.vlt
  sown := h.sown.setCell _ (fun b hb => by have := h.hbr; simp; omega) (by have := h.hbr; simp; omega)
  bel := h.bel.setCell (by simp) _
  size := by simpa using h.size
  left := h.left
  nodup := h.nodup
  ok := h.ok
  sok := h.sok

theorem IRel.via {w wr wa : World} {t n st m left br : Nat} {A : Option Addr} {m1 c1 : Nat} {l1 : List Int} {v vs : Value} {rules : List Ru} {syms : List Sy} (h : IRel w t n st m left br A m1 c1 l1 v rules vs syms wr)
    (hb : Below wr.heap.size wr wa) : IRel w t n st m left br A m1 c1 l1 v rules vs syms wa where
  b0 := h.b0.via hb
  b1 := h.b1.via hb
  b2 := h.b2.via hb
  b3 := h.b3.via hb
  hbr := h.hbr
  ints := h.ints
  le := h.le
  own := h.own.via hb
  vlt := h.vlt
  sown := h.sown.via hb
  bel := h.bel.via hb
  size := Nat.le_trans h.size hb.size
  left := h.left
  nodup := h.nodup
  ok := h.ok
  sok := h.sok

theorem IRel.al {w wr : World} {t n st m left br : Nat} {A : Option Addr} {m1 c1 : Nat} {l1 : List Int} {v vs : Value} {rules : List Ru} {syms : List Sy} (h : IRel w t n st m left br A m1 c1 l1 v rules vs syms wr)
    (o : Obj) : IRel w t n st m left br A m1 c1 l1 v rules vs syms (wr.alloc o) := h.via ((Below.refl wr.heap.size wr).alloc (Nat.le_refl _) o)
theorem IRel.dr {w wr : World} {t n st m left br : Nat} {A : Option Addr} {m1 c1 : Nat} {l1 : List Int} {v vs : Value} {rules : List Ru} {syms : List Sy} (h : IRel w t n st m left br A m1 c1 l1 v rules vs syms wr) :
    IRel w t n st m left br A m1 c1 l1 v rules vs syms wr.drew := h.via ((Below.refl wr.heap.size wr).drew)

/-- a symbol is appended to the right side -/
theorem IRel.push {w wr w1 : World} {t n st m left br : Nat} {A : Option Addr} {m1 c1 : Nat} {l1 : List Int} {v vs vs' : Value} {rules : List Ru} {syms : List Sy} {s : Sy} (h : IRel w t n st m left br A m1 c1 l1 v rules vs syms wr)
    (ho : Own SyE 39 (fun b => br + 1 ≤ b) w1 (br + 1) vs' (syms.length + 1) (syms ++ [s])) (hg : wr.grownBy w1 vs.ownBlock) (hs : if s.1 then s.2 < t else s.2 < n) :
    IRel w t n st m left br A m1 c1 l1 v rules vs' (syms ++ [s]) (w1.setCell ⟨br, 1, none⟩ vs') := by
  have hne : ∀ j, j ≤ br → some j ≠ vs.ownBlock := fun j hj e => by have := (h.sown.lt j e.symm).1; omega
  have hb := h.hbr
  have hsz := h.size
  refine ⟨?_, ?_, ?_, ?_, hb, h.ints, h.le, ?_, h.vlt, ?_, ?_, ?_, h.left, h.nodup, h.ok, ?_⟩
  · exact (h.b0.grown hg (hne _ (by omega))).far (by simp; omega) _
  · exact (h.b1.grown hg (hne _ (by omega))).far (by simp; omega) _
  · exact (h.b2.grown hg (hne _ (by omega))).far (by simp; omega) _
  · have := (h.b3.grown hg (hne _ (by omega))).set_ 1 vs'; simpa using this
  · have ha : Agr (fun b => (w.heap.size + 3 ≤ b ∧ b < br) ∨ some b = v.ownBlock) wr (w1.setCell ⟨br, 1, none⟩ vs') := by
      refine (Agr.grown hg fun b hb' => ?_).trans (Agr.setCell _ fun b hb' => ?_)
      · rcases hb' with hb' | hb'
        · exact hne b (by omega)
        · exact hne b (by have := h.vlt b hb'.symm; omega)
      · show b ≠ br
        rcases hb' with hb' | hb'
        · omega
        · have := h.vlt b hb'.symm; omega
    exact h.own.agr ha
  · rw [List.length_append]; exact ho.setCell _ (fun b hb' => by simp; omega) (by simp)
  · refine (h.bel.grown hg (by omega) fun k hk => ?_).setCell (by simp; omega) _
    have := (h.sown.lt k hk).1; omega
  · have := hg.size; simp; omega
  · intro s' hs'
    rcases List.mem_append.1 hs' with h1 | h1
    · exact h.sok s' h1
    · rw [List.mem_singleton.1 h1]; exact hs

/-- the rule is thrown away -/
theorem IRel.drop {w wr : World} {t n st m left br : Nat} {A : Option Addr} {m1 c1 : Nat} {l1 : List Int} {v vs : Value} {rules : List Ru} {syms : List Sy} (h : IRel w t n st m left br A m1 c1 l1 v rules vs syms wr) :
    GRel w t n st m A m1 c1 l1 v rules wr :=
  ⟨h.b0, h.b1, h.b2, h.ints, h.le, h.own.mono fun b _ hk => hk.1, h.bel, by have := h.size; have := h.hbr; omega, h.nodup, h.ok⟩

/-- the rule is appended -/
theorem IRel.add {w wr w1 : World} {t n st m left br : Nat} {A : Option Addr} {m1 c1 : Nat} {l1 : List Int} {v v' vs : Value} {rules : List Ru} {syms : List Sy} (h : IRel w t n st m left br A m1 c1 l1 v rules vs syms wr)
    (ho : Own RuE 62 (fun b => w.heap.size + 3 ≤ b) w1 (w.heap.size + 3) v' (rules.length + 1) (rules ++ [(left, syms)])) (hg : wr.grownBy w1 v.ownBlock) (hnew : (left, syms) ∉ rules) (hl : syms.length ≤ 3) :
    GRel w t n st m A m1 c1 l1 v' (rules ++ [(left, syms)]) (w1.setCell ⟨w.heap.size + 1 + 1, 3, none⟩ v') := by
  have hne : ∀ j, j < w.heap.size + 3 → some j ≠ v.ownBlock := fun j hj e => by have := (h.own.lt j e.symm).1; omega
  have hb := h.hbr
  have hsz := h.size
  refine ⟨?_, ?_, ?_, h.ints, h.le, ?_, ?_, ?_, ?_, ?_⟩
  · exact (h.b0.grown hg (hne _ (by omega))).far (by simp; omega) _
  · exact (h.b1.grown hg (hne _ (by omega))).far (by simp) _
  · have := (h.b2.grown hg (hne _ (by omega))).set_ 3 v'; simpa using this
  · rw [List.length_append]; exact ho.setCell _ (fun b hb' => by simp; omega) (by simp)
  · refine (h.bel.grown hg (by omega) fun k hk => ?_).setCell (by simp; omega) _
    have := (h.own.lt k hk).1; omega
  · have := hg.size; simp; omega
  · rw [List.nodup_append]
    refine ⟨h.nodup, by simp, fun a ha b hb' => ?_⟩
    rw [List.mem_singleton.1 hb']
    rintro rfl
    exact hnew ha
  · intro r hr
    rcases List.mem_append.1 hr with h1 | h1
    · exact h.ok r h1
    · rw [List.mem_singleton.1 h1]; exact ⟨h.left, hl, h.sok⟩

/-- Grammar's result -/
structure MadeG (g : Gr) : Prop where
  terms : 1 ≤ g.terms ∧ g.terms ≤ 3
  nons : 1 ≤ g.nons ∧ g.nons ≤ 4
  start : g.start < g.nons
  count : g.rules.length ≤ 8
  nodup : g.rules.Nodup
  ok : ∀ r ∈ g.rules, RuOk g.terms g.nons r
def GramP (w : World) (e : Ending) (w' : World) : Prop :=
  ∃ (g : Gr) (A : Option Addr) (n c : Nat), e = .returned (grVal g A n c) ∧ MadeG g ∧ Sl RuE (fun b => w.heap.size ≤ b) w' A n c g.rules ∧ Below w.heap.size w w'

set_option maxRecDepth 100000 in
set_option maxHeartbeats 4000000 in
theorem grammar_c (A : Option Addr) (m c : Nat) (ls : List Int) (w : World) (h : Ints w A m c ls) :
    Calls Tryd.prog 10 #[.slice A m c] w (GramP w) := by
  go_enter Tryd.func10, Tryd.ntmps10
  go_wp2_with fail
  have B0 := (Blk.new w 24 #[.int .i64 0, .int .i64 0, .int .i64 0, .slice none 0 0]).al (.cells #[.slice A m c] 66)
  have B1 := Blk.new (w.alloc (.cells #[.int .i64 0, .int .i64 0, .int .i64 0, .slice none 0 0] 24)) 66 #[.slice A m c]
  have hB := ((Below.refl w.heap.size w).al (.cells #[.int .i64 0, .int .i64 0, .int .i64 0, .slice none 0 0] 24)).al (.cells #[.slice A m c] 66)
  have hsz : ((w.alloc (.cells #[.int .i64 0, .int .i64 0, .int .i64 0, .slice none 0 0] 24)).alloc (.cells #[.slice A m c] 66)).heap.size = w.heap.size + 1 + 1 := by simp
  simp only [World.size_alloc] at B1
  generalize (w.alloc (.cells #[.int .i64 0, .int .i64 0, .int .i64 0, .slice none 0 0] 24)).alloc (.cells #[.slice A m c] 66) = W at *
  refine (snext_n w W (w.heap.size + 1) 3 _ rfl A m c ls h hB (B1.cell 0) (B1.frozen 0) (by omega) (by omega)).mono ?_
  rintro e w' ⟨v1, A1, m1, c1, l1, rfl, hv1, hm1, rfl, hI1⟩
  replace B0 := B0.far (p := ⟨w.heap.size + 1, 0, none⟩) (by simp) (.slice A1 m1 c1)
  replace B1 := B1.set1 (.slice A1 m1 c1)
  replace hB := hB.setCell (p := ⟨w.heap.size + 1, 0, none⟩) (by simp) (.slice A1 m1 c1)
  replace hsz : (W.setCell ⟨w.heap.size + 1, 0, none⟩ (.slice A1 m1 c1)).heap.size = w.heap.size + 1 + 1 := by simp [hsz]
  generalize W.setCell ⟨w.heap.size + 1, 0, none⟩ (.slice A1 m1 c1) = W1 at *
  clear h
  go_wp2_with fail
  refine (snext_n w W1 (w.heap.size + 1) 4 _ rfl A1 m1 c1 l1 hI1 hB (B1.cell 0) (B1.frozen 0) (by omega) (by omega)).mono ?_
  rintro e w' ⟨v2, A2, m2, c2, l2, rfl, hv2, hm2, rfl, hI2⟩
  replace B0 := B0.far (p := ⟨w.heap.size + 1, 0, none⟩) (by simp) (.slice A2 m2 c2)
  replace B1 := B1.set1 (.slice A2 m2 c2)
  replace hB := hB.setCell (p := ⟨w.heap.size + 1, 0, none⟩) (by simp) (.slice A2 m2 c2)
  replace hsz : (W1.setCell ⟨w.heap.size + 1, 0, none⟩ (.slice A2 m2 c2)).heap.size = w.heap.size + 1 + 1 := by simp [hsz]
  generalize W1.setCell ⟨w.heap.size + 1, 0, none⟩ (.slice A2 m2 c2) = W2 at *
  clear hI1
  go_wp2_with fail
  have e1 : (1 : Int) + (v1 : Int) = ((v1 + 1 : Nat) : Int) := by omega
  have e2 : (1 : Int) + (v2 : Int) = ((v2 + 1 : Nat) : Int) := by omega
  rw [e1, e2]
  clear e1 e2
  have ht1 : v1 + 1 ≤ 3 := by omega
  have hn1 : v2 + 1 ≤ 4 := by omega
  have ht0 : 1 ≤ v1 + 1 := by omega
  have hn0 : 1 ≤ v2 + 1 := by omega
  clear hv1 hv2
  generalize v1 + 1 = t at *
  generalize v2 + 1 = n at *
  have B2 := Blk.new W2 24 #[.int .i64 (t : Int), .int .i64 (n : Int), .int .i64 0, .slice none 0 0]
  replace B0 := B0.al (.cells #[.int .i64 (t : Int), .int .i64 (n : Int), .int .i64 0, .slice none 0 0] 24)
  replace B1 := B1.al (.cells #[.int .i64 (t : Int), .int .i64 (n : Int), .int .i64 0, .slice none 0 0] 24)
  replace hB := hB.al (.cells #[.int .i64 (t : Int), .int .i64 (n : Int), .int .i64 0, .slice none 0 0] 24)
  rw [hsz] at B2
  replace hsz : (W2.alloc (.cells #[.int .i64 (t : Int), .int .i64 (n : Int), .int .i64 0, .slice none 0 0] 24)).heap.size = w.heap.size + 3 := by simp [hsz]
  generalize W2.alloc (.cells #[.int .i64 (t : Int), .int .i64 (n : Int), .int .i64 0, .slice none 0 0] 24) = W3 at *
  refine (snext_n w W3 (w.heap.size + 1) n _ rfl A2 m2 c2 l2 hI2 hB (B1.cell 0) (B1.frozen 0) (by omega) (by omega)).mono ?_
  rintro e w' ⟨st, A3, m3, c3, l3, rfl, hst, hm3, rfl, hI3⟩
  replace B0 := B0.far (p := ⟨w.heap.size + 1, 0, none⟩) (by simp) (.slice A3 m3 c3)
  replace B2 := B2.far (p := ⟨w.heap.size + 1, 0, none⟩) (by simp) (.slice A3 m3 c3)
  replace B1 := B1.set1 (.slice A3 m3 c3)
  replace hB := hB.setCell (p := ⟨w.heap.size + 1, 0, none⟩) (by simp) (.slice A3 m3 c3)
  replace hsz : (W3.setCell ⟨w.heap.size + 1, 0, none⟩ (.slice A3 m3 c3)).heap.size = w.heap.size + 3 := by simp [hsz]
  generalize W3.setCell ⟨w.heap.size + 1, 0, none⟩ (.slice A3 m3 c3) = W4 at *
  clear hI2
  have cB0 := B0.cell
  have fB0 := B0.frozen
  have lB0 := B0.lt
  have cB1 := B1.cell
  have fB1 := B1.frozen
  have lB1 := B1.lt
  have cB2 := B2.cell
  have fB2 := B2.frozen
  have lB2 := B2.lt
  go_wp2_with fail
  clear cB0 fB0 lB0 cB1 fB1 lB1 cB2 fB2 lB2
  replace B0 := B0.far (p := ⟨w.heap.size + 1 + 1, 2, none⟩) (by simp; omega) (.int .i64 (st : Int))
  replace B1 := B1.far (p := ⟨w.heap.size + 1 + 1, 2, none⟩) (by simp) (.int .i64 (st : Int))
  replace B2 : Blk (W4.setCell ⟨w.heap.size + 1 + 1, 2, none⟩ (.int .i64 (st : Int))) (w.heap.size + 1 + 1) 24 #[.int .i64 (t : Int), .int .i64 (n : Int), .int .i64 (st : Int), .slice none 0 0] := by have := B2.set_ 2 (.int .i64 (st : Int)); simpa using this
  replace hB := hB.setCell (p := ⟨w.heap.size + 1 + 1, 2, none⟩) (by simp; omega) (.int .i64 (st : Int))
  replace hsz : (W4.setCell ⟨w.heap.size + 1 + 1, 2, none⟩ (.int .i64 (st : Int))).heap.size = w.heap.size + 3 := by simp [hsz]
  generalize W4.setCell ⟨w.heap.size + 1 + 1, 2, none⟩ (.int .i64 (st : Int)) = W5 at *
  refine (snext_n w W5 (w.heap.size + 1) 8 _ rfl A3 m3 c3 l3 hI3 hB (B1.cell 0) (B1.frozen 0) (by omega) (by omega)).mono ?_
  rintro e w' ⟨q, A4, m4, c4, l4, rfl, hq, hm4, rfl, hI4⟩
  replace B0 := B0.far (p := ⟨w.heap.size + 1, 0, none⟩) (by simp) (.slice A4 m4 c4)
  replace B2 := B2.far (p := ⟨w.heap.size + 1, 0, none⟩) (by simp) (.slice A4 m4 c4)
  replace B1 := B1.set1 (.slice A4 m4 c4)
  replace hB := hB.setCell (p := ⟨w.heap.size + 1, 0, none⟩) (by simp) (.slice A4 m4 c4)
  replace hsz : (W5.setCell ⟨w.heap.size + 1, 0, none⟩ (.slice A4 m4 c4)).heap.size = w.heap.size + 3 := by simp [hsz]
  generalize W5.setCell ⟨w.heap.size + 1, 0, none⟩ (.slice A4 m4 c4) = W6 at *
  clear hI3
  go_wp2_with fail
  have eq1 : (1 : Int) + (q : Int) = ((q + 1 : Nat) : Int) := by omega
  have hq1 : q + 1 ≤ 8 := by omega
  have hG : GRel w t n st m4 A4 m4 c4 l4 (.slice none 0 0) [] W6 := ⟨B0, B1, B2, hI4, Nat.le_refl _, Own.nil _ _, hB, by omega, List.nodup_nil, fun r hr => by cases hr⟩
  rw [eq1]
  clear eq1 hq B0 B1 B2 hB hsz hI4
  generalize q + 1 = Q at *
  go_loopw [24] (fun i wr => ∃ (k : Nat) (A : Option Addr) (m1 c1 : Nat) (l1 : List Int) (v : Value) (rules : List Ru), i = .int .i64 k ∧ k ≤ Q ∧ rules.length ≤ k ∧ GRel w t n st m4 A m1 c1 l1 v rules wr) (fun i _ => Q - (intOf i).toNat)
  case atStart => exact ⟨0, _, _, _, _, _, _, rfl, Nat.zero_le _, Nat.zero_le _, hG⟩
  case round =>
    obtain ⟨k, A5, m5, c5, l5, v, rules, rfl, hk, hrk, hr⟩ := hrel
    clear hG
    have B0 := hr.b0
    have B1 := hr.b1
    have B2 := hr.b2
    by_cases hlt : k < Q
    · have cB0 := B0.cell
      have fB0 := B0.frozen
      have lB0 := B0.lt
      have cB1 := B1.cell
      have fB1 := B1.frozen
      have lB1 := B1.lt
      have cB2 := B2.cell
      have fB2 := B2.frozen
      have lB2 := B2.lt
      go_wp2_with fail
      clear cB0 fB0 lB0 cB1 fB1 lB1 cB2 fB2 lB2
      refine (snext_n w wr (w.heap.size + 1) n _ rfl A5 m5 c5 l5 hr.ints hr.bel (B1.cell 0) (B1.frozen 0) (by omega) (by omega)).mono ?_
      rintro e w' ⟨left, A6, m6, c6, l6, rfl, hlf, hm6, rfl, hI6⟩
      have hR := GRel.rule hr hI6 hm6 hlf
      have hbr : w.heap.size + 3 ≤ wr.heap.size := hr.size
      clear hr B0 B1 B2 hI6 hm6
      go_wp2_with fail
      obtain ⟨wa, hwa⟩ : ∃ wa : World, wa = (wr.setCell ⟨w.heap.size + 1, 0, none⟩ (.slice A6 m6 c6)).alloc (.cells #[.int .i64 (left : Int), .slice none 0 0] 62) := ⟨_, rfl⟩
      rw [← hwa] at hR ⊢
      clear hwa
      generalize wr.heap.size = br at *
      refine (snext_n w wa (w.heap.size + 1) 4 _ rfl A6 m6 c6 l6 hR.ints hR.bel (hR.b1.cell 0) (hR.b1.frozen 0) (by omega) (by omega)).mono ?_
      rintro e w' ⟨p, A7, m7, c7, l7, rfl, hp, hm7, rfl, hI7⟩
      replace hR := hR.next hI7 hm7
      generalize wa.setCell ⟨w.heap.size + 1, 0, none⟩ (.slice A7 m7 c7) = wa at *
      clear hI7 hm7
      go_wp2_with fail
      go_loopw [33] (fun i wr => ∃ (j : Nat) (A : Option Addr) (m1 c1 : Nat) (l1 : List Int) (vs : Value) (syms : List Sy), i = .int .i64 j ∧ j ≤ p ∧ syms.length ≤ j ∧ IRel w t n st m4 left br A m1 c1 l1 v rules vs syms wr) (fun i _ => p - (intOf i).toNat)
      case atStart => exact ⟨0, _, _, _, _, _, _, rfl, Nat.zero_le _, Nat.zero_le _, hR⟩
      case round =>
        obtain ⟨j, A8, m8, c8, l8, vs, syms, rfl, hj, hsj, hi⟩ := hrel
        clear hR
        by_cases hjl : j < p
        · go_wp2_with fail
          refine (snext_n w _ (w.heap.size + 1) 2 _ rfl A8 m8 c8 l8 hi.ints hi.bel (hi.b1.cell 0) (hi.b1.frozen 0) (by omega) (by omega)).mono ?_
          rintro e w' ⟨z, A9, m9, c9, l9, rfl, hz, hm9, rfl, hI9⟩
          replace hi := hi.next hI9 hm9
          clear hI9 hm9
          generalize wr.setCell ⟨w.heap.size + 1, 0, none⟩ (.slice A9 m9 c9) = W0 at *
          obtain ⟨Av, cv, rfl, -⟩ := hi.sown.form
          have H := Lib.hid hi
          have B1 := hi.b1
          have B2 := hi.b2
          have B3 := hi.b3
          clear hi
          by_cases hz0 : z = 0
          · subst hz0
            have cB1 := B1.cell
            have fB1 := B1.frozen
            have lB1 := B1.lt
            have cB2 := B2.cell
            have fB2 := B2.frozen
            have lB2 := B2.lt
            have cB3 := B3.cell
            have fB3 := B3.frozen
            have lB3 := B3.lt
            go_wp2_with fail
            go_region_law (first
              | (go_simp; go_at_call 20; refine (snext_n w _ (w.heap.size + 1) t _ rfl A9 m9 c9 l9 H.out.ints H.out.bel.drew (H.out.b1.cell 0) (H.out.b1.frozen 0) (by omega) (by omega)).mono ?_; rintro e w' ⟨y, A10, m10, c10, l10, rfl, hy, hm10, rfl, hI10⟩; dsimp only)
              | (have HA := ((H.out.dr).next hI10 hm10).al (.cells #[.bool true, .int .i64 (y : Int)] 39)
                 refine step_append_sy _ rfl (.tmp 39) (.tmp 45) rfl (fun b => br + 1 ≤ b) (br + 1) (.slice Av syms.length cv) syms.length syms rfl HA.sown W0.heap.size (true, y) rfl (Blk.newAt (W0.drew.setCell ⟨w.heap.size + 1, 0, none⟩ (.slice A10 m10 c10)) 39 #[.bool true, .int .i64 (y : Int)] _ (by simp)) (by omega) HA.size ?_
                 intro Av1 cv1 w1 ho1 hg1 hat1
                 have B3g := HA.b3.grown hg1 (fun e => by have := (HA.sown.lt br e.symm).1; omega)
                 have c3g := B3g.cell 1
                 have f3g := B3g.frozen))
            all_goals
              have HP := Lib.hid (IRel.push (s := (true, y)) HA ho1 hg1 (by simpa using hy))
              clear HA
              go_wp2_with fail
              exact ⟨⟨j + 1, _, _, _, _, _, _, by go_num, by omega, by rw [List.length_append, List.length_singleton]; omega, HP.out⟩, by simp [intOf]; omega⟩
          · have hz1 : ((z : Int) == 0) = false := by simp; omega
            have cB1 := B1.cell
            have fB1 := B1.frozen
            have lB1 := B1.lt
            have cB2 := B2.cell
            have fB2 := B2.frozen
            have lB2 := B2.lt
            have cB3 := B3.cell
            have fB3 := B3.frozen
            have lB3 := B3.lt
            go_wp2_with fail
            go_region_law (first
              | (go_simp; go_at_call 20; refine (snext_n w _ (w.heap.size + 1) n _ rfl A9 m9 c9 l9 H.out.ints H.out.bel.drew (H.out.b1.cell 0) (H.out.b1.frozen 0) (by omega) (by omega)).mono ?_; rintro e w' ⟨y, A10, m10, c10, l10, rfl, hy, hm10, rfl, hI10⟩; dsimp only)
              | (have HA := ((H.out.dr).next hI10 hm10).al (.cells #[.bool false, .int .i64 (y : Int)] 39)
                 refine step_append_sy _ rfl (.tmp 49) (.tmp 55) rfl (fun b => br + 1 ≤ b) (br + 1) (.slice Av syms.length cv) syms.length syms rfl HA.sown W0.heap.size (false, y) rfl (Blk.newAt (W0.drew.setCell ⟨w.heap.size + 1, 0, none⟩ (.slice A10 m10 c10)) 39 #[.bool false, .int .i64 (y : Int)] _ (by simp)) (by omega) HA.size ?_
                 intro Av1 cv1 w1 ho1 hg1 hat1
                 have B3g := HA.b3.grown hg1 (fun e => by have := (HA.sown.lt br e.symm).1; omega)
                 have c3g := B3g.cell 1
                 have f3g := B3g.frozen))
            all_goals
              have HP := Lib.hid (IRel.push (s := (false, y)) HA ho1 hg1 (by simpa using hy))
              clear HA
              go_wp2_with fail
              exact ⟨⟨j + 1, _, _, _, _, _, _, by go_num, by omega, by rw [List.length_append, List.length_singleton]; omega, HP.out⟩, by simp [intOf]; omega⟩
        · obtain ⟨Av, cv, rfl, -⟩ := hi.sown.form
          obtain ⟨Ar, cr, rfl, -⟩ := hi.own.form
          have hsr := hi.own.toSl (ok' := fun b => w.heap.size + 3 ≤ b) (fun b _ hb => hb.1) (fun b hb => hb)
          have hss := hi.sown.toSl (ok' := fun b => br + 1 ≤ b) (fun b _ hb => hb) (fun b hb => hb)
          have H := Lib.hid hi
          have B2 := hi.b2
          have B3 := hi.b3
          clear hi
          have cB2 := B2.cell
          have fB2 := B2.frozen
          have lB2 := B2.lt
          have cB3 := B3.cell
          have fB3 := B3.frozen
          have lB3 := B3.lt
          go_wp2_with fail
          clear cB2 fB2 lB2 cB3 fB3 lB3
          refine (has_c (fun b => w.heap.size + 3 ≤ b) (fun b => br + 1 ≤ b) Ar Av rules.length cr syms.length cv rules (left, syms) wr hsr hss (by omega) (by omega)).mono ?_
          rintro e w' ⟨rfl, hb1⟩
          clear hsr hss B2 B3
          have hi := H.out.via hb1
          clear H hb1
          by_cases hin : (left, syms) ∈ rules
          · have hd : decide ((left, syms) ∈ rules) = true := by simpa using hin
            rw [hd]
            clear hin hd
            have H := Lib.hid hi.drop
            clear hi
            go_wp2_with fail
            exact ⟨⟨k + 1, _, _, _, _, _, _, by go_num, by omega, by omega, H.out⟩, by simp [intOf]; omega⟩
          · have hd : decide ((left, syms) ∈ rules) = false := by simpa using hin
            rw [hd]
            have HN := Lib.hid hin
            clear hin hd
            have B2 := hi.b2
            have B3 := hi.b3
            have H := Lib.hid hi
            clear hi
            clear B2 B3
            have HA := H.out.al (.cells #[.int .i64 (left : Int), .slice Av syms.length cv] 62)
            have hown : Own RuE 62 (fun b => w.heap.size + 3 ≤ b) (w'.alloc (.cells #[.int .i64 (left : Int), .slice Av syms.length cv] 62)) (w.heap.size + 3) (.slice Ar rules.length cr) rules.length rules := HA.own.mono fun b _ hb => hb.1
            have hrel : Sl SyE (fun b => w.heap.size + 3 ≤ b ∧ some b ≠ Value.ownBlock (.slice Ar rules.length cr)) (w'.alloc (.cells #[.int .i64 (left : Int), .slice Av syms.length cv] 62)) Av syms.length cv syms :=
              HA.sown.toSl (fun b _ hb => ⟨by omega, fun e => by have := HA.vlt b e.symm; omega⟩) (fun b hb => ⟨by omega, fun e => by have := HA.vlt b e.symm; omega⟩)
            have hsz : w.heap.size + 3 ≤ (w'.alloc (.cells #[.int .i64 (left : Int), .slice Av syms.length cv] 62)).heap.size := by have := HA.size; omega
            have HO := Lib.hid hown
            have HL := Lib.hid hrel
            have HA' := Lib.hid HA
            have B2 := H.out.b2
            have B3 := H.out.b3
            have B2a := HA.b2
            clear HA hown hrel
            have cB2 := B2.cell
            have fB2 := B2.frozen
            have lB2 := B2.lt
            have cB3 := B3.cell
            have fB3 := B3.frozen
            have lB3 := B3.lt
            go_wp2_with (at_builtin; refine wpList_append_ru _ rfl (.tmp 65) (.tmp 67) rfl (fun b => w.heap.size + 3 ≤ b) (w.heap.size + 3) (.slice Ar rules.length cr) rules.length rules rfl HO.out w'.heap.size (left, syms) Av syms.length cv rfl (Blk.new w' 62 #[.int .i64 (left : Int), .slice Av syms.length cv]) HL.out (by omega) hsz ?_; intro Av1 cv1 w1 ho1 hg1 hat1; have B2g := B2a.grown hg1 (fun e => by have := (HO.out.lt _ e.symm).1; omega); have c2g := B2g.cell; have f2g := B2g.frozen)
            exact ⟨⟨k + 1, _, _, _, _, _, _, by go_num, by omega, by rw [List.length_append, List.length_singleton]; omega, HA'.out.add ho1 hg1 HN.out (by omega)⟩, by simp [intOf]; omega⟩
    · obtain ⟨Ar, cr, rfl, -⟩ := hr.own.form
      have H := Lib.hid hr
      clear hr B1
      have cB0 := B0.cell
      have fB0 := B0.frozen
      have lB0 := B0.lt
      have cB2 := B2.cell
      have fB2 := B2.frozen
      have lB2 := B2.lt
      go_wp2_with fail
      refine bodyPost_ret (v := grVal ⟨t, n, st, rules⟩ Ar rules.length cr) (by simp [results, Tryd.results10, go_sem, grVal, cB0]) rfl ⟨⟨t, n, st, rules⟩, Ar, rules.length, cr, rfl, ?_, ?_, ?_⟩
      · exact ⟨⟨ht0, ht1⟩, ⟨hn0, hn1⟩, hst, by show rules.length ≤ 8; omega, H.out.nodup, H.out.ok⟩
      · have ho := (((H.out.own.setCell (p := ⟨w.heap.size, 0, none⟩) (.int .i64 (t : Int)) (fun b hb => by show b ≠ w.heap.size; omega) (by show w.heap.size < _; omega)).setCell (p := ⟨w.heap.size, 1, none⟩) (.int .i64 (n : Int)) (fun b hb => by show b ≠ w.heap.size; omega) (by show w.heap.size < _; omega)).setCell (p := ⟨w.heap.size, 2, none⟩) (.int .i64 (st : Int)) (fun b hb => by show b ≠ w.heap.size; omega) (by show w.heap.size < _; omega)).setCell (p := ⟨w.heap.size, 3, none⟩) (.slice Ar rules.length cr) (fun b hb => by show b ≠ w.heap.size; omega) (by show w.heap.size < _; omega)
        exact ho.toSl (fun b _ hb => by omega) (fun b hb => by omega)
      · exact (((H.out.bel.setCell (by simp) _).setCell (by simp) _).setCell (by simp) _).setCell (by simp) _
end Go.Proofs.YthiikgjeamoocaaDoor

