/- Texts PK, laid together. -/
import Derived.Test.YtdmecijpioljaaaPJ
import Derived.Test.YtdmecijpioljaaaH2



namespace Go.Proofs.Ytdmecijpioljaaa
open Go.RowKit

set_option maxRecDepth 100000 in
set_option maxHeartbeats 1000000 in
theorem next_s (w : World) (base bf : Nat) (cs : Array Value) (AR : Option Addr) (nR cR : Nat) (R : List Ru) (hB0 : Blk w bf 59 cs) (h3 : cs[3]? = some (.slice AR nR cR)) (hr : Sl RuE (fun b => b < base) w AR nR cR R) (hbase : base ≤ w.heap.size) (hR : ∀ u ∈ R, u.2.length ≤ 1000) (x : It3) (tb : Bool) (tn : Nat) (hn : nxtI R x = some (tb, tn)) :
    Calls Try.prog 27 #[.pointer (some ⟨bf, 0, none⟩), .agg #[.int .i64 (x.r : Int), .int .i64 (x.d : Int), .int .i64 (x.f : Int)]] w fun e w' => e = .returned (.tuple #[.agg #[.bool tb, .int .i64 (tn : Int)], .bool true]) ∧ Below w.heap.size w w' := by
  obtain ⟨u, hu, hud, hdl⟩ := nxtI_lt hn
  have hul := hR u (List.mem_of_getElem? hu)
  have hb := ((Below.refl w.heap.size w).al (.cells #[.int .i64 (x.r : Int), .int .i64 (x.d : Int), .int .i64 (x.f : Int)] 68)).al (.cells #[.bool false, .int .i64 0] 45)
  have B1 := (Blk.new w 68 #[.int .i64 (x.r : Int), .int .i64 (x.d : Int), .int .i64 (x.f : Int)]).al (.cells #[.bool false, .int .i64 0] 45)
  have B2 := Blk.new (w.alloc (.cells #[.int .i64 (x.r : Int), .int .i64 (x.d : Int), .int .i64 (x.f : Int)] 68)) 45 #[.bool false, .int .i64 0]
  rw [World.size_alloc] at B2
  have hM := hr.via hb
  have hrn : x.r < nR := by have := (List.getElem?_eq_some_iff.1 hu).1; have := hr.len; omega
  obtain ⟨b1, o1, ⟨xl, xA, xn, xc⟩, y, rfl, hbb, hb1, hy, hbr, hc⟩ := hM.at_ hrn
  rw [hu] at hy
  obtain rfl := Option.some.inj hy
  obtain ⟨e1, e2⟩ := hbr
  simp only at e1 e2
  have r1 := hc 1 _ rfl
  simp only [RuE] at r1
  have hxn : x.d < xn := by have := e2.len; omega
  have hxl : xn ≤ 1000 := by have := e2.len; omega
  obtain ⟨b3, o3, s, s', rfl, -, hb3, hs', hss, hcs⟩ := e2.at_ hxn
  rw [hud] at hs'
  obtain rfl := Option.some.inj hs'
  obtain rfl : s = (tb, tn) := hss
  have s0 := hcs 0 _ rfl
  have s1 := hcs 1 _ rfl
  simp only [SyE, Nat.add_zero] at s0 s1
  have f3 := (hB0.via hb).cell 3
  rw [h3] at f3
  have i0 : (0 : Int) ≤ (x.r : Int) := by omega
  have i1 : (x.r : Int) < (nR : Int) := by omega
  have i2 : (0 : Int) ≤ (x.d : Int) := by omega
  have i3 : (x.d : Int) < (xn : Int) := by omega
  have hqq : ((x.d : Int) == (xn : Int)) = false := by rw [beq_eq_false_iff_ne]; omega
  have HB := Lib.hid hb
  have hbf : bf ≠ w.heap.size + 1 := by have := hB0.lt; omega
  have hb1' : b1 ≠ w.heap.size + 1 := fun e => by omega
  have B2' := Lib.hid B2
  clear hb hM hr hB0 h3 hc hcs hn hu hud e1 e2 hR hy hs' hbb
  go_enter Try.func27, Try.ntmps27
  have cB1 := B1.cell
  have fB1 := B1.frozen
  have lB1 := B1.lt
  have cB2 := B2.cell
  have fB2 := B2.frozen
  have lB2 := B2.lt
  go_upto_region 1 with fail
  generalize (w.alloc (.cells #[.int .i64 (x.r : Int), .int .i64 (x.d : Int), .int .i64 (x.f : Int)] 68)).alloc (.cells #[.bool false, .int .i64 0] 45) = W at *
  go_quiet (fail)
  go_wp2_with fail
  refine bodyPost_ret (v := .tuple #[.agg #[.bool tb, .int .i64 (tn : Int)], .bool true]) (by simp [results, Try.results27, go_sem, cB2]) rfl ⟨rfl, ?_⟩
  exact ((below_drewN HB.out _).setCell (by simp) _).setCell (by simp) _
set_option maxRecDepth 100000 in
set_option maxHeartbeats 1000000 in
theorem next_n (w : World) (base bf : Nat) (cs : Array Value) (AR : Option Addr) (nR cR : Nat) (R : List Ru) (hB0 : Blk w bf 59 cs) (h3 : cs[3]? = some (.slice AR nR cR)) (hr : Sl RuE (fun b => b < base) w AR nR cR R) (hbase : base ≤ w.heap.size) (hR : ∀ u ∈ R, u.2.length ≤ 1000) (k : Nat) (x : It3) (hx : ItOk R k x) (hn : nxtI R x = none) :
    Calls Try.prog 27 #[.pointer (some ⟨bf, 0, none⟩), .agg #[.int .i64 (x.r : Int), .int .i64 (x.d : Int), .int .i64 (x.f : Int)]] w fun e w' => e = .returned (.tuple #[.agg #[.bool false, .int .i64 0], .bool false]) ∧ Below w.heap.size w w' := by
  obtain ⟨-, u, hu, hdl⟩ := hx
  have hdu : x.d = u.2.length := by
    unfold nxtI at hn
    rw [hu] at hn
    have := List.getElem?_eq_none_iff.1 hn
    omega
  have hul := hR u (List.mem_of_getElem? hu)
  have hb := ((Below.refl w.heap.size w).al (.cells #[.int .i64 (x.r : Int), .int .i64 (x.d : Int), .int .i64 (x.f : Int)] 68)).al (.cells #[.bool false, .int .i64 0] 45)
  have B1 := (Blk.new w 68 #[.int .i64 (x.r : Int), .int .i64 (x.d : Int), .int .i64 (x.f : Int)]).al (.cells #[.bool false, .int .i64 0] 45)
  have B2 := Blk.new (w.alloc (.cells #[.int .i64 (x.r : Int), .int .i64 (x.d : Int), .int .i64 (x.f : Int)] 68)) 45 #[.bool false, .int .i64 0]
  rw [World.size_alloc] at B2
  have hM := hr.via hb
  have hrn : x.r < nR := by have := (List.getElem?_eq_some_iff.1 hu).1; have := hr.len; omega
  obtain ⟨b1, o1, ⟨xl, xA, xn, xc⟩, y, rfl, hbb, hb1, hy, hbr, hc⟩ := hM.at_ hrn
  rw [hu] at hy
  obtain rfl := Option.some.inj hy
  obtain ⟨e1, e2⟩ := hbr
  simp only at e1 e2
  have r1 := hc 1 _ rfl
  simp only [RuE] at r1
  have hxd : x.d = xn := by have := e2.len; omega
  have hxl : xn ≤ 1000 := by have := e2.len; omega
  have f3 := (hB0.via hb).cell 3
  rw [h3] at f3
  have i0 : (0 : Int) ≤ (x.r : Int) := by omega
  have i1 : (x.r : Int) < (nR : Int) := by omega
  have hnlt : ¬ x.d < xn := by omega
  have hqq : ((x.d : Int) == (xn : Int)) = true := by rw [beq_iff_eq]; omega
  have HB := Lib.hid hb
  have hbf : bf ≠ w.heap.size + 1 := by have := hB0.lt; omega
  have hb1' : b1 ≠ w.heap.size + 1 := fun e => by omega
  have B2' := Lib.hid B2
  clear hb hM hr hB0 h3 hc hn hu hdu hdl e1 e2 hR hy hbb hxd
  go_enter Try.func27, Try.ntmps27
  have cB1 := B1.cell
  have fB1 := B1.frozen
  have lB1 := B1.lt
  have cB2 := B2.cell
  have fB2 := B2.frozen
  have lB2 := B2.lt
  go_upto_region 1 with fail
  generalize (w.alloc (.cells #[.int .i64 (x.r : Int), .int .i64 (x.d : Int), .int .i64 (x.f : Int)] 68)).alloc (.cells #[.bool false, .int .i64 0] 45) = W at *
  go_quiet (fail)
  go_wp2_with fail
  refine bodyPost_ret (v := .tuple #[.agg #[.bool false, .int .i64 0], .bool false]) (by simp [results, Try.results27, go_sem, cB2]) rfl ⟨rfl, ?_⟩
  exact ((below_drewN HB.out _).setCell (by simp) _).setCell (by simp) _
set_option maxRecDepth 100000 in
set_option maxHeartbeats 1000000 in
theorem cnext_s (w : World) (base bf : Nat) (cs : Array Value) (AR : Option Addr) (nR cR : Nat) (R : List Ru) (hB0 : Blk w bf 108 cs) (h3 : cs[3]? = some (.slice AR nR cR)) (hr : Sl RuE (fun b => b < base) w AR nR cR R) (hbase : base ≤ w.heap.size) (hR : ∀ u ∈ R, u.2.length ≤ 1000) (x : It3) (tb : Bool) (tn : Nat) (hn : nxtI R x = some (tb, tn)) :
    Calls Try.prog 56 #[.pointer (some ⟨bf, 0, none⟩), .agg #[.int .i64 (x.r : Int), .int .i64 (x.d : Int), .int .i64 (x.f : Int)]] w fun e w' => e = .returned (.tuple #[.agg #[.bool tb, .int .i64 (tn : Int)], .bool true]) ∧ Below w.heap.size w w' := by
  obtain ⟨u, hu, hud, hdl⟩ := nxtI_lt hn
  have hul := hR u (List.mem_of_getElem? hu)
  have hb := ((Below.refl w.heap.size w).al (.cells #[.int .i64 (x.r : Int), .int .i64 (x.d : Int), .int .i64 (x.f : Int)] 111)).al (.cells #[.bool false, .int .i64 0] 45)
  have B1 := (Blk.new w 111 #[.int .i64 (x.r : Int), .int .i64 (x.d : Int), .int .i64 (x.f : Int)]).al (.cells #[.bool false, .int .i64 0] 45)
  have B2 := Blk.new (w.alloc (.cells #[.int .i64 (x.r : Int), .int .i64 (x.d : Int), .int .i64 (x.f : Int)] 111)) 45 #[.bool false, .int .i64 0]
  rw [World.size_alloc] at B2
  have hM := hr.via hb
  have hrn : x.r < nR := by have := (List.getElem?_eq_some_iff.1 hu).1; have := hr.len; omega
  obtain ⟨b1, o1, ⟨xl, xA, xn, xc⟩, y, rfl, hbb, hb1, hy, hbr, hc⟩ := hM.at_ hrn
  rw [hu] at hy
  obtain rfl := Option.some.inj hy
  obtain ⟨e1, e2⟩ := hbr
  simp only at e1 e2
  have r1 := hc 1 _ rfl
  simp only [RuE] at r1
  have hxn : x.d < xn := by have := e2.len; omega
  have hxl : xn ≤ 1000 := by have := e2.len; omega
  obtain ⟨b3, o3, s, s', rfl, -, hb3, hs', hss, hcs⟩ := e2.at_ hxn
  rw [hud] at hs'
  obtain rfl := Option.some.inj hs'
  obtain rfl : s = (tb, tn) := hss
  have s0 := hcs 0 _ rfl
  have s1 := hcs 1 _ rfl
  simp only [SyE, Nat.add_zero] at s0 s1
  have f3 := (hB0.via hb).cell 3
  rw [h3] at f3
  have i0 : (0 : Int) ≤ (x.r : Int) := by omega
  have i1 : (x.r : Int) < (nR : Int) := by omega
  have i2 : (0 : Int) ≤ (x.d : Int) := by omega
  have i3 : (x.d : Int) < (xn : Int) := by omega
  have hqq : ((x.d : Int) == (xn : Int)) = false := by rw [beq_eq_false_iff_ne]; omega
  have HB := Lib.hid hb
  have hbf : bf ≠ w.heap.size + 1 := by have := hB0.lt; omega
  have hb1' : b1 ≠ w.heap.size + 1 := fun e => by omega
  have B2' := Lib.hid B2
  clear hb hM hr hB0 h3 hc hcs hn hu hud e1 e2 hR hy hs' hbb
  go_enter Try.func56, Try.ntmps56
  have cB1 := B1.cell
  have fB1 := B1.frozen
  have lB1 := B1.lt
  have cB2 := B2.cell
  have fB2 := B2.frozen
  have lB2 := B2.lt
  go_upto_region 1 with fail
  generalize (w.alloc (.cells #[.int .i64 (x.r : Int), .int .i64 (x.d : Int), .int .i64 (x.f : Int)] 111)).alloc (.cells #[.bool false, .int .i64 0] 45) = W at *
  go_quiet (fail)
  go_wp2_with fail
  refine bodyPost_ret (v := .tuple #[.agg #[.bool tb, .int .i64 (tn : Int)], .bool true]) (by simp [results, Try.results56, go_sem, cB2]) rfl ⟨rfl, ?_⟩
  exact ((below_drewN HB.out _).setCell (by simp) _).setCell (by simp) _
set_option maxRecDepth 100000 in
set_option maxHeartbeats 1000000 in
theorem cnext_n (w : World) (base bf : Nat) (cs : Array Value) (AR : Option Addr) (nR cR : Nat) (R : List Ru) (hB0 : Blk w bf 108 cs) (h3 : cs[3]? = some (.slice AR nR cR)) (hr : Sl RuE (fun b => b < base) w AR nR cR R) (hbase : base ≤ w.heap.size) (hR : ∀ u ∈ R, u.2.length ≤ 1000) (k : Nat) (x : It3) (hx : ItOk R k x) (hn : nxtI R x = none) :
    Calls Try.prog 56 #[.pointer (some ⟨bf, 0, none⟩), .agg #[.int .i64 (x.r : Int), .int .i64 (x.d : Int), .int .i64 (x.f : Int)]] w fun e w' => e = .returned (.tuple #[.agg #[.bool false, .int .i64 0], .bool false]) ∧ Below w.heap.size w w' := by
  obtain ⟨-, u, hu, hdl⟩ := hx
  have hdu : x.d = u.2.length := by
    unfold nxtI at hn
    rw [hu] at hn
    have := List.getElem?_eq_none_iff.1 hn
    omega
  have hul := hR u (List.mem_of_getElem? hu)
  have hb := ((Below.refl w.heap.size w).al (.cells #[.int .i64 (x.r : Int), .int .i64 (x.d : Int), .int .i64 (x.f : Int)] 111)).al (.cells #[.bool false, .int .i64 0] 45)
  have B1 := (Blk.new w 111 #[.int .i64 (x.r : Int), .int .i64 (x.d : Int), .int .i64 (x.f : Int)]).al (.cells #[.bool false, .int .i64 0] 45)
  have B2 := Blk.new (w.alloc (.cells #[.int .i64 (x.r : Int), .int .i64 (x.d : Int), .int .i64 (x.f : Int)] 111)) 45 #[.bool false, .int .i64 0]
  rw [World.size_alloc] at B2
  have hM := hr.via hb
  have hrn : x.r < nR := by have := (List.getElem?_eq_some_iff.1 hu).1; have := hr.len; omega
  obtain ⟨b1, o1, ⟨xl, xA, xn, xc⟩, y, rfl, hbb, hb1, hy, hbr, hc⟩ := hM.at_ hrn
  rw [hu] at hy
  obtain rfl := Option.some.inj hy
  obtain ⟨e1, e2⟩ := hbr
  simp only at e1 e2
  have r1 := hc 1 _ rfl
  simp only [RuE] at r1
  have hxd : x.d = xn := by have := e2.len; omega
  have hxl : xn ≤ 1000 := by have := e2.len; omega
  have f3 := (hB0.via hb).cell 3
  rw [h3] at f3
  have i0 : (0 : Int) ≤ (x.r : Int) := by omega
  have i1 : (x.r : Int) < (nR : Int) := by omega
  have hnlt : ¬ x.d < xn := by omega
  have hqq : ((x.d : Int) == (xn : Int)) = true := by rw [beq_iff_eq]; omega
  have HB := Lib.hid hb
  have hbf : bf ≠ w.heap.size + 1 := by have := hB0.lt; omega
  have hb1' : b1 ≠ w.heap.size + 1 := fun e => by omega
  have B2' := Lib.hid B2
  clear hb hM hr hB0 h3 hc hn hu hdu hdl e1 e2 hR hy hbb hxd
  go_enter Try.func56, Try.ntmps56
  have cB1 := B1.cell
  have fB1 := B1.frozen
  have lB1 := B1.lt
  have cB2 := B2.cell
  have fB2 := B2.frozen
  have lB2 := B2.lt
  go_upto_region 1 with fail
  generalize (w.alloc (.cells #[.int .i64 (x.r : Int), .int .i64 (x.d : Int), .int .i64 (x.f : Int)] 111)).alloc (.cells #[.bool false, .int .i64 0] 45) = W at *
  go_quiet (fail)
  go_wp2_with fail
  refine bodyPost_ret (v := .tuple #[.agg #[.bool false, .int .i64 0], .bool false]) (by simp [results, Try.results56, go_sem, cB2]) rfl ⟨rfl, ?_⟩
  exact ((below_drewN HB.out _).setCell (by simp) _).setCell (by simp) _
end Go.Proofs.Ytdmecijpioljaaa

