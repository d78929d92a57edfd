/- parlkeep4.system (not calm). -/
import Derived.Test.YtgclibfikdonoaaYB
import Derived.Test.YtgclibfikdonoaaYD
import Derived.Test.YtgclibfikdonoaaYE
namespace Go.Proofs.Ytgclibfikdonoaa
open Go.RowKit

theorem Own.slRf {w : World} {ok : Nat → Prop} {base n n' c : Nat} {A : Option Addr} {xs : List Rf} (h : Own RfE 25 ok w base (.slice A n' c) n xs) : Sl RfE (fun b => base ≤ b ∧ b < w.heap.size) w A n c xs := by
  have h2 : Own RfE 25 (fun b => base ≤ b) w base (.slice A n' c) n xs := Own.ofRaws h.len h.raws
  exact (h2.toSl (ok' := fun b => base ≤ b) (fun _ _ h => h) (fun _ h => h)).mono fun b hb hk => ⟨hk, hb⟩

/-- the system under way: rows that are read (Z), the row of equations that grows -/
structure SRel (w W2 : World) (Z : Nat → Prop) (br bs : Nat) (gv : Array Value) (Aa : Option Addr) (na ca : Nat) (attrs : List At) (v : Value) (n : Nat) (eqs : List Qe) (wr : World) : Prop where
  rd : Rd w wr br
  b0 : Blk wr w.heap.size 32 gv
  b1 : Blk wr (w.heap.size + 1) 38 #[.slice none 0 0, .slice none 0 0]
  b3 : Blk wr bs 38 #[.slice Aa na ca, v]
  att : Sl AtE (fun b => br < b ∧ b < bs) wr Aa na ca attrs
  own : Own QeE 41 (fun b => bs + 1 ≤ b) wr (bs + 1) v n eqs
  oks : ∀ q ∈ eqs, Ex.Ok 2 q.2.2
  size : bs + 1 ≤ wr.heap.size
  lo : br < bs
  hbr : br = w.heap.size + 2
  z : Agr Z W2 wr
  o : ∀ k, v.ownBlock = some k → ¬ Z k
  zs : ∀ b, Z b → bs < b ∧ b < W2.heap.size
  le : W2.heap.size ≤ wr.heap.size
section
variable {w W2 wr wa w1 : World} {Z Z' : Nat → Prop} {br bs : Nat} {gv : Array Value} {Aa : Option Addr} {na ca : Nat} {attrs : List At} {v v' : Value} {n : Nat} {eqs : List Qe}
theorem SRel.via (h : SRel w W2 Z br bs gv Aa na ca attrs v n eqs wr) (hb : Below wr.heap.size wr wa) : SRel w W2 Z br bs gv Aa na ca attrs v n eqs wa :=
  ⟨h.rd.via hb, h.b0.via hb, h.b1.via hb, h.b3.via hb, h.att.via hb, h.own.via hb, h.oks, Nat.le_trans h.size hb.size, h.lo, h.hbr, h.z.trans (Agr.below hb), h.o, h.zs, Nat.le_trans h.le hb.size⟩
theorem SRel.al (h : SRel w W2 Z br bs gv Aa na ca attrs v n eqs wr) (o : Obj) : SRel w W2 Z br bs gv Aa na ca attrs v n eqs (wr.alloc o) := h.via ((Below.refl _ _).alloc (Nat.le_refl _) o)
/-- other rows are read from here on -/
theorem SRel.rows (h : SRel w W2 Z br bs gv Aa na ca attrs v n eqs wr) (ho : ∀ k, v.ownBlock = some k → ¬ Z' k) (hz : ∀ b, Z' b → bs < b ∧ b < wr.heap.size) : SRel w wr Z' br bs gv Aa na ca attrs v n eqs wr :=
  ⟨h.rd, h.b0, h.b1, h.b3, h.att, h.own, h.oks, h.size, h.lo, h.hbr, Agr.refl, ho, hz, Nat.le_refl _⟩
theorem SRel.call (h : SRel w W2 Z br bs gv Aa na ca attrs v n eqs wr) (ha : Agr (Nr br) wr wa) (hz : wr.heap.size ≤ wa.heap.size) (hs : Rd w wa br) : SRel w W2 Z br bs gv Aa na ca attrs v n eqs wa := by
  have hl := h.lo
  have hb := h.hbr
  refine ⟨hs, h.b0.agr ha (by show w.heap.size ≠ br; omega), h.b1.agr ha (by show w.heap.size + 1 ≠ br; omega), h.b3.agr ha (by show bs ≠ br; omega), h.att.agr (ha.mono fun b hb => by show b ≠ br; omega), h.own.agr (ha.mono fun b hb => ?_), h.oks, Nat.le_trans h.size hz, hl, hb, h.z.trans (ha.mono fun b hb => ?_), h.o, h.zs, Nat.le_trans h.le hz⟩
  · rcases hb with hb | hb
    · show b ≠ br; omega
    · have := (h.own.lt b hb.symm).1
      show b ≠ br; omega
  · have := (h.zs b hb).1
    show b ≠ br; omega
theorem SRel.push {r : Nat} {f : Rf} {x : Ex} (h : SRel w W2 Z br bs gv Aa na ca attrs v n eqs wr) (ho : Own QeE 41 (fun b => bs + 1 ≤ b) w1 (bs + 1) v' (n + 1) (eqs ++ [(r, f, x)])) (hg : wr.grownBy w1 v.ownBlock) (hx : Ex.Ok 2 x) (hat : v'.ownBlock = v.ownBlock ∨ v'.ownBlock = some wr.heap.size) :
    SRel w W2 Z br bs gv Aa na ca attrs v' (n + 1) (eqs ++ [(r, f, x)]) (w1.setCell ⟨bs, 1, none⟩ v') := by
  have hl := h.lo
  have hb := h.hbr
  have hsz := h.size
  have hle := h.le
  have hne : ∀ j, j ≤ bs → some j ≠ v.ownBlock := fun j hj e => by have := (h.own.lt j e.symm).1; omega
  have hgs := hg.size
  refine ⟨(h.rd.grown hg fun j e => by have := (h.own.lt j e).1; omega).far (by simp; omega) (by simp; omega) _, (h.b0.grown hg (hne _ (by omega))).far (by simp; omega) _, (h.b1.grown hg (hne _ (by omega))).far (by simp; omega) _, ?_, ?_, ho.setCell _ (fun b hb => by show b ≠ bs; omega) (by show bs < _; omega), ?_, by simp; omega, hl, hb, ?_, ?_, h.zs, by simp; omega⟩
  · have := (h.b3.grown hg (hne _ (by omega))).set_ 1 v'; simpa using this
  · exact h.att.agr ((Agr.grown hg fun b hb => hne b (by omega)).trans (Agr.setCell _ fun b hb => by show b ≠ bs; omega))
  · intro q hq
    rcases List.mem_append.1 hq with hq | hq
    · exact h.oks q hq
    · rw [List.mem_singleton.1 hq]; exact hx
  · exact (h.z.trans (Agr.grown hg fun b hb e => h.o b e.symm hb)).trans (Agr.setCell _ fun b hb => by have := (h.zs b hb).1; show b ≠ bs; omega)
  · intro k hk hz
    rcases hat with e | e
    · rw [e] at hk; exact h.o k hk hz
    · rw [e] at hk; cases hk
      have := (h.zs _ hz).2; omega
end

/-- two rows of occurrences that grow -/
structure LRel (W3 : World) (va : Value) (n1 : Nat) (xs : List Rf) (vt : Value) (n2 : Nat) (ys : List Rf) (wr : World) : Prop where
  all : Own RfE 25 (fun _ => False) wr W3.heap.size va n1 xs
  tt : Own RfE 25 (fun _ => False) wr W3.heap.size vt n2 ys
  ne : ∀ k, va.ownBlock = some k → vt.ownBlock ≠ some k
  bel : Below W3.heap.size W3 wr
section
variable {W3 wr wa w1 : World} {va va' vt vt' : Value} {n1 n2 m1 : Nat} {xs ys zs : List Rf}
theorem LRel.via (h : LRel W3 va n1 xs vt n2 ys wr) (hb : Below wr.heap.size wr wa) : LRel W3 va n1 xs vt n2 ys wa :=
  ⟨h.all.via hb, h.tt.via hb, h.ne, h.bel.via hb⟩
theorem LRel.pushA (h : LRel W3 va n1 xs vt n2 ys wr) (ho : Own RfE 25 (fun _ => False) w1 W3.heap.size va' m1 zs) (hg : wr.grownBy w1 va.ownBlock) (hat : va'.ownBlock = va.ownBlock ∨ va'.ownBlock = some wr.heap.size) : LRel W3 va' m1 zs vt n2 ys w1 := by
  refine ⟨ho, h.tt.agr (Agr.grown hg fun b hb e => ?_), ?_, h.bel.grown hg h.bel.size fun j hj => (h.all.lt j hj).1⟩
  · rcases hb with hb | hb
    · exact hb
    · exact h.ne b e.symm hb.symm
  · intro k hk ht
    rcases hat with e | e
    · exact h.ne k (by rw [← e]; exact hk) ht
    · rw [e] at hk; cases hk
      exact Nat.lt_irrefl _ (h.tt.lt _ ht).2
theorem LRel.pushT (h : LRel W3 va n1 xs vt n2 ys wr) (ho : Own RfE 25 (fun _ => False) w1 W3.heap.size vt' m1 zs) (hg : wr.grownBy w1 vt.ownBlock) (hat : vt'.ownBlock = vt.ownBlock ∨ vt'.ownBlock = some wr.heap.size) : LRel W3 va n1 xs vt' m1 zs w1 := by
  refine ⟨h.all.agr (Agr.grown hg fun b hb e => ?_), ho, ?_, h.bel.grown hg h.bel.size fun j hj => (h.tt.lt j hj).1⟩
  · rcases hb with hb | hb
    · exact hb
    · exact h.ne b hb.symm e.symm
  · intro k hk ht
    rcases hat with e | e
    · exact h.ne k hk (by rw [← e]; exact ht)
    · rw [e] at ht; cases ht
      exact Nat.lt_irrefl _ (h.all.lt _ hk).2
end

def SysP (w : World) (e : Ending) (w' : World) : Prop :=
  ∃ Aa na ca Ae ne ce eqs, e = .returned (.agg #[.slice Aa na ca, .slice Ae ne ce]) ∧ Sl QeE (fun b => w.heap.size ≤ b) w' Ae ne ce eqs ∧ (∀ q ∈ eqs, Ex.Ok 2 q.2.2) ∧ Below w.heap.size w w' ∧ ne ≤ 3200

set_option maxRecDepth 100000 in
set_option maxHeartbeats 4000000 in
theorem system_c (ok : Nat → Prop) (g : Gr) (Ag : Option Addr) (ng cg : Nat) (A : Option Addr) (m c : Nat) (ls : List Int) (w : World) (hno : g.nons ≤ 10) (hru : g.rules.length ≤ 32) (hri : ∀ r ∈ g.rules, r.2.length ≤ 4)
    (hg : Sl RuE ok w Ag ng cg g.rules) (hI : Ints w A m c ls) :
    Calls Try.prog 15 #[grVal g Ag ng cg, .slice A m c, .bool false] w (SysP w) := by
  have hng : ng ≤ 32 := by rw [← hg.len]; exact hru
  simp only [grVal]
  have B0 := ((Blk.new w 32 #[.int .i64 (g.terms : Int), .int .i64 (g.nons : Int), .int .i64 (g.start : Int), .slice Ag ng cg]).al (.cells #[.slice none 0 0, .slice none 0 0] 38)).al (.cells #[.slice A m c] 65)
  have B1 := (Blk.new (w.alloc (.cells #[.int .i64 (g.terms : Int), .int .i64 (g.nons : Int), .int .i64 (g.start : Int), .slice Ag ng cg] 32)) 38 #[.slice none 0 0, .slice none 0 0]).al (.cells #[.slice A m c] 65)
  have B2 := Blk.new ((w.alloc (.cells #[.int .i64 (g.terms : Int), .int .i64 (g.nons : Int), .int .i64 (g.start : Int), .slice Ag ng cg] 32)).alloc (.cells #[.slice none 0 0, .slice none 0 0] 38)) 65 #[.slice A m c]
  have hB := (((Below.refl w.heap.size w).al (.cells #[.int .i64 (g.terms : Int), .int .i64 (g.nons : Int), .int .i64 (g.start : Int), .slice Ag ng cg] 32)).al (.cells #[.slice none 0 0, .slice none 0 0] 38)).al (.cells #[.slice A m c] 65)
  have hsz : w.heap.size + 3 ≤ (((w.alloc (.cells #[.int .i64 (g.terms : Int), .int .i64 (g.nons : Int), .int .i64 (g.start : Int), .slice Ag ng cg] 32)).alloc (.cells #[.slice none 0 0, .slice none 0 0] 38)).alloc (.cells #[.slice A m c] 65)).heap.size := by simp
  simp only [World.size_alloc] at B1 B2
  have HG := Lib.hid hg
  have HI := Lib.hid hI
  have HRI := Lib.hid hri
  clear hg hI hri
  go_enter Try.func15, Try.ntmps15
  have cB0 := B0.cell
  have fB0 := B0.frozen
  have lB0 := B0.lt
  go_wp2_with fail
  clear cB0 fB0 lB0
  generalize ((w.alloc (.cells #[.int .i64 (g.terms : Int), .int .i64 (g.nons : Int), .int .i64 (g.start : Int), .slice Ag ng cg] 32)).alloc (.cells #[.slice none 0 0, .slice none 0 0] 38)).alloc (.cells #[.slice A m c] 65) = W at *
  have hrd : Rd w W (w.heap.size + 1 + 1) := ⟨⟨A, m, c, ls, B2, HI.out⟩, hB, by omega⟩
  refine (att_c w (w.heap.size + 1 + 1) g Ag ng cg (by omega) W hrd).mono ?_
  rintro e W1 ⟨Aa, na, ca, attrs, rfl, hat, hna, hr1, ha1, hz1⟩
  have C0 := B0.agr ha1 (show Nr (w.heap.size + 1 + 1) w.heap.size by show w.heap.size ≠ w.heap.size + 1 + 1; omega)
  have C1 := B1.agr ha1 (show Nr (w.heap.size + 1 + 1) (w.heap.size + 1) by show w.heap.size + 1 ≠ w.heap.size + 1 + 1; omega)
  have hR : SRel w (W1.alloc (.cells #[.slice Aa na ca, .slice none 0 0] 38)) (fun _ => False) (w.heap.size + 1 + 1) W1.heap.size #[.int .i64 (g.terms : Int), .int .i64 (g.nons : Int), .int .i64 (g.start : Int), .slice Ag ng cg] Aa na ca attrs (.slice none 0 0) 0 [] (W1.alloc (.cells #[.slice Aa na ca, .slice none 0 0] 38)) :=
    ⟨hr1.al _, C0.al _, C1.al _, Blk.new _ _ _, (hat.mono fun b hb hk => ⟨by omega, hb⟩).al _, Own.nil _ _, fun q hq => (by cases hq), by simp, by omega, rfl, Agr.refl, fun k hk => (by simp [Value.ownBlock] at hk), fun b hb => False.elim hb, Nat.le_refl _⟩
  have HR0 := Lib.hid hR
  clear hR hat hr1 ha1 B1 B2 hB hrd C1 B0
  have cC0 := C0.cell
  have fC0 := C0.frozen
  have lC0 := C0.lt
  go_wp2_with fail
  clear cC0 fC0 lC0
  clear C0
  have hbs : w.heap.size + 3 ≤ W1.heap.size := by omega
  generalize W1.heap.size = bs at *
  go_loopw [30] (fun i wr => ∃ (k n : Nat) (v : Value) (eqs : List Qe) (W2 : World) (Z : Nat → Prop), i = .int .i64 k ∧ k ≤ ng ∧ n ≤ 100 * k ∧ SRel w W2 Z (w.heap.size + 1 + 1) bs #[.int .i64 (g.terms : Int), .int .i64 (g.nons : Int), .int .i64 (g.start : Int), .slice Ag ng cg] Aa na ca attrs v n eqs wr) (fun i _ => ng - (intOf i).toNat)
  case atStart => exact ⟨0, 0, _, [], _, _, rfl, Nat.zero_le _, Nat.le_refl _, HR0.out⟩
  case round =>
    obtain ⟨k, n, v, eqs, W2, Z, rfl, hk, hn, hr⟩ := hrel
    clear HR0
    obtain ⟨Av, cv, rfl, -⟩ := hr.own.form
    by_cases hlt : k < ng
    · obtain ⟨b, off, raw, x, rfl, hob, hb, hx, ⟨hx1, hx2⟩, hc⟩ := ((HG.out.mono (ok' := fun b => b < w.heap.size) fun b hb _ => hb).via hr.rd.bel).at_ hlt
      obtain ⟨rl, Ax, nx, cx⟩ := raw
      have c0 := hc 0 _ rfl
      have c1 := hc 1 _ rfl
      simp only [RuE, Nat.add_zero] at c0 c1
      have i0 : (0 : Int) ≤ (k : Int) := by omega
      have i1 : (k : Int) < (ng : Int) := by omega
      have hx2l : x.2.length = nx := hx2.len
      have hnx : nx ≤ 4 := by rw [← hx2l]; exact HRI.out x (List.mem_of_getElem? hx)
      have HX := Lib.hid (show ∀ j, j < nx → ∀ y, g.rules[k]? = some y → j + 1 ≤ y.2.length by
        intro j hj y hy; rw [hx] at hy; cases hy; omega)
      have HR := Lib.hid (hr.al (.cells #[.int .i64 (rl : Int), .slice Ax nx cx] 53))
      have Bk := Blk.new wr 53 #[.int .i64 (rl : Int), .slice Ax nx cx]
      have B0 := hr.b0
      have B3 := hr.b3
      clear hc hx hx1 hx2 hr hx2l
      have cB0 := B0.cell
      have fB0 := B0.frozen
      have lB0 := B0.lt
      have cB3 := B3.cell
      have fB3 := B3.frozen
      have lB3 := B3.lt
      go_wp2_with fail
      clear cB0 fB0 lB0 cB3 fB3 lB3
      clear c0 c1 B0 B3
      generalize wr.alloc (.cells #[.int .i64 (rl : Int), .slice Ax nx cx] 53) = W at *
      generalize wr.heap.size = bk at *
      refine (occ_c (fun b => b < w.heap.size) _ g (some ⟨b, off, none⟩) ng cg Aa na ca attrs Av n cv k 0 _ rfl true W ((HG.out.mono (ok' := fun b => b < w.heap.size) fun b hb _ => hb).via HR.out.rd.bel) HR.out.att hlt (fun _ _ => Nat.zero_le _) (by omega) (by omega)).mono ?_
      rintro e W3 ⟨Ad, nd, cd, xd, rfl, hod, hnd, hb3⟩
      have HR3 := Lib.hid (HR.out.via hb3)
      have hbsW : bs + 1 ≤ W.heap.size := HR.out.size
      have hR3 := HR.out.own.lt
      replace hR3 := Lib.hid hR3
      have Bk3 := Bk.via hb3
      have hbkl := Bk.lt
      have hW3 := hb3.size
      clear hb3 HR Bk
      go_wp2_with fail
      refine (clonerf_c _ Ad nd cd xd W3 hod.slRf (by omega)).mono ?_
      rintro e W4 ⟨A4, c4, rfl, ho4, hb4⟩
      have Bk4 := Bk3.via hb4
      have hL : LRel W3 (.slice A4 nd c4) nd xd (.slice none 0 0) 0 [] W4 := ⟨Own.ofRaws ho4.len ho4.raws, Own.nil _ _, fun k _ h => by simp [Value.ownBlock] at h, hb4⟩
      have HL := Lib.hid hL
      clear hL ho4 hb4 hod Bk3
      have cBk4 := Bk4.cell
      have fBk4 := Bk4.frozen
      have lBk4 := Bk4.lt
      go_wp2_with fail
      clear cBk4 fBk4 lBk4
      clear Bk4
      go_loopw [12, 13, 44] (fun va vt i wr => ∃ (j n1 n2 : Nat) (xs ys : List Rf), i = .int .i64 j ∧ j ≤ nx ∧ n1 ≤ 20 + 20 * j ∧ n2 ≤ 20 * j ∧ LRel W3 va n1 xs vt n2 ys wr) (fun _ _ i _ => nx - (intOf i).toNat)
      case atStart => exact ⟨0, nd, 0, xd, [], rfl, Nat.zero_le _, by omega, by omega, HL.out⟩
      case round =>
        obtain ⟨j, n1, n2, xs, ys, rfl, hj, hn1, hn2, hl⟩ := hrel
        obtain ⟨wq, hwx⟩ : ∃ x, x = wr := ⟨_, rfl⟩
        subst hwx
        clear HL
        obtain ⟨A1, d1, rfl, -⟩ := hl.all.form
        obtain ⟨A2, d2, rfl, -⟩ := hl.tt.form
        have hS := HR3.out.via hl.bel
        have hna20 : na ≤ 20 := by omega
        by_cases hjl : j < nx
        · have HL := Lib.hid hl
          have B0 := hS.b0
          have B3 := hS.b3
          have HS := Lib.hid hS
          clear hl hS
          have cB0 := B0.cell
          have fB0 := B0.frozen
          have lB0 := B0.lt
          have cB3 := B3.cell
          have fB3 := B3.frozen
          have lB3 := B3.lt
          go_wp2_with fail
          clear cB0 fB0 lB0 cB3 fB3 lB3
          clear B0 B3
          refine (occ_c (fun b => b < w.heap.size) _ g (some ⟨b, off, none⟩) ng cg Aa na ca attrs Av n cv k (j + 1) _ (by omega) false wq ((HG.out.mono (ok' := fun b => b < w.heap.size) fun b hb _ => hb).via HS.out.rd.bel) HS.out.att hlt (HX.out j hjl) (by omega) (by omega)).mono ?_
          rintro e W5 ⟨A5, n5, c5, x5, rfl, ho5, hn5, hb5⟩
          have HL5 := Lib.hid (HL.out.via hb5)
          have HO5 := Lib.hid ho5
          clear hb5 ho5 HL HS
          go_wp2_with (at_builtin; refine wpList_append_rfs _ rfl (.tmp 47) (.tmp 53) rfl (fun _ => False) _ W3.heap.size (.slice A1 n1 d1) n1 xs rfl HL5.out.all A5 n5 c5 x5 rfl HO5.out.slRf (by omega) HL5.out.bel.size ?_; intro A6 c6 w6 ho6 hg6 hat6; have HL6 := Lib.hid (HL5.out.pushA ho6 hg6 hat6); have HS6 := Lib.hid (HR3.out.via HL6.out.bel); have k0 := HS6.out.b0.cell; have k3 := HS6.out.b3.cell; have m0 := HS6.out.b0.lt; have m3 := HS6.out.b3.lt; have f0 := HS6.out.b0.frozen; have f3 := HS6.out.b3.frozen; clear ho6 hg6 hat6)
          clear k0 k3 m0 m3 f0 f3 HL5 HO5
          refine (occ_c (fun b => b < w.heap.size) _ g (some ⟨b, off, none⟩) ng cg Aa na ca attrs Av n cv k (j + 1) _ (by omega) true w6 ((HG.out.mono (ok' := fun b => b < w.heap.size) fun b hb _ => hb).via HS6.out.rd.bel) HS6.out.att hlt (HX.out j hjl) (by omega) (by omega)).mono ?_
          rintro e W7 ⟨A7, n7, c7, x7, rfl, ho7, hn7, hb7⟩
          have HL7 := Lib.hid (HL6.out.via hb7)
          have HO7 := Lib.hid ho7
          clear hb7 ho7 HL6 HS6
          go_wp2_with (at_builtin; refine wpList_append_rfs _ rfl (.tmp 55) (.tmp 61) rfl (fun _ => False) _ W3.heap.size (.slice A2 n2 d2) n2 ys rfl HL7.out.tt A7 n7 c7 x7 rfl HO7.out.slRf (by omega) HL7.out.bel.size ?_; intro A8 c8 w8 ho8 hg8 hat8)
          exact ⟨⟨j + 1, n1 + n5, n2 + n7, _, _, by go_num, by omega, by omega, by omega, HL7.out.pushT ho8 hg8 hat8⟩, by simp [intOf]; omega⟩
        · have hjx : j ≤ 4 := by omega
          have hszq := hl.bel.size
          have HS3 := Lib.hid (hS.rows (Z' := fun b => W.heap.size ≤ b ∧ b < wq.heap.size) (fun k hk hz => by have := (hR3.out k hk).2; omega) (fun b hb => ⟨by omega, hb.2⟩))
          have HA := Lib.hid (hl.all.slRf.mono (ok' := fun b => W.heap.size ≤ b ∧ b < wq.heap.size) fun b _ hb => ⟨by omega, hb.2⟩)
          have HT := Lib.hid (hl.tt.slRf.mono (ok' := fun b => W.heap.size ≤ b ∧ b < wq.heap.size) fun b _ hb => ⟨by omega, hb.2⟩)
          have hn20 : n1 ≤ 100 := by omega
          have hn22 : n2 ≤ 80 := by omega
          clear hl hS
          go_wp2_with fail
          go_loopw [66] (fun i w5 => ∃ (k3 n' : Nat) (v' : Value) (eqs' : List Qe), i = .int .i64 k3 ∧ k3 ≤ n2 ∧ n' ≤ (100 * k) + k3 ∧ SRel w wq (fun b => W.heap.size ≤ b ∧ b < wq.heap.size) (w.heap.size + 1 + 1) bs #[.int .i64 (g.terms : Int), .int .i64 (g.nons : Int), .int .i64 (g.start : Int), .slice (some ⟨b, off, none⟩) ng cg] Aa na ca attrs v' n' eqs' w5) (fun i _ => n2 - (intOf i).toNat)
          case atStart => exact ⟨0, _, _, _, rfl, Nat.zero_le _, by omega, HS3.out⟩
          case round =>
            obtain ⟨k3, n', v', eqs', rfl, hk3, hn', hr⟩ := hrel
            obtain ⟨w7, hwx⟩ : ∃ x, x = wr := ⟨_, rfl⟩
            subst hwx
            obtain ⟨Av', cv', rfl, -⟩ := hr.own.form
            by_cases hlt3 : k3 < n2
            · obtain ⟨b6, o6, r6, f6, rfl, -, hb6, hf6, hrf, hc6⟩ := (HT.out.agr hr.z).at_ hlt3
              have c0 := hc6 0 _ rfl
              have c1 := hc6 1 _ rfl
              simp only [RfE, Nat.add_zero] at c0 c1
              have j0 : (0 : Int) ≤ (k3 : Int) := by omega
              have j1 : (k3 : Int) < (n2 : Int) := by omega
              have HA5 := Lib.hid ((HA.out.agr hr.z).al (.cells #[.int .i64 (r6.1 : Int), .int .i64 (r6.2 : Int)] 25))
              have hsr := hr.size
              have HR5 := Lib.hid (hr.al (.cells #[.int .i64 (r6.1 : Int), .int .i64 (r6.2 : Int)] 25))
              have Bf := Blk.new w7 25 #[.int .i64 (r6.1 : Int), .int .i64 (r6.2 : Int)]
              have B3 := HR5.out.b3
              clear hc6 hf6 hrf hr hb6
              go_wp2_with fail
              clear c0 c1
              have hbf : Nr (w.heap.size + 1 + 1) w7.heap.size := by show w7.heap.size ≠ _; omega
              have hb3 : Nr (w.heap.size + 1 + 1) bs := by show bs ≠ _; omega
              generalize w7.alloc (.cells #[.int .i64 (r6.1 : Int), .int .i64 (r6.2 : Int)] 25) = W6 at *
              generalize w7.heap.size = bf at *
              have cB3 := B3.cell
              have fB3 := B3.frozen
              have lB3 := B3.lt
              have cBf := Bf.cell
              have fBf := Bf.frozen
              have lBf := Bf.lt
              go_region_law (first
                | (go_simp; go_at_call 25; refine (value_n w (w.heap.size + 1 + 1) (fun b => W.heap.size ≤ b ∧ b < wq.heap.size) (fun b hb => by show b ≠ _; omega) A1 n1 d1 xs (by omega) 2 (by omega) W6.drew 2 rfl HA5.out.dr HR5.out.rd.dr).mono ?_; rintro e w' ⟨v2, t2, rfl, hT2, hO2, hr3, ha3, hz3⟩; have cP := (B3.dr.agr ha3 hb3).cell; have lP := (B3.dr.agr ha3 hb3).lt; have cQ := (Bf.dr.agr ha3 hbf).cell; have lQ := (Bf.dr.agr ha3 hbf).lt; dsimp only [exVal])
                | (have HA6 := (HR5.out.via ((Below.refl W6.heap.size W6).drew)).call ha3 hz3 hr3
                   have HB6 := HA6.via ((Below.refl w'.heap.size w').alloc (Nat.le_refl _) (.cells #[.int .i64 (k : Int), .int .i64 (r6.1 : Int), .int .i64 (r6.2 : Int), .int .i64 (v2.1 : Int), .int .i64 (v2.2.1 : Int), .int .i64 (v2.2.2.1 : Int), .int .i64 (v2.2.2.2.1 : Int), .slice v2.2.2.2.2.1 v2.2.2.2.2.2.1 v2.2.2.2.2.2.2] 41))
                   refine step_append_qe _ rfl (.tmp 75) (.tmp 82) rfl (fun b => bs + 1 ≤ b) (bs + 1) (.slice Av' n' cv') n' eqs' rfl HB6.own w'.heap.size k r6 v2 t2 rfl (Blk.new w' 41 #[.int .i64 (k : Int), .int .i64 (r6.1 : Int), .int .i64 (r6.2 : Int), .int .i64 (v2.1 : Int), .int .i64 (v2.2.1 : Int), .int .i64 (v2.2.2.1 : Int), .int .i64 (v2.2.2.2.1 : Int), .slice v2.2.2.2.2.1 v2.2.2.2.2.2.1 v2.2.2.2.2.2.2]) ((hT2.al _).mono fun b _ hb => ⟨Nat.le_trans HR5.out.size hb, fun e => Nat.lt_irrefl b (Nat.lt_of_lt_of_le (HR5.out.own.lt b e.symm).2 hb)⟩) (by omega) HB6.size ?_
                   intro Av1 cv1 w1 ho1 hg1 hat1
                   have B3g := HB6.b3.grown hg1 (fun e => by have := (HB6.own.lt _ e.symm).1; omega)
                   have c3g := B3g.cell
                   have f3g := B3g.frozen))
              all_goals
                have HP := Lib.hid (SRel.push HB6 ho1 hg1 hO2 hat1)
                clear HA6 HB6
                go_wp2_with fail
                exact ⟨⟨k3 + 1, _, _, _, by go_num, by omega, by omega, HP.out⟩, by simp [intOf]; omega⟩
            · have HR7 := Lib.hid hr
              have B0 := hr.b0
              have B3 := hr.b3
              have hle7 := hr.le
              have HA7 := Lib.hid (HA.out.agr hr.z)
              clear hr HT HA
              have cB0 := B0.cell
              have fB0 := B0.frozen
              have lB0 := B0.lt
              have cB3 := B3.cell
              have fB3 := B3.frozen
              have lB3 := B3.lt
              go_wp2_with fail
              clear cB0 fB0 lB0 cB3 fB3 lB3
              clear B0 B3
              refine (occ_c (fun b => b < w.heap.size) _ g (some ⟨b, off, none⟩) ng cg Aa na ca attrs Av' n' cv' k 0 _ rfl false w7 ((HG.out.mono (ok' := fun b => b < w.heap.size) fun b hb _ => hb).via HR7.out.rd.bel) HR7.out.att hlt (fun _ _ => Nat.zero_le _) (by omega) (by omega)).mono ?_
              rintro e W8 ⟨A8, n8, c8, x8, rfl, ho8, hn8, hb8⟩
              have hle8 := hb8.size
              have HS8 := Lib.hid ((HR7.out.via hb8).rows (Z' := fun b => (W.heap.size ≤ b ∧ b < wq.heap.size) ∨ (w7.heap.size ≤ b ∧ b < W8.heap.size)) (fun k hk hz => by
                rcases hz with hz | hz
                · exact HR7.out.o k hk hz
                · have := (HR7.out.own.lt k hk).2; omega) (fun b hb => by have := HR7.out.size; omega))
              have HY := Lib.hid (ho8.slRf.mono (ok' := fun b => (W.heap.size ≤ b ∧ b < wq.heap.size) ∨ (w7.heap.size ≤ b ∧ b < W8.heap.size)) fun b _ hb => Or.inr hb)
              have HA8 := Lib.hid (HA7.out.via hb8)
              have hn80 : n8 ≤ 20 := by omega
              clear hb8 ho8 HA7 HR7
              go_wp2_with fail
              have HA := Lib.hid ((HA8.out).mono (ok' := fun b => (W.heap.size ≤ b ∧ b < wq.heap.size) ∨ (w7.heap.size ≤ b ∧ b < W8.heap.size)) fun b _ hb => Or.inl hb)
              clear HA8
              go_loopw [91] (fun i w5 => ∃ (k3 n' : Nat) (v' : Value) (eqs' : List Qe), i = .int .i64 k3 ∧ k3 ≤ n8 ∧ n' ≤ (100 * k + 80) + k3 ∧ SRel w W8 (fun b => (W.heap.size ≤ b ∧ b < wq.heap.size) ∨ (w7.heap.size ≤ b ∧ b < W8.heap.size)) (w.heap.size + 1 + 1) bs #[.int .i64 (g.terms : Int), .int .i64 (g.nons : Int), .int .i64 (g.start : Int), .slice (some ⟨b, off, none⟩) ng cg] Aa na ca attrs v' n' eqs' w5) (fun i _ => n8 - (intOf i).toNat)
              case atStart => exact ⟨0, _, _, _, rfl, Nat.zero_le _, by omega, HS8.out⟩
              case round =>
                obtain ⟨k3, n', v', eqs', rfl, hk3, hn', hr⟩ := hrel
                obtain ⟨wr9, hwx⟩ : ∃ x, x = wr := ⟨_, rfl⟩
                subst hwx
                obtain ⟨Av', cv', rfl, -⟩ := hr.own.form
                by_cases hlt3 : k3 < n8
                · obtain ⟨b6, o6, r6, f6, rfl, -, hb6, hf6, hrf, hc6⟩ := (HY.out.agr hr.z).at_ hlt3
                  have c0 := hc6 0 _ rfl
                  have c1 := hc6 1 _ rfl
                  simp only [RfE, Nat.add_zero] at c0 c1
                  have j0 : (0 : Int) ≤ (k3 : Int) := by omega
                  have j1 : (k3 : Int) < (n8 : Int) := by omega
                  have HA5 := Lib.hid ((HA.out.agr hr.z).al (.cells #[.int .i64 (r6.1 : Int), .int .i64 (r6.2 : Int)] 25))
                  have hsr := hr.size
                  have HR5 := Lib.hid (hr.al (.cells #[.int .i64 (r6.1 : Int), .int .i64 (r6.2 : Int)] 25))
                  have Bf := Blk.new wr9 25 #[.int .i64 (r6.1 : Int), .int .i64 (r6.2 : Int)]
                  have B3 := HR5.out.b3
                  clear hc6 hf6 hrf hr hb6
                  go_wp2_with fail
                  clear c0 c1
                  have hbf : Nr (w.heap.size + 1 + 1) wr9.heap.size := by show wr9.heap.size ≠ _; omega
                  have hb3 : Nr (w.heap.size + 1 + 1) bs := by show bs ≠ _; omega
                  generalize wr9.alloc (.cells #[.int .i64 (r6.1 : Int), .int .i64 (r6.2 : Int)] 25) = W6 at *
                  generalize wr9.heap.size = bf at *
                  have cB3 := B3.cell
                  have fB3 := B3.frozen
                  have lB3 := B3.lt
                  have cBf := Bf.cell
                  have fBf := Bf.frozen
                  have lBf := Bf.lt
                  go_region_law (first
                    | (go_simp; go_at_call 25; refine (value_n w (w.heap.size + 1 + 1) (fun b => (W.heap.size ≤ b ∧ b < wq.heap.size) ∨ (w7.heap.size ≤ b ∧ b < W8.heap.size)) (fun b hb => by show b ≠ _; omega) A1 n1 d1 xs (by omega) 2 (by omega) W6.drew 2 rfl HA5.out.dr HR5.out.rd.dr).mono ?_; rintro e w' ⟨v2, t2, rfl, hT2, hO2, hr3, ha3, hz3⟩; have cP := (B3.dr.agr ha3 hb3).cell; have lP := (B3.dr.agr ha3 hb3).lt; have cQ := (Bf.dr.agr ha3 hbf).cell; have lQ := (Bf.dr.agr ha3 hbf).lt; dsimp only [exVal])
                    | (have HA6 := (HR5.out.via ((Below.refl W6.heap.size W6).drew)).call ha3 hz3 hr3
                       have HB6 := HA6.via ((Below.refl w'.heap.size w').alloc (Nat.le_refl _) (.cells #[.int .i64 (k : Int), .int .i64 (r6.1 : Int), .int .i64 (r6.2 : Int), .int .i64 (v2.1 : Int), .int .i64 (v2.2.1 : Int), .int .i64 (v2.2.2.1 : Int), .int .i64 (v2.2.2.2.1 : Int), .slice v2.2.2.2.2.1 v2.2.2.2.2.2.1 v2.2.2.2.2.2.2] 41))
                       refine step_append_qe _ rfl (.tmp 96) (.tmp 103) rfl (fun b => bs + 1 ≤ b) (bs + 1) (.slice Av' n' cv') n' eqs' rfl HB6.own w'.heap.size k r6 v2 t2 rfl (Blk.new w' 41 #[.int .i64 (k : Int), .int .i64 (r6.1 : Int), .int .i64 (r6.2 : Int), .int .i64 (v2.1 : Int), .int .i64 (v2.2.1 : Int), .int .i64 (v2.2.2.1 : Int), .int .i64 (v2.2.2.2.1 : Int), .slice v2.2.2.2.2.1 v2.2.2.2.2.2.1 v2.2.2.2.2.2.2]) ((hT2.al _).mono fun b _ hb => ⟨Nat.le_trans HR5.out.size hb, fun e => Nat.lt_irrefl b (Nat.lt_of_lt_of_le (HR5.out.own.lt b e.symm).2 hb)⟩) (by omega) HB6.size ?_
                       intro Av1 cv1 w1 ho1 hg1 hat1
                       have B3g := HB6.b3.grown hg1 (fun e => by have := (HB6.own.lt _ e.symm).1; omega)
                       have c3g := B3g.cell
                       have f3g := B3g.frozen))
                  all_goals
                    have HP := Lib.hid (SRel.push HB6 ho1 hg1 hO2 hat1)
                    clear HA6 HB6
                    go_wp2_with fail
                    exact ⟨⟨k3 + 1, _, _, _, by go_num, by omega, by omega, HP.out⟩, by simp [intOf]; omega⟩
                · have HR9 := Lib.hid hr
                  clear hr
                  go_wp2_with fail
                  exact ⟨⟨k + 1, n', _, eqs', _, _, by go_num, by omega, by omega, HR9.out⟩, by simp [intOf]; omega⟩
    · have B1 := hr.b1
      have B3 := hr.b3
      have HR := Lib.hid hr
      have hk2 : k = ng := by omega
      clear hr
      have cB1 := B1.cell
      have fB1 := B1.frozen
      have lB1 := B1.lt
      have cB3 := B3.cell
      have fB3 := B3.frozen
      have lB3 := B3.lt
      go_wp2_with fail
      refine bodyPost_ret (v := .agg #[.slice Aa na ca, .slice Av n cv]) (by simp [results, Try.results15, go_sem, cB1]) rfl ⟨Aa, na, ca, Av, n, cv, eqs, rfl, ?_, HR.out.oks, ?_, by omega⟩
      · have hs := HR.out.own.toSl (ok' := fun b => bs + 1 ≤ b) (fun b _ hb => hb) (fun b hb => hb)
        exact (hs.agr ((Agr.setCell _ fun b hb => by show b ≠ w.heap.size + 1; omega).trans (Agr.setCell _ fun b hb => by show b ≠ w.heap.size + 1; omega))).mono fun b _ hb => by omega
      · exact (HR.out.rd.bel.setCell (by simp) _).setCell (by simp) _
end Go.Proofs.Ytgclibfikdonoaa
