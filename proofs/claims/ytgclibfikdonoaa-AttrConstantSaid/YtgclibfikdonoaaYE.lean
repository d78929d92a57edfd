/- parlkeep4.attributes. -/
import Derived.Test.YtgclibfikdonoaaYC
namespace Go.Proofs.Ytgclibfikdonoaa
open Go.RowKit

def AttP (w0 w : World) (br nons : Nat) (e : Ending) (w' : World) : Prop :=
  ∃ A n c xs, e = .returned (.slice A n c) ∧ Sl AtE (fun b => w.heap.size ≤ b) w' A n c xs ∧ n ≤ 2 * nons ∧ Rd w0 w' br ∧ Agr (Nr br) w w' ∧ w.heap.size ≤ w'.heap.size
structure ARel (w0 w : World) (br k : Nat) (gv : Array Value) (v : Value) (n : Nat) (xs : List At) (wr : World) : Prop where
  rd : Rd w0 wr br
  agr : Agr (Nr br) w wr
  own : Own AtE 74 (fun b => w.heap.size ≤ b) wr (w.heap.size + 1) v n xs
  b0 : Blk wr w.heap.size 32 gv
  size : w.heap.size + 1 ≤ wr.heap.size
  le : n ≤ k
section
variable {w0 w wr wa w1 : World} {br k k' n : Nat} {gv : Array Value} {v v' : Value} {xs xs' : List At}
theorem ARel.call (h : ARel w0 w br k gv v n xs wr) (hb : br < w.heap.size) (ha : Agr (Nr br) wr wa) (hz : wr.heap.size ≤ wa.heap.size) (hs : Rd w0 wa br) : ARel w0 w br k gv v n xs wa := by
  have hm : ∀ j, w.heap.size ≤ j → Nr br j := fun j hj => by show j ≠ br; omega
  have hsz := h.size
  refine ⟨hs, h.agr.trans ha, h.own.agr (ha.mono fun j hj => ?_), h.b0.agr ha (hm _ (by omega)), Nat.le_trans h.size hz, h.le⟩
  rcases hj with hj | hj
  · exact hm j (by omega)
  · have := (h.own.lt j hj.symm).1; exact hm j (by omega)
theorem ARel.al (h : ARel w0 w br k gv v n xs wr) (hb : br < w.heap.size) (o : Obj) : ARel w0 w br k gv v n xs (wr.alloc o) :=
  h.call hb (Agr.below ((Below.refl wr.heap.size wr).alloc (Nat.le_refl _) o)) (by simp) (h.rd.al o)
theorem ARel.skip (h : ARel w0 w br k gv v n xs wr) (hk : k ≤ k') : ARel w0 w br k' gv v n xs wr := ⟨h.rd, h.agr, h.own, h.b0, h.size, by have := h.le; omega⟩
theorem ARel.push (h : ARel w0 w br k gv v n xs wr) (hb : br < w.heap.size) (ho : Own AtE 74 (fun b => w.heap.size ≤ b) w1 (w.heap.size + 1) v' (n + 1) xs') (hg : wr.grownBy w1 v.ownBlock) : ARel w0 w br (k + 1) gv v' (n + 1) xs' w1 := by
  have hsz := h.size
  have hne : ∀ j, j < w.heap.size + 1 → some j ≠ v.ownBlock := fun j hj e => by have := (h.own.lt j e.symm).1; omega
  refine ⟨h.rd.grown hg fun j e => by have := (h.own.lt j e).1; omega, ?_, ho, h.b0.grown hg (hne _ (by omega)), Nat.le_trans h.size hg.size, by have := h.le; omega⟩
  intro b hb' hlt
  exact (hg.block b (by omega) (hne _ (by omega))).trans (h.agr b hb' hlt)
end

set_option maxRecDepth 100000 in
set_option maxHeartbeats 2000000 in
theorem att_c (w0 : World) (br : Nat) (g : Gr) (Ag : Option Addr) (ng cg : Nat) (hno : g.nons ≤ 1000) (w : World) (hr : Rd w0 w br) :
    Calls Try.prog 22 #[grVal g Ag ng cg, .pointer (some ⟨br, 0, none⟩)] w (AttP w0 w br g.nons) := by
  obtain ⟨terms, nons, start, rules⟩ := g
  simp only [grVal]
  have hbr := hr.lt
  have B0 := Blk.new w 32 #[.int .i64 (terms : Int), .int .i64 (nons : Int), .int .i64 (start : Int), .slice Ag ng cg]
  have hR : ARel w0 w br 0 #[.int .i64 (terms : Int), .int .i64 (nons : Int), .int .i64 (start : Int), .slice Ag ng cg] (.slice none 0 0) 0 [] (w.alloc (.cells #[.int .i64 (terms : Int), .int .i64 (nons : Int), .int .i64 (start : Int), .slice Ag ng cg] 32)) :=
    ⟨hr.al _, Agr.below ((Below.refl w.heap.size w).alloc (Nat.le_refl _) _), Own.nil _ _, B0, by simp, Nat.le_refl _⟩
  replace hR := Lib.hid hR
  clear B0 hr
  go_enter Try.func22, Try.ntmps22
  go_wp2_with fail
  go_loopw [5, 9] (fun v i wr => ∃ (k n : Nat) (xs : List At), i = .int .i64 k ∧ k ≤ nons ∧ ARel w0 w br (2 * k) #[.int .i64 (terms : Int), .int .i64 (nons : Int), .int .i64 (start : Int), .slice Ag ng cg] v n xs wr) (fun _ i _ => nons - (intOf i).toNat)
  case atStart => exact ⟨0, 0, [], rfl, Nat.zero_le _, hR.out⟩
  case round =>
    obtain ⟨k, n, xs, rfl, hk, hr⟩ := hrel
    clear hR
    obtain ⟨Av, cv, rfl, -⟩ := hr.own.form
    by_cases hkl : k < nons
    · have HR := Lib.hid hr
      have hnk := hr.le
      clear hr
      go_wp2_with fail
      refine (rd_n w0 wr br 2 _ rfl HR.out.rd (by omega) (by omega)).mono ?_
      rintro e W1 ⟨j, rfl, hj, hr1, ha1, hz1, -⟩
      have HR1 := Lib.hid (HR.out.call hbr ha1 hz1 hr1)
      clear ha1 hr1 HR hz1
      obtain ⟨Q, hQ⟩ : ∃ Q : Int, Q = (j : Int) + 1 := ⟨_, rfl⟩
      have e1 : IntKind.i64.wrap (1 + (j : Int)) = Q := (IntWalk.i64_in _ (by omega)).trans (by omega)
      have q1 : 0 ≤ Q := by omega
      have q2 : Q ≤ 2 := by omega
      clear hQ
      go_wp2_with fail
      go_loopw [5, 15] (fun v i wr => ∃ (j n : Nat) (xs : List At), i = .int .i64 j ∧ (j : Int) ≤ Q ∧ ARel w0 w br (2 * k + j) #[.int .i64 (terms : Int), .int .i64 (nons : Int), .int .i64 (start : Int), .slice Ag ng cg] v n xs wr) (fun _ i _ => Q.toNat - (intOf i).toNat)
      case atStart => exact ⟨0, n, xs, rfl, q1, HR1.out⟩
      case round =>
        obtain ⟨j2, n2, xs2, rfl, hj2, hr2⟩ := hrel
        clear HR1 e1
        obtain ⟨Av2, cv2, rfl, -⟩ := hr2.own.form
        by_cases hjl : (j2 : Int) < Q
        · have HR2 := Lib.hid hr2
          have hnk2 := hr2.le
          have hsz2 := hr2.size
          have B0 := hr2.b0
          clear hr2
          by_cases hbs : k = start
          · subst hbs
            have cB0 := B0.cell
            have fB0 := B0.frozen
            have lB0 := B0.lt
            go_wp2_with (at_builtin; refine wpList_append_at _ rfl (.tmp 17) (.tmp 29) rfl (fun b => w.heap.size ≤ b) (w.heap.size + 1) (.slice Av2 n2 cv2) n2 xs2 rfl (HR2.out.own.al _) _ (k, false) rfl (Blk.newAt _ 74 #[.int .i64 (k : Int), .bool false] _ (by simp)) (by omega) (by simp; omega) ?_; intro Av1 cv1 w1 ho1 hg1 hat1)
            exact ⟨⟨j2 + 1, n2 + 1, xs2 ++ [(k, false)], by go_num, by omega, (HR2.out.al hbr _).push hbr ho1 hg1⟩, by simp [intOf]; omega⟩
          · have hne : ((k : Int) != (start : Int)) = true := by simp; omega
            clear hbs
            have cB0 := B0.cell
            have fB0 := B0.frozen
            have lB0 := B0.lt
            go_wp2_with fail
            clear cB0 fB0 lB0
            refine (rd_n w0 wr br 2 _ rfl HR2.out.rd (by omega) (by omega)).mono ?_
            rintro e W2 ⟨p, rfl, hp, hr3, ha3, hz3, -⟩
            have HR3 := Lib.hid (HR2.out.call hbr ha3 hz3 hr3)
            have hsz3 := HR3.out.size
            clear ha3 hr3 HR2 hz3 B0
            cases hp1 : ((p : Int) == 1) with
            | true =>
              go_wp2_with (at_builtin; refine wpList_append_at _ rfl (.tmp 17) (.tmp 29) rfl (fun b => w.heap.size ≤ b) (w.heap.size + 1) (.slice Av2 n2 cv2) n2 xs2 rfl (HR3.out.own.al _) _ (k, true) rfl (Blk.newAt _ 74 #[.int .i64 (k : Int), .bool true] _ (by simp)) (by omega) (by simp; omega) ?_; intro Av1 cv1 w1 ho1 hg1 hat1)
              exact ⟨⟨j2 + 1, n2 + 1, xs2 ++ [(k, true)], by go_num, by omega, (HR3.out.al hbr _).push hbr ho1 hg1⟩, by simp [intOf]; omega⟩
            | false =>
              go_wp2_with (at_builtin; refine wpList_append_at _ rfl (.tmp 17) (.tmp 29) rfl (fun b => w.heap.size ≤ b) (w.heap.size + 1) (.slice Av2 n2 cv2) n2 xs2 rfl (HR3.out.own.al _) _ (k, false) rfl (Blk.newAt _ 74 #[.int .i64 (k : Int), .bool false] _ (by simp)) (by omega) (by simp; omega) ?_; intro Av1 cv1 w1 ho1 hg1 hat1)
              exact ⟨⟨j2 + 1, n2 + 1, xs2 ++ [(k, false)], by go_num, by omega, (HR3.out.al hbr _).push hbr ho1 hg1⟩, by simp [intOf]; omega⟩
        · have HR2 := Lib.hid hr2
          have hnk2 := hr2.le
          clear hr2
          go_wp2_with fail
          exact ⟨⟨k + 1, n2, xs2, by go_num, by omega, HR2.out.skip (by omega)⟩, by simp [intOf]; omega⟩
    · have HR := Lib.hid hr
      have hnk := hr.le
      clear hr
      go_wp2_with fail
      go_ret
      exact ⟨Av, n, cv, xs, rfl, HR.out.own.toSl (fun b _ hb => hb) (fun b hb => by omega), by omega, HR.out.rd, HR.out.agr, by have := HR.out.size; omega⟩
end Go.Proofs.Ytgclibfikdonoaa
