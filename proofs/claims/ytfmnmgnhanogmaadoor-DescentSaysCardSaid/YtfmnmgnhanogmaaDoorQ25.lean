/- Texts OW, laid together. -/
import Derived.Test.YtfmnmgnhanogmaaDoorQ24


namespace Go.Proofs.YtfmnmgnhanogmaaDoor
open Go.RowKit

section
variable (ft fr bs bo bp bw bg bt br : Nat) (hft : Hid (ft = 40)) (hfr : Hid (fr = 41))
  (het : ∀ (args : Array Value) (w : World), (callFunc ft args).run Tryd.prog w = .ok (.enter ft args) w) (her : ∀ (args : Array Value) (w : World), (callFunc fr args).run Tryd.prog w = .ok (.enter fr args) w)
  (g : Gr) (hg : GrOk g) (W : List Nat) (hW : W.length ≤ 2000) (Ag : Option Addr) (ng cg : Nat) (wA : Option Addr) (wc : Nat)
include hft hfr het her hg hW
theorem try_all : ∀ d, TryK ft fr bs bo bp bw bg bt br g W Ag ng cg wA wc d
  | 0 => fun w y k L fid caps F P s ov _ _ hL => by simp [en] at hL
  | d + 1 => try_n ft fr bs bo bp bw bg bt br hft her g hg W hW Ag ng cg wA wc d fun l => row_n ft fr bs bo bp bw bg bt br hfr het her g W Ag ng cg wA wc d (try_all d) l
end
theorem back_grown {w W7 w8 w9 : World} {bs bo : Nat} (h7 : Below w.heap.size w W7) (h8 : Gw2 bs bo W7 w8) (h9 : Below w.heap.size w8 w9) (ho : w.heap.size ≤ bo) : w.grownBy w9 (some bs) :=
  ⟨h9.os.trans (h8.os.trans h7.os), h9.tape.trans (h8.tape.trans h7.tape), h9.output.trans (h8.output.trans h7.output), Nat.le_trans h7.size (Nat.le_trans h8.size h9.size), fun b hb hne =>
    (h9.block b hb).trans ((h8.block b (Nat.lt_of_lt_of_le hb h7.size) (fun e => hne (by rw [e])) (by omega)).trans (h7.block b hb))⟩
def BackP (w : World) (g : Gr) (W : List Nat) (bs : Nat) (s : Int) (e : Ending) (w' : World) : Prop :=
  ∃ (v : TrV) (t : Tr) (b : Bool) (s' : Int), e = .returned (.tuple #[trVal v, .bool b]) ∧ TreeR (fun b => b ≠ bs) w' v t ∧ Blk w' bs 3 #[.int .i64 s'] ∧ w.grownBy w' (some bs) ∧ s' ≤ s ∧
    (b = true → 0 ≤ s' ∧ IsBest g.rules W ((false, g.start), 0, W.length) t) ∧ (b = false → t = .node 0 [] ∧ (0 ≤ s' → ¬ ∃ t, DrL g.rules W [(false, g.start)] 0 W.length [t]))
abbrev kG (g : Gr) (Ag : Option Addr) (ng cg : Nat) : Obj := .cells #[.int .i64 (g.terms : Int), .int .i64 (g.nons : Int), .int .i64 (g.start : Int), .slice Ag ng cg] 24
abbrev kW (wA : Option Addr) (n wc : Nat) : Obj := .cells #[.slice wA n wc] 25
abbrev kP (bs : Nat) : Obj := .cells #[.pointer (some ⟨bs, 0, none⟩)] 47
abbrev kT : Obj := .cells #[.int .i64 0, .int .i64 0, .slice none 0 0] 34
abbrev vF (a : Nat) : Value := .func (.func 40) #[] #[.pointer (some ⟨a + 1 + 1, 0, none⟩), .pointer (some ⟨a + 1, 0, none⟩), .pointer (some ⟨a, 0, none⟩), .pointer (some ⟨a + 1 + 1 + 1 + 1 + 1, 0, none⟩)]
abbrev vR (a : Nat) : Value := .func (.func 41) #[] #[.pointer (some ⟨a + 1 + 1, 0, none⟩), .pointer (some ⟨a + 1 + 1 + 1 + 1, 0, none⟩), .pointer (some ⟨a + 1 + 1 + 1 + 1 + 1, 0, none⟩)]
abbrev kF (a : Nat) : Obj := .cells #[vF a] 89
abbrev kR (a : Nat) : Obj := .cells #[vR a] 90
set_option maxRecDepth 100000 in
set_option maxHeartbeats 8000000 in
theorem back_c (g : Gr) (hg : GrOk g) (W : List Nat) (hW : W.length ≤ 2000) (Ag : Option Addr) (ng cg : Nat) (wA : Option Addr) (wc bs : Nat) (s : Int) (w : World) (hs0 : 0 ≤ s) (hs1 : s ≤ 1000000) (hlo : loopB g = false)
    (hl : Sl RuE (fun b => b ≠ bs) w Ag ng cg g.rules) (hx : Sl InE (fun b => b ≠ bs) w wA W.length wc (intsN W)) (hb : Blk w bs 3 #[.int .i64 s]) :
    Calls Tryd.prog 17 #[grVal g Ag ng cg, .slice wA W.length wc, .pointer (some ⟨bs, 0, none⟩)] w (BackP w g W bs s) := by
  obtain ⟨d, L, hL⟩ := en_ex (R := g.rules) (W := W) (begD_lt hg.ok) (fun i j hb => (begD_iff _ _ _).2 hb) (lefB_no (begD_lt hg.ok) hlo) W.length 0 (Nat.zero_le _) (by omega) (false, g.start)
  have hbs := hb.lt
  have hb7 := ((((((((Below.refl w.heap.size w).al (kG g Ag ng cg)).al (kW wA W.length wc)).al (kP bs)).al kT).al (kF w.heap.size)).al (kR w.heap.size)).al kT)
  have BG := ((((((Blk.new w 24 #[.int .i64 (g.terms : Int), .int .i64 (g.nons : Int), .int .i64 (g.start : Int), .slice Ag ng cg]).al (kW wA W.length wc)).al (kP bs)).al kT).al (kF w.heap.size)).al (kR w.heap.size)).al kT
  have BW := (((((Blk.newAt (w.alloc (kG g Ag ng cg)) 25 #[.slice wA W.length wc] (w.heap.size + 1) (by simp)).al (kP bs)).al kT).al (kF w.heap.size)).al (kR w.heap.size)).al kT
  have BP := ((((Blk.newAt ((w.alloc (kG g Ag ng cg)).alloc (kW wA W.length wc)) 47 #[.pointer (some ⟨bs, 0, none⟩)] (w.heap.size + 1 + 1) (by simp)).al kT).al (kF w.heap.size)).al (kR w.heap.size)).al kT
  have B6 := (((Blk.newAt (((w.alloc (kG g Ag ng cg)).alloc (kW wA W.length wc)).alloc (kP bs)) 34 #[.int .i64 0, .int .i64 0, .slice none 0 0] (w.heap.size + 1 + 1 + 1) (by simp)).al (kF w.heap.size)).al (kR w.heap.size)).al kT
  have BT := ((Blk.newAt ((((w.alloc (kG g Ag ng cg)).alloc (kW wA W.length wc)).alloc (kP bs)).alloc kT) 89 #[vF w.heap.size] (w.heap.size + 1 + 1 + 1 + 1) (by simp)).al (kR w.heap.size)).al kT
  have BR := (Blk.newAt (((((w.alloc (kG g Ag ng cg)).alloc (kW wA W.length wc)).alloc (kP bs)).alloc kT).alloc (kF w.heap.size)) 90 #[vR w.heap.size] (w.heap.size + 1 + 1 + 1 + 1 + 1) (by simp)).al kT
  have BO := Blk.newAt ((((((w.alloc (kG g Ag ng cg)).alloc (kW wA W.length wc)).alloc (kP bs)).alloc kT).alloc (kF w.heap.size)).alloc (kR w.heap.size)) 34 #[.int .i64 0, .int .i64 0, .slice none 0 0] (w.heap.size + 1 + 1 + 1 + 1 + 1 + 1) (by simp)
  have HS := Lib.hid ((hl.mono (ok' := okB bs (w.heap.size + 1 + 1 + 1 + 1 + 1 + 1)) (fun b hlt hb => ⟨hb, by omega⟩)).via hb7)
  have HX := Lib.hid ((hx.mono (ok' := okB bs (w.heap.size + 1 + 1 + 1 + 1 + 1 + 1)) (fun b hlt hb => ⟨hb, by omega⟩)).via hb7)
  have HB := Lib.hid (hb.via hb7)
  have HB7 := Lib.hid hb7
  have HBG := Lib.hid BG
  have HBW := Lib.hid BW
  have HBP := Lib.hid BP
  have HB6 := Lib.hid B6
  have HBT := Lib.hid BT
  have HBR := Lib.hid BR
  have HBO := Lib.hid BO
  have HL := Lib.hid hL
  have HG := Lib.hid hg
  clear hL hg hl hx hb hlo hb7 BG BW BP B6 BT BR BO
  have hmf : ∀ (fn : Fn) (first cap : Array Value) (w : World), (Instr.makeFunc fn first cap).run Tryd.prog w = .ok (.func fn first cap) w := fun _ _ _ _ => rfl
  simp only [grVal]
  go_enter Tryd.func17, Tryd.ntmps17
  go_upto_region 6 with fail
  have HSZ := Lib.hid (show (((((((w.alloc (kG g Ag ng cg)).alloc (kW wA W.length wc)).alloc (kP bs)).alloc kT).alloc (kF w.heap.size)).alloc (kR w.heap.size)).alloc kT).heap.size = w.heap.size + 7 by simp)
  simp only [kG, kW, kP, kT, kF, kR, vF, vR] at HSZ HS HX HB HB7 HBG HBW HBP HB6 HBT HBR HBO
  generalize (((((((w.alloc (.cells #[.int .i64 (g.terms : Int), .int .i64 (g.nons : Int), .int .i64 (g.start : Int), .slice Ag ng cg] 24)).alloc (.cells #[.slice wA W.length wc] 25)).alloc (.cells #[.pointer (some ⟨bs, 0, none⟩)] 47)).alloc (.cells #[.int .i64 0, .int .i64 0, .slice none 0 0] 34)).alloc (.cells #[.func (.func 40) #[] #[.pointer (some ⟨w.heap.size + 1 + 1, 0, none⟩), .pointer (some ⟨w.heap.size + 1, 0, none⟩), .pointer (some ⟨w.heap.size, 0, none⟩), .pointer (some ⟨w.heap.size + 1 + 1 + 1 + 1 + 1, 0, none⟩)]] 89)).alloc (.cells #[.func (.func 41) #[] #[.pointer (some ⟨w.heap.size + 1 + 1, 0, none⟩), .pointer (some ⟨w.heap.size + 1 + 1 + 1 + 1, 0, none⟩), .pointer (some ⟨w.heap.size + 1 + 1 + 1 + 1 + 1, 0, none⟩)]] 90)).alloc (.cells #[.int .i64 0, .int .i64 0, .slice none 0 0] 34)) = W7 at *
  obtain ⟨b0, hb0⟩ : ∃ b, b = w.heap.size := ⟨_, rfl⟩
  obtain ⟨b1, hb1⟩ : ∃ b, b = w.heap.size + 1 := ⟨_, rfl⟩
  obtain ⟨b2, hb2⟩ : ∃ b, b = w.heap.size + 1 + 1 := ⟨_, rfl⟩
  obtain ⟨b3, hb3⟩ : ∃ b, b = w.heap.size + 1 + 1 + 1 := ⟨_, rfl⟩
  obtain ⟨b4, hb4⟩ : ∃ b, b = w.heap.size + 1 + 1 + 1 + 1 := ⟨_, rfl⟩
  obtain ⟨b5, hb5⟩ : ∃ b, b = w.heap.size + 1 + 1 + 1 + 1 + 1 := ⟨_, rfl⟩
  obtain ⟨bo, hbo⟩ : ∃ b, b = w.heap.size + 1 + 1 + 1 + 1 + 1 + 1 := ⟨_, rfl⟩
  simp only [← hbo] at HS HX HBO ⊢
  simp only [← hb5] at HBT HBR ⊢
  simp only [← hb4] at HBT HBR ⊢
  simp only [← hb3] at HB6 ⊢
  simp only [← hb2] at HBP HBT HBR ⊢
  simp only [← hb1] at HBW HBT ⊢
  rw [← hb0] at HBG ⊢
  rw [← hb0] at HBT
  have hbb : bs < b0 ∧ w.heap.size ≤ b0 ∧ b1 = b0 + 1 ∧ b2 = b0 + 2 ∧ b3 = b0 + 3 ∧ b4 = b0 + 4 ∧ b5 = b0 + 5 ∧ bo = b3 + 3 := by omega
  have HBB := Lib.hid hbb
  clear hb0 hb1 hb2 hb3 hb4 hb5 hbo
  have hne : bs ≠ bo ∧ okB bs bo b2 ∧ okB bs bo b1 ∧ okB bs bo b0 ∧ okB bs bo b4 ∧ okB bs bo b5 := ⟨by omega, ⟨by omega, by omega⟩, ⟨by omega, by omega⟩, ⟨by omega, by omega⟩, ⟨by omega, by omega⟩, ⟨by omega, by omega⟩⟩
  have HM : Hid (BkM 40 41 bs bo b2 b1 b0 b4 b5 g W Ag ng cg wA wc W7) := Lib.hid ⟨HS.out, HX.out, HBP.out, HBW.out, HBG.out, HBT.out, HBR.out, hne⟩
  have HST : Hid (BkS bs bo s (0, 0, none, 0, 0) W7) := Lib.hid ⟨HB.out, HBO.out⟩
  have hth := last_c bs bo b1 W wA wc W7 ⟨hne.1, hne.2.2.1⟩ HBW.out
  have hcall : Calls Tryd.prog 40 #[.agg #[.bool false, .int .i64 (g.start : Int)], .int .i64 0, .func (.func 44) #[] #[.pointer (some ⟨bo, 0, none⟩), .pointer (some ⟨b1, 0, none⟩)], .pointer (some ⟨b2, 0, none⟩), .pointer (some ⟨b1, 0, none⟩), .pointer (some ⟨b0, 0, none⟩), .pointer (some ⟨b5, 0, none⟩)] W7 (BkP bs bo W7 (fndT (fun t j => if j = W.length then some t else none) L) s) :=
    try_all 40 41 bs bo b2 b1 b0 b4 b5 (Lib.hid rfl) (Lib.hid rfl) (fun args w => by kernel_rfl) (fun args w => by kernel_rfl) g HG.out W hW Ag ng cg wA wc d W7 (false, g.start) 0 L 44 #[.pointer (some ⟨bo, 0, none⟩), .pointer (some ⟨b1, 0, none⟩)] _ (fun _ _ => True) s (0, 0, none, 0, 0) (by have := HG.out.ok.start; simpa [Gr.okSy] using this) (Nat.zero_le _) HL.out HM.out HST.out hs0 (by omega) hth (fun _ _ => trivial)
  rw [fndT_end] at hcall
  have HCALL := Lib.hid hcall
  have B4 := HBT.out
  have B0 := HBG.out
  clear hcall hth hbb HBG HBW HBP HBT HBR HBO HST HS HX HB hne hbs
  have cB4 := B4.cell
  have fB4 := B4.frozen
  have lB4 := B4.lt
  have cB0 := B0.cell
  have fB0 := B0.frozen
  have lB0 := B0.lt
  repeat (first | go_skip | go_guarded | go_step | go_upon)
  refine HCALL.out.mono ?_
  clear HCALL hmf
  rintro e w8 ⟨b, s8, ⟨va, vb, vA, vn, vc⟩, rfl, hS8, hG8, -, hle8, h3, h4⟩
  clear cB4 fB4 lB4 cB0 fB0 lB0
  clear B4 B0
  have H3 := Lib.hid h3
  have H4 := Lib.hid h4
  have HS8 := Lib.hid hS8
  have HG8 := Lib.hid hG8
  have hz8 : b3 < w8.heap.size := Nat.lt_of_lt_of_le HB6.out.lt hG8.size
  have B3 : Blk w8 b3 34 #[.int .i64 0, .int .i64 0, .slice none 0 0] := hG8.blk HB6.out (by have := HBB.out; omega) (by have := HBB.out; omega)
  have BO := hS8.o
  clear h3 h4 hS8 hG8 HM
  cases b with
  | false =>
    have cB3 := B3.cell
    have fB3 := B3.frozen
    have lB3 := B3.lt
    have cBO := BO.cell
    have fBO := BO.frozen
    have lBO := BO.lt
    go_wp2_with fail
    refine bodyPost_ret (v := .tuple #[trVal (0, 0, none, 0, 0), .bool false]) (by simp [results, Tryd.results17, go_sem, trVal, cB3]) rfl ⟨(0, 0, none, 0, 0), .node 0 [], false, s8, rfl, TreeR.mk 0 (Sl.nil 0), ?_, ?_, hle8, (fun h => by cases h), fun _ => ⟨rfl, fun h0 => ?_⟩⟩
    · exact ((HS8.out.s.far (p := ⟨b3, 0, none⟩) (by have := HBB.out; simp only; omega) _).far (p := ⟨b3, 1, none⟩) (by have := HBB.out; simp only; omega) _).far (p := ⟨b3, 2, none⟩) (by have := HBB.out; simp only; omega) _
    · exact back_grown HB7.out HG8.out ((((Below.refl w.heap.size w8).setCell (p := ⟨b3, 0, none⟩) (by have := HBB.out; simp only; omega) _).setCell (p := ⟨b3, 1, none⟩) (by have := HBB.out; simp only; omega) _).setCell (p := ⟨b3, 2, none⟩) (by have := HBB.out; simp only; omega) _) (by have := HBB.out; omega)
    · rintro ⟨t, ht⟩
      have hn := H4.out (by simp) h0
      exact en_none HL.out (by simpa using hn) t ht
  | true =>
    obtain ⟨h0, u, hu, hT⟩ := H3.out (by simp)
    have HT := Lib.hid hT
    have HU := Lib.hid hu
    clear hu hT
    have cB3 := B3.cell
    have fB3 := B3.frozen
    have lB3 := B3.lt
    have cBO := BO.cell
    have fBO := BO.frozen
    have lBO := BO.lt
    go_wp2_with fail
    refine bodyPost_ret (v := .tuple #[trVal (va, vb, vA, vn, vc), .bool true]) (by simp [results, Tryd.results17, go_sem, trVal, cB3]) rfl ⟨(va, vb, vA, vn, vc), u, true, s8, rfl, ?_, ?_, ?_, hle8, fun _ => ⟨h0, ?_⟩, fun h => by cases h⟩
    · exact (HT.out.agr (((Agr.setCell (p := ⟨b3, 0, none⟩) _ fun b hb => by have := HBB.out; have := hb.2; show b ≠ b3; omega).trans (Agr.setCell (p := ⟨b3, 1, none⟩) _ fun b hb => by have := HBB.out; have := hb.2; show b ≠ b3; omega)).trans (Agr.setCell (p := ⟨b3, 2, none⟩) _ fun b hb => by have := HBB.out; have := hb.2; show b ≠ b3; omega))).mono fun b _ hb => hb.1.1
    · exact ((HS8.out.s.far (p := ⟨b3, 0, none⟩) (by have := HBB.out; simp only; omega) _).far (p := ⟨b3, 1, none⟩) (by have := HBB.out; simp only; omega) _).far (p := ⟨b3, 2, none⟩) (by have := HBB.out; simp only; omega) _
    · exact back_grown HB7.out HG8.out ((((Below.refl w.heap.size w8).setCell (p := ⟨b3, 0, none⟩) (by have := HBB.out; simp only; omega) _).setCell (p := ⟨b3, 1, none⟩) (by have := HBB.out; simp only; omega) _).setCell (p := ⟨b3, 2, none⟩) (by have := HBB.out; simp only; omega) _) (by have := HBB.out; omega)
    · obtain ⟨p, hp, hpu⟩ := Option.map_eq_some_iff.1 HU.out
      have := en_first HL.out hp
      rw [hpu] at this
      exact this
end Go.Proofs.YtfmnmgnhanogmaaDoor

