/- The walk of AttrConstant: it returns true. No condition. -/
import Derived.Test.YtgclibfikdonoaaYM
import Derived.Deep.RegionWith
namespace Go.Proofs.Ytgclibfikdonoaa
open Go.RowKit

theorem enters_get : ∀ (args : Array Value) (w : World), (callFunc 7 args).run Try.prog w = .ok (.enter 7 args) w :=
  enters_k (c := _) (fn := Try.f7) rfl (by kernel_rfl) rfl
section
variable {ok : Nat → Prop} {d : Nat} {w : World} {bs : Nat} {seed : Int} {t : Ex}
theorem below_stable {bs : Nat} {v : Value} (w w' : World) (h : Blk w bs 3 #[v]) (hb : Below w.heap.size w w') : Blk w' bs 3 #[v] := h.via hb
theorem calc_a (xa xb xc xd : Nat) (xA : Option Addr) (xn xcc : Nat) (hT : ExR ok w (xa, xb, xc, xd, xA, xn, xcc) t) (hO : Ex.Ok d t) (hi : Blk w bs 3 #[.int .i64 seed]) :
    Calls Try.prog 4 #[.agg #[.int .i64 (xa : Int), .int .i64 (xb : Int), .int .i64 (xc : Int), .int .i64 (xd : Int), .slice xA xn xcc], .func (.func 7) #[] #[.pointer (some ⟨bs, 0, none⟩)]] w (FunP w (t.calc (getN seed))) :=
  calc_n _ enters_get _ (fun w => Blk w bs 3 #[.int .i64 seed]) below_stable (getN seed) (getN_lt seed) (fun a b w h => get_c bs seed a b w h) t.size ok d (xa, xb, xc, xd, xA, xn, xcc) t w hT hO (Nat.le_refl _) hi
theorem calc_b (xa xb xc xd : Nat) (xA : Option Addr) (xn xcc : Nat) (hT : ExR ok w (xa, xb, xc, xd, xA, xn, xcc) (t.konst (getN seed))) (hO : Ex.Ok d t) (hi : Blk w bs 3 #[.int .i64 seed]) :
    Calls Try.prog 4 #[.agg #[.int .i64 (xa : Int), .int .i64 (xb : Int), .int .i64 (xc : Int), .int .i64 (xd : Int), .slice xA xn xcc], .func (.func 7) #[] #[.pointer (some ⟨bs, 0, none⟩)]] w (FunP w (t.calc (getN seed))) := by
  have := calc_a xa xb xc xd xA xn xcc hT (Ex.konst_ok (getN_lt seed) hO).1 hi
  rwa [(Ex.konst_ok (getN_lt seed) hO).2] at this
theorem konst_a (xa xb xc xd : Nat) (xA : Option Addr) (xn xcc : Nat) (hT : ExR ok w (xa, xb, xc, xd, xA, xn, xcc) t) (hO : Ex.Ok d t) (hi : Blk w bs 3 #[.int .i64 seed]) :
    Calls Try.prog 10 #[.agg #[.int .i64 (xa : Int), .int .i64 (xb : Int), .int .i64 (xc : Int), .int .i64 (xd : Int), .slice xA xn xcc], .func (.func 7) #[] #[.pointer (some ⟨bs, 0, none⟩)]] w (KonP w (t.konst (getN seed))) :=
  konst_n _ enters_get _ (fun w => Blk w bs 3 #[.int .i64 seed]) below_stable (getN seed) (fun a b w h => get_c bs seed a b w h) t.size ok d (xa, xb, xc, xd, xA, xn, xcc) t w hT hO (Nat.le_refl _) hi
theorem refs_a (xa xb xc xd : Nat) (xA : Option Addr) (xn xcc : Nat) (hT : ExR ok w (xa, xb, xc, xd, xA, xn, xcc) (t.konst (getN seed))) (hO : Ex.Ok d t) :
    Calls Try.prog 11 #[.agg #[.int .i64 (xa : Int), .int .i64 (xb : Int), .int .i64 (xc : Int), .int .i64 (xd : Int), .slice xA xn xcc]] w fun e w' => e = .returned (.slice none 0 0) ∧ Below w.heap.size w w' :=
  refs_c ok (xa, xb, xc, xd, xA, xn, xcc) _ w hT (Ex.konst_noV hO)
end
set_option maxRecDepth 100000 in
set_option maxHeartbeats 2000000 in
theorem attrConstant_walk (A B : Option Addr) (n c m d : Nat) (l1 l2 : List Int) (seed : Int) (w : World) (h1 : Ints w A n c l1) (h2 : Ints w B m d l2) :
    Calls Try.prog 3 #[.slice A n c, .slice B m d, .int .i64 seed] w fun e w' => e = .returned (.bool true) ∧ Below w.heap.size w w' := by
  have Bs := Blk.new w 3 #[.int .i64 seed]
  have K0 := (Below.refl w.heap.size w).al (.cells #[.int .i64 seed] 3)
  have HI1 := Lib.hid (h1.alloc (.cells #[.int .i64 seed] 3))
  have HI2 := Lib.hid (h2.alloc (.cells #[.int .i64 seed] 3))
  clear h1 h2
  go_enter Try.func3, Try.ntmps3
  go_wp2_with fail
  generalize w.alloc (.cells #[.int .i64 seed] 3) = W0 at *
  refine (calc_const _ 7 _).mono ?_
  rintro e w1 ⟨rfl, hb⟩
  replace Bs := Bs.via hb
  replace K0 := K0.via hb
  have HI1 := Lib.hid (HI1.out.keep hb (Nat.le_refl _))
  have HI2 := Lib.hid (HI2.out.keep hb (Nat.le_refl _))
  clear hb
  go_wp2_with fail
  refine (grammar_c A n c l1 _ HI1.out).mono ?_
  rintro e w2 ⟨g, Ag, ng, cg, rfl, hM, hG, hb⟩
  replace Bs := Bs.via hb
  replace K0 := K0.via hb
  have HI2 := Lib.hid (HI2.out.keep hb (Nat.le_refl _))
  have HG := Lib.hid (hG.al (.cells #[.int .i64 (g.terms : Int), .int .i64 (g.nons : Int), .int .i64 (g.start : Int), .slice Ag ng cg] 32))
  have HI3 := Lib.hid (HI2.out.alloc (.cells #[.int .i64 (g.terms : Int), .int .i64 (g.nons : Int), .int .i64 (g.start : Int), .slice Ag ng cg] 32))
  have HM := Lib.hid hM
  clear hb hG hM HI1 HI2
  dsimp only [grVal]
  have Bg := Blk.new w2 32 #[.int .i64 (g.terms : Int), .int .i64 (g.nons : Int), .int .i64 (g.start : Int), .slice Ag ng cg]
  replace Bs := Bs.al (.cells #[.int .i64 (g.terms : Int), .int .i64 (g.nons : Int), .int .i64 (g.start : Int), .slice Ag ng cg] 32)
  replace K0 := K0.al (.cells #[.int .i64 (g.terms : Int), .int .i64 (g.nons : Int), .int .i64 (g.start : Int), .slice Ag ng cg] 32)
  have cBs := Bs.cell
  have fBs := Bs.frozen
  have lBs := Bs.lt
  go_wp2_with fail
  clear cBs fBs lBs
  generalize hW : w2.alloc (.cells #[.int .i64 (g.terms : Int), .int .i64 (g.nons : Int), .int .i64 (g.start : Int), .slice Ag ng cg] 32) = W2 at *
  clear hW
  refine (sys_c _ g Ag ng cg B m d l2 _ (by have := HM.out.nons; omega) (by have := HM.out.count; omega) (fun r hr => by have := (HM.out.ok r hr).2.1; omega) HG.out HI3.out).mono ?_
  rintro e w3 ⟨Aa, na, ca, Ae, ne, ce, eqs, rfl, hE, hO, hb, hn⟩
  replace Bs := Bs.via hb
  replace K0 := K0.via hb
  have HE := Lib.hid hE
  have HO := Lib.hid hO
  clear hb hE hO HG HI3 HM Bg
  have hfd : ∀ w, (Instr.field 38 (.agg #[.slice Aa na ca, .slice Ae ne ce]) 1).run Try.prog w = .ok (.slice Ae ne ce) w := fun w => by kernel_rfl
  go_wp2_with fail
  clear hfd
  go_loopw [22] (fun i wr => ∃ k : Nat, i = .int .i64 k ∧ k ≤ ne ∧ Below w3.heap.size w3 wr) (fun i _ => ne - (intOf i).toNat)
  case atStart => exact ⟨0, rfl, Nat.zero_le _, Below.refl _ _⟩
  case round =>
    obtain ⟨k, rfl, hk, hr⟩ := hrel
    have HS := Lib.hid (Bs.via hr)
    by_cases hlt : k < ne
    · obtain ⟨b, off, x, y, rfl, -, hbb, hy, hxy, hc⟩ := (HE.out.via hr).at_ hlt
      obtain ⟨hx1, hx2, hx3⟩ := hxy
      have hyo := HO.out y (List.mem_of_getElem? hy)
      have c0 := hc 0 _ rfl
      have c1 := hc 1 _ rfl
      have c2 := hc 2 _ rfl
      have c3 := hc 3 _ rfl
      have c4 := hc 4 _ rfl
      have c5 := hc 5 _ rfl
      have c6 := hc 6 _ rfl
      have c7 := hc 7 _ rfl
      obtain ⟨xr, ⟨xf, xg⟩, xa, xb, xc, xd, xA, xn, xcc⟩ := x
      simp only [QeE, Nat.add_zero] at c0 c1 c2 c3 c4 c5 c6 c7
      have i0 : (0 : Int) ≤ (k : Int) := by omega
      have i1 : (k : Int) < (ne : Int) := by omega
      have Bk := Blk.new wr 41 #[.int .i64 (xr : Int), .int .i64 (xf : Int), .int .i64 (xg : Int), .int .i64 (xa : Int), .int .i64 (xb : Int), .int .i64 (xc : Int), .int .i64 (xd : Int), .slice xA xn xcc]
      have HX := Lib.hid (hx3.al (.cells #[.int .i64 (xr : Int), .int .i64 (xf : Int), .int .i64 (xg : Int), .int .i64 (xa : Int), .int .i64 (xb : Int), .int .i64 (xc : Int), .int .i64 (xd : Int), .slice xA xn xcc] 41))
      have HS2 := Lib.hid (HS.out.al (.cells #[.int .i64 (xr : Int), .int .i64 (xf : Int), .int .i64 (xg : Int), .int .i64 (xa : Int), .int .i64 (xb : Int), .int .i64 (xc : Int), .int .i64 (xd : Int), .slice xA xn xcc] 41))
      have HR2 := Lib.hid (hr.al (.cells #[.int .i64 (xr : Int), .int .i64 (xf : Int), .int .i64 (xg : Int), .int .i64 (xa : Int), .int .i64 (xb : Int), .int .i64 (xc : Int), .int .i64 (xd : Int), .slice xA xn xcc] 41))
      have HYO := Lib.hid hyo
      clear hc hx1 hx2 hx3 hy hyo hr HS
      go_upto_region 8 with fail
      clear c0 c1 c2 c3 c4 c5 c6 c7
      generalize wr.alloc (.cells #[.int .i64 (xr : Int), .int .i64 (xf : Int), .int .i64 (xg : Int), .int .i64 (xa : Int), .int .i64 (xb : Int), .int .i64 (xc : Int), .int .i64 (xd : Int), .slice xA xn xcc] 41) = W at *
      generalize wr.heap.size = bk at *
      have SOF := Lib.hid (show ∀ w', Below W.heap.size W w' → ((∀ i, w'.cell? ⟨bk, i, none⟩ = #[.int .i64 (xr : Int), .int .i64 (xf : Int), .int .i64 (xg : Int), .int .i64 (xa : Int), .int .i64 (xb : Int), .int .i64 (xc : Int), .int .i64 (xd : Int), .slice xA xn xcc][i]?) ∧ Below W.heap.size W w') from fun w' hb => ⟨(Bk.via hb).cell, hb⟩)
      have HTS := Lib.hid (show ∀ w', Below W.heap.size W w' → ExR _ w' (xa, xb, xc, xd, xA, xn, xcc) y.2.2 from fun w' hb => HX.out.via hb)
      have HSS := Lib.hid (show ∀ w', Below W.heap.size W w' → Blk w' w.heap.size 3 #[.int .i64 seed] from fun w' hb => HS2.out.via hb)
      have hb0 := (Below.refl W.heap.size W).drew
      clear Bk HX HS2 hbb
      go_region_held3 (fun w' => (∀ i, w'.cell? ⟨bk, i, none⟩ = #[.int .i64 (xr : Int), .int .i64 (xf : Int), .int .i64 (xg : Int), .int .i64 (xa : Int), .int .i64 (xb : Int), .int .i64 (xc : Int), .int .i64 (xd : Int), .slice xA xn xcc][i]?) ∧ Below W.heap.size W w') (exact SOF.out _ (by assumption)) (first
        | (go_at_call 4; (with_reducible refine (calc_a xa xb xc xd xA xn xcc (HTS.out _ (by assumption)) HYO.out (HSS.out _ (by assumption))).mono ?_); rintro ee wn ⟨rfl, hbn⟩; have hbm : Below W.heap.size W wn := Below.via (by assumption) hbn)
        | (go_at_call 10; (with_reducible refine (konst_a xa xb xc xd xA xn xcc (HTS.out _ (by assumption)) HYO.out (HSS.out _ (by assumption))).mono ?_); rintro ee wn ⟨⟨za, zb, zc, zd, zA, zn, zcc⟩, rfl, hTn, hbn⟩; have hbm : Below W.heap.size W wn := Below.via (by assumption) hbn; dsimp only [exVal])
        | (go_at_call 4; (with_reducible refine (calc_b _ _ _ _ _ _ _ (by assumption) HYO.out (HSS.out _ (by assumption))).mono ?_); rintro ee wn ⟨rfl, hbn⟩; have hbm : Below W.heap.size W wn := Below.via (by assumption) hbn)
        | (go_at_call 11; (with_reducible refine (refs_a _ _ _ _ _ _ _ (by assumption) HYO.out).mono ?_); rintro ee wn ⟨rfl, hbn⟩; have hbm : Below W.heap.size W wn := Below.via (by assumption) hbn))
      have HF := Lib.hid (HR2.out.via hbm)
      clear SOF HTS HSS hb0 hbm hbn hTn
      go_wp2_with fail
      exact ⟨⟨k + 1, by go_num, by omega, HF.out⟩, by simp [intOf]; omega⟩
    · have HR := Lib.hid hr
      clear hr
      go_wp2_with fail
      go_ret
      exact ⟨rfl, K0.via HR.out⟩
end Go.Proofs.Ytgclibfikdonoaa
