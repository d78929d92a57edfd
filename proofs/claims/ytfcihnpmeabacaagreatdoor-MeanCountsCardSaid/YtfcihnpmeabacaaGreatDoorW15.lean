/- Texts AF, JA, laid together. -/
import Derived.Test.YtfcihnpmeabacaaGreatDoorW8
import Derived.Test.YtfcihnpmeabacaaGreatDoorW7
import Derived.Deep.RegionWith
namespace Go.Proofs.YtfcihnpmeabacaaGreatDoor
open Go.RowKit
set_option maxRecDepth 100000 in
set_option maxHeartbeats 2000000 in
theorem mcheck_c (ok:Nat→Prop) (g:Gr) (Ag:Option Addr) (ng cg:Nat) (A:Option Addr) (n c:Nat) (xs:List Int) (w:World) (hg:GrOk g) (hl:Sl RuE ok w Ag ng cg g.rules) (hx:Ints w A n c xs) (hn:n≤12) (hxt:∀ x∈xs,0≤x∧x < (g.terms:Int)) :
 Calls Tryz.prog 25 #[grVal g Ag ng cg,.slice A n c] w (IntO w 0):=by
 have hB:=((Below.refl w.heap.size w).al (.cells #[.int .i64 (g.terms:Int),.int .i64 (g.nons:Int),.int .i64 (g.start:Int),.slice Ag ng cg] 24));have HB:=Lib.hid hB;have HGO:=Lib.hid hg;have HL:=Lib.hid (hl.via hB);have HX:=Lib.hid (hx.keep hB (Nat.le_refl _));have HXT:=Lib.hid hxt;have B0:=Blk.new w 24 #[.int .i64 (g.terms:Int),.int .i64 (g.nons:Int),.int .i64 (g.start:Int),.slice Ag ng cg];have HB0:=Lib.hid B0;simp only [grVal];clear hg hl hx hxt hB;go_enter Tryz.func25,Tryz.ntmps25;have cB0:=B0.cell;have fB0:=B0.frozen;have lB0:=B0.lt;go_wp2_with fail;clear cB0 fB0 lB0;generalize w.alloc (.cells #[.int .i64 (g.terms:Int),.int .i64 (g.nons:Int),.int .i64 (g.start:Int),.slice Ag ng cg] 24)=W at *;refine (check_c ok g Ag ng cg W HGO.out HL.out).mono ?_;rintro e w1 ⟨rfl,hb⟩;have HX1:=Lib.hid (HX.out.keep hb (Nat.le_refl _));have HB1:=Lib.hid (HB.out.via hb);have Bg:=HB0.out.via hb;clear hb HX HB HB0 B0;have cBg:=Bg.cell;have fBg:=Bg.frozen;have lBg:=Bg.lt;go_wp2_with fail;clear cBg fBg lBg;refine (word_ok g Ag ng cg A n c 12 xs w1 HX1.out hn (by omega) HXT.out).mono ?_;rintro e w2 ⟨rfl,hb⟩;have HB2:=Lib.hid (HB1.out.via hb);clear hb;go_wp2_with fail;go_ret;exact ⟨rfl,HB2.out⟩
def AccP (w:World) (g:Gr) (xs:List Int) (e:Ending) (w':World):Prop :=
 ∃ b:Bool,e=.returned (.tuple #[.bool b,.int .i64 0])∧(b=true↔Dv g.rules [(false,g.start)] xs)∧Below w.heap.size w w'
theorem bit_of (x n:Nat) (h:x < 8192):∃ (Q R:Nat),(x:Int) / 2 ^ n=(Q:Int)∧bits .and .u32 (Q:Int) 1=(R:Int)∧((R:Int)==1)=x.testBit n:=by
 refine ⟨x / 2 ^ n,(x / 2 ^ n) &&& 1,by simp,?_,?_⟩
 ·have h1:x / 2 ^ n≤x:=Nat.div_le_self _ _;exact u32_and_nat _ 1 (by omega) (by omega)
 ·rw [Nat.and_one_is_mod,Nat.testBit_eq_decide_div_mod_eq];generalize x / 2 ^ n=y
  by_cases h:y % 2=1
  ·rw [h]; rfl
  ·have h0:y % 2=0:=(by omega);rw [h0]; rfl
set_option maxRecDepth 100000 in
set_option maxHeartbeats 4000000 in
theorem accepts_c (ok:Nat→Prop) (g:Gr) (Ag:Option Addr) (ng cg:Nat) (A:Option Addr) (n c:Nat) (xs:List Int) (w:World) (hg:GrOk g) (hl:Sl RuE ok w Ag ng cg g.rules) (hx:Ints w A n c xs) (hn:n≤12) (hxt:∀ x∈xs,0≤x∧x < (g.terms:Int)) (hT:TabW w) :
 Calls Tryz.prog 30 #[grVal g Ag ng cg,.slice A n c] w (AccP w g xs):=by
 have hxl:=hx.len;have HXL:=Lib.hid hxl;have hB:=((Below.refl w.heap.size w).al (.cells #[.int .i64 (g.terms:Int),.int .i64 (g.nons:Int),.int .i64 (g.start:Int),.slice Ag ng cg] 24));have HB:=Lib.hid hB;have HGO:=Lib.hid hg;have HL:=Lib.hid (hl.via hB);have HX:=Lib.hid (hx.keep hB (Nat.le_refl _));have HT:=Lib.hid (hT.via hB);have HXT:=Lib.hid hxt;have B0:=Blk.new w 24 #[.int .i64 (g.terms:Int),.int .i64 (g.nons:Int),.int .i64 (g.start:Int),.slice Ag ng cg];have HB0:=Lib.hid B0;have hst:=hg.ok.start;simp only [grVal];clear hg hl hx hxt hB hT hxl;go_enter Tryz.func30,Tryz.ntmps30;have cB0:=B0.cell;have fB0:=B0.frozen;have lB0:=B0.lt;go_wp2_with fail;clear cB0 fB0 lB0;generalize w.alloc (.cells #[.int .i64 (g.terms:Int),.int .i64 (g.nons:Int),.int .i64 (g.start:Int),.slice Ag ng cg] 24)=W at *;refine (mcheck_c ok g Ag ng cg A n c xs W HGO.out HL.out HX.out hn HXT.out).mono ?_;rintro e w1 ⟨rfl,hb⟩;have HL1:=Lib.hid (HL.out.via hb);have HX1:=Lib.hid (HX.out.keep hb (Nat.le_refl _));have HT1:=Lib.hid (HT.out.via hb);have HB1:=Lib.hid (HB.out.via hb);have Bg:=HB0.out.via hb;have HBG:=Lib.hid Bg;clear hb HX HB HB0 B0 HL HT;go_upto_region 4 with fail
 have FE:=Lib.hid (show ∀ w',Below w1.heap.size w1 w'→Calls Tryz.prog 62 #[.agg #[.int .i64 (g.terms:Int),.int .i64 (g.nons:Int),.int .i64 (g.start:Int),.slice Ag ng cg],.slice A n c] w' (EndsP w' g xs) from fun w' hb=>by
  have:=ends_c ok g Ag ng cg A n c xs w' HGO.out (HL1.out.via hb) (HX1.out.keep hb (Nat.le_refl _)) hn (HT1.out.via hb)
  simpa only [grVal] using this)
 have g0:(0:Int)≤(g.start:Int):=(by omega);have g1:(g.start:Int) < (g.nons:Int):=(by omega);have g2:(0:Int) < (n:Int)+1:=(by omega);have hb0:=(Below.refl w1.heap.size w1).drew;have cBd:∀ i,w1.drew.cell? ⟨w.heap.size,i,none⟩=#[.int .i64 (g.terms:Int),.int .i64 (g.nons:Int),.int .i64 (g.start:Int),.slice Ag ng cg][i]?:=(Bg.via hb0).cell;clear Bg
 go_region_with (go_at_call 62; refine (FE.out _ (by assumption)).mono ?_; rintro ee wn ⟨ob,rb,E,rfl,her,hse,hfx,hbn⟩; have hbm:Below w1.heap.size w1 wn:=Below.via (by assumption) hbn; have t1:=her.cell1 hst; have t2:=her.cell2 hst (Nat.zero_le _); have cBn:=(HBG.out.via hbm).cell; have HSE:=Lib.hid hse; have HFX:=Lib.hid hfx; rw [HXL.out] at t1; clear hse hfx her hbn; obtain ⟨Q,R,q1,q2,q3⟩:=bit_of (E g.start 0) n (by have:=HSE.out.lt g.start 0; rw [HXL.out] at this; have:=pow13 hn; omega); have HIF:=Lib.hid (show (E g.start 0).testBit n=true↔Dv g.rules [(false,g.start)] xs from (by have:=ends_iff HSE.out HFX.out (by rw [HXL.out]; omega) g.start; rwa [HXL.out] at this)); have HBF:=Lib.hid (HB1.out.via hbm); generalize (E g.start 0).testBit n=bb at *)
 all_goals
  go_wp2_with fail;go_ret2;exact ⟨bb,rfl,HIF.out,HBF.out⟩
end Go.Proofs.YtfcihnpmeabacaaGreatDoor
namespace Go.Proofs.YtfcihnpmeabacaaGreatDoor
open Go.RowKit
abbrev Ci:=Bool×Int
def SiE:Elem Ci Ci where
 k:=2
 cells s:=[.bool s.1,.int .i64 s.2]
 rel _ _ r x:=r=x
 pos:=by omega
 len _:=rfl
 one r u hu:=by simp at hu; rcases hu with rfl | rfl <;> rfl
 agr h _:=h
 mono h _:=h
abbrev Ri:=Int×List Ci
def RiE:Elem Ri (Int×SlV) where
 k:=2
 cells r:=[.int .i64 r.1,.slice r.2.1 r.2.2.1 r.2.2.2]
 rel ok w r x:=r.1=x.1∧Sl SiE ok w r.2.1 r.2.2.1 r.2.2.2 x.2
 pos:=by omega
 len _:=rfl
 one r u hu:=by simp at hu; rcases hu with rfl | rfl <;> rfl
 agr h k:=⟨h.1,h.2.agr k⟩
 mono h k:=⟨h.1,h.2.mono k⟩
def siVal (s:Ci):Value:=.agg #[.bool s.1,.int .i64 s.2]
def riVal (r:Int×SlV):Value:=.agg #[.int .i64 r.1,.slice r.2.1 r.2.2.1 r.2.2.2]
def okSi (T N:Int) (s:Ci):Bool:=decide (0≤s.2)&&((s.1&&decide (s.2 < T)) || (!s.1&&decide (s.2 < N)))
def chkL (T N:Int) (done:List Ri):List Ri→Int
 | []=>0
 | r::rs =>
  if ¬ (0≤r.1∧r.1 < N) then 3
  else if 4 < r.2.length then 2
  else if (r.2.any fun s=>!okSi T N s)=true then 3
  else if r∈done then 6
  else chkL T N (done++[r]) rs
def chkG (T N S:Int) (rs:List Ri):Int :=
 if ¬ (1≤T∧T≤8∧1≤N∧N≤10∧0≤S∧S < N) then 1 else if 32 < rs.length then 2 else chkL T N [] rs
def ordC (a b:Ci):Int:=if a.1=b.1 then cmpI a.2 b.2 else if a.1 then -1 else 1
theorem ordC_zero {a b:Ci}:ordC a b=0↔a=b:=by
 obtain ⟨x,m⟩:=a;obtain ⟨y,n⟩:=b;unfold ordC
 by_cases e:x=y
 ·subst e; simp only [if_true]; rw [cmpI_zero]; simp
 ·rw [if_neg e];constructor
  ·intro h; split at h <;> omega
  ·intro h; exact absurd (congrArg Prod.fst h) e
def cmpC:List Ci→List Ci→Int
 | [],[]=>0
 | [],_::_=>-1
 | _::_,[]=>1
 | x::xs,y::ys=>if ordC x y=0 then cmpC xs ys else ordC x y
theorem cmpC_zero:∀ {a b:List Ci},cmpC a b=0↔a=b
 | [],[]=>by simp [cmpC]
 | [],_::_=>by simp [cmpC]
 | _::_,[]=>by simp [cmpC]
 | x::xs,y::ys=>by
  rw [cmpC]
  by_cases e:ordC x y=0
  ·rw [if_pos e,cmpC_zero (a:=xs) (b:=ys),ordC_zero.1 e]; simp
  ·rw [if_neg e];constructor
   ·intro h; exact absurd h e
   ·intro h; exact absurd (ordC_zero.2 (List.cons.inj h).1) e
def cmpRi (a b:Ri):Int:=orL [cmpI a.1 b.1,cmpC a.2 b.2]
theorem cmpRi_zero {a b:Ri}:cmpRi a b=0↔a=b:=by
 obtain ⟨x,l⟩:=a;obtain ⟨y,m⟩:=b;unfold cmpRi;simp only [orL]
 by_cases e:cmpI x y=0
 ·rw [if_pos e];have h:=cmpI_zero.1 e;subst h
  by_cases e2:cmpC l m=0
  ·rw [if_pos e2]; simp [cmpC_zero.1 e2]
  ·rw [if_neg e2];constructor
   ·intro h; exact absurd h e2
   ·intro h; exact absurd (cmpC_zero.2 (congrArg Prod.snd h)) e2
 ·rw [if_neg e];constructor
  ·intro h; exact absurd h e
  ·intro h; exact absurd (cmpI_zero.2 (congrArg Prod.fst h)) e
set_option maxRecDepth 100000 in
set_option maxHeartbeats 2000000 in
theorem orderI_c (a b:Ci) (w:World) :
 Calls Tryz.prog 128 #[.agg #[.bool a.1,.int .i64 a.2],.agg #[.bool b.1,.int .i64 b.2]] w (IntO w (ordC a b)):=by
 obtain ⟨x,m⟩:=a;obtain ⟨y,n⟩:=b;have HB:=Lib.hid (((Below.refl w.heap.size w).al (.cells #[.bool x,.int .i64 m] 69)).al (.cells #[.bool y,.int .i64 n] 69));cases x <;> cases y
 ·go_enter Tryz.func128,Tryz.ntmps128;go_wp2_with fail;refine (cmp_c _ _ _).mono ?_;rintro e w' ⟨rfl,rfl⟩;go_wp2_with fail;go_ret;exact ⟨by simp [ordC],HB.out⟩
 ·go_enter Tryz.func128,Tryz.ntmps128;go_wp2_with fail;go_ret;exact ⟨rfl,HB.out⟩
 ·go_enter Tryz.func128,Tryz.ntmps128;go_wp2_with fail;go_ret;exact ⟨rfl,HB.out⟩
 ·go_enter Tryz.func128,Tryz.ntmps128;go_wp2_with fail;refine (cmp_c _ _ _).mono ?_;rintro e w' ⟨rfl,rfl⟩;go_wp2_with fail;go_ret;exact ⟨by simp [ordC],HB.out⟩
theorem cmpC_step {xs ys:List Ci} {k:Nat} {x y:Ci} (hx:xs[k]?=some x) (hy:ys[k]?=some y):cmpC (xs.drop k) (ys.drop k)=if ordC x y=0 then cmpC (xs.drop (k+1)) (ys.drop (k+1)) else ordC x y:=by
 have h1:=List.getElem?_eq_some_iff.1 hx;have h2:=List.getElem?_eq_some_iff.1 hy;rw [List.drop_eq_getElem_cons h1.1,List.drop_eq_getElem_cons h2.1,cmpC,h1.2,h2.2]
set_option maxRecDepth 100000 in
set_option maxHeartbeats 4000000 in
theorem cmpC_c (ok ok':Nat→Prop) (A B:Option Addr) (n c m d:Nat) (xs ys:List Ci) (w:World) (h1:Sl SiE ok w A n c xs) (h2:Sl SiE ok' w B m d ys) (hn:n≤1000000) :
 Calls Tryz.prog 127 #[.slice A n c,.slice B m d,.func (.func 128) #[] #[]] w (IntO w (cmpC xs ys)):=by
 have H1:=Lib.hid h1;have H2:=Lib.hid h2;have L1:=Lib.hid h1.len;have L2:=Lib.hid h2.len;clear h1 h2;go_enter Tryz.func127,Tryz.ntmps127;go_wp2_with fail
 go_loopw [13] (fun i wr=>∃ k:Nat,i=.int .i64 k∧k≤n∧k≤m∧Hid (cmpC xs ys=cmpC (xs.drop k) (ys.drop k))∧Below w.heap.size w wr) (fun i _=>n - (intOf i).toNat)
 case atStart=>exact ⟨0,rfl,Nat.zero_le _,Nat.zero_le _,Lib.hid rfl,Below.refl _ _⟩
 case round =>
  obtain ⟨k,rfl,hk,hkm,HC,hb⟩:=hrel;have HB:=Lib.hid hb;clear hb
  by_cases hkn:k < n
  ·obtain ⟨b1,o1,sx,sx',rfl,-,hb1,hx,hxx,hc⟩:=(H1.out.via HB.out).at_ hkn;obtain rfl:sx=sx':=hxx;have c0:=hc 0 _ rfl;have c1:=hc 1 _ rfl;simp only [SiE,Nat.add_zero] at c0 c1;have i0:(0:Int)≤(k:Int):=(by omega);have i1:(k:Int) < (n:Int):=(by omega)
   by_cases hk2:k < m
   ·obtain ⟨b2,o2,sy,sy',rfl,-,hb2,hy,hyy,hd⟩:=(H2.out.via HB.out).at_ hk2;obtain rfl:sy=sy':=hyy;have d0:=hd 0 _ rfl;have d1:=hd 1 _ rfl;simp only [SiE,Nat.add_zero] at d0 d1;have i2:(k:Int) < (m:Int):=(by omega);have HS:=Lib.hid (cmpC_step hx hy);have HB2:=Lib.hid ((HB.out.al (.cells #[.bool sx.1,.int .i64 sx.2] 69)).al (.cells #[.bool sy.1,.int .i64 sy.2] 69));clear hc hd hx hy;go_wp2_with fail;refine (orderI_c sx sy _).mono ?_;rintro e w' ⟨rfl,hb⟩;have HF:=Lib.hid (HB2.out.via hb);clear hb c0 c1 d0 d1
    by_cases he:ordC sx sy=0
    ·rw [he];have HE:=Lib.hid (HC.out.trans (by rw [HS.out,if_pos he]));clear he;go_wp2_with fail;exact ⟨⟨k+1,by go_num,by omega,by omega,HE,HF.out⟩,by simp [intOf]; omega⟩
    ·have HE:=Lib.hid (HC.out.trans (by rw [HS.out,if_neg he]));have hne:(ordC sx sy != 0)=true:=(by simpa using he);clear he;generalize ordC sx sy=q at *;go_wp2_with fail;go_ret;exact ⟨by rw [HE.out]; rfl,HF.out⟩
   ·have hv:cmpC xs ys=1:=by
     rw [HC.out,List.drop_of_length_le (l:=ys) (by rw [L2.out]; omega),List.drop_eq_getElem_cons (by rw [L1.out]; exact hkn)]; rfl
    have HV:=Lib.hid hv;have HB2:=Lib.hid (HB.out.al (.cells #[.bool sx.1,.int .i64 sx.2] 69));clear hv hc hx;go_wp2_with fail;go_ret;exact ⟨by rw [HV.out]; rfl,HB2.out⟩
  ·by_cases hnm:n < m
   ·have hv:cmpC xs ys=-1:=by
     rw [HC.out,List.drop_of_length_le (by rw [L1.out]; omega),List.drop_eq_getElem_cons (by rw [L2.out]; omega)]; rfl
    have HV:=Lib.hid hv;clear hv;go_wp2_with fail;go_ret;exact ⟨by rw [HV.out]; rfl,HB.out⟩
   ·have hv:cmpC xs ys=0:=by
     rw [HC.out,List.drop_of_length_le (by rw [L1.out]; omega),List.drop_of_length_le (by rw [L2.out]; omega)]; rfl
    have HV:=Lib.hid hv;clear hv;go_wp2_with fail;go_ret;exact ⟨by rw [HV.out]; rfl,HB.out⟩
set_option maxRecDepth 100000 in
set_option maxHeartbeats 4000000 in
theorem compareI_c (ok ok':Nat→Prop) (x y:Int) (A B:Option Addr) (n c m d:Nat) (xs ys:List Ci) (w:World) (h1:Sl SiE ok w A n c xs) (h2:Sl SiE ok' w B m d ys) (hn:n≤1000000) :
 Calls Tryz.prog 90 #[.agg #[.int .i64 x,.slice A n c],.agg #[.int .i64 y,.slice B m d]] w (IntO w (cmpRi (x,xs) (y,ys))):=by
 have hB:=((Below.refl w.heap.size w).al (.cells #[.int .i64 x,.slice A n c] 74)).al (.cells #[.int .i64 y,.slice B m d] 74);have B0:=(Blk.new w 74 #[.int .i64 x,.slice A n c]).al (.cells #[.int .i64 y,.slice B m d] 74);have B1:=Blk.new (w.alloc (.cells #[.int .i64 x,.slice A n c] 74)) 74 #[.int .i64 y,.slice B m d];rw [World.size_alloc] at B1;have H1:=Lib.hid (h1.via hB);have H2:=Lib.hid (h2.via hB);clear h1 h2;go_enter Tryz.func90,Tryz.ntmps90;go_upto_region 1 with fail;generalize (w.alloc (.cells #[.int .i64 x,.slice A n c] 74)).alloc (.cells #[.int .i64 y,.slice B m d] 74)=W at *;have J1:=Lib.hid (show ∀ w',Below W.heap.size W w'→Sl SiE ok w' A n c xs from fun w' hb=>H1.out.via hb);have J2:=Lib.hid (show ∀ w',Below W.heap.size W w'→Sl SiE ok' w' B m d ys from fun w' hb=>H2.out.via hb);have SOF:=Lib.hid (show ∀ w',Below W.heap.size W w'→((∀ i,w'.cell? ⟨w.heap.size,i,none⟩=#[.int .i64 x,.slice A n c][i]?)∧(∀ i,w'.cell? ⟨w.heap.size+1,i,none⟩=#[.int .i64 y,.slice B m d][i]?)∧Below W.heap.size W w') from fun w' hb=>⟨(B0.via hb).cell,(B1.via hb).cell,hb⟩);have HBB:=Lib.hid hB;have hb0:=(Below.refl W.heap.size W).drew;clear hB H1 H2 B0 B1
 go_region_held3 (fun w'=>(∀ i,w'.cell? ⟨w.heap.size,i,none⟩=#[.int .i64 x,.slice A n c][i]?)∧(∀ i,w'.cell? ⟨w.heap.size+1,i,none⟩=#[.int .i64 y,.slice B m d][i]?)∧Below W.heap.size W w') (exact SOF.out _ (by first | assumption | exact Below.al (by assumption) _)) (first
  | (go_at_call 81; (with_reducible refine (cmp_c _ _ _).mono ?_); rintro ee wk ⟨rfl,rfl⟩)
  | (go_at_call 127; (with_reducible refine (cmpC_c ok ok' A B n c m d xs ys _ (J1.out _ (by assumption)) (J2.out _ (by assumption)) hn).mono ?_); rintro ee wk ⟨rfl,hbk⟩; have hbm:Below W.heap.size W wk:=Below.via (by assumption) hbk)
  | (go_at_call 98; (with_reducible refine (or_c (some ⟨_,0,none⟩) 2 2 [_,_] _ (Ints.two _ _ _ _) (by omega)).mono ?_); rintro ee wk ⟨rfl,rfl⟩))
 have HF:=Lib.hid (HBB.out.via (hbm.al (.cells #[.int .i64 (cmpI x y),.int .i64 (cmpC xs ys)] 3)));clear hb0 hbm hbk;go_wp2_with fail;go_ret;exact ⟨rfl,HF.out⟩
def IdxFP {α:Type} (p:α→Bool) (xs:List α) (w:World) (e:Ending) (w':World):Prop :=
 ∃ r:Int,e=.returned (.int .i64 r)∧Below w.heap.size w w'∧((r=-1∧∀ x∈xs,p x=false)∨∃ i:Nat,r=(i:Int)∧(∃ x,xs[i]?=some x∧p x=true)∧∀ (j:Nat) x,j < i→xs[j]?=some x→p x=false)
set_option maxRecDepth 100000 in
set_option maxHeartbeats 1000000 in
theorem idxSi_c (fid:Nat) (he:∀ (args:Array Value) (w:World),(callFunc fid args).run Tryz.prog w=.ok (.enter fid args) w) (caps:Array Value) (ok:Nat→Prop) (A:Option Addr) (n c:Nat) (xs:List Ci) (p:Ci→Bool) (w:World) (h:Sl SiE ok w A n c xs) (hn:n≤1000000)
 (hf:∀ w' r x,Below w.heap.size w w'→x∈xs→SiE.rel ok w' r x→Calls Tryz.prog fid (#[siVal r]++caps) w' fun e w''=>e=.returned (.bool (p x))∧Below w'.heap.size w' w'') :
 Calls Tryz.prog 126 #[.slice A n c,.func (.func fid) #[] caps] w (IdxFP p xs w):=by
 have H:=Lib.hid h;have HF:=Lib.hid hf;clear h hf;go_enter Tryz.func126,Tryz.ntmps126;go_wp2_with fail
 go_loopw [8] (fun i wr=>∃ j:Nat,i=.int .i64 j∧j≤n∧Hid (∀ (k:Nat) x,k < j→xs[k]?=some x→p x=false)∧Hid (Below w.heap.size w wr)) (fun i _=>n - (intOf i).toNat)
 case atStart=>exact ⟨0,rfl,Nat.zero_le _,Lib.hid (fun k x h=>absurd h (Nat.not_lt_zero _)),Lib.hid (Below.refl _ _)⟩
 case round =>
  obtain ⟨j,rfl,hj,HN,HB⟩:=hrel
  by_cases hjl:j < n
  ·obtain ⟨b1,o1,⟨xb,xn⟩,x,rfl,-,hb1,hx,hxr,hc⟩:=(H.out.via HB.out).at_ hjl;have c0:=hc 0 _ rfl;have c1:=hc 1 _ rfl;simp only [SiE,Nat.add_zero] at c0 c1;have i0:(0:Int)≤(j:Int):=(by omega);have i1:(j:Int) < (n:Int):=(by omega);have HX:=Lib.hid hx;have HXR:=Lib.hid hxr;clear hc hx hxr hb1;go_wp2_with fail;clear c0 c1;refine (HF.out wr ⟨xb,xn⟩ x HB.out (List.mem_of_getElem? HX.out) HXR.out).mono ?_;rintro e w2 ⟨rfl,hb2⟩;have HB2:=Lib.hid (HB.out.via hb2);clear hb2;cases hp:p x
   case false =>
    have HP:=Lib.hid hp;clear hp;go_wp2_with fail
    exact ⟨⟨j+1,by go_num,by omega,Lib.hid (fun k y hk hy=>by
     rcases Nat.lt_or_ge k j with h1 | h1
     ·exact HN.out k y h1 hy
     ·obtain rfl:k=j:=(by omega)
      rw [HX.out] at hy; cases hy; exact HP.out),HB2⟩,by simp [intOf]; omega⟩
   case true =>
    have HP:=Lib.hid hp;clear hp;go_wp2_with fail;go_ret;exact ⟨j,rfl,HB2.out,Or.inr ⟨j,rfl,⟨x,HX.out,HP.out⟩,HN.out⟩⟩
  ·go_wp2_with fail;go_ret
   exact ⟨-1,rfl,HB.out,Or.inl ⟨rfl,fun x hx=>by
    obtain ⟨k,hk⟩:=List.getElem?_of_mem hx;have:=(List.getElem?_eq_some_iff.1 hk).1;have:=H.out.len
    exact HN.out k x (by omega) hk⟩⟩
set_option maxRecDepth 100000 in
set_option maxHeartbeats 1000000 in
theorem idxRi_c (fid:Nat) (he:∀ (args:Array Value) (w:World),(callFunc fid args).run Tryz.prog w=.ok (.enter fid args) w) (caps:Array Value) (ok:Nat→Prop) (A:Option Addr) (n c:Nat) (xs:List Ri) (p:Ri→Bool) (w:World) (h:Sl RiE ok w A n c xs) (hn:n≤1000000)
 (hf:∀ w' r x,Below w.heap.size w w'→x∈xs→RiE.rel ok w' r x→Calls Tryz.prog fid (#[riVal r]++caps) w' fun e w''=>e=.returned (.bool (p x))∧Below w'.heap.size w' w'') :
 Calls Tryz.prog 75 #[.slice A n c,.func (.func fid) #[] caps] w (IdxFP p xs w):=by
 have H:=Lib.hid h;have HF:=Lib.hid hf;clear h hf;go_enter Tryz.func75,Tryz.ntmps75;go_wp2_with fail
 go_loopw [8] (fun i wr=>∃ j:Nat,i=.int .i64 j∧j≤n∧Hid (∀ (k:Nat) x,k < j→xs[k]?=some x→p x=false)∧Hid (Below w.heap.size w wr)) (fun i _=>n - (intOf i).toNat)
 case atStart=>exact ⟨0,rfl,Nat.zero_le _,Lib.hid (fun k x h=>absurd h (Nat.not_lt_zero _)),Lib.hid (Below.refl _ _)⟩
 case round =>
  obtain ⟨j,rfl,hj,HN,HB⟩:=hrel
  by_cases hjl:j < n
  ·obtain ⟨b1,o1,⟨xl,xA,xn,xc⟩,x,rfl,-,hb1,hx,hxr,hc⟩:=(H.out.via HB.out).at_ hjl;have c0:=hc 0 _ rfl;have c1:=hc 1 _ rfl;simp only [RiE,Nat.add_zero] at c0 c1;have i0:(0:Int)≤(j:Int):=(by omega);have i1:(j:Int) < (n:Int):=(by omega);have HX:=Lib.hid hx;have HXR:=Lib.hid hxr;clear hc hx hxr hb1;go_wp2_with fail;clear c0 c1;refine (HF.out wr ⟨xl,xA,xn,xc⟩ x HB.out (List.mem_of_getElem? HX.out) HXR.out).mono ?_;rintro e w2 ⟨rfl,hb2⟩;have HB2:=Lib.hid (HB.out.via hb2);clear hb2;cases hp:p x
   case false =>
    have HP:=Lib.hid hp;clear hp;go_wp2_with fail
    exact ⟨⟨j+1,by go_num,by omega,Lib.hid (fun k y hk hy=>by
     rcases Nat.lt_or_ge k j with h1 | h1
     ·exact HN.out k y h1 hy
     ·obtain rfl:k=j:=(by omega)
      rw [HX.out] at hy; cases hy; exact HP.out),HB2⟩,by simp [intOf]; omega⟩
   case true =>
    have HP:=Lib.hid hp;clear hp;go_wp2_with fail;go_ret;exact ⟨j,rfl,HB2.out,Or.inr ⟨j,rfl,⟨x,HX.out,HP.out⟩,HN.out⟩⟩
  ·go_wp2_with fail;go_ret
   exact ⟨-1,rfl,HB.out,Or.inl ⟨rfl,fun x hx=>by
    obtain ⟨k,hk⟩:=List.getElem?_of_mem hx;have:=(List.getElem?_eq_some_iff.1 hk).1;have:=H.out.len
    exact HN.out k x (by omega) hk⟩⟩
set_option maxHeartbeats 1000000 in
theorem conSi_c (fid:Nat) (he:∀ (args:Array Value) (w:World),(callFunc fid args).run Tryz.prog w=.ok (.enter fid args) w) (caps:Array Value) (ok:Nat→Prop) (A:Option Addr) (n c:Nat) (xs:List Ci) (p:Ci→Bool) (w:World) (h:Sl SiE ok w A n c xs) (hn:n≤1000000)
 (hf:∀ w' r x,Below w.heap.size w w'→x∈xs→SiE.rel ok w' r x→Calls Tryz.prog fid (#[siVal r]++caps) w' fun e w''=>e=.returned (.bool (p x))∧Below w'.heap.size w' w'') :
 Calls Tryz.prog 86 #[.slice A n c,.func (.func fid) #[] caps] w fun e w'=>e=.returned (.bool (xs.any p))∧Below w.heap.size w w':=by
 have HC:=Lib.hid (idxSi_c fid he caps ok A n c xs p w h hn hf);clear h hf;go_enter Tryz.func86,Tryz.ntmps86;go_wp2_with fail;refine HC.out.mono ?_;rintro e w1 ⟨r,rfl,hb,hr⟩;have HB:=Lib.hid hb
 have HV:=Lib.hid (show decide (0≤r)=xs.any p by
  rcases hr with ⟨rfl,h0⟩ | ⟨i,rfl,⟨x,hx,hp⟩,-⟩
  ·rw [decide_eq_false (by omega)];exact (List.any_eq_false.2 fun x hx=>by rw [h0 x hx]; simp).symm
  ·rw [decide_eq_true (by omega)]
   exact (List.any_eq_true.2 ⟨x,List.mem_of_getElem? hx,hp⟩).symm)
 obtain ⟨bv,hbv⟩:∃ bv,decide (0≤r)=bv:=⟨_,rfl⟩;have HW:=Lib.hid (show bv=xs.any p by rw [← hbv]; exact HV.out);clear hr hb HV;go_wp2_with fail;go_ret;exact ⟨by rw [HW.out]; rfl,HB.out⟩
set_option maxHeartbeats 1000000 in
theorem conRi_c (fid:Nat) (he:∀ (args:Array Value) (w:World),(callFunc fid args).run Tryz.prog w=.ok (.enter fid args) w) (caps:Array Value) (ok:Nat→Prop) (A:Option Addr) (n c:Nat) (xs:List Ri) (p:Ri→Bool) (w:World) (h:Sl RiE ok w A n c xs) (hn:n≤1000000)
 (hf:∀ w' r x,Below w.heap.size w w'→x∈xs→RiE.rel ok w' r x→Calls Tryz.prog fid (#[riVal r]++caps) w' fun e w''=>e=.returned (.bool (p x))∧Below w'.heap.size w' w'') :
 Calls Tryz.prog 40 #[.slice A n c,.func (.func fid) #[] caps] w fun e w'=>e=.returned (.bool (xs.any p))∧Below w.heap.size w w':=by
 have HC:=Lib.hid (idxRi_c fid he caps ok A n c xs p w h hn hf);clear h hf;go_enter Tryz.func40,Tryz.ntmps40;go_wp2_with fail;refine HC.out.mono ?_;rintro e w1 ⟨r,rfl,hb,hr⟩;have HB:=Lib.hid hb
 have HV:=Lib.hid (show decide (0≤r)=xs.any p by
  rcases hr with ⟨rfl,h0⟩ | ⟨i,rfl,⟨x,hx,hp⟩,-⟩
  ·rw [decide_eq_false (by omega)];exact (List.any_eq_false.2 fun x hx=>by rw [h0 x hx]; simp).symm
  ·rw [decide_eq_true (by omega)]
   exact (List.any_eq_true.2 ⟨x,List.mem_of_getElem? hx,hp⟩).symm)
 obtain ⟨bv,hbv⟩:∃ bv,decide (0≤r)=bv:=⟨_,rfl⟩;have HW:=Lib.hid (show bv=xs.any p by rw [← hbv]; exact HV.out);clear hr hb HV;go_wp2_with fail;go_ret;exact ⟨by rw [HW.out]; rfl,HB.out⟩
set_option maxRecDepth 100000 in
set_option maxHeartbeats 2000000 in
theorem hasI_c (T N S:Int) (A:Option Addr) (n c:Nat) (sb:Bool) (k:Int) (w:World) :
 Calls Tryz.prog 88 #[.agg #[.int .i64 T,.int .i64 N,.int .i64 S,.slice A n c],.agg #[.bool sb,.int .i64 k]] w (TellB w (okSi T N (sb,k))):=by
 have HB:=Lib.hid (((Below.refl w.heap.size w).al (.cells #[.int .i64 T,.int .i64 N,.int .i64 S,.slice A n c] 24)).al (.cells #[.bool sb,.int .i64 k] 69));obtain ⟨b0,h0⟩:∃ b,decide (0≤k)=b:=⟨_,rfl⟩;obtain ⟨b1,h1⟩:∃ b,decide (k < T)=b:=⟨_,rfl⟩;obtain ⟨b2,h2⟩:∃ b,decide (k < N)=b:=⟨_,rfl⟩;have HV:=Lib.hid (show okSi T N (sb,k)=(b0&&((sb&&b1) || (!sb&&b2))) by unfold okSi; rw [← h0,← h1,← h2]);cases b0 <;> cases sb <;> cases b1 <;> cases b2 <;>
 ·go_enter Tryz.func88,Tryz.ntmps88;go_wp2_with fail;go_ret;exact ⟨by rw [HV.out]; rfl,HB.out⟩
end Go.Proofs.YtfcihnpmeabacaaGreatDoor
