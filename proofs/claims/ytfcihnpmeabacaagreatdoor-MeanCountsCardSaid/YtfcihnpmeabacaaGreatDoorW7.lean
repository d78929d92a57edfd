/- Texts GC, GD, GE, laid together. -/
import Derived.Test.YtfcihnpmeabacaaGreatDoorW6
namespace Go.Proofs.YtfcihnpmeabacaaGreatDoor
open Go.RowKit
def grCells (g:Gr) (A:Option Addr) (n c:Nat):Array Value:=#[.int .i64 (g.terms:Int),.int .i64 (g.nons:Int),.int .i64 (g.start:Int),.slice A n c]
set_option maxRecDepth 100000 in
set_option maxHeartbeats 2000000 in
theorem has_sym (g:Gr) (A:Option Addr) (n c:Nat) (s:Sy) (w:World) (hs:g.okSy s) :
 Calls Tryz.prog 88 #[grVal g A n c,.agg #[.bool s.1,.int .i64 (s.2:Int)]] w (TellB w true):=by
 obtain ⟨b,k⟩:=s;simp only [Gr.okSy] at hs;simp only [grVal];have HB:=Lib.hid (((Below.refl w.heap.size w).al (.cells #[.int .i64 (g.terms:Int),.int .i64 (g.nons:Int),.int .i64 (g.start:Int),.slice A n c] 24)).al (.cells #[.bool b,.int .i64 (k:Int)] 69));have k0:decide ((0:Int)≤(k:Int))=true:=(by simp);cases b with
 | true =>
  have k1:decide (k < g.terms)=true:=(by simpa using hs);clear hs;go_enter Tryz.func88,Tryz.ntmps88;go_wp2_with fail;go_ret;exact ⟨rfl,HB.out⟩
 | false =>
  have k1:decide (k < g.nons)=true:=(by simpa using hs);clear hs;go_enter Tryz.func88,Tryz.ntmps88;go_wp2_with fail;go_ret;exact ⟨rfl,HB.out⟩
set_option maxRecDepth 100000 in
set_option maxHeartbeats 2000000 in
theorem check1_c (bg:Nat) (g:Gr) (A:Option Addr) (n c:Nat) (s:Sy) (w:World) (hg:Blk w bg 24 (grCells g A n c)) (hs:g.okSy s) :
 Calls Tryz.prog 87 #[.agg #[.bool s.1,.int .i64 (s.2:Int)],.pointer (some ⟨bg,0,none⟩)] w (TellB w false):=by
 unfold grCells at hg;have hlt:=hg.lt;have HB:=Lib.hid ((Below.refl w.heap.size w).al (.cells #[.bool s.1,.int .i64 (s.2:Int)] 69));have Bg:=hg.al (.cells #[.bool s.1,.int .i64 (s.2:Int)] 69);clear hg;have cBg:=Bg.cell;have fBg:=Bg.frozen;have lBg:=Bg.lt;go_enter Tryz.func87,Tryz.ntmps87;go_wp2_with fail;refine (has_sym g A n c s _ hs).mono ?_;rintro e w' ⟨rfl,hb⟩;have HF:=Lib.hid (HB.out.via hb);clear hb;go_wp2_with fail;go_ret;exact ⟨rfl,HF.out⟩
set_option maxRecDepth 100000 in
set_option maxHeartbeats 2000000 in
theorem symsOk_c (bg:Nat) (g:Gr) (A:Option Addr) (n c:Nat) (ok:Nat→Prop) (B:Option Addr) (m d:Nat) (l:List Sy) (w:World) (hg:Blk w bg 24 (grCells g A n c)) (hl:Sl SyE ok w B m d l) (hs:∀ s∈l,g.okSy s) (hm:m≤1000000) :
 Calls Tryz.prog 86 #[.slice B m d,.func (.func 87) #[] #[.pointer (some ⟨bg,0,none⟩)]] w (TellB w false):=by
 have HG:=Lib.hid hg;have HL:=Lib.hid hl;have HS:=Lib.hid hs;clear hg hl hs
 have key:Calls Tryz.prog 126 #[.slice B m d,.func (.func 87) #[] #[.pointer (some ⟨bg,0,none⟩)]] w fun e w'=>e=.returned (.int .i64 (-1))∧Below w.heap.size w w':=by
  go_enter Tryz.func126,Tryz.ntmps126;go_wp2_with fail
  go_loopw [8] (fun i wr=>∃ k:Nat,i=.int .i64 k∧k≤m∧Below w.heap.size w wr) (fun i _=>m - (intOf i).toNat)
  case atStart=>exact ⟨0,rfl,Nat.zero_le _,Below.refl _ _⟩
  case round =>
   obtain ⟨k,rfl,hk,hb⟩:=hrel;have HB:=Lib.hid hb;clear hb
   by_cases hlt:k < m
   ·obtain ⟨b1,o1,sx,sy,rfl,-,hbb,hy,hxy,hc⟩:=(HL.out.via HB.out).at_ hlt;obtain rfl:sx=sy:=hxy;have c0:=hc 0 _ rfl;have c1:=hc 1 _ rfl;simp only [SyE,Nat.add_zero] at c0 c1;have i0:(0:Int)≤(k:Int):=(by omega);have i1:(k:Int) < (m:Int):=(by omega);have HY:=Lib.hid (HS.out sx (List.mem_of_getElem? hy));clear hc hy;go_wp2_with fail;refine (check1_c bg g A n c sx wr (HG.out.via HB.out) HY.out).mono ?_;rintro e w' ⟨rfl,hb2⟩;have HF:=Lib.hid (HB.out.via hb2);clear hb2 c0 c1;go_wp2_with fail;exact ⟨⟨k+1,by go_num,by omega,HF.out⟩,by simp [intOf]; omega⟩
   ·go_wp2_with fail;go_ret;exact ⟨rfl,HB.out⟩
 go_enter Tryz.func86,Tryz.ntmps86;have KEY:=Lib.hid key;clear key;go_wp2_with fail;refine KEY.out.mono ?_;rintro e w' ⟨rfl,hb⟩;have HF:=Lib.hid hb;clear hb;go_wp2_with fail;go_ret;exact ⟨rfl,HF.out⟩
def ordS (a b:Sy):Int:=if a.1=b.1 then cmpI (a.2:Int) (b.2:Int) else if a.1 then -1 else 1
theorem ordS_zero {a b:Sy}:ordS a b=0↔a=b:=by
 obtain ⟨x,m⟩:=a;obtain ⟨y,n⟩:=b;unfold ordS
 by_cases e:x=y
 ·subst e; simp only [if_true]; rw [cmpI_zero]; simp; omega
 ·rw [if_neg e];constructor
  ·intro h; split at h <;> omega
  ·intro h; exact absurd (congrArg Prod.fst h) e
def cmpS:List Sy→List Sy→Int
 | [],[]=>0
 | [],_::_=>-1
 | _::_,[]=>1
 | x::xs,y::ys=>if ordS x y=0 then cmpS xs ys else ordS x y
theorem cmpS_zero:∀ {a b:List Sy},cmpS a b=0↔a=b
 | [],[]=>by simp [cmpS]
 | [],_::_=>by simp [cmpS]
 | _::_,[]=>by simp [cmpS]
 | x::xs,y::ys=>by
  rw [cmpS]
  by_cases e:ordS x y=0
  ·rw [if_pos e,cmpS_zero (a:=xs) (b:=ys),ordS_zero.1 e]; simp
  ·rw [if_neg e];constructor
   ·intro h; exact absurd h e
   ·intro h; exact absurd (ordS_zero.2 (List.cons.inj h).1) e
def cmpR (a b:Ru):Int:=orL [cmpI (a.1:Int) (b.1:Int),cmpS a.2 b.2]
theorem cmpR_zero {a b:Ru}:cmpR a b=0↔a=b:=by
 obtain ⟨x,l⟩:=a;obtain ⟨y,m⟩:=b;unfold cmpR;simp only [orL]
 by_cases e:cmpI (x:Int) (y:Int)=0
 ·rw [if_pos e];have h:=cmpI_zero.1 e;have h:x=y:=(by omega);subst h
  by_cases e2:cmpS l m=0
  ·rw [if_pos e2]; simp [cmpS_zero.1 e2]
  ·rw [if_neg e2];constructor
   ·intro h; exact absurd h e2
   ·intro h; exact absurd (cmpS_zero.2 (congrArg Prod.snd h)) e2
 ·rw [if_neg e];constructor
  ·intro h; exact absurd h e
  ·intro h; exact absurd (cmpI_zero.2 (by have:=congrArg Prod.fst h; simp at this; omega)) e
def IntO (w:World) (n:Int) (e:Ending) (w':World):Prop:=e=.returned (.int .i64 n)∧Below w.heap.size w w'
set_option maxRecDepth 100000 in
set_option maxHeartbeats 2000000 in
theorem order_c (a b:Sy) (w:World) :
 Calls Tryz.prog 128 #[.agg #[.bool a.1,.int .i64 (a.2:Int)],.agg #[.bool b.1,.int .i64 (b.2:Int)]] w (IntO w (ordS a b)):=by
 obtain ⟨x,m⟩:=a;obtain ⟨y,n⟩:=b;have HB:=Lib.hid (((Below.refl w.heap.size w).al (.cells #[.bool x,.int .i64 (m:Int)] 69)).al (.cells #[.bool y,.int .i64 (n:Int)] 69));cases x <;> cases y
 ·go_enter Tryz.func128,Tryz.ntmps128;go_wp2_with fail;refine (cmp_c _ _ _).mono ?_;rintro e w' ⟨rfl,rfl⟩;go_wp2_with fail;go_ret;exact ⟨by simp [ordS],HB.out⟩
 ·go_enter Tryz.func128,Tryz.ntmps128;go_wp2_with fail;go_ret;exact ⟨rfl,HB.out⟩
 ·go_enter Tryz.func128,Tryz.ntmps128;go_wp2_with fail;go_ret;exact ⟨rfl,HB.out⟩
 ·go_enter Tryz.func128,Tryz.ntmps128;go_wp2_with fail;refine (cmp_c _ _ _).mono ?_;rintro e w' ⟨rfl,rfl⟩;go_wp2_with fail;go_ret;exact ⟨by simp [ordS],HB.out⟩
theorem cmpS_step {xs ys:List Sy} {k:Nat} {x y:Sy} (hx:xs[k]?=some x) (hy:ys[k]?=some y):cmpS (xs.drop k) (ys.drop k)=if ordS x y=0 then cmpS (xs.drop (k+1)) (ys.drop (k+1)) else ordS x y:=by
 have h1:=List.getElem?_eq_some_iff.1 hx;have h2:=List.getElem?_eq_some_iff.1 hy;rw [List.drop_eq_getElem_cons h1.1,List.drop_eq_getElem_cons h2.1,cmpS,h1.2,h2.2]
set_option maxRecDepth 100000 in
set_option maxHeartbeats 4000000 in
theorem cmpS_c (ok ok':Nat→Prop) (A B:Option Addr) (n c m d:Nat) (xs ys:List Sy) (w:World) (h1:Sl SyE ok w A n c xs) (h2:Sl SyE ok' w B m d ys) (hn:n≤1000000) :
 Calls Tryz.prog 127 #[.slice A n c,.slice B m d,.func (.func 128) #[] #[]] w (IntO w (cmpS xs ys)):=by
 have H1:=Lib.hid h1;have H2:=Lib.hid h2;have L1:=Lib.hid h1.len;have L2:=Lib.hid h2.len;clear h1 h2;go_enter Tryz.func127,Tryz.ntmps127;go_wp2_with fail
 go_loopw [13] (fun i wr=>∃ k:Nat,i=.int .i64 k∧k≤n∧k≤m∧Hid (cmpS xs ys=cmpS (xs.drop k) (ys.drop k))∧Below w.heap.size w wr) (fun i _=>n - (intOf i).toNat)
 case atStart=>exact ⟨0,rfl,Nat.zero_le _,Nat.zero_le _,Lib.hid rfl,Below.refl _ _⟩
 case round =>
  obtain ⟨k,rfl,hk,hkm,HC,hb⟩:=hrel;have HB:=Lib.hid hb;clear hb
  by_cases hkn:k < n
  ·obtain ⟨b1,o1,sx,sx',rfl,-,hb1,hx,hxx,hc⟩:=(H1.out.via HB.out).at_ hkn;obtain rfl:sx=sx':=hxx;have c0:=hc 0 _ rfl;have c1:=hc 1 _ rfl;simp only [SyE,Nat.add_zero] at c0 c1;have i0:(0:Int)≤(k:Int):=(by omega);have i1:(k:Int) < (n:Int):=(by omega)
   by_cases hk2:k < m
   ·obtain ⟨b2,o2,sy,sy',rfl,-,hb2,hy,hyy,hd⟩:=(H2.out.via HB.out).at_ hk2;obtain rfl:sy=sy':=hyy;have d0:=hd 0 _ rfl;have d1:=hd 1 _ rfl;simp only [SyE,Nat.add_zero] at d0 d1;have i2:(k:Int) < (m:Int):=(by omega);have HS:=Lib.hid (cmpS_step hx hy);have HB2:=Lib.hid ((HB.out.al (.cells #[.bool sx.1,.int .i64 (sx.2:Int)] 69)).al (.cells #[.bool sy.1,.int .i64 (sy.2:Int)] 69));clear hc hd hx hy;go_wp2_with fail;refine (order_c sx sy _).mono ?_;rintro e w' ⟨rfl,hb⟩;have HF:=Lib.hid (HB2.out.via hb);clear hb c0 c1 d0 d1
    by_cases he:ordS sx sy=0
    ·rw [he];have HE:=Lib.hid (HC.out.trans (by rw [HS.out,if_pos he]));clear he;go_wp2_with fail;exact ⟨⟨k+1,by go_num,by omega,by omega,HE,HF.out⟩,by simp [intOf]; omega⟩
    ·have HE:=Lib.hid (HC.out.trans (by rw [HS.out,if_neg he]));have hne:(ordS sx sy != 0)=true:=(by simpa using he);clear he;generalize ordS sx sy=q at *;go_wp2_with fail;go_ret;exact ⟨by rw [HE.out]; rfl,HF.out⟩
   ·have hv:cmpS xs ys=1:=by
     rw [HC.out,List.drop_of_length_le (l:=ys) (by rw [L2.out]; omega),List.drop_eq_getElem_cons (by rw [L1.out]; exact hkn)]; rfl
    have HV:=Lib.hid hv;have HB2:=Lib.hid (HB.out.al (.cells #[.bool sx.1,.int .i64 (sx.2:Int)] 69));clear hv hc hx;go_wp2_with fail;go_ret;exact ⟨by rw [HV.out]; rfl,HB2.out⟩
  ·by_cases hnm:n < m
   ·have hv:cmpS xs ys=-1:=by
     rw [HC.out,List.drop_of_length_le (by rw [L1.out]; omega),List.drop_eq_getElem_cons (by rw [L2.out]; omega)]; rfl
    have HV:=Lib.hid hv;clear hv;go_wp2_with fail;go_ret;exact ⟨by rw [HV.out]; rfl,HB.out⟩
   ·have hv:cmpS xs ys=0:=by
     rw [HC.out,List.drop_of_length_le (by rw [L1.out]; omega),List.drop_of_length_le (by rw [L2.out]; omega)]; rfl
    have HV:=Lib.hid hv;clear hv;go_wp2_with fail;go_ret;exact ⟨by rw [HV.out]; rfl,HB.out⟩
set_option maxRecDepth 100000 in
set_option maxHeartbeats 4000000 in
theorem compareR_c (ok ok':Nat→Prop) (x y:Nat) (A B:Option Addr) (n c m d:Nat) (xs ys:List Sy) (w:World) (h1:Sl SyE ok w A n c xs) (h2:Sl SyE ok' w B m d ys) (hn:n≤1000000) :
 Calls Tryz.prog 90 #[.agg #[.int .i64 (x:Int),.slice A n c],.agg #[.int .i64 (y:Int),.slice B m d]] w (IntO w (cmpR (x,xs) (y,ys))):=by
 have hB:=((Below.refl w.heap.size w).al (.cells #[.int .i64 (x:Int),.slice A n c] 74)).al (.cells #[.int .i64 (y:Int),.slice B m d] 74);have B0:=(Blk.new w 74 #[.int .i64 (x:Int),.slice A n c]).al (.cells #[.int .i64 (y:Int),.slice B m d] 74);have B1:=Blk.new (w.alloc (.cells #[.int .i64 (x:Int),.slice A n c] 74)) 74 #[.int .i64 (y:Int),.slice B m d];rw [World.size_alloc] at B1;have H1:=Lib.hid (h1.via hB);have H2:=Lib.hid (h2.via hB);clear h1 h2;go_enter Tryz.func90,Tryz.ntmps90;go_upto_region 1 with fail;generalize (w.alloc (.cells #[.int .i64 (x:Int),.slice A n c] 74)).alloc (.cells #[.int .i64 (y:Int),.slice B m d] 74)=W at *;have J1:=Lib.hid (show ∀ w',Below W.heap.size W w'→Sl SyE ok w' A n c xs from fun w' hb=>H1.out.via hb);have J2:=Lib.hid (show ∀ w',Below W.heap.size W w'→Sl SyE ok' w' B m d ys from fun w' hb=>H2.out.via hb);have SOF:=Lib.hid (show ∀ w',Below W.heap.size W w'→((∀ i,w'.cell? ⟨w.heap.size,i,none⟩=#[.int .i64 (x:Int),.slice A n c][i]?)∧(∀ i,w'.cell? ⟨w.heap.size+1,i,none⟩=#[.int .i64 (y:Int),.slice B m d][i]?)∧Below W.heap.size W w') from fun w' hb=>⟨(B0.via hb).cell,(B1.via hb).cell,hb⟩);have HBB:=Lib.hid hB;have hb0:=(Below.refl W.heap.size W).drew;clear hB H1 H2 B0 B1
 go_region_held3 (fun w'=>(∀ i,w'.cell? ⟨w.heap.size,i,none⟩=#[.int .i64 (x:Int),.slice A n c][i]?)∧(∀ i,w'.cell? ⟨w.heap.size+1,i,none⟩=#[.int .i64 (y:Int),.slice B m d][i]?)∧Below W.heap.size W w') (exact SOF.out _ (by first | assumption | exact Below.al (by assumption) _)) (first
  | (go_at_call 81; (with_reducible refine (cmp_c _ _ _).mono ?_); rintro ee wk ⟨rfl,rfl⟩)
  | (go_at_call 127; (with_reducible refine (cmpS_c ok ok' A B n c m d xs ys _ (J1.out _ (by assumption)) (J2.out _ (by assumption)) hn).mono ?_); rintro ee wk ⟨rfl,hbk⟩; have hbm:Below W.heap.size W wk:=Below.via (by assumption) hbk)
  | (go_at_call 98; (with_reducible refine (or_c (some ⟨_,0,none⟩) 2 2 [_,_] _ (Ints.two _ _ _ _) (by omega)).mono ?_); rintro ee wk ⟨rfl,rfl⟩))
 have HF:=Lib.hid (HBB.out.via (hbm.al (.cells #[.int .i64 (cmpI (x:Int) (y:Int)),.int .i64 (cmpS xs ys)] 3)));clear hb0 hbm hbk;go_wp2_with fail;go_ret;exact ⟨rfl,HF.out⟩
set_option maxRecDepth 100000 in
set_option maxHeartbeats 2000000 in
theorem check2_c (ok ok':Nat→Prop) (br x y:Nat) (A B:Option Addr) (n c m d:Nat) (xs ys:List Sy) (w:World) (h1:Sl SyE ok w A n c xs) (hr:Blk w br 74 #[.int .i64 (y:Int),.slice B m d]) (h2:Sl SyE ok' w B m d ys) (hn:n≤1000000) (hne:(x,xs)≠(y,ys)) :
 Calls Tryz.prog 89 #[.agg #[.int .i64 (x:Int),.slice A n c],.pointer (some ⟨br,0,none⟩)] w (TellB w false):=by
 have hlt:=hr.lt
 have hq:(cmpR (x,xs) (y,ys)==0)=false:=by
  rw [beq_eq_false_iff_ne]; exact fun h=>hne (cmpR_zero.1 h)
 obtain ⟨q,hqq⟩:∃ q,q=cmpR (x,xs) (y,ys):=⟨_,rfl⟩;rw [← hqq] at hq;have HQ:=Lib.hid hqq;have HB:=Lib.hid ((Below.refl w.heap.size w).al (.cells #[.int .i64 (x:Int),.slice A n c] 74));have H1:=Lib.hid (h1.al (.cells #[.int .i64 (x:Int),.slice A n c] 74));have H2:=Lib.hid (h2.al (.cells #[.int .i64 (x:Int),.slice A n c] 74));have Br:=hr.al (.cells #[.int .i64 (x:Int),.slice A n c] 74);clear h1 h2 hr hne hqq;have cBr:=Br.cell;have fBr:=Br.frozen;have lBr:=Br.lt;go_enter Tryz.func89,Tryz.ntmps89;go_wp2_with fail;refine (compareR_c ok ok' x y A B n c m d xs ys _ H1.out H2.out hn).mono ?_;rintro e w' ⟨rfl,hb⟩;rw [← HQ.out];have HF:=Lib.hid (HB.out.via hb);clear hb;go_wp2_with fail;go_ret;exact ⟨rfl,HF.out⟩
set_option maxRecDepth 100000 in
set_option maxHeartbeats 2000000 in
theorem rulesOk_c (ok ok':Nat→Prop) (br y:Nat) (A B:Option Addr) (n c m d:Nat) (l:List Ru) (ys:List Sy) (w:World) (hl:Sl RuE ok w A n c l) (hr:Blk w br 74 #[.int .i64 (y:Int),.slice B m d]) (h2:Sl SyE ok' w B m d ys) (hn:n≤1000000) (h4:∀ r∈l,r.2.length≤4) (hne:∀ r∈l,r≠(y,ys)) :
 Calls Tryz.prog 40 #[.slice A n c,.func (.func 89) #[] #[.pointer (some ⟨br,0,none⟩)]] w (TellB w false):=by
 have HL:=Lib.hid hl;have HR:=Lib.hid hr;have H2:=Lib.hid h2;have H4:=Lib.hid h4;have HN:=Lib.hid hne;clear hl hr h2 h4 hne
 have key:Calls Tryz.prog 75 #[.slice A n c,.func (.func 89) #[] #[.pointer (some ⟨br,0,none⟩)]] w fun e w'=>e=.returned (.int .i64 (-1))∧Below w.heap.size w w':=by
  go_enter Tryz.func75,Tryz.ntmps75;go_wp2_with fail
  go_loopw [8] (fun i wr=>∃ k:Nat,i=.int .i64 k∧k≤n∧Below w.heap.size w wr) (fun i _=>n - (intOf i).toNat)
  case atStart=>exact ⟨0,rfl,Nat.zero_le _,Below.refl _ _⟩
  case round =>
   obtain ⟨k,rfl,hk,hb⟩:=hrel;have HB:=Lib.hid hb;clear hb
   by_cases hlt:k < n
   ·obtain ⟨b1,o1,⟨sl,sA,sn,sc⟩,⟨x,xs⟩,rfl,-,hbb,hy,⟨hx1,hx2⟩,hc⟩:=(HL.out.via HB.out).at_ hlt;simp only at hx1 hx2;obtain rfl:sl=x:=hx1;have c0:=hc 0 _ rfl;have c1:=hc 1 _ rfl;simp only [RuE,Nat.add_zero] at c0 c1;have i0:(0:Int)≤(k:Int):=(by omega);have i1:(k:Int) < (n:Int):=(by omega);have HY:=Lib.hid (HN.out _ (List.mem_of_getElem? hy));have hs4:sn≤1000000:=(by have:=H4.out _ (List.mem_of_getElem? hy); have:=hx2.len; simp only at *; omega);have HX:=Lib.hid hx2;clear hc hy hx2;go_wp2_with fail;refine (check2_c ok ok' br sl y sA B sn sc m d xs ys wr HX.out (HR.out.via HB.out) (H2.out.via HB.out) hs4 HY.out).mono ?_;rintro e w' ⟨rfl,hb2⟩;have HF:=Lib.hid (HB.out.via hb2);clear hb2 c0 c1;go_wp2_with fail;exact ⟨⟨k+1,by go_num,by omega,HF.out⟩,by simp [intOf]; omega⟩
   ·go_wp2_with fail;go_ret;exact ⟨rfl,HB.out⟩
 go_enter Tryz.func40,Tryz.ntmps40;have KEY:=Lib.hid key;clear key;go_wp2_with fail;refine KEY.out.mono ?_;rintro e w' ⟨rfl,hb⟩;have HF:=Lib.hid hb;clear hb;go_wp2_with fail;go_ret;exact ⟨rfl,HF.out⟩
structure GrOk (g:Gr):Prop where
 ok:g.Ok
 nodup:g.rules.Nodup
theorem Sl.take {α ρ:Type} {E:Elem α ρ} {ok:Nat→Prop} {w:World} {A:Option Addr} {n c k:Nat} {l:List α} (h:Sl E ok w A n c l) (hk:k≤n):Sl E ok w A k c (l.take k):=by
 obtain ⟨h1,h2,raw,h3,h4,h5⟩:=h;refine ⟨by rw [List.length_take]; omega,by omega,raw.take k,by rw [List.length_take]; omega,fun hne=>?_,fun i r x hr hx=>?_⟩
 ·have hf:flat E raw=flat E (raw.take k)++flat E (raw.drop k):=by
   unfold flat; rw [← List.flatMap_append,List.take_append_drop]
  have hne2:flat E raw≠[]:=(by rw [hf]; simp [hne]);obtain ⟨b,off,e,hb,hc⟩:=h4 hne2;refine ⟨b,off,e,hb,fun j u hu=>hc j u ?_⟩;rw [hf,List.getElem?_append_left (List.getElem?_eq_some_iff.1 hu).1]; exact hu
 ·have hi:i < k:=by
   have:=(List.getElem?_eq_some_iff.1 hr).1;rw [List.length_take] at this; omega
  rw [List.getElem?_take,if_pos hi] at hr hx;exact h5 i r x hr hx
end Go.Proofs.YtfcihnpmeabacaaGreatDoor
namespace Go.Proofs.YtfcihnpmeabacaaGreatDoor
open Go.RowKit
set_option maxRecDepth 100000 in
set_option maxHeartbeats 8000000 in
theorem check_c (ok:Nat→Prop) (g:Gr) (A:Option Addr) (n c:Nat) (w:World) (hg:GrOk g) (hl:Sl RuE ok w A n c g.rules) :
 Calls Tryz.prog 58 #[grVal g A n c] w (IntO w 0):=by
 obtain ⟨⟨t1,t2⟩,⟨n1,n2⟩,s1,cn,lf,rt⟩:=hg.ok;have hnd:=hg.nodup;have hlen:=hl.len;have hn32:n≤32:=(by omega);obtain ⟨gt,gn,gs,gr⟩:=g;simp only at t1 t2 n1 n2 s1 cn lf rt hnd hlen hl;simp only [grVal];have B0:=Blk.new w 24 #[.int .i64 (gt:Int),.int .i64 (gn:Int),.int .i64 (gs:Int),.slice A n c];have HB0:=Lib.hid B0;have HL:=Lib.hid (hl.al (.cells #[.int .i64 (gt:Int),.int .i64 (gn:Int),.int .i64 (gs:Int),.slice A n c] 24));have HLF:=Lib.hid lf;have HRT:=Lib.hid rt;have HND:=Lib.hid hnd;have HLEN:=Lib.hid hlen;have HB:=Lib.hid ((Below.refl w.heap.size w).al (.cells #[.int .i64 (gt:Int),.int .i64 (gn:Int),.int .i64 (gs:Int),.slice A n c] 24));have e1:decide ((gt:Int) < 1)=false:=(by simp; omega);have e2:decide ((8:Int) < (gt:Int))=false:=(by simp; omega);have e3:decide ((gn:Int) < 1)=false:=(by simp; omega);have e4:decide ((10:Int) < (gn:Int))=false:=(by simp; omega);have e5:decide ((gs:Int) < 0)=false:=(by simp);have e6:decide (gn≤gs)=false:=(by simp; omega);clear hl lf rt hnd hlen hg B0 cn;go_enter Tryz.func58,Tryz.ntmps58;go_wp2_with fail;clear e1 e2 e3 e4 e5 e6;generalize hW:w.alloc (.cells #[.int .i64 (gt:Int),.int .i64 (gn:Int),.int .i64 (gs:Int),.slice A n c] 24)=W at *;clear hW
 go_loopw [42] (fun i wr=>∃ k:Nat,i=.int .i64 k∧k≤n∧Below W.heap.size W wr) (fun i _=>n - (intOf i).toNat)
 case atStart=>exact ⟨0,rfl,Nat.zero_le _,Below.refl _ _⟩
 case round =>
  obtain ⟨k,rfl,hk,hb⟩:=hrel;have HR:=Lib.hid hb;clear hb
  by_cases hlt:k < n
  ·obtain ⟨b1,o1,⟨sl,sA,sn,sc⟩,⟨x,xs⟩,rfl,-,hbb,hy,⟨hx1,hx2⟩,hc⟩:=(HL.out.via HR.out).at_ hlt;simp only at hx1 hx2;obtain rfl:sl=x:=hx1;have c0:=hc 0 _ rfl;have c1:=hc 1 _ rfl;simp only [RuE,Nat.add_zero] at c0 c1;have i0:(0:Int)≤(k:Int):=(by omega);have i1:(k:Int) < (n:Int):=(by omega);have hmem:=List.mem_of_getElem? hy;have hlf:=HLF.out _ hmem;have hrt:=HRT.out _ hmem;simp only at hlf hrt;have hsn:sn≤4:=(by rw [← hx2.len]; exact hrt.1);have e1:decide ((sl:Int) < 0)=false:=(by simp);have e2:decide (gn≤sl)=false:=(by simp; omega);have e3:decide ((4:Int) < (sn:Int))=false:=(by simp; omega);have HSO:=Lib.hid hrt.2
   have HNE:=Lib.hid (show ∀ r∈gr.take k,r≠(sl,xs) from fun r hr e=>by
    subst e;have hk2:=List.getElem?_eq_some_iff.1 hy;have hd:=HND.out;rw [← List.take_append_drop k gr,List.drop_eq_getElem_cons hk2.1,hk2.2,List.nodup_append] at hd
    exact hd.2.2 _ hr _ (List.mem_cons_self ..) rfl)
   have HK4:=Lib.hid (show ∀ r∈gr.take k,r.2.length≤4 from fun r hr=>(HRT.out r (List.mem_of_mem_take hr)).1);have HX:=Lib.hid (hx2.al (.cells #[.int .i64 (sl:Int),.slice sA sn sc] 74));have HR2:=Lib.hid (HR.out.al (.cells #[.int .i64 (sl:Int),.slice sA sn sc] 74));have Bk:=Blk.new wr 74 #[.int .i64 (sl:Int),.slice sA sn sc];have Bg:=(HB0.out.via HR.out).al (.cells #[.int .i64 (sl:Int),.slice sA sn sc] 74);clear hc hy hx2 hmem hrt HR hbb;go_upto_region 8 with fail;clear c0 c1;generalize wr.alloc (.cells #[.int .i64 (sl:Int),.slice sA sn sc] 74)=W2 at *;generalize wr.heap.size=bk at *;have HBk:=Lib.hid Bk;have HBg:=Lib.hid Bg;have cBk:=Bk.cell;have fBk:=Bk.frozen;have lBk:=Bk.lt;have cBg:=Bg.cell;have fBg:=Bg.frozen;have lBg:=Bg.lt;go_wp2_with fail;clear cBk fBk lBk cBg fBg lBg;clear e1 e2 e3;refine (symsOk_c w.heap.size ⟨gt,gn,gs,gr⟩ (some ⟨b1,o1,none⟩) n c ok sA sn sc xs W2 HBg.out HX.out HSO.out (by omega)).mono ?_;rintro e w3 ⟨rfl,hb⟩;have HR3:=Lib.hid (HR2.out.via hb);have HX3:=Lib.hid (HX.out.via hb);have Bk:=HBk.out.via hb;have Bg:=HBg.out.via hb;have HBk:=Lib.hid Bk;clear hb HR2 HX HBg;have j2:(k:Int)≤(c:Int):=(by have:=HL.out.le; omega);have cBk:=Bk.cell;have fBk:=Bk.frozen;have lBk:=Bk.lt;have cBg:=Bg.cell;have fBg:=Bg.frozen;have lBg:=Bg.lt;go_wp2_with fail;clear cBk fBk lBk cBg fBg lBg;refine (rulesOk_c ok ok bk sl (some ⟨b1,o1,none⟩) sA k c sn sc (gr.take k) xs w3 ((HL.out.via HR3.out).take (by omega)) HBk.out HX3.out (by omega) HK4.out HNE.out).mono ?_;rintro e w4 ⟨rfl,hb⟩;have HR4:=Lib.hid (HR3.out.via hb);clear hb;go_wp2_with fail;exact ⟨⟨k+1,by go_num,by omega,HR4.out⟩,by simp [intOf]; omega⟩
  ·go_wp2_with fail;go_ret;exact ⟨rfl,HB.out.via HR.out⟩
end Go.Proofs.YtfcihnpmeabacaaGreatDoor
namespace Go.Proofs.YtfcihnpmeabacaaGreatDoor
open Go.RowKit
set_option maxRecDepth 100000 in
set_option maxHeartbeats 1000000 in
theorem letter_c (bg:Nat) (g:Gr) (A:Option Addr) (n c:Nat) (x:Int) (w:World) (hg:Blk w bg 24 (grCells g A n c)) (h1:0≤x) (h2:x < (g.terms:Int)) :
 Calls Tryz.prog 91 #[.int .i64 x,.pointer (some ⟨bg,0,none⟩)] w fun e w'=>e=.returned (.bool false)∧w'=w:=by
 unfold grCells at hg;have e1:decide (x < 0)=false:=(by simp; omega);have e2:decide ((g.terms:Int)≤x)=false:=(by simp; omega);have chg:=hg.cell;have fhg:=hg.frozen;have lhg:=hg.lt;go_enter Tryz.func91,Tryz.ntmps91;go_wp2_with fail;go_ret;exact ⟨rfl,rfl⟩
set_option maxRecDepth 100000 in
set_option maxHeartbeats 1000000 in
theorem indexW_c (bg:Nat) (g:Gr) (Ag:Option Addr) (ng cg:Nat) (A:Option Addr) (n c:Nat) (xs:List Int) (w:World) (hg:Blk w bg 24 (grCells g Ag ng cg)) (h:Ints w A n c xs) (hn:n≤100000) (hx:∀ x∈xs,0≤x∧x < (g.terms:Int)) :
 Calls Tryz.prog 100 #[.slice A n c,.func (.func 91) #[] #[.pointer (some ⟨bg,0,none⟩)]] w (IntS w (-1)):=by
 have H:=Lib.hid h;have HX:=Lib.hid hx;have HG:=Lib.hid hg;clear h hx hg;go_enter Tryz.func100,Tryz.ntmps100;go_wp2_with fail
 go_loopw [8] (fun i wr=>∃ k:Nat,i=.int .i64 k∧k≤n∧wr=w) (fun i _=>n - (intOf i).toNat)
 case atStart=>exact ⟨0,rfl,Nat.zero_le _,rfl⟩
 case round =>
  obtain ⟨k,rfl,hk,rfl⟩:=hrel
  by_cases hkn:k < n
  ·obtain ⟨b1,o1,rfl,hb1,hc⟩:=H.out.at_ hkn;have i0:(0:Int)≤(k:Int):=(by omega);have i1:(k:Int) < (n:Int):=(by omega);obtain ⟨x,hxx⟩:∃ x,x=xs.getD k 0:=⟨_,rfl⟩;rw [← hxx] at hc
   have hr:0≤x∧x < (g.terms:Int):=by
    have hl:=H.out.len;rw [hxx,List.getD_eq_getElem?_getD,List.getElem?_eq_getElem (by omega)];exact HX.out _ (List.getElem_mem _)
   clear hxx;go_wp2_with (go_at_call 91; refine (letter_c bg g Ag ng cg x _ HG.out hr.1 hr.2).mono ?_; rintro e w' ⟨rfl,rfl⟩);exact ⟨⟨k+1,by go_num,by omega,by trivial⟩,by simp [intOf]; omega⟩
  ·go_wp2_with fail;go_ret;exact ⟨rfl,rfl⟩
set_option maxRecDepth 100000 in
set_option maxHeartbeats 1000000 in
theorem containsW_c (bg:Nat) (g:Gr) (Ag:Option Addr) (ng cg:Nat) (A:Option Addr) (n c:Nat) (xs:List Int) (w:World) (hg:Blk w bg 24 (grCells g Ag ng cg)) (h:Ints w A n c xs) (hn:n≤100000) (hx:∀ x∈xs,0≤x∧x < (g.terms:Int)) :
 Calls Tryz.prog 63 #[.slice A n c,.func (.func 91) #[] #[.pointer (some ⟨bg,0,none⟩)]] w fun e w'=>e=.returned (.bool false)∧w=w':=by
 have H:=Lib.hid h;have HX:=Lib.hid hx;have HG:=Lib.hid hg;clear h hx hg;go_enter Tryz.func63,Tryz.ntmps63;go_wp2_with fail;refine (indexW_c bg g Ag ng cg A n c xs w HG.out H.out hn HX.out).mono ?_;rintro e w' ⟨rfl,rfl⟩;go_wp2_with fail;go_ret;exact ⟨rfl,rfl⟩
set_option maxRecDepth 100000 in
set_option maxHeartbeats 1000000 in
theorem word_ok (g:Gr) (Ag:Option Addr) (ng cg:Nat) (A:Option Addr) (n c most:Nat) (xs:List Int) (w:World) (h:Ints w A n c xs) (hn:n≤most) (hm:most≤100000) (hx:∀ x∈xs,0≤x∧x < (g.terms:Int)) :
 Calls Tryz.prog 59 #[grVal g Ag ng cg,.slice A n c,.int .i64 (most:Int)] w (IntO w 0):=by
 simp only [grVal];have HB0:=Lib.hid (Blk.new w 24 #[.int .i64 (g.terms:Int),.int .i64 (g.nons:Int),.int .i64 (g.start:Int),.slice Ag ng cg]);have H:=Lib.hid (h.alloc (.cells #[.int .i64 (g.terms:Int),.int .i64 (g.nons:Int),.int .i64 (g.start:Int),.slice Ag ng cg] 24));have HB:=Lib.hid ((Below.refl w.heap.size w).al (.cells #[.int .i64 (g.terms:Int),.int .i64 (g.nons:Int),.int .i64 (g.start:Int),.slice Ag ng cg] 24));have HX:=Lib.hid hx;have e1:decide ((most:Int) < (n:Int))=false:=(by simp; omega);clear h hx;go_enter Tryz.func59,Tryz.ntmps59;go_wp2_with fail;refine (containsW_c w.heap.size g Ag ng cg A n c xs _ HB0.out H.out (by omega) HX.out).mono ?_;rintro e w' ⟨rfl,rfl⟩;go_wp2_with fail;go_ret;exact ⟨rfl,HB.out⟩
end Go.Proofs.YtfcihnpmeabacaaGreatDoor
