/- Texts JB, JC, laid together. -/
import Derived.Test.YtfcihnpmeabacaaGreatDoorW15
namespace Go.Proofs.YtfcihnpmeabacaaGreatDoor
open Go.RowKit
def giCells (T N S:Int) (A:Option Addr) (n c:Nat):Array Value:=#[.int .i64 T,.int .i64 N,.int .i64 S,.slice A n c]
set_option maxRecDepth 100000 in
set_option maxHeartbeats 2000000 in
theorem check1I_c (bg:Nat) (T N S:Int) (A:Option Addr) (n c:Nat) (s:Ci) (w:World) (hg:Blk w bg 24 (giCells T N S A n c)) :
 Calls Tryz.prog 87 (#[siVal s]++#[.pointer (some ⟨bg,0,none⟩)]) w (TellB w (!okSi T N s)):=by
 obtain ⟨sb,sk⟩:=s;unfold giCells at hg;have HB:=Lib.hid ((Below.refl w.heap.size w).al (.cells #[.bool sb,.int .i64 sk] 69));have Bg:=hg.al (.cells #[.bool sb,.int .i64 sk] 69);clear hg;have cBg:=Bg.cell;have fBg:=Bg.frozen;have lBg:=Bg.lt;dsimp only [siVal];go_enter Tryz.func87,Tryz.ntmps87;go_wp2_with fail;refine (hasI_c T N S A n c sb sk _).mono ?_;rintro e w' ⟨rfl,hb⟩;have HF:=Lib.hid (HB.out.via hb);clear hb;go_wp2_with fail;go_ret;exact ⟨rfl,HF.out⟩
set_option maxRecDepth 100000 in
set_option maxHeartbeats 2000000 in
theorem check2I_c (ok ok':Nat→Prop) (br:Nat) (y:Int) (B:Option Addr) (m d:Nat) (r:Int×SlV) (x:Ri) (ys:List Ci) (w:World) (h1:RiE.rel ok w r x) (hr:Blk w br 74 #[.int .i64 y,.slice B m d]) (h2:Sl SiE ok' w B m d ys) (hn:x.2.length≤1000000) :
 Calls Tryz.prog 89 (#[riVal r]++#[.pointer (some ⟨br,0,none⟩)]) w (TellB w (decide (x=(y,ys)))):=by
 obtain ⟨xl,xA,xn,xc⟩:=r;obtain ⟨x1,xs⟩:=x;obtain ⟨e1,e2⟩:=h1;simp only at e1 e2 hn;subst e1;have hxn:xn≤1000000:=(by have:=e2.len; omega);obtain ⟨q,hqq⟩:∃ q,q=cmpRi (xl,xs) (y,ys):=⟨_,rfl⟩;have HQ:=Lib.hid hqq;obtain ⟨bv,hbv⟩:∃ bv,(q==0)=bv:=⟨_,rfl⟩
 have HV:=Lib.hid (show decide ((xl,xs)=(y,ys))=bv by
  rw [← hbv,hqq]
  by_cases h:(xl,xs)=(y,ys)
  ·rw [decide_eq_true h,cmpRi_zero.2 h]; rfl
  ·rw [decide_eq_false h]
   exact (beq_eq_false_iff_ne.2 fun e=>h (cmpRi_zero.1 e)).symm)
 have HB:=Lib.hid ((Below.refl w.heap.size w).al (.cells #[.int .i64 xl,.slice xA xn xc] 74));have H1:=Lib.hid (e2.al (.cells #[.int .i64 xl,.slice xA xn xc] 74));have H2:=Lib.hid (h2.al (.cells #[.int .i64 xl,.slice xA xn xc] 74));have Br:=hr.al (.cells #[.int .i64 xl,.slice xA xn xc] 74);clear e2 h2 hr hqq hn;have cBr:=Br.cell;have fBr:=Br.frozen;have lBr:=Br.lt;dsimp only [riVal];go_enter Tryz.func89,Tryz.ntmps89;go_wp2_with fail;refine (compareI_c ok ok' xl y xA B xn xc m d xs ys _ H1.out H2.out hxn).mono ?_;rintro e w' ⟨rfl,hb⟩;rw [← HQ.out];have HF:=Lib.hid (HB.out.via hb);clear hb;go_wp2_with fail;go_ret;exact ⟨by rw [HV.out]; rfl,HF.out⟩
theorem dlt {a b:Int} (h:a < b):decide (a < b)=true:=decide_eq_true h
theorem dge {a b:Int} (h:¬ a < b):decide (a < b)=false:=decide_eq_false h
theorem dle {a b:Int} (h:a≤b):decide (a≤b)=true:=decide_eq_true h
theorem dgt {a b:Int} (h:¬ a≤b):decide (a≤b)=false:=decide_eq_false h
theorem chkL_step (T N:Int) (rs:List Ri) (k:Nat) {r:Ri} (hr:rs[k]?=some r) (h1:0≤r.1∧r.1 < N) (h2:¬ 4 < r.2.length) (h3:¬ (r.2.any fun s=>!okSi T N s)=true) (h4:¬ r∈rs.take k) :
 chkL T N (rs.take k) (rs.drop k)=chkL T N (rs.take (k+1)) (rs.drop (k+1)):=by
 have hl:=List.getElem?_eq_some_iff.1 hr;rw [List.drop_eq_getElem_cons hl.1,hl.2,take_at hr]
 conv=>lhs; unfold chkL
 rw [if_neg (by simpa using h1),if_neg h2,if_neg h3,if_neg h4]
set_option maxRecDepth 100000 in
set_option maxHeartbeats 8000000 in
theorem checkI_c (ok:Nat→Prop) (T N S:Int) (A:Option Addr) (n c:Nat) (rs:List Ri) (w:World) (hl:Sl RiE ok w A n c rs) :
 Calls Tryz.prog 58 #[.agg #[.int .i64 T,.int .i64 N,.int .i64 S,.slice A n c]] w (IntO w (chkG T N S rs)):=by
 have hlen:=hl.len;have B0:=Blk.new w 24 #[.int .i64 T,.int .i64 N,.int .i64 S,.slice A n c];have HB0:=Lib.hid B0;have HL:=Lib.hid (hl.al (.cells #[.int .i64 T,.int .i64 N,.int .i64 S,.slice A n c] 24));have HB:=Lib.hid ((Below.refl w.heap.size w).al (.cells #[.int .i64 T,.int .i64 N,.int .i64 S,.slice A n c] 24));have HLEN:=Lib.hid hlen;clear hl hlen B0
 by_cases hall:1≤T∧T≤8∧1≤N∧N≤10∧0≤S∧S < N
 ·obtain ⟨a1,a2,a3,a4,a5,a6⟩:=hall;have e1:decide (T < 1)=false:=dge (by omega);have e2:decide ((8:Int) < T)=false:=dge (by omega);have e3:decide (N < 1)=false:=dge (by omega);have e4:decide ((10:Int) < N)=false:=dge (by omega);have e5:decide (S < 0)=false:=dge (by omega);have e6:decide (N≤S)=false:=dgt (by omega)
  by_cases hn:32 < n
  ·have HV:=Lib.hid (show chkG T N S rs=2 by
    unfold chkG; rw [if_neg (by simp; omega),if_pos (by rw [HLEN.out]; exact hn)])
   have e7:decide ((32:Int) < (n:Int))=true:=dlt (by omega);go_enter Tryz.func58,Tryz.ntmps58;go_wp2_with fail;go_ret;exact ⟨by rw [HV.out]; rfl,HB.out⟩
  ·have HV:=Lib.hid (show chkG T N S rs=chkL T N [] rs by
    unfold chkG; rw [if_neg (by simp; omega),if_neg (by rw [HLEN.out]; exact hn)])
   go_enter Tryz.func58,Tryz.ntmps58;go_wp2_with fail;clear e1 e2 e3 e4 e5 e6;generalize hW:w.alloc (.cells #[.int .i64 T,.int .i64 N,.int .i64 S,.slice A n c] 24)=W at *;clear hW
   go_loopw [42] (fun i wr=>∃ k:Nat,i=.int .i64 k∧k≤n∧Hid (chkL T N [] rs=chkL T N (rs.take k) (rs.drop k))∧Hid (∀ r∈rs.take k,r.2.length≤4)∧Hid (Below W.heap.size W wr)) (fun i _=>n - (intOf i).toNat)
   case atStart=>exact ⟨0,rfl,Nat.zero_le _,Lib.hid (by simp),Lib.hid (fun r hr=>by simp at hr),Lib.hid (Below.refl _ _)⟩
   case round =>
    obtain ⟨k,rfl,hk,HC,H4,HR⟩:=hrel
    by_cases hlt:k < n
    ·as_aux_lemma =>
     obtain ⟨b1,o1,⟨sl,sA,sn,sc⟩,⟨x,xs⟩,rfl,-,hbb,hy,⟨hx1,hx2⟩,hc⟩:=(HL.out.via HR.out).at_ hlt;simp only at hx1 hx2;obtain rfl:sl=x:=hx1;have c0:=hc 0 _ rfl;have c1:=hc 1 _ rfl;simp only [RiE,Nat.add_zero] at c0 c1;have i0:(0:Int)≤(k:Int):=(by omega);have i1:(k:Int) < (n:Int):=(by omega);have hxl:=hx2.len;have HY:=Lib.hid hy;have HX:=Lib.hid (hx2.al (.cells #[.int .i64 sl,.slice sA sn sc] 74));have HR2:=Lib.hid (HR.out.al (.cells #[.int .i64 sl,.slice sA sn sc] 74));have Bk:=Blk.new wr 74 #[.int .i64 sl,.slice sA sn sc];have Bg:=(HB0.out.via HR.out).al (.cells #[.int .i64 sl,.slice sA sn sc] 74);have HXL:=Lib.hid hxl
     have HD:=Lib.hid (show chkL T N [] rs=chkL T N (rs.take k) ((sl,xs)::rs.drop (k+1)) by
      have h:=List.getElem?_eq_some_iff.1 hy
      rw [HC.out,List.drop_eq_getElem_cons h.1,h.2])
     clear hc hy hx2 hbb hxl;go_upto_region 8 with fail;clear c0 c1;generalize wr.alloc (.cells #[.int .i64 sl,.slice sA sn sc] 74)=W2 at *;generalize wr.heap.size=bk at *;have HBk:=Lib.hid Bk;have HBg:=Lib.hid Bg
     by_cases k1:sl < 0
     ·have e1:decide (sl < 0)=true:=dlt k1;have HV2:=Lib.hid (show chkG T N S rs=3 by rw [HV.out,HD.out]; unfold chkL; rw [if_pos (by simp; omega)]);have cBk:=Bk.cell;have fBk:=Bk.frozen;have lBk:=Bk.lt;have cBg:=Bg.cell;have fBg:=Bg.frozen;have lBg:=Bg.lt;go_wp2_with fail;go_ret;exact ⟨by rw [HV2.out]; rfl,HB.out.via HR2.out⟩
     ·have e1:decide (sl < 0)=false:=dge k1
      by_cases k2:N≤sl
      ·have e2:decide (N≤sl)=true:=dle k2;have HV2:=Lib.hid (show chkG T N S rs=3 by rw [HV.out,HD.out]; unfold chkL; rw [if_pos (by simp; omega)]);have cBk:=Bk.cell;have fBk:=Bk.frozen;have lBk:=Bk.lt;have cBg:=Bg.cell;have fBg:=Bg.frozen;have lBg:=Bg.lt;go_wp2_with fail;go_ret;exact ⟨by rw [HV2.out]; rfl,HB.out.via HR2.out⟩
      ·have e2:decide (N≤sl)=false:=dgt k2
       by_cases k3:4 < sn
       ·have e3:decide ((4:Int) < (sn:Int))=true:=dlt (by omega);have HV2:=Lib.hid (show chkG T N S rs=2 by rw [HV.out,HD.out]; unfold chkL; rw [if_neg (by simp; omega),if_pos (by rw [HXL.out]; exact k3)]);have cBk:=Bk.cell;have fBk:=Bk.frozen;have lBk:=Bk.lt;have cBg:=Bg.cell;have fBg:=Bg.frozen;have lBg:=Bg.lt;go_wp2_with fail;go_ret;exact ⟨by rw [HV2.out]; rfl,HB.out.via HR2.out⟩
       ·have e3:decide ((4:Int) < (sn:Int))=false:=dge (by omega);have cBk:=Bk.cell;have fBk:=Bk.frozen;have lBk:=Bk.lt;have cBg:=Bg.cell;have fBg:=Bg.frozen;have lBg:=Bg.lt;go_wp2_with fail;clear cBk fBk lBk cBg fBg lBg;clear e1 e2 e3;refine (conSi_c 87 (enters_c rfl rfl rfl) #[.pointer (some ⟨w.heap.size,0,none⟩)] ok sA sn sc xs (fun s=>!okSi T N s) W2 HX.out (by omega) ?_).mono ?_
        ·intro w' s y hb' hy hrel;obtain rfl:s=y:=hrel;exact check1I_c w.heap.size T N S (some ⟨b1,o1,none⟩) n c s w' (HBg.out.via hb')
        rintro e w3 ⟨rfl,hb⟩;have HR3:=Lib.hid (HR2.out.via hb);have HX3:=Lib.hid (HX.out.via hb);have Bk:=HBk.out.via hb;have Bg:=HBg.out.via hb;have HBk:=Lib.hid Bk;clear hb HR2 HX HBg;have j2:(k:Int)≤(c:Int):=(by have:=HL.out.le; omega);cases hany:xs.any fun s=>!okSi T N s with
        | true =>
         have HV2:=Lib.hid (show chkG T N S rs=3 by rw [HV.out,HD.out]; unfold chkL; rw [if_neg (by simp; omega),if_neg (by rw [HXL.out]; exact k3),if_pos hany]);clear hany;have cBk:=Bk.cell;have fBk:=Bk.frozen;have lBk:=Bk.lt;have cBg:=Bg.cell;have fBg:=Bg.frozen;have lBg:=Bg.lt;go_wp2_with fail;go_ret;exact ⟨by rw [HV2.out]; rfl,HB.out.via HR3.out⟩
        | false =>
         have HAN:=Lib.hid hany;clear hany;have cBk:=Bk.cell;have fBk:=Bk.frozen;have lBk:=Bk.lt;have cBg:=Bg.cell;have fBg:=Bg.frozen;have lBg:=Bg.lt;go_wp2_with fail;clear cBk fBk lBk cBg fBg lBg;refine (conRi_c 89 (enters_c rfl rfl rfl) #[.pointer (some ⟨bk,0,none⟩)] ok (some ⟨b1,o1,none⟩) k c (rs.take k) (fun r=>decide (r=(sl,xs))) w3 ((HL.out.via HR3.out).take (by omega)) (by omega) ?_).mono ?_
         ·intro w' r y hb' hy hrel;exact check2I_c ok ok bk sl sA sn sc r y xs w' hrel (HBk.out.via hb') (HX3.out.via hb') (Nat.le_trans (H4.out y hy) (by omega))
         rintro e w4 ⟨rfl,hb⟩;have HR4:=Lib.hid (HR3.out.via hb);clear hb
         by_cases hmem:(sl,xs)∈rs.take k
         ·have hq:((rs.take k).any fun r=>decide (r=(sl,xs)))=true:=List.any_eq_true.2 ⟨_,hmem,by simp⟩;rw [hq];have HV2:=Lib.hid (show chkG T N S rs=6 by rw [HV.out,HD.out]; unfold chkL; rw [if_neg (by simp; omega),if_neg (by rw [HXL.out]; exact k3),if_neg (by rw [HAN.out]; simp),if_pos hmem]);clear hq hmem;go_wp2_with fail;go_ret;exact ⟨by rw [HV2.out]; rfl,HB.out.via HR4.out⟩
         ·have hq:((rs.take k).any fun r=>decide (r=(sl,xs)))=false:=List.any_eq_false.2 fun r hr=>by
           simp only [decide_eq_true_eq]; exact fun e=>hmem (e ▸ hr)
          rw [hq];have HC2:=Lib.hid (HC.out.trans (chkL_step T N rs k HY.out ⟨by simp only; omega,by simp only; omega⟩ (by simp only; rw [HXL.out]; exact k3) (by rw [HAN.out]; simp) hmem))
          have H42:=Lib.hid (show ∀ r∈rs.take (k+1),r.2.length≤4 from fun r hr=>by
           rw [take_at HY.out,List.mem_append,List.mem_singleton] at hr
           rcases hr with hr | rfl
           ·exact H4.out r hr
           ·simp only; rw [HXL.out]; omega)
          clear hq hmem;go_wp2_with fail;exact ⟨⟨k+1,by go_num,by omega,HC2,H42,HR4⟩,by simp [intOf]; omega⟩
    ·obtain rfl:k=n:=(by omega)
     have HV2:=Lib.hid (show chkG T N S rs=0 by
      rw [HV.out,HC.out,List.drop_of_length_le (by rw [HLEN.out]; exact Nat.le_refl _)]; rfl)
     go_wp2_with fail;go_ret;exact ⟨by rw [HV2.out]; rfl,HB.out.via HR.out⟩
 ·have HV:=Lib.hid (show chkG T N S rs=1 by unfold chkG; rw [if_pos hall])
  by_cases a1:T < 1
  ·have e1:decide (T < 1)=true:=dlt a1;go_enter Tryz.func58,Tryz.ntmps58;go_wp2_with fail;go_ret;exact ⟨by rw [HV.out]; rfl,HB.out⟩
  ·have e1:decide (T < 1)=false:=dge a1
   by_cases a2:8 < T
   ·have e2:decide ((8:Int) < T)=true:=dlt a2;go_enter Tryz.func58,Tryz.ntmps58;go_wp2_with fail;go_ret;exact ⟨by rw [HV.out]; rfl,HB.out⟩
   ·have e2:decide ((8:Int) < T)=false:=dge a2
    by_cases a3:N < 1
    ·have e3:decide (N < 1)=true:=dlt a3;go_enter Tryz.func58,Tryz.ntmps58;go_wp2_with fail;go_ret;exact ⟨by rw [HV.out]; rfl,HB.out⟩
    ·have e3:decide (N < 1)=false:=dge a3
     by_cases a4:10 < N
     ·have e4:decide ((10:Int) < N)=true:=dlt a4;go_enter Tryz.func58,Tryz.ntmps58;go_wp2_with fail;go_ret;exact ⟨by rw [HV.out]; rfl,HB.out⟩
     ·have e4:decide ((10:Int) < N)=false:=dge a4
      by_cases a5:S < 0
      ·have e5:decide (S < 0)=true:=dlt a5;go_enter Tryz.func58,Tryz.ntmps58;go_wp2_with fail;go_ret;exact ⟨by rw [HV.out]; rfl,HB.out⟩
      ·have e5:decide (S < 0)=false:=dge a5;have e6:decide (N≤S)=true:=dle (by omega);go_enter Tryz.func58,Tryz.ntmps58;go_wp2_with fail;go_ret;exact ⟨by rw [HV.out]; rfl,HB.out⟩
end Go.Proofs.YtfcihnpmeabacaaGreatDoor
namespace Go.Proofs.YtfcihnpmeabacaaGreatDoor
open Go.RowKit
theorem in_c (n lo hi:Int) (w:World):Calls Tryz.prog 39 #[.int .i64 n,.int .i64 lo,.int .i64 hi] w fun e w'=>e=.returned (.bool (decide (lo≤n)&&decide (n≤hi)))∧w=w':=by
 obtain ⟨b0,h0⟩:∃ b,decide (lo≤n)=b:=⟨_,rfl⟩;obtain ⟨b1,h1⟩:∃ b,decide (n≤hi)=b:=⟨_,rfl⟩;have HV:=Lib.hid (show (decide (lo≤n)&&decide (n≤hi))=(b0&&b1) by rw [← h0,← h1]);cases b0 <;> cases b1 <;>
 ·go_enter Tryz.func39,Tryz.ntmps39;go_wp2_with fail;go_ret;exact ⟨by rw [HV.out]; rfl,rfl⟩
set_option maxRecDepth 100000 in
set_option maxHeartbeats 2000000 in
theorem eqSi_c (ok ok':Nat→Prop) (A B:Option Addr) (n c m d:Nat) (xs ys:List Ci) (w:World) (h1:Sl SiE ok w A n c xs) (h2:Sl SiE ok' w B m d ys) (hn:n≤1000000) :
 Calls Tryz.prog 76 #[.slice A n c,.slice B m d] w (TellB w (decide (xs=ys))):=by
 have H1:=Lib.hid h1;have H2:=Lib.hid h2;have L1:=Lib.hid h1.len;have L2:=Lib.hid h2.len;clear h1 h2;go_enter Tryz.func76,Tryz.ntmps76
 by_cases hnm:n=m
 ·subst hnm;go_wp2_with fail
  go_loopw [13] (fun i wr=>∃ k:Nat,i=.int .i64 k∧k≤n∧Hid (xs.take k=ys.take k)∧Hid (Below w.heap.size w wr)) (fun i _=>n - (intOf i).toNat)
  case atStart=>exact ⟨0,rfl,Nat.zero_le _,Lib.hid rfl,Lib.hid (Below.refl _ _)⟩
  case round =>
   obtain ⟨k,rfl,hk,HT,HB⟩:=hrel
   by_cases hkn:k < n
   ·obtain ⟨b1,o1,⟨xb,xn⟩,x',rfl,-,hb1,hx,hxx,hc⟩:=(H1.out.via HB.out).at_ hkn;obtain rfl:(xb,xn)=x':=hxx;have c0:=hc 0 _ rfl;have c1:=hc 1 _ rfl;simp only [SiE,Nat.add_zero] at c0 c1;obtain ⟨b2,o2,⟨yb,yn⟩,y',rfl,-,hb2,hy,hyy,hd⟩:=(H2.out.via HB.out).at_ hkn;obtain rfl:(yb,yn)=y':=hyy;have d0:=hd 0 _ rfl;have d1:=hd 1 _ rfl;simp only [SiE,Nat.add_zero] at d0 d1;have i0:(0:Int)≤(k:Int):=(by omega);have i1:(k:Int) < (n:Int):=(by omega);have HX:=Lib.hid hx;have HY:=Lib.hid hy;clear hc hd hx hy;go_upto_region 6 with fail;have hdn:=below_drewN HB.out;have HDN:=Lib.hid hdn;clear hdn
    by_cases he:(xb,xn)=(yb,yn)
    ·obtain ⟨rfl,rfl⟩:=Prod.mk.inj he;have HT2:=Lib.hid (show xs.take (k+1)=ys.take (k+1) by rw [take_at HX.out,take_at HY.out,HT.out]);clear he
     go_quiet (fail)
     go_wp2_with fail;exact ⟨⟨k+1,by go_num,by omega,HT2,Lib.hid (HDN.out _)⟩,by simp [intOf]; omega⟩
    ·have HF:=Lib.hid (show decide (xs=ys)=false from decide_eq_false fun e=>he (by
      have h:=HX.out;rw [e,HY.out] at h
      exact (Option.some.inj h).symm))
     by_cases hb:xb=yb
     ·subst hb;have hq:(xn==yn)=false:=(by rw [beq_eq_false_iff_ne]; exact fun e=>he (by rw [e]));clear he
      go_quiet (fail)
      go_wp2_with fail;go_ret;exact ⟨by rw [HF.out]; rfl,HDN.out _⟩
     ·clear he;cases xb <;> cases yb
      ·exact absurd rfl hb
      ·clear hb
       go_quiet (fail)
       go_wp2_with fail;go_ret;exact ⟨by rw [HF.out]; rfl,HDN.out _⟩
      ·clear hb
       go_quiet (fail)
       go_wp2_with fail;go_ret;exact ⟨by rw [HF.out]; rfl,HDN.out _⟩
      ·exact absurd rfl hb
   ·obtain rfl:k=n:=(by omega)
    have HV:=Lib.hid (show decide (xs=ys)=true from decide_eq_true (by
     have h:=HT.out;rw [List.take_of_length_le (by rw [L1.out]; exact Nat.le_refl _),List.take_of_length_le (by rw [L2.out]; exact Nat.le_refl _)] at h
     exact h))
    go_wp2_with fail;go_ret;exact ⟨by rw [HV.out]; rfl,HB.out⟩
 ·have hq:((n:Int) != (m:Int))=true:=(by rw [bne_iff_ne]; omega);have HV:=Lib.hid (show decide (xs=ys)=false from decide_eq_false fun e=>hnm (by rw [← L1.out,← L2.out,e]));go_wp2_with fail;go_ret;exact ⟨by rw [HV.out]; rfl,Below.refl _ _⟩
set_option maxRecDepth 100000 in
set_option maxHeartbeats 2000000 in
theorem sameI_c (ok ok':Nat→Prop) (x y:Int) (A B:Option Addr) (n c m d:Nat) (xs ys:List Ci) (w:World) (h1:Sl SiE ok w A n c xs) (h2:Sl SiE ok' w B m d ys) (hn:n≤1000000) :
 Calls Tryz.prog 42 #[.agg #[.int .i64 x,.slice A n c],.agg #[.int .i64 y,.slice B m d]] w (TellB w (decide ((x,xs)=(y,ys)))):=by
 have hB:=((Below.refl w.heap.size w).al (.cells #[.int .i64 x,.slice A n c] 74)).al (.cells #[.int .i64 y,.slice B m d] 74);have B0:=(Blk.new w 74 #[.int .i64 x,.slice A n c]).al (.cells #[.int .i64 y,.slice B m d] 74);have B1:=Blk.new (w.alloc (.cells #[.int .i64 x,.slice A n c] 74)) 74 #[.int .i64 y,.slice B m d];rw [World.size_alloc] at B1;have H1:=Lib.hid (h1.via hB);have H2:=Lib.hid (h2.via hB);have HB:=Lib.hid hB;clear h1 h2 hB;go_enter Tryz.func42,Tryz.ntmps42;go_upto_region 1 with fail;generalize (w.alloc (.cells #[.int .i64 x,.slice A n c] 74)).alloc (.cells #[.int .i64 y,.slice B m d] 74)=W at *
 by_cases hxy:x=y
 ·subst hxy;have HV:=Lib.hid (show decide ((x,xs)=(x,ys))=decide (xs=ys) from decide_eq_decide.2 ⟨fun e=>congrArg Prod.snd e,fun e=>by rw [e]⟩);have cB0:=B0.cell;have fB0:=B0.frozen;have lB0:=B0.lt;have cB1:=B1.cell;have fB1:=B1.frozen;have lB1:=B1.lt;go_wp2_with fail;refine (eqSi_c ok ok' A B n c m d xs ys W H1.out H2.out hn).mono ?_;rintro e w' ⟨rfl,hb⟩;have HF:=Lib.hid (HB.out.via hb);clear hb;go_wp2_with fail;go_ret;exact ⟨by rw [HV.out]; rfl,HF.out⟩
 ·have hq:(x==y)=false:=(by rw [beq_eq_false_iff_ne]; exact hxy);have HV:=Lib.hid (show decide ((x,xs)=(y,ys))=false from decide_eq_false fun e=>hxy (congrArg Prod.fst e));have cB0:=B0.cell;have fB0:=B0.frozen;have lB0:=B0.lt;have cB1:=B1.cell;have fB1:=B1.frozen;have lB1:=B1.lt;go_wp2_with fail;go_ret;exact ⟨by rw [HV.out]; rfl,HB.out⟩
set_option maxRecDepth 100000 in
set_option maxHeartbeats 2000000 in
theorem ref1_c (ok ok':Nat→Prop) (br:Nat) (y:Int) (B:Option Addr) (m d:Nat) (r:Int×SlV) (x:Ri) (ys:List Ci) (w:World) (h1:RiE.rel ok w r x) (hr:Blk w br 74 #[.int .i64 y,.slice B m d]) (h2:Sl SiE ok' w B m d ys) (hn:x.2.length≤1000000) :
 Calls Tryz.prog 41 (#[riVal r]++#[.pointer (some ⟨br,0,none⟩)]) w (TellB w (decide (x=(y,ys)))):=by
 obtain ⟨xl,xA,xn,xc⟩:=r;obtain ⟨x1,xs⟩:=x;obtain ⟨e1,e2⟩:=h1;simp only at e1 e2 hn;subst e1;have hxn:xn≤1000000:=(by have:=e2.len; omega);have HB:=Lib.hid ((Below.refl w.heap.size w).al (.cells #[.int .i64 xl,.slice xA xn xc] 74));have H1:=Lib.hid (e2.al (.cells #[.int .i64 xl,.slice xA xn xc] 74));have H2:=Lib.hid (h2.al (.cells #[.int .i64 xl,.slice xA xn xc] 74));have Br:=hr.al (.cells #[.int .i64 xl,.slice xA xn xc] 74);have hbl:=hr.lt;clear e2 h2 hr hn;have cBr:=Br.cell;have fBr:=Br.frozen;have lBr:=Br.lt;dsimp only [riVal];go_enter Tryz.func41,Tryz.ntmps41;go_wp2_with fail;refine (sameI_c ok ok' xl y xA B xn xc m d xs ys _ H1.out H2.out hxn).mono ?_;rintro e w' ⟨rfl,hb⟩;have HF:=Lib.hid (HB.out.via hb);obtain ⟨bv,hbv⟩:∃ bv,decide ((xl,xs)=(y,ys))=bv:=⟨_,rfl⟩;rw [hbv];have HV:=Lib.hid hbv;clear hb hbv;go_wp2_with fail;go_ret;exact ⟨by rw [HV.out]; rfl,HF.out⟩
theorem rng_t {n lo hi:Int} (h1:lo≤n) (h2:n≤hi):(decide (lo≤n)&&decide (n≤hi))=true:=by rw [dle h1,dle h2]; rfl
theorem rng_f {n lo hi:Int} (h:¬ (lo≤n∧n≤hi)):(decide (lo≤n)&&decide (n≤hi))=false:=by
 by_cases h1:lo≤n
 ·rw [dle h1,dgt (fun h2=>h ⟨h1,h2⟩)]; rfl
 ·rw [dgt h1]; rfl
theorem in_t (n lo hi:Int) (h1:lo≤n) (h2:n≤hi) (w:World):Calls Tryz.prog 39 #[.int .i64 n,.int .i64 lo,.int .i64 hi] w fun e w'=>e=.returned (.bool true)∧w=w':=by
 have h:=in_c n lo hi w
 rwa [rng_t h1 h2] at h
theorem in_f (n lo hi:Int) (h:¬ (lo≤n∧n≤hi)) (w:World):Calls Tryz.prog 39 #[.int .i64 n,.int .i64 lo,.int .i64 hi] w fun e w'=>e=.returned (.bool false)∧w=w':=by
 have h':=in_c n lo hi w
 rwa [rng_f h] at h'
set_option maxRecDepth 100000 in
set_option maxHeartbeats 2000000 in
theorem refcheck_c (ok:Nat→Prop) (T N S:Int) (A:Option Addr) (n c:Nat) (rs:List Ri) (w:World) (hl:Sl RiE ok w A n c rs) :
 Calls Tryz.prog 15 #[.agg #[.int .i64 T,.int .i64 N,.int .i64 S,.slice A n c]] w (IntO w (chkG T N S rs)):=by
 have hlen:=hl.len;have B0:=Blk.new w 24 #[.int .i64 T,.int .i64 N,.int .i64 S,.slice A n c];have HB0:=Lib.hid B0;have HL:=Lib.hid (hl.al (.cells #[.int .i64 T,.int .i64 N,.int .i64 S,.slice A n c] 24));have HB:=Lib.hid ((Below.refl w.heap.size w).al (.cells #[.int .i64 T,.int .i64 N,.int .i64 S,.slice A n c] 24));have HLEN:=Lib.hid hlen;clear hl hlen
 by_cases hT:1≤T∧T≤8
 ·by_cases hN:1≤N∧N≤10
  ·have hNS:IntKind.i64.wrap (N - 1)=N - 1:=(by rw [IntKind.wrap_i64]; omega)
   by_cases hS:0≤S∧S≤N - 1
   ·have HTS:=Lib.hid (show IntKind.i64.wrap (T - 1)=T - 1 by rw [IntKind.wrap_i64]; omega);have HS:=Lib.hid hS
    by_cases hn:32 < n
    ·have HV:=Lib.hid (show chkG T N S rs=2 by
      unfold chkG; rw [if_neg (by simp; omega),if_pos (by rw [HLEN.out]; exact hn)])
     have e7:decide ((32:Int) < (n:Int))=true:=dlt (by omega);clear hS;go_enter Tryz.func15,Tryz.ntmps15;have cB0:=B0.cell;have fB0:=B0.frozen;have lB0:=B0.lt;go_wp2_with (go_at_call 39; first | (with_reducible refine (in_t T 1 8 hT.1 hT.2 _).mono ?_; rintro e w' ⟨rfl,rfl⟩) | (with_reducible refine (in_t N 1 10 hN.1 hN.2 _).mono ?_; rintro e w' ⟨rfl,rfl⟩) | (with_reducible refine (in_t S 0 (N - 1) HS.out.1 HS.out.2 _).mono ?_; rintro e w' ⟨rfl,rfl⟩));go_ret;exact ⟨by rw [HV.out]; rfl,HB.out⟩
    ·have HV:=Lib.hid (show chkG T N S rs=chkL T N [] rs by
      unfold chkG; rw [if_neg (by simp; omega),if_neg (by rw [HLEN.out]; exact hn)])
     clear hS;go_enter Tryz.func15,Tryz.ntmps15;have cB0:=B0.cell;have fB0:=B0.frozen;have lB0:=B0.lt;go_wp2_with (go_at_call 39; first | (with_reducible refine (in_t T 1 8 hT.1 hT.2 _).mono ?_; rintro e w' ⟨rfl,rfl⟩) | (with_reducible refine (in_t N 1 10 hN.1 hN.2 _).mono ?_; rintro e w' ⟨rfl,rfl⟩) | (with_reducible refine (in_t S 0 (N - 1) HS.out.1 HS.out.2 _).mono ?_; rintro e w' ⟨rfl,rfl⟩));clear cB0 fB0 lB0;clear B0;generalize hW:w.alloc (.cells #[.int .i64 T,.int .i64 N,.int .i64 S,.slice A n c] 24)=W at *;clear hW
     go_loopw [34] (fun i wr=>∃ k:Nat,i=.int .i64 k∧k≤n∧Hid (chkL T N [] rs=chkL T N (rs.take k) (rs.drop k))∧Hid (∀ r∈rs.take k,r.2.length≤4)∧Hid (Below W.heap.size W wr)) (fun i _=>n - (intOf i).toNat)
     case atStart=>exact ⟨0,rfl,Nat.zero_le _,Lib.hid (by simp),Lib.hid (fun r hr=>by simp at hr),Lib.hid (Below.refl _ _)⟩
     case round =>
      obtain ⟨k,rfl,hk,HC,H4,HR⟩:=hrel
      by_cases hlt:k < n
      ·as_aux_lemma =>
       obtain ⟨b1,o1,⟨sl,sA,sn,sc⟩,⟨x,xs⟩,rfl,-,hbb,hy,⟨hx1,hx2⟩,hc⟩:=(HL.out.via HR.out).at_ hlt;simp only at hx1 hx2;obtain rfl:sl=x:=hx1;have c0:=hc 0 _ rfl;have c1:=hc 1 _ rfl;simp only [RiE,Nat.add_zero] at c0 c1;have i0:(0:Int)≤(k:Int):=(by omega);have i1:(k:Int) < (n:Int):=(by omega);have hxl:=hx2.len;have HY:=Lib.hid hy;have HX:=Lib.hid (hx2.al (.cells #[.int .i64 sl,.slice sA sn sc] 74));have HR2:=Lib.hid (HR.out.al (.cells #[.int .i64 sl,.slice sA sn sc] 74));have Bk:=Blk.new wr 74 #[.int .i64 sl,.slice sA sn sc];have Bg:=(HB0.out.via HR.out).al (.cells #[.int .i64 sl,.slice sA sn sc] 74);have HXL:=Lib.hid hxl
       have HD:=Lib.hid (show chkL T N [] rs=chkL T N (rs.take k) ((sl,xs)::rs.drop (k+1)) by
        have h:=List.getElem?_eq_some_iff.1 hy
        rw [HC.out,List.drop_eq_getElem_cons h.1,h.2])
       clear hc hy hx2 hbb hxl;go_upto_region 8 with fail;clear c0 c1;generalize wr.alloc (.cells #[.int .i64 sl,.slice sA sn sc] 74)=W2 at *;generalize wr.heap.size=bk at *;have HBk:=Lib.hid Bk;have HBg:=Lib.hid Bg
       by_cases k1:0≤sl∧sl≤N - 1
       ·by_cases k3:4 < sn
        ·have e3:decide ((4:Int) < (sn:Int))=true:=dlt (by omega);have HV2:=Lib.hid (show chkG T N S rs=2 by rw [HV.out,HD.out]; unfold chkL; rw [if_neg (by simp; omega),if_pos (by rw [HXL.out]; exact k3)]);have cBk:=Bk.cell;have fBk:=Bk.frozen;have lBk:=Bk.lt;have cBg:=Bg.cell;have fBg:=Bg.frozen;have lBg:=Bg.lt;go_wp2_with (go_at_call 39; refine (in_t sl 0 (N - 1) k1.1 k1.2 _).mono ?_; rintro e w' ⟨rfl,rfl⟩);go_ret;exact ⟨by rw [HV2.out]; rfl,HB.out.via HR2.out⟩
        ·have e3:decide ((4:Int) < (sn:Int))=false:=dge (by omega);have cBk:=Bk.cell;have fBk:=Bk.frozen;have lBk:=Bk.lt;have cBg:=Bg.cell;have fBg:=Bg.frozen;have lBg:=Bg.lt;go_wp2_with (go_at_call 39; refine (in_t sl 0 (N - 1) k1.1 k1.2 _).mono ?_; rintro e w' ⟨rfl,rfl⟩);clear cBk fBk lBk cBg fBg lBg;clear e3
         go_loopw [53] (fun i wq=>∃ j:Nat,i=.int .i64 j∧j≤sn∧Hid (∀ (q:Nat) s,q < j→xs[q]?=some s→okSi T N s=true)∧Hid (Below W2.heap.size W2 wq)) (fun i _=>sn - (intOf i).toNat)
         case atStart=>exact ⟨0,rfl,Nat.zero_le _,Lib.hid (fun q s hq=>absurd hq (Nat.not_lt_zero _)),Lib.hid (Below.refl _ _)⟩
         case round =>
          obtain ⟨j,rfl,hj,HOK,HRS⟩:=hrel
          by_cases hjl:j < sn
          ·obtain ⟨b2,o2,⟨yb,yn⟩,y',rfl,-,hb2,hy,hyy,hd⟩:=(HX.out.via HRS.out).at_ hjl;obtain rfl:(yb,yn)=y':=hyy;have d0:=hd 0 _ rfl;have d1:=hd 1 _ rfl;simp only [SiE,Nat.add_zero] at d0 d1;have j0:(0:Int)≤(j:Int):=(by omega);have j1:(j:Int) < (sn:Int):=(by omega);have HYM:=Lib.hid hy;have HRS2:=Lib.hid (HRS.out.al (.cells #[.bool yb,.int .i64 yn] 69));have BY:=Blk.new wr 69 #[.bool yb,.int .i64 yn];have Bg2:=(HBg.out.via HRS.out).al (.cells #[.bool yb,.int .i64 yn] 69);clear hd hy hb2;go_upto_region 15 with fail;clear d0 d1;generalize wr.alloc (.cells #[.bool yb,.int .i64 yn] 69)=W5 at *;obtain ⟨M,hM⟩:∃ M:Int,M=if yb then T else N:=⟨_,rfl⟩
           have hMS:IntKind.i64.wrap (M - 1)=M - 1:=by
            cases yb
            ·rw [hM]; exact hNS
            ·rw [hM]; exact HTS.out
           have hok:okSi T N (yb,yn)=(decide (0≤yn)&&decide (yn≤M - 1)):=by
            rw [hM];cases yb <;> simp [okSi,Int.le_sub_one_iff]
           have HOKY:=Lib.hid hok
           by_cases hin:0≤yn∧yn≤M - 1
           ·have HO2:=Lib.hid (show ∀ (q:Nat) s,q < j+1→xs[q]?=some s→okSi T N s=true from fun q s hq hs=>by
             rcases Nat.lt_or_ge q j with h | h
             ·exact HOK.out q s h hs
             ·obtain rfl:q=j:=(by omega);rw [HYM.out] at hs;obtain rfl:=Option.some.inj hs
              rw [HOKY.out,rng_t hin.1 hin.2])
            clear hok;cases yb
            ·simp only [Bool.false_eq_true,if_false] at hM;subst hM;have cBY:=BY.cell;have fBY:=BY.frozen;have lBY:=BY.lt;have cBg2:=Bg2.cell;have fBg2:=Bg2.frozen;have lBg2:=Bg2.lt;go_wp2_with (go_at_call 39; refine (in_t yn 0 (M - 1) hin.1 hin.2 _).mono ?_; rintro e w' ⟨rfl,rfl⟩);exact ⟨⟨j+1,by go_num,by omega,HO2,HRS2⟩,by simp [intOf]; omega⟩
            ·simp only [if_true] at hM;subst hM;have cBY:=BY.cell;have fBY:=BY.frozen;have lBY:=BY.lt;have cBg2:=Bg2.cell;have fBg2:=Bg2.frozen;have lBg2:=Bg2.lt;go_wp2_with (go_at_call 39; refine (in_t yn 0 (M - 1) hin.1 hin.2 _).mono ?_; rintro e w' ⟨rfl,rfl⟩);exact ⟨⟨j+1,by go_num,by omega,HO2,HRS2⟩,by simp [intOf]; omega⟩
           ·have HV2:=Lib.hid (show chkG T N S rs=3 by
             rw [HV.out,HD.out]; unfold chkL
             rw [if_neg (by simp; omega),if_neg (by rw [HXL.out]; exact k3),if_pos (List.any_eq_true.2 ⟨(yb,yn),List.mem_of_getElem? HYM.out,by rw [HOKY.out,rng_f hin]; rfl⟩)])
            have HBE:=Lib.hid (HB.out.via (HR2.out.via HRS2.out));have HIN:=Lib.hid hin;clear hok hin;cases yb
            ·simp only [Bool.false_eq_true,if_false] at hM;subst hM;have cBY:=BY.cell;have fBY:=BY.frozen;have lBY:=BY.lt;have cBg2:=Bg2.cell;have fBg2:=Bg2.frozen;have lBg2:=Bg2.lt;go_wp2_with (go_at_call 39; refine (in_f yn 0 (M - 1) HIN.out _).mono ?_; rintro e w' ⟨rfl,rfl⟩);go_ret;exact ⟨by rw [HV2.out]; rfl,HBE.out⟩
            ·simp only [if_true] at hM;subst hM;have cBY:=BY.cell;have fBY:=BY.frozen;have lBY:=BY.lt;have cBg2:=Bg2.cell;have fBg2:=Bg2.frozen;have lBg2:=Bg2.lt;go_wp2_with (go_at_call 39; refine (in_f yn 0 (M - 1) HIN.out _).mono ?_; rintro e w' ⟨rfl,rfl⟩);go_ret;exact ⟨by rw [HV2.out]; rfl,HBE.out⟩
          ·obtain rfl:j=sn:=(by omega)
           have HAN:=Lib.hid (show (xs.any fun s=>!okSi T N s)=false from List.any_eq_false.2 fun s hs=>by
            obtain ⟨q,hq⟩:=List.getElem?_of_mem hs;have:=(List.getElem?_eq_some_iff.1 hq).1
            rw [HOK.out q s (by rw [← HXL.out]; exact this) hq]; simp)
           have HR3:=Lib.hid (HR2.out.via HRS.out);have HX3:=Lib.hid (HX.out.via HRS.out);have Bk:=HBk.out.via HRS.out;have Bg:=HBg.out.via HRS.out;have HBk:=Lib.hid Bk;have j2:(k:Int)≤(c:Int):=(by have:=HL.out.le; omega);have cBk:=Bk.cell;have fBk:=Bk.frozen;have lBk:=Bk.lt;have cBg:=Bg.cell;have fBg:=Bg.frozen;have lBg:=Bg.lt;go_wp2_with fail;clear cBk fBk lBk cBg fBg lBg;refine (conRi_c 41 (enters_c rfl rfl rfl) #[.pointer (some ⟨bk,0,none⟩)] ok (some ⟨b1,o1,none⟩) k c (rs.take k) (fun r=>decide (r=(sl,xs))) wr ((HL.out.via HR3.out).take (by omega)) (by omega) ?_).mono ?_
           ·intro w' r y hb' hy hrel;exact ref1_c ok ok bk sl sA j sc r y xs w' hrel (HBk.out.via hb') (HX3.out.via hb') (Nat.le_trans (H4.out y hy) (by omega))
           rintro e w4 ⟨rfl,hb⟩;have HR4:=Lib.hid (HR3.out.via hb);clear hb
           by_cases hmem:(sl,xs)∈rs.take k
           ·have hq:((rs.take k).any fun r=>decide (r=(sl,xs)))=true:=List.any_eq_true.2 ⟨_,hmem,by simp⟩;rw [hq];have HV2:=Lib.hid (show chkG T N S rs=6 by rw [HV.out,HD.out]; unfold chkL; rw [if_neg (by simp; omega),if_neg (by rw [HXL.out]; exact k3),if_neg (by rw [HAN.out]; simp),if_pos hmem]);clear hq hmem;go_wp2_with fail;go_ret;exact ⟨by rw [HV2.out]; rfl,HB.out.via HR4.out⟩
           ·have hq:((rs.take k).any fun r=>decide (r=(sl,xs)))=false:=List.any_eq_false.2 fun r hr=>by
             simp only [decide_eq_true_eq]; exact fun e=>hmem (e ▸ hr)
            rw [hq];have HC2:=Lib.hid (HC.out.trans (chkL_step T N rs k HY.out ⟨by simp only; omega,by simp only; omega⟩ (by simp only; rw [HXL.out]; exact k3) (by rw [HAN.out]; simp) hmem))
            have H42:=Lib.hid (show ∀ r∈rs.take (k+1),r.2.length≤4 from fun r hr=>by
             rw [take_at HY.out,List.mem_append,List.mem_singleton] at hr
             rcases hr with hr | rfl
             ·exact H4.out r hr
             ·simp only; rw [HXL.out]; omega)
            clear hq hmem;go_wp2_with fail;exact ⟨⟨k+1,by go_num,by omega,HC2,H42,HR4⟩,by simp [intOf]; omega⟩
       ·have HV2:=Lib.hid (show chkG T N S rs=3 by rw [HV.out,HD.out]; unfold chkL; rw [if_pos (by simp; omega)]);have HK1:=Lib.hid k1;clear k1;have cBk:=Bk.cell;have fBk:=Bk.frozen;have lBk:=Bk.lt;have cBg:=Bg.cell;have fBg:=Bg.frozen;have lBg:=Bg.lt;go_wp2_with (go_at_call 39; refine (in_f sl 0 (N - 1) HK1.out _).mono ?_; rintro e w' ⟨rfl,rfl⟩);go_ret;exact ⟨by rw [HV2.out]; rfl,HB.out.via HR2.out⟩
      ·obtain rfl:k=n:=(by omega)
       have HV2:=Lib.hid (show chkG T N S rs=0 by
        rw [HV.out,HC.out,List.drop_of_length_le (by rw [HLEN.out]; exact Nat.le_refl _)]; rfl)
       go_wp2_with fail;go_ret;exact ⟨by rw [HV2.out]; rfl,HB.out.via HR.out⟩
   ·have HV:=Lib.hid (show chkG T N S rs=1 by unfold chkG; rw [if_pos (by omega)]);have HSN:=Lib.hid hS;clear hS;go_enter Tryz.func15,Tryz.ntmps15;have cB0:=B0.cell;have fB0:=B0.frozen;have lB0:=B0.lt;go_wp2_with (go_at_call 39; first | (with_reducible refine (in_t T 1 8 hT.1 hT.2 _).mono ?_; rintro e w' ⟨rfl,rfl⟩) | (with_reducible refine (in_t N 1 10 hN.1 hN.2 _).mono ?_; rintro e w' ⟨rfl,rfl⟩) | (with_reducible refine (in_f S 0 (N - 1) HSN.out _).mono ?_; rintro e w' ⟨rfl,rfl⟩));go_ret;exact ⟨by rw [HV.out]; rfl,HB.out⟩
  ·have HV:=Lib.hid (show chkG T N S rs=1 by unfold chkG; rw [if_pos (by omega)]);have HNN:=Lib.hid hN;clear hN;go_enter Tryz.func15,Tryz.ntmps15;have cB0:=B0.cell;have fB0:=B0.frozen;have lB0:=B0.lt;go_wp2_with (go_at_call 39; first | (with_reducible refine (in_t T 1 8 hT.1 hT.2 _).mono ?_; rintro e w' ⟨rfl,rfl⟩) | (with_reducible refine (in_f N 1 10 HNN.out _).mono ?_; rintro e w' ⟨rfl,rfl⟩));go_ret;exact ⟨by rw [HV.out]; rfl,HB.out⟩
 ·have HV:=Lib.hid (show chkG T N S rs=1 by unfold chkG; rw [if_pos (by omega)]);have HTN:=Lib.hid hT;clear hT;go_enter Tryz.func15,Tryz.ntmps15;have cB0:=B0.cell;have fB0:=B0.frozen;have lB0:=B0.lt;go_wp2_with (go_at_call 39; refine (in_f T 1 8 HTN.out _).mono ?_; rintro e w' ⟨rfl,rfl⟩);go_ret;exact ⟨by rw [HV.out]; rfl,HB.out⟩
end Go.Proofs.YtfcihnpmeabacaaGreatDoor
