/- Texts ST, BW, BX, SN, SI, laid together. -/
import Derived.Test.YtfcihnpmeabacaaGreatDoorY26
import Derived.Test.YtfcihnpmeabacaaGreatDoorY17
import Derived.Test.YtfcihnpmeabacaaGreatDoorY34
import Derived.Test.YtfcihnpmeabacaaGreatDoorY13
namespace Go.Proofs.YtfcihnpmeabacaaGreatDoor
open Go.RowKit
theorem sym_eql (ab bb:Bool) (an bn:Int) (w:World):(binOp .eql 69 (.agg #[.bool ab,.int .i64 an]) (.agg #[.bool bb,.int .i64 bn])).run Tryz.prog w=.ok (.bool (decide ((ab,an)=(bb,bn)))) w:=by
 simp [go_sem]
 by_cases h1:ab=bb <;> by_cases h2:an=bn <;> simp [h1,h2]
set_option maxRecDepth 100000 in
theorem same2_c (okA okB:Nat→Prop) (r:Int×SlV) (x:PkI) (s:Int×SlV) (y:PkI) (w:World) (hx:FpE.rel okA w r x) (hy:FpE.rel okB w s y) (hn:y.2.length≤17592186044416) :
 Calls Tryz.prog 156 #[.agg #[.int .i64 r.1,.slice r.2.1 r.2.2.1 r.2.2.2],.agg #[.int .i64 s.1,.slice s.2.1 s.2.2.1 s.2.2.2]] w (SmP w (x=y)):=by
 obtain ⟨rr,rA,rn,rc⟩:=r;obtain ⟨sr,sA,sn,sc⟩:=s;obtain ⟨x1,xs⟩:=x;obtain ⟨y1,ys⟩:=y;obtain ⟨h1,h2⟩:=hx;obtain ⟨k1,k2⟩:=hy;simp only at h1 h2 k1 k2 hn;subst h1 k1;have hal:=((Below.refl w.heap.size w).al (.cells #[.int .i64 rr,.slice rA rn rc] 104)).al (.cells #[.int .i64 sr,.slice sA sn sc] 104);have B0:=(Blk.new w 104 #[.int .i64 rr,.slice rA rn rc]).al (.cells #[.int .i64 sr,.slice sA sn sc] 104);have B1:=Blk.newAt (w.alloc (.cells #[.int .i64 rr,.slice rA rn rc] 104)) 104 #[.int .i64 sr,.slice sA sn sc] (w.heap.size+1) (by simp);have hE:=equal_m rA sA rn rc sn sc xs ys _ (h2.via hal).intsIn (k2.via hal).intsIn (by have:=k2.len; omega);have HE:=Lib.hid hE;have HAL:=Lib.hid hal;clear h2 k2 hal hE hn;go_enter Tryz.func156,Tryz.ntmps156
 by_cases hq:rr=sr
 ·subst hq;have e0:(rr==rr)=true:=(by simp);have cB0:=B0.cell;have fB0:=B0.frozen;have lB0:=B0.lt;have cB1:=B1.cell;have fB1:=B1.frozen;have lB1:=B1.lt;go_wp2_with fail;clear cB0 fB0 lB0 cB1 fB1 lB1;refine HE.out.mono ?_;rintro e w1 hP;obtain ⟨rfl,hb⟩:=hP.below;have HB:=Lib.hid (HAL.out.via hb);obtain ⟨b,hbq⟩:∃ b,b=decide (xs=ys):=⟨_,rfl⟩;rw [← hbq];have HBQ:=Lib.hid hbq;clear hP hb hbq;go_wp2_with fail;go_ret;refine ⟨b,rfl,?_,HB.out⟩;rw [HBQ.out]; simp
 ·have e0:(rr==sr)=false:=(by simpa using hq);have cB0:=B0.cell;have fB0:=B0.frozen;have lB0:=B0.lt;have cB1:=B1.cell;have fB1:=B1.frozen;have lB1:=B1.lt;go_wp2_with fail;go_ret;exact ⟨false,rfl,⟨fun h=>(by cases h),fun e=>absurd (congrArg Prod.fst e) hq⟩,HAL.out⟩
set_option maxRecDepth 100000 in
set_option maxHeartbeats 4000000 in
theorem eqFp_c (okA okB:Nat→Prop) (A B:Option Addr) (n c m d:Nat) (xs ys:List PkI) (w:World) (ha:Sl FpE okA w A n c xs) (hb:Sl FpE okB w B m d ys) (hn:m≤17592186044416) (hB:∀ y∈ys,y.2.length≤17592186044416) :
 Calls Tryz.prog 155 #[.slice A n c,.slice B m d,.func (.func 156) #[] #[]] w (SmP w (xs=ys)):=by
 have hla:=ha.len;have hlb:=hb.len
 by_cases hnm:n=m
 ·subst hnm;have e0:((n:Int) != (n:Int))=false:=(by simp);have HA:=Lib.hid ha;have HB:=Lib.hid hb;have HBD:=Lib.hid hB;have HLN:=Lib.hid (And.intro hla hlb);clear ha hb hB hla hlb;go_enter Tryz.func155,Tryz.ntmps155;go_wp2_with fail
  go_loopw [17] (fun q wr=>∃ i:Nat,q=.int .i64 (i:Int)∧i≤n∧Hid (PreE xs ys i∧Below w.heap.size w wr)) (fun q _=>n - (intOf q).toNat)
  case atStart=>exact ⟨0,rfl,Nat.zero_le _,Lib.hid ⟨PreE.zero _ _,Below.refl _ _⟩⟩
  case round =>
   obtain ⟨i,rfl,hi,HQ⟩:=hrel
   by_cases hin:i < n
   ·obtain ⟨b1,o1,⟨xr,xA,xn,xc⟩,x,hAa,-,hb1,hx,hxr,hcx⟩:=HA.out.at_ hin;obtain ⟨b2,o2,⟨yr,yA,yn,yc⟩,y,hAb,-,hb2,hy,hyr,hcy⟩:=HB.out.at_ hin;subst hAa hAb;have c0:=(HQ.out.2.cell (p:=⟨b1,o1+i*FpE.k+0,none⟩) hb1).trans (hcx 0 _ rfl);have c1:=(HQ.out.2.cell (p:=⟨b1,o1+i*FpE.k+1,none⟩) hb1).trans (hcx 1 _ rfl);have d0:=(HQ.out.2.cell (p:=⟨b2,o2+i*FpE.k+0,none⟩) hb2).trans (hcy 0 _ rfl);have d1:=(HQ.out.2.cell (p:=⟨b2,o2+i*FpE.k+1,none⟩) hb2).trans (hcy 1 _ rfl);simp only [FpE,Nat.add_zero] at c0 d0 c1 d1;have i0:(0:Int)≤(i:Int):=(by omega);have i1:(i:Int) < (n:Int):=(by omega);have HX:=Lib.hid hx;have HY:=Lib.hid hy;have hb2w:b2 < wr.heap.size:=Nat.lt_of_lt_of_le hb2 HQ.out.2.size;have hal:=((Below.refl wr.heap.size wr).al (.cells #[.int .i64 xr,.slice xA xn xc] 104)).al (.cells #[.int .i64 yr,.slice yA yn yc] 104);have HB8:=Lib.hid (HQ.out.2.via hal);have HPR:=Lib.hid HQ.out.1;have BX:=(Blk.new wr 104 #[.int .i64 xr,.slice xA xn xc]).al (.cells #[.int .i64 yr,.slice yA yn yc] 104);have BY:=Blk.newAt (wr.alloc (.cells #[.int .i64 xr,.slice xA xn xc] 104)) 104 #[.int .i64 yr,.slice yA yn yc] (wr.heap.size+1) (by simp);have JC:=Lib.hid (same2_c okA okB (xr,xA,xn,xc) x (yr,yA,yn,yc) y ((wr.alloc (.cells #[.int .i64 xr,.slice xA xn xc] 104)).alloc (.cells #[.int .i64 yr,.slice yA yn yc] 104)) (FpE.agr hxr (Agr.below (HB8.out))) (FpE.agr hyr (Agr.below (HB8.out))) (HBD.out _ (List.mem_of_getElem? hy)));clear hcx hcy hx hy hxr hyr hb1 hb2 hal HQ;go_upto_region 7 with fail;clear c0 d0 c1 d1 hb2w;generalize (wr.alloc (.cells #[.int .i64 xr,.slice xA xn xc] 104)).alloc (.cells #[.int .i64 yr,.slice yA yn yc] 104)=W8 at *;generalize wr.heap.size+1=by1 at *;generalize wr.heap.size=bx1 at *;have cBX:=BX.cell;have fBX:=BX.frozen;have lBX:=BX.lt;have cBY:=BY.cell;have fBY:=BY.frozen;have lBY:=BY.lt;go_wp2_with fail;refine JC.out.mono ?_;rintro e w9 ⟨b9,rfl,hb9,hbe⟩;clear cBX fBX lBX cBY fBY lBY;clear BX BY JC;have HB9:=Lib.hid (HB8.out.via hbe);have HV:=Lib.hid hb9;clear hb9 hbe;cases b9 with
    | true =>
     have hxy:=HV.out.1 rfl;go_wp2_with fail;exact ⟨⟨i+1,by go_num,by omega,Lib.hid ⟨HPR.out.next HX.out (by rw [hxy]; exact HY.out),HB9.out⟩⟩,by simp [intOf]; omega⟩
    | false =>
     go_wp2_with fail;go_ret;refine ⟨false,rfl,⟨fun h=>(by cases h),fun e=>?_⟩,HB9.out⟩;have e2:xs=ys:=(by simpa using e);subst e2;exact HV.out.2 (Option.some.inj (HX.out.symm.trans HY.out))
   ·obtain rfl:n=i:=(by omega);go_wp2_with fail;go_ret;exact ⟨true,rfl,⟨fun _=>by simpa using HQ.out.1.full HLN.out.1 HLN.out.2,fun _=>rfl⟩,HQ.out.2⟩
 ·have e0:((n:Int) != (m:Int))=true:=(by simp; omega);have HLN:=Lib.hid (And.intro hla hlb);have HNM:=Lib.hid hnm;clear ha hb hB hla hlb hnm;go_enter Tryz.func155,Tryz.ntmps155;go_wp2_with fail;go_ret;refine ⟨false,rfl,⟨fun h=>(by cases h),fun e=>?_⟩,Below.refl _ _⟩;have e2:xs=ys:=(by simpa using e);have h1:=HLN.out.1;have h2:=HLN.out.2;rw [e2] at h1;exact absurd (h1.symm.trans h2) HNM.out
set_option maxRecDepth 100000 in
set_option maxHeartbeats 4000000 in
theorem same1_c (okA okB:Nat→Prop) (r:KyI×SlV) (x:NdI) (s:KyI×SlV) (y:NdI) (w:World) (hx:NdE.rel okA w r x) (hy:NdE.rel okB w s y) (hn:y.2.length≤17592186044416∧∀ p∈y.2,p.2.length≤17592186044416) :
 Calls Tryz.prog 154 #[.agg #[.bool r.1.1,.int .i64 r.1.2.1,.int .i64 r.1.2.2.1,.int .i64 r.1.2.2.2,.slice r.2.1 r.2.2.1 r.2.2.2],.agg #[.bool s.1.1,.int .i64 s.1.2.1,.int .i64 s.1.2.2.1,.int .i64 s.1.2.2.2,.slice s.2.1 s.2.2.1 s.2.2.2]] w (SmP w (x=y)):=by
 obtain ⟨⟨xb,xm,xi,xj⟩,xA,xn,xc⟩:=r;obtain ⟨⟨yb,ym,yi,yj⟩,yA,yn,yc⟩:=s;obtain ⟨⟨xb',xm',xi',xj'⟩,xs⟩:=x;obtain ⟨⟨yb',ym',yi',yj'⟩,ys⟩:=y;obtain ⟨h1,h2⟩:=hx;obtain ⟨k1,k2⟩:=hy;simp only at h1 h2 k1 k2 hn;obtain ⟨rfl,rfl,rfl,rfl⟩:xb=xb'∧xm=xm'∧xi=xi'∧xj=xj':=(by simpa using h1);obtain ⟨rfl,rfl,rfl,rfl⟩:yb=yb'∧ym=ym'∧yi=yi'∧yj=yj':=(by simpa using k1);clear h1 k1;have hal:=((Below.refl w.heap.size w).al (.cells #[.bool xb,.int .i64 xm,.int .i64 xi,.int .i64 xj,.slice xA xn xc] 102)).al (.cells #[.bool yb,.int .i64 ym,.int .i64 yi,.int .i64 yj,.slice yA yn yc] 102);have B0:=(Blk.new w 102 #[.bool xb,.int .i64 xm,.int .i64 xi,.int .i64 xj,.slice xA xn xc]).al (.cells #[.bool yb,.int .i64 ym,.int .i64 yi,.int .i64 yj,.slice yA yn yc] 102);have B1:=Blk.newAt (w.alloc (.cells #[.bool xb,.int .i64 xm,.int .i64 xi,.int .i64 xj,.slice xA xn xc] 102)) 102 #[.bool yb,.int .i64 ym,.int .i64 yi,.int .i64 yj,.slice yA yn yc] (w.heap.size+1) (by simp);have HE:=Lib.hid (eqFp_c okA okB xA yA xn xc yn yc xs ys _ (h2.via hal) (k2.via hal) (by have:=k2.len; have:=hn.1; omega) hn.2);have HAL:=Lib.hid hal;clear h2 k2 hal hn;go_enter Tryz.func154,Tryz.ntmps154;go_upto_region 1 with fail;generalize (w.alloc (.cells #[.bool xb,.int .i64 xm,.int .i64 xi,.int .i64 xj,.slice xA xn xc] 102)).alloc (.cells #[.bool yb,.int .i64 ym,.int .i64 yi,.int .i64 yj,.slice yA yn yc] 102)=W at *
 by_cases hs:(xb,xm)=(yb,ym)
 ·obtain ⟨rfl,rfl⟩:xb=yb∧xm=ym:=(by simpa using hs);clear hs
  by_cases hf:xi=yi
  ·subst hf;have e1:(xi==xi)=true:=(by simp)
   by_cases ht:xj=yj
   ·subst ht;have e2:(xj==xj)=true:=(by simp);have cB0:=B0.cell;have fB0:=B0.frozen;have lB0:=B0.lt;have cB1:=B1.cell;have fB1:=B1.frozen;have lB1:=B1.lt;go_wp2_with fail;clear cB0 fB0 lB0 cB1 fB1 lB1;refine HE.out.mono ?_;rintro e w1 ⟨b,rfl,hP,hb⟩;have HB:=Lib.hid (HAL.out.via hb);have HV:=Lib.hid hP;clear hP hb;go_wp2_with fail;go_ret;refine ⟨b,rfl,?_,HB.out⟩;rw [HV.out]; simp
   ·have e2:(xj==yj)=false:=(by simpa using ht);have HNO:=Lib.hid (show (((xb,xm,xi,xj),xs):NdI)≠((xb,xm,xi,yj),ys) from fun e=>ht (congrArg (fun z:NdI=>z.1.2.2.2) e));have cB0:=B0.cell;have fB0:=B0.frozen;have lB0:=B0.lt;have cB1:=B1.cell;have fB1:=B1.frozen;have lB1:=B1.lt;go_wp2_with fail;go_ret;exact ⟨false,rfl,⟨fun h=>(by cases h),fun e=>absurd (by simpa using e) HNO.out⟩,HAL.out⟩
  ·have e1:(xi==yi)=false:=(by simpa using hf);have HNO:=Lib.hid (show (((xb,xm,xi,xj),xs):NdI)≠((xb,xm,yi,yj),ys) from fun e=>hf (congrArg (fun z:NdI=>z.1.2.2.1) e));have cB0:=B0.cell;have fB0:=B0.frozen;have lB0:=B0.lt;have cB1:=B1.cell;have fB1:=B1.frozen;have lB1:=B1.lt;go_wp2_with fail;go_ret;exact ⟨false,rfl,⟨fun h=>(by cases h),fun e=>absurd (by simpa using e) HNO.out⟩,HAL.out⟩
 ·have e1:=fun wx=>sym_eql xb yb xm ym wx
  simp only [hs,decide_false] at e1;have HNO:=Lib.hid (show (((xb,xm,xi,xj),xs):NdI)≠((yb,ym,yi,yj),ys) from fun e=>hs (congrArg (fun z:NdI=>(z.1.1,z.1.2.1)) e));have cB0:=B0.cell;have fB0:=B0.frozen;have lB0:=B0.lt;have cB1:=B1.cell;have fB1:=B1.frozen;have lB1:=B1.lt;go_wp2_with fail;go_ret;exact ⟨false,rfl,⟨fun h=>(by cases h),fun e=>absurd (by simpa using e) HNO.out⟩,HAL.out⟩
set_option maxRecDepth 100000 in
set_option maxHeartbeats 4000000 in
theorem eqNd_c (okA okB:Nat→Prop) (A B:Option Addr) (n c m d:Nat) (xs ys:List NdI) (w:World) (ha:Sl NdE okA w A n c xs) (hb:Sl NdE okB w B m d ys) (hn:m≤17592186044416) (hB:∀ y∈ys,y.2.length≤17592186044416∧∀ p∈y.2,p.2.length≤17592186044416) :
 Calls Tryz.prog 153 #[.slice A n c,.slice B m d,.func (.func 154) #[] #[]] w (SmP w (xs=ys)):=by
 have hla:=ha.len;have hlb:=hb.len
 by_cases hnm:n=m
 ·subst hnm;have e0:((n:Int) != (n:Int))=false:=(by simp);have HA:=Lib.hid ha;have HB:=Lib.hid hb;have HBD:=Lib.hid hB;have HLN:=Lib.hid (And.intro hla hlb);clear ha hb hB hla hlb;go_enter Tryz.func153,Tryz.ntmps153;go_wp2_with fail
  go_loopw [17] (fun q wr=>∃ i:Nat,q=.int .i64 (i:Int)∧i≤n∧Hid (PreE xs ys i∧Below w.heap.size w wr)) (fun q _=>n - (intOf q).toNat)
  case atStart=>exact ⟨0,rfl,Nat.zero_le _,Lib.hid ⟨PreE.zero _ _,Below.refl _ _⟩⟩
  case round =>
   obtain ⟨i,rfl,hi,HQ⟩:=hrel
   by_cases hin:i < n
   ·obtain ⟨b1,o1,⟨⟨xb,xm,xi,xj⟩,xA,xn,xc⟩,x,hAa,-,hb1,hx,hxr,hcx⟩:=HA.out.at_ hin;obtain ⟨b2,o2,⟨⟨yb,ym,yi,yj⟩,yA,yn,yc⟩,y,hAb,-,hb2,hy,hyr,hcy⟩:=HB.out.at_ hin;subst hAa hAb;have c0:=(HQ.out.2.cell (p:=⟨b1,o1+i*NdE.k+0,none⟩) hb1).trans (hcx 0 _ rfl);have c1:=(HQ.out.2.cell (p:=⟨b1,o1+i*NdE.k+1,none⟩) hb1).trans (hcx 1 _ rfl);have c2:=(HQ.out.2.cell (p:=⟨b1,o1+i*NdE.k+2,none⟩) hb1).trans (hcx 2 _ rfl);have c3:=(HQ.out.2.cell (p:=⟨b1,o1+i*NdE.k+3,none⟩) hb1).trans (hcx 3 _ rfl);have c4:=(HQ.out.2.cell (p:=⟨b1,o1+i*NdE.k+4,none⟩) hb1).trans (hcx 4 _ rfl);have d0:=(HQ.out.2.cell (p:=⟨b2,o2+i*NdE.k+0,none⟩) hb2).trans (hcy 0 _ rfl);have d1:=(HQ.out.2.cell (p:=⟨b2,o2+i*NdE.k+1,none⟩) hb2).trans (hcy 1 _ rfl);have d2:=(HQ.out.2.cell (p:=⟨b2,o2+i*NdE.k+2,none⟩) hb2).trans (hcy 2 _ rfl);have d3:=(HQ.out.2.cell (p:=⟨b2,o2+i*NdE.k+3,none⟩) hb2).trans (hcy 3 _ rfl);have d4:=(HQ.out.2.cell (p:=⟨b2,o2+i*NdE.k+4,none⟩) hb2).trans (hcy 4 _ rfl);simp only [NdE,Nat.add_zero] at c0 d0 c1 d1 c2 d2 c3 d3 c4 d4;have i0:(0:Int)≤(i:Int):=(by omega);have i1:(i:Int) < (n:Int):=(by omega);have HX:=Lib.hid hx;have HY:=Lib.hid hy;have hb2w:b2 < wr.heap.size:=Nat.lt_of_lt_of_le hb2 HQ.out.2.size;have hal:=((Below.refl wr.heap.size wr).al (.cells #[.bool xb,.int .i64 xm,.int .i64 xi,.int .i64 xj,.slice xA xn xc] 102)).al (.cells #[.bool yb,.int .i64 ym,.int .i64 yi,.int .i64 yj,.slice yA yn yc] 102);have HB8:=Lib.hid (HQ.out.2.via hal);have HPR:=Lib.hid HQ.out.1;have BX:=(Blk.new wr 102 #[.bool xb,.int .i64 xm,.int .i64 xi,.int .i64 xj,.slice xA xn xc]).al (.cells #[.bool yb,.int .i64 ym,.int .i64 yi,.int .i64 yj,.slice yA yn yc] 102);have BY:=Blk.newAt (wr.alloc (.cells #[.bool xb,.int .i64 xm,.int .i64 xi,.int .i64 xj,.slice xA xn xc] 102)) 102 #[.bool yb,.int .i64 ym,.int .i64 yi,.int .i64 yj,.slice yA yn yc] (wr.heap.size+1) (by simp);have JC:=Lib.hid (same1_c okA okB ((xb,xm,xi,xj),xA,xn,xc) x ((yb,ym,yi,yj),yA,yn,yc) y ((wr.alloc (.cells #[.bool xb,.int .i64 xm,.int .i64 xi,.int .i64 xj,.slice xA xn xc] 102)).alloc (.cells #[.bool yb,.int .i64 ym,.int .i64 yi,.int .i64 yj,.slice yA yn yc] 102)) (NdE.agr hxr (Agr.below (HB8.out))) (NdE.agr hyr (Agr.below (HB8.out))) (HBD.out _ (List.mem_of_getElem? hy)));clear hcx hcy hx hy hxr hyr hb1 hb2 hal HQ;go_upto_region 7 with fail;clear c0 d0 c1 d1 c2 d2 c3 d3 c4 d4 hb2w;generalize (wr.alloc (.cells #[.bool xb,.int .i64 xm,.int .i64 xi,.int .i64 xj,.slice xA xn xc] 102)).alloc (.cells #[.bool yb,.int .i64 ym,.int .i64 yi,.int .i64 yj,.slice yA yn yc] 102)=W8 at *;generalize wr.heap.size+1=by1 at *;generalize wr.heap.size=bx1 at *;have cBX:=BX.cell;have fBX:=BX.frozen;have lBX:=BX.lt;have cBY:=BY.cell;have fBY:=BY.frozen;have lBY:=BY.lt;go_wp2_with fail;refine JC.out.mono ?_;rintro e w9 ⟨b9,rfl,hb9,hbe⟩;clear cBX fBX lBX cBY fBY lBY;clear BX BY JC;have HB9:=Lib.hid (HB8.out.via hbe);have HV:=Lib.hid hb9;clear hb9 hbe;cases b9 with
    | true =>
     have hxy:=HV.out.1 rfl;go_wp2_with fail;exact ⟨⟨i+1,by go_num,by omega,Lib.hid ⟨HPR.out.next HX.out (by rw [hxy]; exact HY.out),HB9.out⟩⟩,by simp [intOf]; omega⟩
    | false =>
     go_wp2_with fail;go_ret;refine ⟨false,rfl,⟨fun h=>(by cases h),fun e=>?_⟩,HB9.out⟩;have e2:xs=ys:=(by simpa using e);subst e2;exact HV.out.2 (Option.some.inj (HX.out.symm.trans HY.out))
   ·obtain rfl:n=i:=(by omega);go_wp2_with fail;go_ret;exact ⟨true,rfl,⟨fun _=>by simpa using HQ.out.1.full HLN.out.1 HLN.out.2,fun _=>rfl⟩,HQ.out.2⟩
 ·have e0:((n:Int) != (m:Int))=true:=(by simp; omega);have HLN:=Lib.hid (And.intro hla hlb);have HNM:=Lib.hid hnm;clear ha hb hB hla hlb hnm;go_enter Tryz.func153,Tryz.ntmps153;go_wp2_with fail;go_ret;refine ⟨false,rfl,⟨fun h=>(by cases h),fun e=>?_⟩,Below.refl _ _⟩;have e2:xs=ys:=(by simpa using e);have h1:=HLN.out.1;have h2:=HLN.out.2;rw [e2] at h1;exact absurd (h1.symm.trans h2) HNM.out
set_option maxRecDepth 100000 in
theorem fsame_c (okA okB:Nat→Prop) (Aa Ab:Option Addr) (na ca nb cb:Nat) (ra rb:Int) (fa fb:List NdI) (w:World) (ha:Sl NdE okA w Aa na ca fa) (hb:Sl NdE okB w Ab nb cb fb) (hB:FoB fb) :
 Calls Tryz.prog 125 #[.agg #[.slice Aa na ca,.int .i64 ra],.agg #[.slice Ab nb cb,.int .i64 rb]] w (SmP w (ra=rb∧fa=fb)):=by
 have hal:=((Below.refl w.heap.size w).al (.cells #[.slice Aa na ca,.int .i64 ra] 45)).al (.cells #[.slice Ab nb cb,.int .i64 rb] 45);have B0:=(Blk.new w 45 #[.slice Aa na ca,.int .i64 ra]).al (.cells #[.slice Ab nb cb,.int .i64 rb] 45);have B1:=Blk.newAt (w.alloc (.cells #[.slice Aa na ca,.int .i64 ra] 45)) 45 #[.slice Ab nb cb,.int .i64 rb] (w.heap.size+1) (by simp);have HE:=Lib.hid (eqNd_c okA okB Aa Ab na ca nb cb fa fb _ (ha.via hal) (hb.via hal) (by have:=hb.len; have:=hB.1; omega) hB.2);have HAL:=Lib.hid hal;clear ha hb hal hB;go_enter Tryz.func125,Tryz.ntmps125;go_upto_region 1 with fail;generalize (w.alloc (.cells #[.slice Aa na ca,.int .i64 ra] 45)).alloc (.cells #[.slice Ab nb cb,.int .i64 rb] 45)=W at *
 by_cases hr:ra=rb
 ·subst hr;have e1:(ra==ra)=true:=(by simp);have cB0:=B0.cell;have fB0:=B0.frozen;have lB0:=B0.lt;have cB1:=B1.cell;have fB1:=B1.frozen;have lB1:=B1.lt;go_wp2_with fail;clear cB0 fB0 lB0 cB1 fB1 lB1;refine HE.out.mono ?_;rintro e w1 ⟨b,rfl,hP,hb⟩;have HB:=Lib.hid (HAL.out.via hb);have HV:=Lib.hid hP;clear hP hb;go_wp2_with fail;go_ret;refine ⟨b,rfl,?_,HB.out⟩;rw [HV.out]; simp
 ·have e1:(ra==rb)=false:=(by simpa using hr);have cB0:=B0.cell;have fB0:=B0.frozen;have lB0:=B0.lt;have cB1:=B1.cell;have fB1:=B1.frozen;have lB1:=B1.lt;go_wp2_with fail;go_ret;exact ⟨false,rfl,⟨fun h=>(by cases h),fun e=>absurd e.1 hr⟩,HAL.out⟩
end Go.Proofs.YtfcihnpmeabacaaGreatDoor
namespace Go.Proofs.YtfcihnpmeabacaaGreatDoor
open Go.RowKit
set_option maxRecDepth 100000 in
theorem of_e (ok:Nat→Prop) (T N S:Int) (A:Option Addr) (n c:Nat) (rs:List Ri) (wA:Option Addr) (wn wc:Nat) (xs:List Int) (w:World) (hl:Sl RiE ok w A n c rs) (hx:Ints w wA wn wc xs) (q:Int) (hq:chkB T N S rs xs=q) (hbad:q≠0) :
 Calls Tryz.prog 54 #[.agg #[.int .i64 T,.int .i64 N,.int .i64 S,.slice A n c],.slice wA wn wc] w fun e w'=>e=.returned (.tuple #[.agg #[.slice none 0 0,.int .i64 0],.int .i64 q])∧Below w.heap.size w w':=by
 have hal:=((Below.refl w.heap.size w).al (.cells #[.int .i64 T,.int .i64 N,.int .i64 S,.slice A n c] 24)).al (.cells #[.slice none 0 0,.int .i64 0] 45);have B0:=(Blk.new w 24 #[.int .i64 T,.int .i64 N,.int .i64 S,.slice A n c]).al (.cells #[.slice none 0 0,.int .i64 0] 45);have B1:=Blk.newAt (w.alloc (.cells #[.int .i64 T,.int .i64 N,.int .i64 S,.slice A n c] 24)) 45 #[.slice none 0 0,.int .i64 0] (w.heap.size+1) (by simp);have HC:=Lib.hid (accepts_e ok T N S A n c rs wA wn wc xs _ (hl.via hal) (hx.keep hal (Nat.le_refl _)) q hq hbad);have HAL:=Lib.hid hal;have HB1:=Lib.hid B1;clear hl hx hq hal;go_enter Tryz.func54,Tryz.ntmps54;have cB0:=B0.cell;have fB0:=B0.frozen;have lB0:=B0.lt;go_wp2_with fail;clear cB0 fB0 lB0;clear B0 B1;generalize (w.alloc (.cells #[.int .i64 T,.int .i64 N,.int .i64 S,.slice A n c] 24)).alloc (.cells #[.slice none 0 0,.int .i64 0] 45)=W at *;refine HC.out.mono ?_;clear HC;rintro e w1 ⟨rfl,hb⟩;have HB:=Lib.hid (HAL.out.via hb);have B2:=HB1.out.via hb;have HB2:=Lib.hid B2;clear hb HB1 HAL;have cB2:=B2.cell;have fB2:=B2.frozen;have lB2:=B2.lt;go_wp2_with fail;have B3:=(HB2.out.set_ 0 (.slice none 0 0)).set_ 1 (.int .i64 0);simp only [List.setIfInBounds_toArray,List.set_cons_zero,List.set_cons_succ] at B3;have cc2:=B3.cell;refine bodyPost_ret (v:=.tuple #[.agg #[.slice none 0 0,.int .i64 0],.int .i64 q]) (by simp [results,Tryz.results54,go_sem,cc2]) rfl ⟨rfl,?_⟩;exact (HB.out.setCell (p:=⟨w.heap.size+1,0,none⟩) (by show w.heap.size≤w.heap.size+1; omega) _).setCell (p:=⟨w.heap.size+1,1,none⟩) (by show w.heap.size≤w.heap.size+1; omega) _
set_option maxRecDepth 100000 in
set_option maxHeartbeats 4000000 in
theorem of_c (ok:Nat→Prop) (g:Gr) (Ag:Option Addr) (ng cg:Nat) (A:Option Addr) (n c:Nat) (xs:List Int) (w:World) (hg:GrOk g) (hl:Sl RuE ok w Ag ng cg g.rules) (hx:Ints w A n c xs) (hn:n≤12) (hxt:∀ x∈xs,0≤x∧x < (g.terms:Int)) (hT:TabW w) :
 Calls Tryz.prog 54 #[grVal g Ag ng cg,.slice A n c] w (FoP w (dvD g.rules xs) g.rules ((false,g.start),0,n)):=by
 have hxl:=hx.len;have hal:=((Below.refl w.heap.size w).al (.cells #[.int .i64 (g.terms:Int),.int .i64 (g.nons:Int),.int .i64 (g.start:Int),.slice Ag ng cg] 24)).al (.cells #[.slice none 0 0,.int .i64 0] 45);have B0:=(Blk.new w 24 #[.int .i64 (g.terms:Int),.int .i64 (g.nons:Int),.int .i64 (g.start:Int),.slice Ag ng cg]).al (.cells #[.slice none 0 0,.int .i64 0] 45);have B1:=Blk.newAt (w.alloc (.cells #[.int .i64 (g.terms:Int),.int .i64 (g.nons:Int),.int .i64 (g.start:Int),.slice Ag ng cg] 24)) 45 #[.slice none 0 0,.int .i64 0] (w.heap.size+1) (by simp);have HC:=Lib.hid (accepts_c ok g Ag ng cg A n c xs _ hg (hl.via hal) (hx.keep hal (Nat.le_refl _)) hn hxt (hT.via hal));have HL:=Lib.hid (hl.via hal);have HX:=Lib.hid (hx.keep hal (Nat.le_refl _));have HT:=Lib.hid (hT.via hal);have HG:=Lib.hid hg;have HAL:=Lib.hid hal;have HB1:=Lib.hid B1;have HB0:=Lib.hid B0;have HXL:=Lib.hid hxl;have HXT:=Lib.hid hxt;clear hl hx hT hg hal hxl hxt;simp only [grVal] at HC ⊢;go_enter Tryz.func54,Tryz.ntmps54;have cB0:=B0.cell;have fB0:=B0.frozen;have lB0:=B0.lt;go_wp2_with fail;clear cB0 fB0 lB0;clear B0 B1;have HSW:=Lib.hid (show ((w.alloc (.cells #[.int .i64 (g.terms:Int),.int .i64 (g.nons:Int),.int .i64 (g.start:Int),.slice Ag ng cg] 24)).alloc (.cells #[.slice none 0 0,.int .i64 0] 45)).heap.size=w.heap.size+2 by simp);generalize (w.alloc (.cells #[.int .i64 (g.terms:Int),.int .i64 (g.nons:Int),.int .i64 (g.start:Int),.slice Ag ng cg] 24)).alloc (.cells #[.slice none 0 0,.int .i64 0] 45)=W at *;refine HC.out.mono ?_;clear HC;rintro e w1 ⟨b,rfl,-,hb⟩;have HB:=Lib.hid hb;have B0:=HB0.out.via hb;have SOF:=Lib.hid (show ∀ w',Below W.heap.size W w'→∀ i,w'.cell? ⟨w.heap.size,i,none⟩=#[.int .i64 (g.terms:Int),.int .i64 (g.nons:Int),.int .i64 (g.start:Int),.slice Ag ng cg][i]? from fun w' h=>(HB0.out.via h).cell)
 have SO3:=Lib.hid (show ∀ w' u v,Below W.heap.size W w'→∀ i,((w'.setCell ⟨w.heap.size+1,0,none⟩ u).setCell ⟨w.heap.size+1,1,none⟩ v).cell? ⟨w.heap.size,i,none⟩=#[.int .i64 (g.terms:Int),.int .i64 (g.nons:Int),.int .i64 (g.start:Int),.slice Ag ng cg][i]? from fun w' u v h =>
  (((HB0.out.via h).far (p:=⟨w.heap.size+1,0,none⟩) (by show w.heap.size≠w.heap.size+1; omega) u).far (p:=⟨w.heap.size+1,1,none⟩) (by show w.heap.size≠w.heap.size+1; omega) v).cell)
 have JE:=Lib.hid (show ∀ w',Below W.heap.size W w'→Calls Tryz.prog 62 #[.agg #[.int .i64 (g.terms:Int),.int .i64 (g.nons:Int),.int .i64 (g.start:Int),.slice Ag ng cg],.slice A n c] w' (EndsP w' g xs) from fun w' h=>ends_c ok g Ag ng cg A n c xs w' HG.out (HL.out.via h) (HX.out.keep h (Nat.le_refl _)) hn (HT.out.via h))
 have JM:=Lib.hid (show ∀ w' ob rb E,Below W.heap.size W w'→EnR w' ob g.nons xs.length rb E→SndE g.rules xs E→FixE g.rules xs E→Calls Tryz.prog 84 #[.agg #[.int .i64 (g.terms:Int),.int .i64 (g.nons:Int),.int .i64 (g.start:Int),.slice Ag ng cg],.slice A n c,.slice (some ⟨ob,0,none⟩) g.nons g.nons] w' (FoP w' (dvD g.rules xs) g.rules ((false,g.start),0,n)) from fun w' ob rb E h hE hs hf=>by
  have h1:=fmake2_c ok g Ag ng cg A n c ob 0 g.nons rb (fun _=>0) (fun _=>n+1) xs E w' HG.out.ok (HL.out.via h) (HX.out.keep h (Nat.le_refl _)) (by rw [← HXL.out]; exact hE.view) (HT.out.via h) (by rw [← HXL.out]; exact hs.sup) hn;rw [dOf_dv hs hf (by have:=HXL.out; omega)] at h1
  exact h1)
 have hbd:=hb.drew;clear hb;go_upto_region 4 with fail;clear B0
 go_region_held3 (fun w'=>∀ i,w'.cell? ⟨w.heap.size,i,none⟩=#[.int .i64 (g.terms:Int),.int .i64 (g.nons:Int),.int .i64 (g.start:Int),.slice Ag ng cg][i]?) (first | exact SOF.out _ (by assumption) | exact SO3.out _ _ _ (by assumption)) (first
  | (go_at_call 62; (with_reducible refine (JE.out _ (by assumption)).mono ?_); rintro ee wk ⟨ob,rb,E,rfl,hE,hsE,hfE,hbk⟩; have hbm:Below W.heap.size W wk:=Below.via (by assumption) hbk)
  | (go_at_call 84; (with_reducible refine (JM.out _ _ _ _ (by assumption) (by assumption) (by assumption) (by assumption)).mono ?_); rintro ee wl ⟨f,v,bb,rfl,hf,⟨fA,fn,fc,rfl,hS⟩,hbl⟩; obtain ⟨q,hq⟩:∃ q:Int,q=if bb then 0 else 2:=⟨_,rfl⟩; rw [← hq]; have HQ:=Lib.hid hq; clear hq; have hbn:Below W.heap.size W wl:=Below.via hbm hbl; have B8:=HB1.out.via hbn; have cB8:=B8.cell; have fB8:=B8.frozen; have lB8:=B8.lt))
 have B3:=(B8.set_ 0 (.slice fA fn fc)).set_ 1 (.int .i64 f.1);simp only [List.setIfInBounds_toArray,List.set_cons_zero,List.set_cons_succ] at B3;have cc2:=B3.cell;have hsw:=HSW.out;have hsz:=hbm.size;go_wp2_with fail;refine bodyPost_ret (v:=.tuple #[.agg #[.slice fA fn fc,.int .i64 f.1],.int .i64 q]) (by simp [results,Tryz.results54,go_sem,cc2]) rfl ⟨f,_,bb,by rw [HQ.out],hf,⟨fA,fn,fc,rfl,?_⟩,?_⟩
 ·have h2:=(hS.agr (Agr.setCell (p:=⟨w.heap.size+1,0,none⟩) (.slice fA fn fc) fun b hb=>by show b≠w.heap.size+1; omega)).agr (Agr.setCell (p:=⟨w.heap.size+1,1,none⟩) (.int .i64 f.1) fun b hb=>by show b≠w.heap.size+1; omega);exact h2.mono fun b _ hb=>by omega
 ·exact ((HAL.out.via hbn).setCell (p:=⟨w.heap.size+1,0,none⟩) (by show w.heap.size≤w.heap.size+1; omega) _).setCell (p:=⟨w.heap.size+1,1,none⟩) (by show w.heap.size≤w.heap.size+1; omega) _
end Go.Proofs.YtfcihnpmeabacaaGreatDoor
namespace Go.Proofs.YtfcihnpmeabacaaGreatDoor
open Go.RowKit
structure WsM (w0:World) (R:List Ru) (D:Ky→Bool) (b2 bw:Nat) (Sk:List Ky) (v:Value) (M:List Ky) (F:Ky→Option Value) (wr:World):Prop where
 bel:Below w0.heap.size w0 wr
 fb:Blk wr b2 45 #[.slice none 0 0,.int .i64 0]
 own:Own KyE 71 (fun _=>False) wr w0.heap.size v Sk.length Sk
 pk:MapK Tryz.prog 71 kyVal wr bw F
 fok:∀ k,F k≠none↔k∈M
 rows:∀ k V,F k=some V→∃ A c,V=.slice A (packsF D R k).length c∧Sl PkE (fun b=>w0.heap.size≤b∧b≠b2∧b≠bw∧some b≠v.ownBlock) wr A (packsF D R k).length c (packsF D R k)
 ge:w0.heap.size≤bw∧w0.heap.size≤b2
 ne:b2≠bw
 nr:some b2≠v.ownBlock∧some bw≠v.ownBlock
section
variable {w0 wr wr':World} {R:List Ru} {D:Ky→Bool} {b2 bw:Nat} {Sk M:List Ky} {v:Value} {F:Ky→Option Value}
theorem WsM.size (h:WsM w0 R D b2 bw Sk v M F wr):w0.heap.size≤wr.heap.size:=h.bel.size
theorem WsM.via (h:WsM w0 R D b2 bw Sk v M F wr) (hb:Below wr.heap.size wr wr'):WsM w0 R D b2 bw Sk v M F wr' :=
 ⟨h.bel.via hb,h.fb.via hb,h.own.via hb,h.pk.via hb,h.fok,fun k V hV=>by
  obtain ⟨A,c,h1,h2⟩:=h.rows k V hV
  exact ⟨A,c,h1,h2.via hb⟩,h.ge,h.ne,h.nr⟩
theorem WsM.pop {A:Option Addr} {n c:Nat} {x:Ky} (h:WsM w0 R D b2 bw (Sk++[x]) (.slice A (n+1) c) M F wr) (hn:Sk.length=n):WsM w0 R D b2 bw Sk (.slice A n c) M F wr:=by
 subst hn;have hob:(Value.slice A Sk.length c).ownBlock=(Value.slice A (Sk.length+1) c).ownBlock:=(by cases A <;> rfl);refine ⟨h.bel,h.fb,?_,h.pk,h.fok,?_,h.ge,h.ne,?_⟩
 ·have:=h.own;simp only [List.length_append,List.length_singleton] at this;exact this.pop
 ·rw [hob]; exact h.rows
 ·rw [hob]; exact h.nr
theorem WsM.push {v':Value} {ks:List Ky} (h:WsM w0 R D b2 bw Sk v M F wr) (ho:Own KyE 71 (fun _=>False) wr' w0.heap.size v' (Sk.length+ks.length) (Sk++ks)) (hg:wr.grownBy wr' v.ownBlock) (hat:v'.ownBlock=v.ownBlock∨v'.ownBlock=some wr.heap.size):WsM w0 R D b2 bw (Sk++ks) v' M F wr':=by
 have hn:∀ b,b < wr.heap.size→some b≠v.ownBlock→some b≠v'.ownBlock:=fun b hb h1 h2=>by
  rcases hat with e | e
  ·exact h1 (h2.trans e)
  ·rw [e] at h2; have:=Option.some.inj h2; omega
 refine ⟨h.bel.grown hg h.size (fun b e=>(h.own.lt b e).1),h.fb.grown hg h.nr.1,by simpa using ho,h.pk.grown hg h.nr.2,h.fok,fun k V hV=>?_,h.ge,h.ne,hn _ h.fb.lt h.nr.1,hn _ h.pk.lt h.nr.2⟩;obtain ⟨A,c,h1,h2⟩:=h.rows k V hV;refine ⟨A,c,h1,?_⟩;have h3:=h2.mono (ok':=fun b=>(w0.heap.size≤b∧b≠b2∧b≠bw∧some b≠v.ownBlock)∧b < wr.heap.size) fun b hb hk=>⟨hk,hb⟩
 exact (h3.agr (Agr.grown hg fun b hb=>hb.1.2.2.2)).mono fun b _ hk=>⟨hk.1.1,hk.1.2.1,hk.1.2.2.1,hn b hk.2 hk.1.2.2.2⟩
theorem WsM.putp {k0:Ky} {A0:Option Addr} {c0:Nat} (h:WsM w0 R D b2 bw Sk v M F wr) (hr:Sl PkE (fun b=>w0.heap.size≤b∧b≠b2∧b≠bw∧some b≠v.ownBlock) wr A0 (packsF D R k0).length c0 (packsF D R k0)) (hp:MapK Tryz.prog 71 kyVal wr' bw (fun k=>if k=k0 then some (.slice A0 (packsF D R k0).length c0) else F k)) (hg:wr.grownBy wr' (some bw)) :
 WsM w0 R D b2 bw Sk v (M++[k0]) (fun k=>if k=k0 then some (.slice A0 (packsF D R k0).length c0) else F k) wr':=by
 have hne:∀ b,b≠bw→some b≠some bw:=fun b hb e=>hb (Option.some.inj e)
 refine ⟨h.bel.grown hg h.size (fun b e=>by have:=Option.some.inj e; have:=h.ge.1; omega),h.fb.grown hg (hne _ h.ne),h.own.agr (Agr.grown hg fun b hb=>?_),hp,fun k=>?_,fun k V hV=>?_,h.ge,h.ne,h.nr⟩
 ·rcases hb with hb | hb
  ·exact hb.elim
  ·rw [hb]; exact fun e=>h.nr.2 e.symm
 ·by_cases e:k=k0
  ·subst e; simp
  ·simp only [List.mem_append,List.mem_singleton,e,or_false,if_false]; exact h.fok k
 ·by_cases e:k=k0
  ·subst e;rw [if_pos rfl] at hV;exact ⟨A0,c0,(Option.some.inj hV).symm,hr.agr (Agr.grown hg fun b hb=>hne _ hb.2.2.1)⟩
  ·rw [if_neg e] at hV;obtain ⟨A,c,h1,h2⟩:=h.rows k V hV;exact ⟨A,c,h1,h2.agr (Agr.grown hg fun b hb=>hne _ hb.2.2.1)⟩
end
end Go.Proofs.YtfcihnpmeabacaaGreatDoor
