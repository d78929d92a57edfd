/- Texts WC, laid together. -/
import Derived.Test.YtfcihnpmeabacaaGreatDoorY34
namespace Go.Proofs.YtfcihnpmeabacaaGreatDoor
open Go.RowKit
theorem nd_injK {L:List Ky} (hn:L.Nodup) {i j:Nat} {k:Ky} (h1:L[i]?=some k) (h2:L[j]?=some k):i=j :=
 (List.getElem?_inj (List.getElem?_eq_some_iff.1 h1).1 hn).1 (h1.trans h2.symm)
theorem map_setK {L:List Ky} (hn:L.Nodup) {i:Nat} {k:Ky} (hk:L[i]?=some k) (N:Ky→Int) (x:Int):(L.map N).set i x=L.map fun q=>if q=k then x else N q:=by
 apply List.ext_getElem?
 intro j
 by_cases hj:j=i
 ·subst hj;have hl:=(List.getElem?_eq_some_iff.1 hk).1;rw [List.getElem?_set_self (by simpa using hl),List.getElem?_map,hk]; simp
 ·rw [List.getElem?_set_ne (by omega),List.getElem?_map,List.getElem?_map];cases hq:L[j]? with
  | none=>rfl
  | some q =>
   have hne:q≠k:=fun e=>hj (nd_injK hn (by rw [hq,e]) hk)
   simp [hne]
def TrmP (L:List Ky) (N:Ky→Int):Prop:=∀ k∈L,k.1.1=true→0 < N k
def lftK (L:List Ky) (i:Nat) (k:Ky):Bool:=decide (k∈L∧i≤idxK L k)
theorem lft_step {L:List Ky} {i:Nat} {k:Ky} (hk:L[i]?=some k):∀ q,lftK L (i+1) q=false→lftK L i q=false∨q=k:=by
 intro q hq;unfold lftK at hq ⊢;rw [decide_eq_false_iff_not] at hq
 by_cases hqL:q∈L
 ·by_cases hi:i≤idxK L q
  ·right
   have hi2:idxK L q=i:=by
    by_cases h:i+1≤idxK L q
    ·exact absurd ⟨hqL,h⟩ hq
    ·omega
   have:=idxK_get hqL;rw [hi2,hk] at this;exact (Option.some.inj this).symm
  ·left; rw [decide_eq_false_iff_not]; exact fun h=>hi h.2
 ·left; rw [decide_eq_false_iff_not]; exact fun h=>hqL h.1
theorem lft_done (L:List Ky):∀ q,lftK L L.length q=false:=fun q=>by
 unfold lftK; rw [decide_eq_false_iff_not]; intro h;have:=idxK_lt h.1; omega
theorem lft_zero (L:List Ky):∀ q∈L,lftK L 0 q=true:=fun q h=>by unfold lftK; rw [decide_eq_true_eq]; exact ⟨h,Nat.zero_le _⟩
theorem idx_at {L:List Ky} (hn:L.Nodup) {i:Nat} {k:Ky} (hk:L[i]?=some k):idxK L k=i:=by
 have h1:=idxK_get (List.mem_of_getElem? hk);exact nd_injK hn h1 hk
def TofP (w:World) (P:Ky→List (Nat×List Ky)) (D:Ky→Bool) (root:Ky) (e:Ending) (w':World):Prop:=∃ q,e=.returned (.int .i64 q)∧CofQ P D root q∧Below w.heap.size w w'
set_option maxRecDepth 100000 in
set_option maxHeartbeats 8000000 in
theorem treesof_c (ok:Nat→Prop) (D:Ky→Bool) (R:List Ru) (root:Ky) (L:List Ky) (A:Option Addr) (n c:Nat) (w:World) (hroot:D root=true) (hL:IsNds D R root L) (hll:L.length≤3400) (hpk:∀ k∈L,k.1.1=false→packsF D R k≠[]) (hpl:∀ k∈L,(packsF D R k).length≤913952∧∀ p∈packsF D R k,p.2.length≤4) (hf:Sl NdE ok w A n c (foI D R L root).2) :
 Calls Tryz.prog 22 #[.agg #[.slice A n c,.int .i64 (foI D R L root).1]] w (TofP w (packsF D R) D root):=by
 obtain ⟨Q,hQ⟩:∃ Q,Q=TofP w (packsF D R) D root:=⟨_,rfl⟩;rw [← hQ];have HQQ:=Lib.hid hQ;have hrL:root∈L:=(hL.mem _).2 .root;have hlen:n=L.length:=(by rw [← hf.len]; simp [foI]);have HLE:=Lib.hid hlen;have hn34:n≤3400:=(by omega);obtain ⟨ri,hri⟩:∃ ri,ri=idxK L root:=⟨_,rfl⟩;have hri2:(foI D R L root).1=(ri:Int):=(by rw [hri]; rfl);rw [hri2];have hrn:ri < n:=(by rw [hri,hlen]; exact idxK_lt hrL);have HRI:=Lib.hid (show L[ri]?=some root by rw [hri]; exact idxK_get hrL);have HND:=Lib.hid hL.nodup;have HCL:=Lib.hid (show ∀ k∈L,∀ p∈packsF D R k,∀ q∈p.2,q∈L from fun k hk p hp q hq=>hL.kid hk hp hq);have HPK:=Lib.hid hpk;have HPL:=Lib.hid hpl;have HRD:=Lib.hid (And.intro hroot hrL);have hal:=(Below.refl w.heap.size w).al (.cells #[.slice A n c,.int .i64 (ri:Int)] 45);have HF:=Lib.hid (hf.via hal);have HAL:=Lib.hid hal;have BF:=Blk.new w 45 #[.slice A n c,.int .i64 (ri:Int)];clear hQ hrL hlen hri hri2 hL hpk hpl hroot hf hal hll;have hmk:=mk_cnt n (by omega);have ri0:(0:Int)≤(ri:Int):=(by omega);have ri1:¬ (ri:Int) < 0:=(by omega);have ri2:(ri:Int) < (n:Int):=(by omega);go_enter Tryz.func22,Tryz.ntmps22;have cBF:=BF.cell;have fBF:=BF.frozen;have lBF:=BF.lt;go_upto_region 4 with fail;clear cBF fBF lBF;clear hmk;have hsz:(w.alloc (.cells #[.slice A n c,.int .i64 (ri:Int)] 45)).heap.size=w.heap.size+1:=(by simp);generalize w.alloc (.cells #[.slice A n c,.int .i64 (ri:Int)] 45)=W at *;have HBF:=Lib.hid BF;have BN:=Blk.new W 3 (Array.replicate n (Value.int .i64 0));have hal2:=(Below.refl W.heap.size W).al (.cells (Array.replicate n (Value.int .i64 0)) 3);have HB1:=Lib.hid hal2;obtain ⟨bN,hbN⟩:∃ bN,bN=W.heap.size:=⟨_,rfl⟩;rw [← hbN] at BN;rw [← hsz,← hbN];have HBNE:=Lib.hid hbN;have HBN:=Lib.hid BN;have HFB:=Lib.hid (show w.heap.size < W.heap.size from HBF.out.lt);have BF1:=HBF.out.via hal2
 have hbn0:Array.replicate n (Value.int .i64 0)=(((L.map fun _=>(0:Int)).map (Value.int .i64)).toArray):=by
  rw [HLE.out]; simp [List.map_const']
 have HBN1:=Lib.hid (show Blk (W.alloc (.cells (Array.replicate n (Value.int .i64 0)) 3)) bN 3 (((L.map fun _=>(0:Int)).map (Value.int .i64)).toArray) by rw [← hbn0]; exact BN);clear BN hbN hal2 hbn0 HBN hsz;generalize W.alloc (.cells (Array.replicate n (Value.int .i64 0)) 3)=W1 at *;have cBF1:=BF1.cell;have fBF1:=BF1.frozen;have lBF1:=BF1.lt;go_wp2_with fail;clear cBF1 fBF1 lBF1;clear BF1 BF;obtain ⟨P,hP⟩:∃ P,P=packsF D R:=⟨_,rfl⟩;rw [← hP] at HQQ HCL HPK HPL;have HPP:=Lib.hid hP;have HTM:=Lib.hid (show ∀ k:Ky,k.1.1=true→P k=[] from fun k hk=>by rw [hP]; exact term_packs hk);clear hP
 go_loopw [24] (fun q wr=>∃ (i:Nat) (N:Ky→Int),q=.int .i64 (i:Int)∧i≤n∧Hid (Below W.heap.size W wr∧Blk wr bN 3 (((L.map N).map (Value.int .i64)).toArray)∧RndI P N∧(∀ k∈L,i≤idxK L k→N k=0)∧∀ k∈L,idxK L k < i→k.1.1=true→0 < N k)) (fun q _=>n - (intOf q).toNat)
 case atStart=>exact ⟨0,_,rfl,Nat.zero_le _,Lib.hid ⟨HB1.out,HBN1.out,RndI.zero,fun _ _ _=>rfl,fun _ _ h=>by omega⟩⟩
 case round =>
  obtain ⟨i,N,rfl,hi,HQ⟩:=hrel;clear HBN1 HB1
  by_cases hin:i < n
  ·obtain ⟨b1,o1,⟨⟨yb,ym,yi,yj⟩,QA,ql,qc⟩,⟨⟨yb',ym',yi',yj'⟩,qs⟩,hAa,-,hb1,hy,⟨hy1,hy2⟩,hcy⟩:=HF.out.at_ hin;simp only at hy1 hy2;obtain ⟨rfl,rfl,rfl,rfl⟩:yb=yb'∧ym=ym'∧yi=yi'∧yj=yj':=(by simpa using hy1);subst hAa;obtain ⟨k,hk⟩:∃ k,L[i]?=some k:=⟨_,List.getElem?_eq_getElem (by have:=HLE.out; omega)⟩
   have hnd:((yb,ym,yi,yj),qs)=ndI (ndF D R L k):=by
    have:(foI D R L root).2[i]?=some (ndI (ndF D R L k)):=(by simp [foI,hk]);rw [this] at hy; exact (Option.some.inj hy).symm
   have hyb:yb=k.1.1:=(by rw [ndI_eq] at hnd; exact congrArg (fun z:NdI=>z.1.1) hnd);have HK:=Lib.hid hk;have hbr:=HQ.out.1;have c0:=(hbr.cell (p:=⟨b1,o1+i*NdE.k+0,none⟩) hb1).trans (hcy 0 _ rfl);have c1:=(hbr.cell (p:=⟨b1,o1+i*NdE.k+1,none⟩) hb1).trans (hcy 1 _ rfl);have c2:=(hbr.cell (p:=⟨b1,o1+i*NdE.k+2,none⟩) hb1).trans (hcy 2 _ rfl);have c3:=(hbr.cell (p:=⟨b1,o1+i*NdE.k+3,none⟩) hb1).trans (hcy 3 _ rfl);have c4:=(hbr.cell (p:=⟨b1,o1+i*NdE.k+4,none⟩) hb1).trans (hcy 4 _ rfl);simp only [NdE,Nat.add_zero] at c0 c1 c2 c3 c4;have i0:(0:Int)≤(i:Int):=(by omega);have i1:(i:Int) < (n:Int):=(by omega);have hal:=(Below.refl wr.heap.size wr).al (.cells #[.bool yb,.int .i64 ym,.int .i64 yi,.int .i64 yj,.slice QA ql qc] 102);have BY:=Blk.new wr 102 #[.bool yb,.int .i64 ym,.int .i64 yi,.int .i64 yj,.slice QA ql qc];have BN:=HQ.out.2.1.via hal;have HB2:=Lib.hid (HQ.out.1.via hal);have hkL:=List.mem_of_getElem? hk;have hki:=idx_at HND.out hk;have hk0:=HQ.out.2.2.2.1 k hkL (by omega);have HKI:=Lib.hid (And.intro hkL (And.intro hki hk0));clear hcy hy hy1 hy2 hb1 hbr hal hnd hkL hki hk0 hk;cases yb with
   | true =>
    have HYB:=Lib.hid hyb;clear hyb;have HBN:=Lib.hid BN;clear BN;go_upto_region 7 with fail;clear c0 c1 c2 c3 c4;generalize wr.alloc (.cells #[.bool true,.int .i64 ym,.int .i64 yi,.int .i64 yj,.slice QA ql qc] 102)=W2 at *;have BN:=HBN.out
    have hcell:W2.cell? ⟨bN,i,none⟩=some (.int .i64 0):=by
     rw [BN.cell];have h:=HLE.out;have hk:=HK.out;have hz:=HKI.out.2.2;simp [hk,hz]
    have fN:=BN.frozen;have cBY:=BY.cell;have fBY:=BY.frozen;have lBY:=BY.lt;go_wp2_with fail;have h2:=BN.set_ i (.int .i64 1);rw [ints_set,map_setK HND.out HK.out] at h2;have hst:=HQ.out.2.2.1.step HTM.out k
    have hse:stpK P N k=fun q=>if q=k then 1 else N q:=by
     unfold stpK;rw [if_neg (by have:=HKI.out.2.2; omega),if_pos HYB.out.symm]
    rw [hse] at hst;refine ⟨⟨i+1,_,by go_num,by omega,Lib.hid ⟨HB2.out.setCell (p:=⟨bN,i,none⟩) (by show W.heap.size≤bN; have:=HBNE.out; omega) _,h2,hst.1,fun q hq hqi=>?_,fun q hq hqi hqb=>?_⟩⟩,by simp [intOf]; omega⟩
    ·have hne:q≠k:=fun e=>by have:=HKI.out.2.1; rw [e] at hqi; omega
     simp only [hne,if_false];exact HQ.out.2.2.2.1 q hq (by omega)
    ·by_cases hne:q=k
     ·simp [hne]
     ·simp only [hne,if_false];refine HQ.out.2.2.2.2 q hq ?_ hqb
      by_cases hq2:idxK L q < i
      ·exact hq2
      ·have:idxK L q=i:=(by omega);have h3:=idxK_get hq;rw [this,HK.out] at h3;exact absurd (Option.some.inj h3).symm hne
   | false =>
    have HYB:=Lib.hid hyb;have HBN:=Lib.hid BN;clear hyb BN;go_upto_region 7 with fail;clear c0 c1 c2 c3 c4;generalize wr.alloc (.cells #[.bool false,.int .i64 ym,.int .i64 yi,.int .i64 yj,.slice QA ql qc] 102)=W2 at *;have cBY:=BY.cell;have fBY:=BY.frozen;have lBY:=BY.lt;go_wp2_with fail;refine ⟨⟨i+1,N,by go_num,by omega,Lib.hid ⟨HB2.out,HBN.out,HQ.out.2.2.1,fun q hq hqi=>HQ.out.2.2.2.1 q hq (by omega),fun q hq hqi hqb=>?_⟩⟩,by simp [intOf]; omega⟩;refine HQ.out.2.2.2.2 q hq ?_ hqb
    by_cases hq2:idxK L q < i
    ·exact hq2
    ·have:idxK L q=i:=(by omega);have h3:=idxK_get hq;rw [this,HK.out] at h3;have h4:=Option.some.inj h3;rw [← h4,← HYB.out] at hqb; cases hqb
  ·obtain rfl:n=i:=(by omega);have HT0:=Lib.hid (show TrmP L N from fun k hk hb=>HQ.out.2.2.2.2 k hk (by have:=idxK_lt hk; have:=HLE.out; omega) hb);have HB2:=Lib.hid HQ.out.1;have HN2:=Lib.hid HQ.out.2.1;have HI2:=Lib.hid HQ.out.2.2.1;have BF:=HBF.out.via HQ.out.1;clear HQ;have cBF:=BF.cell;have fBF:=BF.frozen;have lBF:=BF.lt;go_wp2_with fail;clear cBF fBF lBF;clear BF
   go_loopw [39] (fun q wr=>∃ (t:Nat) (N:Ky→Int),q=.int .i64 (t:Int)∧t≤n∧Hid (Below W.heap.size W wr∧Blk wr bN 3 (((L.map N).map (Value.int .i64)).toArray)∧RndI P N∧TrmP L N∧∀ k∈L,HgtS P t k→0 < N k)) (fun q _=>n - (intOf q).toNat)
   case atStart=>exact ⟨0,N,rfl,Nat.zero_le _,Lib.hid ⟨HB2.out,HN2.out,HI2.out,HT0.out,fun _ _ h=>h.elim⟩⟩
   case round =>
    obtain ⟨t,N,rfl,htn,HQ⟩:=hrel;clear HB2 HN2 HI2 HT0
    by_cases htl:t < n
    ·as_aux_lemma =>
     have t0:(t:Int) < (n:Int):=(by omega);have BF:=HBF.out.via HQ.out.1;have cBF:=BF.cell;have fBF:=BF.frozen;have lBF:=BF.lt;go_wp2_with fail;clear cBF fBF lBF;clear BF
     go_loopw [44] (fun q wr=>∃ (i:Nat) (N2:Ky→Int),q=.int .i64 (i:Int)∧i≤n∧Hid (Below W.heap.size W wr∧Blk wr bN 3 (((L.map N2).map (Value.int .i64)).toArray)∧RndT P L t (lftK L i) N2∧TrmP L N2)) (fun q _=>n - (intOf q).toNat)
     case atStart=>exact ⟨0,N,rfl,Nat.zero_le _,Lib.hid ⟨HQ.out.1,HQ.out.2.1,RndT.begin _ HQ.out.2.2.1 HQ.out.2.2.2.2 (lft_zero L),HQ.out.2.2.2.1⟩⟩
     case round =>
      obtain ⟨i,N2,rfl,hi,HR⟩:=hrel;clear HQ
      by_cases hin:i < n
      ·as_aux_lemma =>
       obtain ⟨b1,o1,⟨⟨yb,ym,yi,yj⟩,QA,ql,qc⟩,⟨⟨yb',ym',yi',yj'⟩,qs⟩,hAa,-,hb1,hy,⟨hy1,hy2⟩,hcy⟩:=HF.out.at_ hin;simp only at hy1 hy2;obtain ⟨rfl,rfl,rfl,rfl⟩:yb=yb'∧ym=ym'∧yi=yi'∧yj=yj':=(by simpa using hy1);subst hAa;obtain ⟨k,hk⟩:∃ k,L[i]?=some k:=⟨_,List.getElem?_eq_getElem (by have:=HLE.out; omega)⟩
       have hnd:((yb,ym,yi,yj),qs)=ndI (ndF D R L k):=by
        have:(foI D R L root).2[i]?=some (ndI (ndF D R L k)):=(by simp [foI,hk]);rw [this] at hy; exact (Option.some.inj hy).symm
       have hqs:qs=(P k).map (rowI L):=(by rw [ndI_eq,← HPP.out] at hnd; exact congrArg Prod.snd hnd);have HK:=Lib.hid hk;have hkL:=List.mem_of_getElem? hk;have HKL:=Lib.hid hkL;have HQS:=Lib.hid hqs;have HSQ:=Lib.hid hy2;have hqll:ql=(P k).length:=(by rw [← hy2.len,hqs,List.length_map]);have hql9:ql≤913952:=(by rw [hqll]; exact (HPL.out k hkL).1);have HQL:=Lib.hid hqll;have hbr:=HR.out.1;have c0:=(hbr.cell (p:=⟨b1,o1+i*NdE.k+0,none⟩) hb1).trans (hcy 0 _ rfl);have c1:=(hbr.cell (p:=⟨b1,o1+i*NdE.k+1,none⟩) hb1).trans (hcy 1 _ rfl);have c2:=(hbr.cell (p:=⟨b1,o1+i*NdE.k+2,none⟩) hb1).trans (hcy 2 _ rfl);have c3:=(hbr.cell (p:=⟨b1,o1+i*NdE.k+3,none⟩) hb1).trans (hcy 3 _ rfl);have c4:=(hbr.cell (p:=⟨b1,o1+i*NdE.k+4,none⟩) hb1).trans (hcy 4 _ rfl);simp only [NdE,Nat.add_zero] at c0 c1 c2 c3 c4;have i0:(0:Int)≤(i:Int):=(by omega);have i1:(i:Int) < (n:Int):=(by omega);have hal:=(Below.refl wr.heap.size wr).al (.cells #[.bool yb,.int .i64 ym,.int .i64 yi,.int .i64 yj,.slice QA ql qc] 102);have BY:=Blk.new wr 102 #[.bool yb,.int .i64 ym,.int .i64 yi,.int .i64 yj,.slice QA ql qc];have HBN2:=Lib.hid (HR.out.2.1.via hal);have HB2:=Lib.hid (HR.out.1.via hal);have HRT:=Lib.hid HR.out.2.2.1;have HTP:=Lib.hid HR.out.2.2.2;clear hcy hy hy1 hy2 hb1 hbr hal hnd hkL hk hqs hqll HR;go_upto_region 15 with fail;clear c0 c1 c2 c3 c4;generalize wr.alloc (.cells #[.bool yb,.int .i64 ym,.int .i64 yi,.int .i64 yj,.slice QA ql qc] 102)=W2 at *;have HBY:=Lib.hid BY;clear BY;have BN:=HBN2.out;obtain ⟨q,hq⟩:∃ q,q=N2 k:=⟨_,rfl⟩
       have hcell:W2.cell? ⟨bN,i,none⟩=some (.int .i64 q):=by
        rw [BN.cell,hq];have hk:=HK.out;simp [hk]
       have fN:=BN.frozen;have HQN:=Lib.hid hq;have hq0:=(HRT.out.inv.nn k).1;rw [← hq] at hq0;have HST:=Lib.hid (HRT.out.step (left':=lftK L (i+1)) HTM.out HPK.out HCL.out HKL.out (lft_step HK.out));have HTP2:=Lib.hid (show TrmP L (stpK P N2 k) from fun z hz hzb=>by rw [(HRT.out.inv.step HTM.out k).2 z (HTP.out z hz hzb)]; exact HTP.out z hz hzb)
       have HFIN:=Lib.hid (show ∀ (wz:World) (N3:Ky→Int),stpK P N2 k=N3→Below W.heap.size W wz→Blk wz bN 3 (((L.map N3).map (Value.int .i64)).toArray)→(∃ (i':Nat) (N2:Ky→Int),Value.int .i64 ((i:Int)+1)=.int .i64 (i':Int)∧i'≤n∧Hid (Below W.heap.size W wz∧Blk wz bN 3 (((L.map N2).map (Value.int .i64)).toArray)∧RndT P L t (lftK L i') N2∧TrmP L N2)) from fun wz N3 e h1 h2 =>
        ⟨i+1,N3,by go_num,by omega,Lib.hid ⟨h1,h2,by rw [← e]; exact HST.out,by rw [← e]; exact HTP2.out⟩⟩)
       clear hq BN
       by_cases hpos:(0:Int) < q
       ·go_wp2_with fail;exact ⟨HFIN.out _ _ (by unfold stpK; rw [if_pos (by rw [← HQN.out]; exact hpos)]) HB2.out HBN2.out,by simp [intOf]; omega⟩
       ·have hq00:q=0:=(by omega);subst hq00
        have HKF:=Lib.hid (show ¬ 0 < N2 k∧k.1.1=false from ⟨by rw [← HQN.out]; omega,by
         cases hb:k.1.1 with
         | false=>rfl
         | true=>have:=HTP.out k HKL.out hb; rw [← HQN.out] at this; omega⟩)
        have BY:=HBY.out;have cBY:=BY.cell;have fBY:=BY.frozen;have lBY:=BY.lt;go_wp2_with fail;clear cBY fBY lBY;clear BY hcell fN hpos hq0
        go_loopw [57,8] (fun q s wr=>∃ j:Nat,q=.int .i64 (j:Int)∧j≤ql∧s=.int .i64 (sumK N2 ((P k).take j) 0)∧allK N2 ((P k).take j)=true∧Hid (Below W2.heap.size W2 wr)) (fun q _ _=>ql - (intOf q).toNat)
        case atStart=>exact ⟨0,rfl,Nat.zero_le _,by simp [sumK],by simp [allK],Lib.hid (Below.refl _ _)⟩
        case round =>
         obtain ⟨j,rfl,hj,rfl,hall,HBI⟩:=hrel;have HALL:=Lib.hid hall;clear hall
         by_cases hjl:j < ql
         ·obtain ⟨b2,o2,⟨pr,KA,kn,kc⟩,⟨pr',ks⟩,hAp,-,hb2,hpj,⟨hp1,hp2⟩,hcl⟩:=HSQ.out.at_ hjl;simp only at hp1 hp2;obtain rfl:pr=pr':=hp1;subst hAp;have hb9:=HB2.out.trans (HBI.out.mono HB2.out.size);have d1:=(hb9.cell (p:=⟨b2,o2+j*FpE.k+0,none⟩) hb2).trans (hcl 0 _ rfl);have d2:=(hb9.cell (p:=⟨b2,o2+j*FpE.k+1,none⟩) hb2).trans (hcl 1 _ rfl);simp only [FpE,Nat.add_zero] at d1 d2;have m0:(0:Int)≤(j:Int):=(by omega);have m1:(j:Int) < (ql:Int):=(by omega);obtain ⟨⟨pk,kk⟩,hpk⟩:∃ p,(P k)[j]?=some p:=⟨_,List.getElem?_eq_getElem (by have:=HQL.out; omega)⟩
          have hks:ks=intsN (kk.map (idxK L)):=by
           rw [HQS.out,List.getElem?_map,hpk] at hpj;exact (congrArg Prod.snd (Option.some.inj hpj)).symm
          have hkn:kn=kk.length:=(by rw [← hp2.len,hks]; simp [intsN]);have hkk4:=(HPL.out k HKL.out).2 _ (List.mem_of_getElem? hpk);simp only at hkk4;have HKS:=Lib.hid hp2;have HKE:=Lib.hid hks;have HKN:=Lib.hid hkn;have HPI:=Lib.hid hpk;have HKM:=Lib.hid (show ∀ z∈kk,z∈L from fun z hz=>HCL.out k HKL.out _ (List.mem_of_getElem? hpk) z hz);have HS0:=Lib.hid (sumK_pos HRT.out.inv.nn (ps:=(P k).take j) (c:=0) (by omega) (by omega));have HS1:=Lib.hid (show sumK N2 ((P k).take (j+1)) 0=min (sumK N2 ((P k).take j) 0+prodK N2 kk 1) 1000000000 by rw [List.take_add_one,hpk]; exact sumK_snoc _ _ _ _);have HA1:=Lib.hid (show allK N2 ((P k).take (j+1))=decide (0 < prodK N2 kk 1) by rw [List.take_add_one,hpk]; rw [Option.toList_some,allK_snoc,HALL.out]; simp);obtain ⟨su,hsu⟩:∃ su,su=sumK N2 ((P k).take j) 0:=⟨_,rfl⟩;rw [← hsu] at HS0 HS1 ⊢;have HB9:=Lib.hid (hb9.al (.cells #[.int .i64 pr,.slice KA kn kc] 104));have HBI2:=Lib.hid (HBI.out.al (.cells #[.int .i64 pr,.slice KA kn kc] 104));have BP:=Blk.new wr 104 #[.int .i64 pr,.slice KA kn kc];have hkn4:kn≤4:=(by omega);clear hcl hp2 hpj hsu hb9 hb2 hks hkn hpk hkk4;have cBP:=BP.cell;have fBP:=BP.frozen;have lBP:=BP.lt;go_wp2_with fail;clear cBP fBP lBP;clear d1 d2 BP HBI;generalize wr.alloc (.cells #[.int .i64 pr,.slice KA kn kc] 104)=wv at *
          go_loopw [64,11] (fun q p wr=>∃ m:Nat,q=.int .i64 (m:Int)∧m≤kn∧p=.int .i64 (prodK N2 (kk.take m) 1)∧wr=wv) (fun q _ _=>kn - (intOf q).toNat)
          case atStart=>exact ⟨0,rfl,Nat.zero_le _,by simp [prodK],rfl⟩
          case round =>
           obtain ⟨m,rfl,hm,rfl,rfl⟩:=hrel
           by_cases hml:m < kn
           ·obtain ⟨b3,o3,v0,v1,hKA,-,hb3,hvm,hvv,hcl⟩:=HKS.out.at_ hml;obtain rfl:v0=v1:=hvv;subst hKA;have d1:=(HB9.out.cell (p:=⟨b3,o3+m*InE.k+0,none⟩) hb3).trans (hcl 0 _ rfl);simp only [InE,Nat.mul_one,Nat.add_zero] at d1;obtain ⟨z,hz⟩:∃ z,kk[m]?=some z:=⟨_,List.getElem?_eq_getElem (by have:=HKN.out; omega)⟩
            have hvz:v0=(idxK L z:Int):=by
             rw [HKE.out] at hvm;simp only [intsN,List.map_map,List.getElem?_map,hz,Option.map_some] at hvm;exact (Option.some.inj hvm).symm
            have hzL:=HKM.out z (List.mem_of_getElem? hz);obtain ⟨iz,hiz⟩:∃ iz,iz=idxK L z:=⟨_,rfl⟩;have hizn:iz < n:=(by rw [hiz]; have:=idxK_lt hzL; have:=HLE.out; omega);rw [← hiz] at hvz;subst hvz;have n0:(0:Int)≤(m:Int):=(by omega);have n1:(m:Int) < (kn:Int):=(by omega);have z0:(0:Int)≤(iz:Int):=(by omega);have z1:(iz:Int) < (n:Int):=(by omega);have BN:=HBN2.out.via HBI2.out;have h1:=prodK_pos HRT.out.inv.nn (ks:=kk.take m) (x:=1) (by omega) (by omega);have h2:=HRT.out.inv.nn z;have HPJ:=Lib.hid (show prodK N2 (kk.take (m+1)) 1=min (prodK N2 (kk.take m) 1*N2 z) 1000000000 by rw [List.take_add_one,hz]; exact prodK_snoc _ _ _ _);obtain ⟨x,hx⟩:∃ x,x=prodK N2 (kk.take m) 1:=⟨_,rfl⟩;rw [← hx] at h1 HPJ ⊢;obtain ⟨cv,hcv⟩:∃ cv,cv=N2 z:=⟨_,rfl⟩
            have hcell:wr.cell? ⟨bN,iz,none⟩=some (.int .i64 cv):=by
             rw [BN.cell,hcv];have h3:=idxK_get hzL;rw [← hiz] at h3;simp [h3]
            have fN:=BN.frozen;rw [← hcv] at h2 HPJ;have hml2:=mul_limT ⟨h1.1,h1.2.1⟩ h2
            have hwr:IntKind.i64.wrap (x*cv)=x*cv:=by
             have h1:=hml2.1;have h2:=hml2.2;exact IntWalk.i64_in _ (by omega)
            clear hcl hb3 hvm hz hzL hiz h1 h2 hx hcv hml2 BN;go_wp2_with fail;exact ⟨⟨m+1,by go_num,by omega,by rw [HPJ.out],by first | trivial | rfl⟩,by simp [intOf]; omega⟩
           ·obtain rfl:kn=m:=(by omega);have hkt:kk.take kn=kk:=List.take_of_length_le (by rw [HKN.out]; exact Nat.le_refl _);rw [hkt];have HPB:=Lib.hid (prodK_pos HRT.out.inv.nn (ks:=kk) (x:=1) (by omega) (by omega));obtain ⟨x,hx⟩:∃ x,x=prodK N2 kk 1:=⟨_,rfl⟩;rw [← hx] at HPB HS1 HA1 ⊢;have hw1:IntKind.i64.wrap (su+x)=su+x:=IntWalk.i64_in _ (by have h1:=HPB.out; have h2:=HS0.out; omega);have HXK:=Lib.hid hx;clear hkt hx
            by_cases hx0:x=0
            ·subst hx0
             have HNA:=Lib.hid (show allK N2 (P k)≠true from fun e=>by
              have h1:=List.all_eq_true.1 e _ (List.mem_of_getElem? HPI.out);simp only [decide_eq_true_eq] at h1
              rw [← HXK.out] at h1; omega)
             go_wp2_with fail;exact ⟨HFIN.out _ _ (by unfold stpK; rw [if_neg (by have:=HKF.out.1; omega),if_neg (by rw [HKF.out.2]; simp),if_neg HNA.out]) (HB2.out.via HBI2.out) (HBN2.out.via HBI2.out),by simp [intOf]; omega⟩
            ·have hx1:(x==0)=false:=(by simpa using hx0);have hxp:0 < x:=(by have:=HPB.out.1; omega);go_wp2_with fail;exact ⟨⟨j+1,by go_num,by omega,by rw [HS1.out],by rw [HA1.out]; simp [hxp],HBI2⟩,by simp [intOf]; omega⟩
         ·obtain rfl:ql=j:=(by omega);have hpt:(P k).take ql=P k:=List.take_of_length_le (by rw [HQL.out]; exact Nat.le_refl _);have hall:=HALL.out;rw [hpt] at hall;rw [hpt];have hne:=HPK.out k HKL.out HKF.out.2;have hsp:=sumK_pos HRT.out.inv.nn (ps:=P k) (c:=0) (by omega) (by omega)
          have hpos:0 < sumK N2 (P k) 0:=hsp.2.2 (Or.inr (by
           obtain ⟨p,hp⟩:=List.exists_mem_of_ne_nil _ hne
           exact ⟨p,hp,by have:=List.all_eq_true.1 hall p hp; simpa using this⟩))
          have e:stpK P N2 k=fun q=>if q=k then sumK N2 (P k) 0 else N2 q:=by unfold stpK; rw [if_neg (by have:=HKF.out.1; omega),if_neg (by rw [HKF.out.2]; simp),if_pos hall]
          have HE:=Lib.hid e;obtain ⟨su,hsu⟩:∃ su,su=sumK N2 (P k) 0:=⟨_,rfl⟩;rw [← hsu] at hpos HE ⊢;have BN:=HBN2.out.via HBI.out
          have hcell:wr.cell? ⟨bN,i,none⟩=some (.int .i64 0):=by
           rw [BN.cell,HQN.out];have hk:=HK.out;simp [hk]
          have fN:=BN.frozen;have HB3:=Lib.hid (HB2.out.via HBI.out);clear hall hne hsp e hpt hsu;go_wp2_with fail;have h2:=BN.set_ i (.int .i64 su);rw [ints_set,map_setK HND.out HK.out] at h2;exact ⟨HFIN.out _ _ HE.out (HB3.out.setCell (p:=⟨bN,i,none⟩) (by show W.heap.size≤bN; have:=HBNE.out; omega) _) h2,by simp [intOf]; omega⟩
      ·obtain rfl:n=i:=(by omega);go_wp2_with fail;exact ⟨⟨t+1,N2,by go_num,by omega,Lib.hid ⟨HR.out.1,HR.out.2.1,HR.out.2.2.1.inv,HR.out.2.2.2,HR.out.2.2.1.done (by rw [HLE.out]; exact lft_done L)⟩⟩,by simp [intOf]; omega⟩
    ·obtain rfl:n=t:=(by omega);have hres:=rnd_end (P:=P) (L:=L) (N:=N) HQ.out.2.2.1 (by rw [← HLE.out]; exact HQ.out.2.2.2.2) HCL.out HRD.out.2;have HRES:=Lib.hid hres;have BF:=HBF.out.via HQ.out.1;have BN:=HQ.out.2.1;obtain ⟨q,hq⟩:∃ q,q=N root:=⟨_,rfl⟩
     have hcell:wr.cell? ⟨bN,ri,none⟩=some (.int .i64 q):=by
      rw [BN.cell,hq];have h3:=HRI.out;simp [h3]
     have fN:=BN.frozen;have HBZ:=Lib.hid (HAL.out.trans (HQ.out.1.mono (Nat.le_of_lt HFB.out)));have HQN:=Lib.hid hq;clear hres hq BN HQ
     rcases HRES.out with ⟨h1,h2⟩ | ⟨h1,h2⟩
     ·rw [← HQN.out] at h1 h2;have hz1:(q==0)=false:=(by simp; omega);have hz2:¬ q=0:=(by omega);have HC:=Lib.hid h2;clear h2;have cBF:=BF.cell;have fBF:=BF.frozen;have lBF:=BF.lt;go_wp2_with fail;rw [HQQ.out];exact ⟨q,rfl,Or.inr ⟨HRD.out.1,Or.inl HC.out⟩,HBZ.out⟩
     ·rw [← HQN.out] at h1;have HC:=Lib.hid h2;clear h2;subst h1;have cBF:=BF.cell;have fBF:=BF.frozen;have lBF:=BF.lt;go_wp2_with fail;rw [HQQ.out];exact ⟨-1,rfl,Or.inr ⟨HRD.out.1,Or.inr ⟨HC.out,rfl⟩⟩,HBZ.out⟩
end Go.Proofs.YtfcihnpmeabacaaGreatDoor
