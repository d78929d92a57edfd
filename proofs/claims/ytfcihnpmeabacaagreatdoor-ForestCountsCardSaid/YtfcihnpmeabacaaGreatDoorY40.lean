/- Texts WB, IT, laid together. -/
import Derived.Test.YtfcihnpmeabacaaGreatDoorY39
import Derived.Test.YtfcihnpmeabacaaGreatDoorY34
import Derived.Test.YtfcihnpmeabacaaGreatDoorY4
namespace Go.Proofs.YtfcihnpmeabacaaGreatDoor
open Go.RowKit
set_option maxRecDepth 100000 in
set_option maxHeartbeats 4000000 in
theorem repeat_z (s:Nat) (w:World) :
 Calls Tryz.prog 82 #[.slice (some ⟨s,0,none⟩) 1 1,.int .i64 0] w (RepP 0 w):=by
 have hmk:=mk_rep 0 (by omega);simp only [Int.natCast_zero] at hmk;have hm0:=mul_c 0 (by omega);simp only [Int.natCast_zero] at hm0;go_enter Tryz.func82,Tryz.ntmps82;go_upto_region 7 with (go_at_call 124; refine (hm0 _).mono ?_; rintro e w' ⟨rfl,hz⟩; rw [hz]; clear hz)
 have hg0:(w.alloc (.cells #[] 3)).heap[w.heap.size]?=some (.cells ([]:List Value).toArray 3 (0,0)):=Blk.new w 3 _;have hB:=(Below.refl w.heap.size w).al (.cells #[] 3);have hcp:∀ wx:World,(Builtin.copy_ #[25,25] 3 #[.slice (some ⟨w.heap.size,0,none⟩) 0 0,.slice (some ⟨s,0,none⟩) 1 1]).run Tryz.prog wx=.ok (.int .i64 0) wx:=fun wx=>run_copy_none wx 25 25 3 3 _ _ 0 0 1 1 Tryz.underlying25 (by kernel_rfl) rfl
 generalize w.alloc (.cells #[] 3)=W at *;have HG:=Lib.hid hg0;have HB:=Lib.hid hB;clear hmk hm0 hg0 hB;go_wp2_with fail
 go_loopw [8] (fun q wt=>q=.int .i64 0∧wt=W) (fun _ _=>0)
 case atStart=>exact ⟨rfl,rfl⟩
 case round =>
  obtain ⟨rfl,rfl⟩:=hrel;go_wp2_with fail;go_ret;exact ⟨rfl,HG.out,HB.out⟩
def ValQ (g:Gr) (f:FoI) (q:Int):Prop:=(q=0∧(f=(-1,[])∨∃ ws,GoF g f ws))∨(q=3∧f≠(-1,[])∧¬ ∃ ws,GoF g f ws)
def ValP (w:World) (g:Gr) (f:FoI) (e:Ending) (w':World):Prop:=∃ q,e=.returned (.int .i64 q)∧ValQ g f q∧Below w.heap.size w w'
theorem chkB_zero {g:Gr} {xs:List Int} (h:chkB (g.terms:Int) g.nons (g.start:Int) (g.rules.map embR) xs=0):∀ x∈xs,0≤x∧x < (g.terms:Int):=(chkB_okC h).2.2
set_option maxRecDepth 100000 in
set_option maxHeartbeats 8000000 in
theorem valid_c (ok okf:Nat→Prop) (g:Gr) (Ag:Option Addr) (ng cg:Nat) (fA:Option Addr) (fn fc:Nat) (r:Int) (nd:List NdI) (w:World) (hg:GrOk g) (hl:Sl RiE ok w Ag ng cg (g.rules.map embR)) (hT:TabW w) (hf:Sl NdE okf w fA fn fc nd) (hfn:fn≤9223372036854775807) :
 Calls Tryz.prog 53 #[grVal g Ag ng cg,.agg #[.slice fA fn fc,.int .i64 r]] w (ValP w g (r,nd)):=by
 obtain ⟨Q,hQ⟩:∃ Q,Q=ValP w g (r,nd):=⟨_,rfl⟩;rw [← hQ];have HQQ:=Lib.hid hQ;have hal:=((Below.refl w.heap.size w).al (.cells #[.int .i64 (g.terms:Int),.int .i64 (g.nons:Int),.int .i64 (g.start:Int),.slice Ag ng cg] 24)).al (.cells #[.slice fA fn fc,.int .i64 r] 45);have B0:=(Blk.new w 24 #[.int .i64 (g.terms:Int),.int .i64 (g.nons:Int),.int .i64 (g.start:Int),.slice Ag ng cg]).al (.cells #[.slice fA fn fc,.int .i64 r] 45);have B1:=Blk.newAt (w.alloc (.cells #[.int .i64 (g.terms:Int),.int .i64 (g.nons:Int),.int .i64 (g.start:Int),.slice Ag ng cg] 24)) 45 #[.slice fA fn fc,.int .i64 r] (w.heap.size+1) (by simp);have HCK:=Lib.hid (check_c ok g Ag ng cg _ hg (hl.lowR.via hal));have HAL:=Lib.hid hal;have HB1:=Lib.hid B1;have HF:=Lib.hid (hf.via hal);have HL:=Lib.hid (hl.via hal);have HT:=Lib.hid (hT.via hal);have HG:=Lib.hid hg;have HNL:=Lib.hid hf.len;have HB0:=Lib.hid B0;clear hl hT hg hal hf hQ;simp only [grVal] at HCK ⊢;go_enter Tryz.func53,Tryz.ntmps53;have cB0:=B0.cell;have fB0:=B0.frozen;have lB0:=B0.lt;go_wp2_with fail;clear cB0 fB0 lB0;clear B0 B1;generalize (w.alloc (.cells #[.int .i64 (g.terms:Int),.int .i64 (g.nons:Int),.int .i64 (g.start:Int),.slice Ag ng cg] 24)).alloc (.cells #[.slice fA fn fc,.int .i64 r] 45)=W at *;refine HCK.out.mono ?_;clear HCK;rintro e w1 ⟨rfl,hb1⟩;have HB1':=Lib.hid (HAL.out.via hb1);have BF:=HB1.out.via hb1;have HBF:=Lib.hid BF;have HBG:=Lib.hid (HB0.out.via hb1);have HF1:=Lib.hid (HF.out.via hb1);have HL1:=Lib.hid (HL.out.via hb1);have HT1:=Lib.hid (HT.out.via hb1);clear hb1 HF HL HT HB0 HB1 HAL;dsimp only
 by_cases hm:r=-1∧fn=0
 ·as_aux_lemma =>
  obtain ⟨rfl,rfl⟩:=hm;have hnd:nd=[]:=List.eq_nil_of_length_eq_zero HNL.out;subst hnd;have cBF:=BF.cell;have fBF:=BF.frozen;have lBF:=BF.lt;go_wp2_with fail;rw [HQQ.out];exact ⟨0,rfl,Or.inl ⟨rfl,Or.inl rfl⟩,HB1'.out⟩
 have HNM:=Lib.hid (show ((r,nd):FoI)≠(-1,[]) from fun e=>hm ⟨congrArg Prod.fst e,HNL.out.symm.trans (congrArg List.length (congrArg Prod.snd e))⟩);have HNO:=Lib.hid (show ∀ wz:World,Below w.heap.size w wz→(¬ ∃ ws,GoF g (r,nd) ws)→Q (.returned (.int .i64 3)) wz from fun wz hb h=>by rw [HQQ.out]; exact ⟨3,rfl,Or.inr ⟨rfl,HNM.out,h⟩,hb⟩)
 by_cases hr0:r < 0
 ·as_aux_lemma =>
  have HR0:=Lib.hid (show ¬ ∃ ws,GoF g (r,nd) ws from fun ⟨ws,h⟩=>by have:=h.facts.1; simp only at this; omega)
  by_cases hr1:r=-1
  ·have hf0:¬ fn=0:=fun e=>hm ⟨hr1,e⟩
   have hf1:((fn:Int)==0)=false:=(by simpa using hf0);subst hr1;have cBF:=BF.cell;have fBF:=BF.frozen;have lBF:=BF.lt;go_wp2_with fail;exact HNO.out _ HB1'.out HR0.out
  ·have hf1:(r==-1)=false:=(by simpa using hr1);have cBF:=BF.cell;have fBF:=BF.frozen;have lBF:=BF.lt;go_wp2_with fail;exact HNO.out _ HB1'.out HR0.out
 have e0:(r==-1)=false:=(by simp; omega)
 by_cases hrf:(fn:Int)≤r
 ·as_aux_lemma =>
  have HR0:=Lib.hid (show ¬ ∃ ws,GoF g (r,nd) ws from fun ⟨ws,h⟩=>by have:=h.facts.2.1; have h2:=HNL.out; simp only at this; omega);have cBF:=BF.cell;have fBF:=BF.frozen;have lBF:=BF.lt;go_wp2_with fail;exact HNO.out _ HB1'.out HR0.out
 obtain ⟨v,rfl⟩:∃ v:Nat,r=(v:Int):=⟨r.toNat,by omega⟩;have hv:v < fn:=(by omega);obtain ⟨b1,o1,⟨⟨xb,xm,xi,xj⟩,PA,pl,pc⟩,⟨⟨xb',xm',xi',xj'⟩,ps⟩,hAa,-,hb1l,hx,⟨hx1,hx2⟩,hcx⟩:=HF1.out.at_ hv;simp only at hx1 hx2;obtain ⟨rfl,rfl,rfl,rfl⟩:xb=xb'∧xm=xm'∧xi=xi'∧xj=xj':=(by simpa using hx1);subst hAa;have c3:=hcx 3 _ rfl;simp only [NdE] at c3;have HXJ:=Lib.hid (show (ndAt nd v).1.2.2.2=xj by unfold ndAt; rw [hx]; rfl)
 have HTO:=Lib.hid (show ∀ ws,GoF g ((v:Int),nd) ws→xj=(ws.length:Int) from fun ws h=>by
  have h1:=h.facts.2.2.1;simp only [Int.toNat_natCast] at h1
  rw [← HXJ.out]; exact h1)
 have v0:(0:Int)≤(v:Int):=(by omega);have v1:(v:Int) < (fn:Int):=(by omega);clear hcx hx hx1 hx2 hb1l
 by_cases ht0:xj < 0
 ·as_aux_lemma =>
  have HR0:=Lib.hid (show ¬ ∃ ws,GoF g ((v:Int),nd) ws from fun ⟨ws,h⟩=>by have:=HTO.out ws h; omega);have cBF:=BF.cell;have fBF:=BF.frozen;have lBF:=BF.lt;go_wp2_with fail;exact HNO.out _ HB1'.out HR0.out
 by_cases ht1:12 < xj
 ·as_aux_lemma =>
  have HR0:=Lib.hid (show ¬ ∃ ws,GoF g ((v:Int),nd) ws from fun ⟨ws,h⟩=>by have h1:=HTO.out ws h; have h2:=h.1; omega);have cBF:=BF.cell;have fBF:=BF.frozen;have lBF:=BF.lt;go_wp2_with fail;exact HNO.out _ HB1'.out HR0.out
 obtain ⟨t,rfl⟩:∃ t:Nat,xj=(t:Int):=⟨xj.toNat,by omega⟩;have h12:t≤12:=(by omega);have HFS:=Lib.hid (show ∀ ws,GoF g ((v:Int),nd) ws→fillW t nd (List.replicate t (-1))=some ws from fun ws h=>h.fill_some (t:=t) (by simp only [Int.toNat_natCast]; exact HXJ.out) (by simp));have cBF:=BF.cell;have fBF:=BF.frozen;have lBF:=BF.lt;go_upto_region 11 with fail;clear cBF fBF lBF;clear BF c3 e0 ht0 ht1 hr0 hrf hm;have hal:=(Below.refl w1.heap.size w1).al (.cells #[.int .i64 (-1)] 3);have hcell1:(w1.alloc (.cells #[.int .i64 (-1)] 3)).cell? ⟨w1.heap.size,0,none⟩=some (.int .i64 (-1)):=(by rw [(Blk.new w1 3 #[.int .i64 (-1)]).cell]; rfl)
 have HR:=Lib.hid (show Calls Tryz.prog 82 #[.slice (some ⟨w1.heap.size,0,none⟩) 1 1,.int .i64 (t:Int)] (w1.alloc (.cells #[.int .i64 (-1)] 3)) (RepP t (w1.alloc (.cells #[.int .i64 (-1)] 3))) from by
  by_cases h0:t=0
  ·subst h0; exact repeat_z w1.heap.size _
  ·exact repeat_c w1.heap.size t _ hcell1 (by omega) (by omega))
 have HRL:=Lib.hid hal;clear hal hcell1;go_wp2_with fail;refine HR.out.mono ?_;clear HR;rintro e w2 ⟨rfl,hwb,hb2⟩;have hb12:=HRL.out.via hb2;have HB12:=Lib.hid hb12;have BF:=HBF.out.via hb12;have hsz:w1.heap.size+1=(w1.alloc (.cells #[.int .i64 (-1)] 3)).heap.size:=(by simp);obtain ⟨bw,hbw⟩:∃ bw,bw=(w1.alloc (.cells #[.int .i64 (-1)] 3)).heap.size:=⟨_,rfl⟩;rw [← hbw] at hwb ⊢;have HWB:=Lib.hid (show Blk w2 bw 3 (((List.replicate t (-1:Int)).map (Value.int .i64)).toArray) by simpa using hwb);have HBL:=Lib.hid (show w1.heap.size < bw by omega);have HFL:=Lib.hid HBF.out.lt;clear hwb hb2 hb12 hsz hbw HRL;dsimp only;have cBF:=BF.cell;have fBF:=BF.frozen;have lBF:=BF.lt;go_wp2_with fail;clear cBF fBF lBF;clear BF
 go_loopw [54] (fun q wr=>∃ (i:Nat) (cur:List Int),q=.int .i64 (i:Int)∧i≤fn∧Hid (Blk wr bw 3 ((cur.map (Value.int .i64)).toArray)∧cur.length=t∧fillW t nd (List.replicate t (-1))=fillW t (nd.drop i) cur∧Agr (fun b=>b≠bw) w2 wr∧Below w1.heap.size w2 wr)) (fun q _=>fn - (intOf q).toNat)
 case atStart=>exact ⟨0,_,rfl,Nat.zero_le _,Lib.hid ⟨HWB.out,by simp,by rw [List.drop_zero],Agr.refl,Below.refl _ _⟩⟩
 case round =>
  obtain ⟨i,cur,rfl,hi,HQ⟩:=hrel;clear HWB
  by_cases hin:i < fn
  ·as_aux_lemma =>
   obtain ⟨b3,o3,⟨⟨yb,ym,yi,yj⟩,QA,ql,qc⟩,⟨⟨yb',ym',yi',yj'⟩,qs⟩,hAa,-,hb3,hy,⟨hy1,hy2⟩,hcy⟩:=HF1.out.at_ hin;simp only at hy1 hy2;obtain ⟨rfl,rfl,rfl,rfl⟩:yb=yb'∧ym=ym'∧yi=yi'∧yj=yj':=(by simpa using hy1);cases hAa
   have hbr:=HB12.out.trans HQ.out.2.2.2.2;have c0:=(hbr.cell (p:=⟨b1,o1+i*NdE.k+0,none⟩) hb3).trans (hcy 0 _ rfl);have c1:=(hbr.cell (p:=⟨b1,o1+i*NdE.k+1,none⟩) hb3).trans (hcy 1 _ rfl);have c2:=(hbr.cell (p:=⟨b1,o1+i*NdE.k+2,none⟩) hb3).trans (hcy 2 _ rfl);have c3:=(hbr.cell (p:=⟨b1,o1+i*NdE.k+3,none⟩) hb3).trans (hcy 3 _ rfl);have c4:=(hbr.cell (p:=⟨b1,o1+i*NdE.k+4,none⟩) hb3).trans (hcy 4 _ rfl);simp only [NdE,Nat.add_zero] at c0 c1 c2 c3 c4;have i0:(0:Int)≤(i:Int):=(by omega);have i1:(i:Int) < (fn:Int):=(by omega)
   have HDR:=Lib.hid (show nd.drop i=((yb,ym,yi,yj),qs)::nd.drop (i+1) by
    have h1:=List.getElem?_eq_some_iff.1 hy
    rw [List.drop_eq_getElem_cons h1.1,h1.2])
   have hfq:=HQ.out.2.2.1;rw [HDR.out,fillW] at hfq;simp only at hfq;have hal:=(Below.refl wr.heap.size wr).al (.cells #[.bool yb,.int .i64 ym,.int .i64 yi,.int .i64 yj,.slice QA ql qc] 102);have BN:=Blk.new wr 102 #[.bool yb,.int .i64 ym,.int .i64 yi,.int .i64 yj,.slice QA ql qc];have BWB:=HQ.out.1.via hal;have HAG:=Lib.hid (HQ.out.2.2.2.1.trans (Agr.below hal));have HBE:=Lib.hid (HQ.out.2.2.2.2.trans (hal.mono (by have:=HQ.out.1.lt; have:=HBL.out; omega)));have HCL:=Lib.hid HQ.out.2.1;clear hcy hy hy1 hy2 hb3 hbr hal HQ;cases yb with
   | false =>
    simp only [Bool.false_eq_true,if_false] at hfq;have HFQ:=Lib.hid hfq;have HWB:=Lib.hid BWB;clear hfq BWB;go_upto_region 15 with fail;clear c0 c1 c2 c3 c4;generalize wr.alloc (.cells #[.bool false,.int .i64 ym,.int .i64 yi,.int .i64 yj,.slice QA ql qc] 102)=W9 at *;generalize wr.heap.size=bn at *;have cBN:=BN.cell;have fBN:=BN.frozen;have lBN:=BN.lt;go_wp2_with fail;exact ⟨⟨i+1,cur,by go_num,by omega,Lib.hid ⟨HWB.out,HCL.out,HFQ.out,HAG.out,HBE.out⟩⟩,by simp [intOf]; omega⟩
   | true =>
    simp only [if_true] at hfq;have HWB:=Lib.hid BWB;go_upto_region 15 with fail;clear c0 c1 c2 c3 c4;generalize wr.alloc (.cells #[.bool true,.int .i64 ym,.int .i64 yi,.int .i64 yj,.slice QA ql qc] 102)=W9 at *;generalize wr.heap.size=bn at *;have HBZ:=Lib.hid (HB1'.out.via (HB12.out.trans HBE.out))
    by_cases hyi:yi < 0∨(t:Int)≤yi
    ·rw [if_pos hyi] at hfq;have HR0:=Lib.hid (show ¬ ∃ ws,GoF g ((v:Int),nd) ws from fun ⟨ws,h⟩=>by have:=HFS.out ws h; rw [hfq] at this; cases this);clear hfq BWB
     by_cases hy0:yi < 0
     ·have cBN:=BN.cell;have fBN:=BN.frozen;have lBN:=BN.lt;go_wp2_with fail;exact HNO.out _ HBZ.out HR0.out
     ·have hy1:(t:Int)≤yi:=(by omega);have cBN:=BN.cell;have fBN:=BN.frozen;have lBN:=BN.lt;go_wp2_with fail;exact HNO.out _ HBZ.out HR0.out
    ·rw [if_neg hyi] at hfq;obtain ⟨p,rfl⟩:∃ p:Nat,yi=(p:Int):=⟨yi.toNat,by omega⟩;have hpt:p < t:=(by omega);have p0:(0:Int)≤(p:Int):=(by omega);have p1:(p:Int) < (t:Int):=(by omega);rw [Int.toNat_natCast] at hfq;have HFQ:=Lib.hid hfq;clear hfq hyi;have e4:¬ (t:Int)≤(p:Int):=(by omega)
     have hcell:W9.cell? ⟨bw,p,none⟩=some (.int .i64 (cur.getD p 0)):=by
      rw [BWB.cell];have h:=HCL.out;simp [List.getD_eq_getElem?_getD,h,hpt]
     have fW:=BWB.frozen;clear BWB;have cBN:=BN.cell;have fBN:=BN.frozen;have lBN:=BN.lt;go_wp2_with fail;have h2:=HWB.out.set_ p (.int .i64 ym);rw [ints_set] at h2;exact ⟨⟨i+1,cur.set p ym,by go_num,by omega,Lib.hid ⟨h2,by rw [List.length_set]; exact HCL.out,HFQ.out,HAG.out.trans (Agr.setCell (p:=⟨bw,p,none⟩) _ fun b hb=>hb),HBE.out.setCell (p:=⟨bw,p,none⟩) (by show w1.heap.size≤bw; have:=HBL.out; omega) _⟩⟩,by simp [intOf]; omega⟩
  ·as_aux_lemma =>
   obtain rfl:fn=i:=(by omega)
   have hcur:fillW t nd (List.replicate t (-1))=some cur:=by
    have h:=HQ.out.2.2.1;rw [List.drop_eq_nil_of_le (by rw [HNL.out]; exact Nat.le_refl _)] at h;exact h
   have HCU:=Lib.hid (show ∀ ws,GoF g ((v:Int),nd) ws→ws=cur from fun ws h=>by have:=HFS.out ws h; rw [hcur] at this; exact (Option.some.inj this).symm);have hbr:=HB12.out.trans HQ.out.2.2.2.2;have hcl:=HQ.out.2.1;have hX:Ints wr (some ⟨bw,0,none⟩) t t cur:=Ints.litB HQ.out.1 (by simp) hcl;have HCL:=Lib.hid hcl;have BG:=HBG.out.via hbr;have BF:=HBF.out.via hbr;have HB9:=Lib.hid (HB1'.out.via hbr);clear hcur
   by_cases hok:∀ x∈cur,0≤x∧x < (g.terms:Int)
   ·have hck:=fcheck_c ok okf g Ag ng cg (some ⟨bw,0,none⟩) t t cur (some ⟨b1,o1,none⟩) fn fc ((v:Int),nd) wr HG.out (HL1.out.lowR.via hbr) hX h12 hok (HT1.out.via hbr) (HF1.out.via hbr);simp only [grVal] at hck;have HCK:=Lib.hid hck;have HOK:=Lib.hid hok;clear hck hX hbr hcl HQ hok;have cBG:=BG.cell;have fBG:=BG.frozen;have lBG:=BG.lt;have cBF:=BF.cell;have fBF:=BF.frozen;have lBF:=BF.lt;go_wp2_with fail;clear cBG fBG lBG cBF fBF lBF;clear BG BF;refine HCK.out.mono ?_;rintro e w9 ⟨⟨q,rfl,hq⟩,hb9⟩;have HQA:=Lib.hid hq;have HBF9:=Lib.hid (HB9.out.via hb9);clear hq hb9 HCK
    by_cases hq0:q=0
    ·subst hq0
     have HGO:=Lib.hid (show ∃ ws,GoF g ((v:Int),nd) ws from by
      obtain ⟨fo,b,h1,⟨-,h2⟩ | ⟨rfl,h2,-⟩ | ⟨-,-,h2⟩⟩:=HQA.out
      ·cases h2
      ·refine ⟨cur,GoF.of (by have:=HCL.out; omega) HOK.out (by rw [h2,HCL.out]; exact h1) (by simp)⟩
      ·cases h2)
     go_wp2_with fail;rw [HQQ.out];exact ⟨0,rfl,Or.inl ⟨rfl,Or.inr HGO.out⟩,HBF9.out⟩
    ·have hq1:(q != 0)=true:=(by simpa using hq0)
     have HR0:=Lib.hid (show ¬ ∃ ws,GoF g ((v:Int),nd) ws from fun ⟨ws,h⟩=>by
      obtain rfl:=HCU.out ws h;obtain ⟨fo,b,h1,h2⟩:=HQA.out;rw [← HCL.out] at h1;obtain ⟨e1,e2⟩:=h.isFo.uniq h1
      rcases h2 with ⟨h2,-⟩ | ⟨-,-,h2⟩ | ⟨-,h2,-⟩
      ·rw [← e2] at h2; cases h2
      ·exact hq0 h2
      ·exact h2 e1)
     clear hq0;go_wp2_with fail;exact HNO.out _ HBF9.out HR0.out
   ·obtain ⟨q,hq⟩:∃ q,chkB (g.terms:Int) g.nons (g.start:Int) (g.rules.map embR) cur=q:=⟨_,rfl⟩;have hq0:q≠0:=fun e=>hok (chkB_zero (hq.trans e))
    have hck:=fcheck_e ok (g.terms:Int) g.nons (g.start:Int) Ag ng cg (g.rules.map embR) (some ⟨bw,0,none⟩) t t cur (.agg #[.slice (some ⟨b1,o1,none⟩) fn fc,.int .i64 (v:Int)]) (some ⟨b1,o1,none⟩) fn fc (v:Int) wr (HL1.out.via hbr) hX q hq hq0 rfl;have HCK:=Lib.hid hck;have HR0:=Lib.hid (show ¬ ∃ ws,GoF g ((v:Int),nd) ws from fun ⟨ws,h⟩=>hok (by rw [← HCU.out ws h]; exact h.2.1));have hq1:(q != 0)=true:=(by simpa using hq0);clear hck hX hbr hcl HQ hok hq hq0;have cBG:=BG.cell;have fBG:=BG.frozen;have lBG:=BG.lt;have cBF:=BF.cell;have fBF:=BF.frozen;have lBF:=BF.lt;go_wp2_with fail;clear cBG fBG lBG cBF fBF lBF;clear BG BF;refine HCK.out.mono ?_;rintro e w9 ⟨rfl,hb9⟩;have HBF9:=Lib.hid (HB9.out.via hb9);clear hb9 HCK;go_wp2_with fail;exact HNO.out _ HBF9.out HR0.out
end Go.Proofs.YtfcihnpmeabacaaGreatDoor
namespace Go.Proofs.YtfcihnpmeabacaaGreatDoor
open Go.RowKit
theorem enters_q {P : Program} {f : FuncId} {fn : Func} {c : Code} (hf : P.funcs[f]? = some fn) (hname : (fn.name == "runtime.NumGoroutine") = false) (hb : fn.body = some c) : ∀ (args : Array Value) (w : World), (callFunc f args).run P w = .ok (.enter f args) w := by
 intro args w;have h1 : fn.name ≠ "runtime.NumGoroutine" := (by simpa using hname);simp [callFunc, hf, h1, hb, mark]
def YesT (w:World) (e:Ending) (w':World):Prop:=e=.returned (.bool true)∧Below w.heap.size w w'
set_option maxRecDepth 100000 in
set_option maxHeartbeats 2000000 in
theorem eqT_c (fid:Nat) (he:∀ (args:Array Value) (w:World),(callFunc fid args).run Tryz.prog w=.ok (.enter fid args) w) (ok ok':Nat→Prop) (A B:Option Addr) (n c d:Nat) (ks:List Tr) (w:World) (h1:Sl TrE ok w A n c ks) (h2:Sl TrE ok' w B n d ks) (hn:n≤1000000)
 (hf:∀ v1 v2 x w',x∈ks→TreeR ok w' v1 x→TreeR ok' w' v2 x→Calls Tryz.prog fid #[trVal v1,trVal v2] w' (YesT w')) :
 Calls Tryz.prog 37 #[.slice A n c,.slice B n d,.func (.func fid) #[] #[]] w (YesT w):=by
 have H1:=Lib.hid h1;have H2:=Lib.hid h2;have HF:=Lib.hid hf;clear h1 h2 hf;have k0:((n:Int) != (n:Int))=false:=(by simp);go_enter Tryz.func37,Tryz.ntmps37;go_wp2_with fail;clear k0
 go_loopw [17] (fun i wr=>∃ k:Nat,i=.int .i64 k∧k≤n∧Hid (Below w.heap.size w wr)) (fun i _=>n - (intOf i).toNat)
 case atStart=>exact ⟨0,rfl,Nat.zero_le _,Lib.hid (Below.refl _ _)⟩
 case round =>
  obtain ⟨k,rfl,hk,HB⟩:=hrel
  by_cases hlt:k < n
  ·obtain ⟨b1,o1,X1,x,rfl,-,hb1,hx,hx1,hc1⟩:=(H1.out.via HB.out).at_ hlt;obtain ⟨b2,o2,Y1,y,rfl,-,hb2,hy,hy1,hc2⟩:=(H2.out.via HB.out).at_ hlt;obtain rfl:x=y:=(by rw [hx] at hy; exact Option.some.inj hy);have i0:(0:Int)≤(k:Int):=(by omega);have i1:(k:Int) < (n:Int):=(by omega);have hxm:=List.mem_of_getElem? hx;obtain ⟨xk,xi,xA,xn,xc⟩:=X1;obtain ⟨yk,yi,yA,yn,yc⟩:=Y1;have c0:=hc1 0 _ rfl;have c1:=hc1 1 _ rfl;have c2:=hc1 2 _ rfl;have d0:=hc2 0 _ rfl;have d1:=hc2 1 _ rfl;have d2:=hc2 2 _ rfl;simp only [TrE,Nat.add_zero] at c0 c1 c2 d0 d1 d2;have hA:=(Below.refl wr.heap.size wr).al (.cells #[.int .i64 xk,.int .i64 xi,.slice xA xn xc] 64);have hA2:=(hA.al (.cells #[.int .i64 yk,.int .i64 yi,.slice yA yn yc] 64)).mono (Nat.le_refl _);have HX:=Lib.hid (TrE.agr hx1 (Agr.below hA2));have HY:=Lib.hid (TrE.agr hy1 (Agr.below hA2));have HB2:=Lib.hid (HB.out.trans (hA2.mono HB.out.size));have HM:=Lib.hid hxm;have B1:=(Blk.new wr 64 #[.int .i64 xk,.int .i64 xi,.slice xA xn xc]).al (.cells #[.int .i64 yk,.int .i64 yi,.slice yA yn yc] 64);have B2:=Blk.newAt (wr.alloc (.cells #[.int .i64 xk,.int .i64 xi,.slice xA xn xc] 64)) 64 #[.int .i64 yk,.int .i64 yi,.slice yA yn yc] (wr.heap.size+1) (by simp);clear hx hy hx1 hy1 hc1 hc2 hb1 hA hA2 HB hxm;have hsz:(wr.alloc (.cells #[.int .i64 xk,.int .i64 xi,.slice xA xn xc] 64)).heap.size=wr.heap.size+1:=(by simp);go_upto_region 7 with fail;clear c0 c1 c2 d0 d1 d2 hb2;generalize (wr.alloc (.cells #[.int .i64 xk,.int .i64 xi,.slice xA xn xc] 64)).alloc (.cells #[.int .i64 yk,.int .i64 yi,.slice yA yn yc] 64)=wx at *;clear hsz;have cB1:=B1.cell;have fB1:=B1.frozen;have lB1:=B1.lt;have cB2:=B2.cell;have fB2:=B2.frozen;have lB2:=B2.lt;go_wp2_with fail;clear cB1 fB1 lB1 cB2 fB2 lB2;refine (HF.out _ _ x wx HM.out HX.out HY.out).mono ?_;rintro e w3 ⟨rfl,hb3⟩;have HB3:=Lib.hid (HB2.out.trans (hb3.mono HB2.out.size));clear hb3 HB2;go_wp2_with fail;exact ⟨⟨k+1,by go_num,by omega,HB3⟩,by simp [intOf]; omega⟩
  ·go_wp2_with fail;go_ret;exact ⟨rfl,HB.out⟩
set_option maxRecDepth 100000 in
theorem enters_same:∀ (args:Array Value) (w:World),(callFunc 38 args).run Tryz.prog w=.ok (.enter 38 args) w :=
 enters_q (c:=_) (fn:=Tryz.f38) rfl (by kernel_rfl) rfl
inductive Tr.Nrw:Tr→Prop
 | leaf (t:Nat):Tr.Nrw (.leaf t)
 | node (r:Nat) (ks:List Tr) (hl:ks.length≤1000000) (hk:∀ x∈ks,Tr.Nrw x):Tr.Nrw (.node r ks)
theorem Tr.Nrw.kids {t:Tr} (h:t.Nrw):t.kids.length≤1000000∧∀ x∈t.kids,Tr.Nrw x:=by
 cases h with
 | leaf t=>exact ⟨by simp [Tr.kids],fun x hx=>by simp [Tr.kids] at hx⟩
 | node r ks hl hk=>exact ⟨hl,hk⟩
set_option maxRecDepth 100000 in
set_option maxHeartbeats 2000000 in
theorem same3_n (N:Nat):∀ (ok ok':Nat→Prop) (v1 v2:TrV) (t:Tr) (w:World),TreeR ok w v1 t→TreeR ok' w v2 t→t.Nrw→t.size≤N →
 Calls Tryz.prog 38 #[trVal v1,trVal v2] w (YesT w):=by
 induction N with
 | zero=>intro ok ok' v1 v2 t w _ _ _ h; have:=t.size_pos; omega
 | succ N ih =>
  intro ok ok' v1 v2 t w h1 h2 hnr ht;obtain ⟨a,b,A,n,c⟩:=v1;obtain ⟨a2,b2,B,m,d⟩:=v2;obtain ⟨e1,e2,e3⟩:=h1.parts;obtain ⟨f1,f2,f3⟩:=h2.parts;simp only at e1 e2 e3 f1 f2 f3;subst e1 e2 f1 f2;obtain rfl:n=m:=(by rw [← e3.len,f3.len]);have hlen:=hnr.kids.1;rw [e3.len] at hlen;have hbe:=((Below.refl w.heap.size w).al (.cells #[.int .i64 t.rl,.int .i64 t.tm,.slice A n c] 64)).al (.cells #[.int .i64 t.rl,.int .i64 t.tm,.slice B n d] 64);have H1:=Lib.hid (e3.agr (Agr.below hbe));have H2:=Lib.hid (f3.agr (Agr.below hbe));have HB:=Lib.hid hbe;have HK:=Lib.hid hnr.kids.2;have HN:=Lib.hid ht;have k1:(t.rl==t.rl)=true:=(by simp);have k2:(t.tm==t.tm)=true:=(by simp);clear h1 h2 e3 f3 hbe hnr ht;simp only [trVal];go_enter Tryz.func38,Tryz.ntmps38;go_wp2_with fail;refine (eqT_c 38 enters_same ok ok' A B n c d t.kids _ H1.out H2.out hlen (fun v1 v2 x w' hx h1 h2=>ih ok ok' v1 v2 x w' h1 h2 (HK.out x hx) (by have:=Tr.size_kid hx; have:=HN.out; omega))).mono ?_;rintro e w2 ⟨rfl,hb3⟩;have HB3:=Lib.hid (HB.out.via hb3);clear hb3;go_wp2_with fail;go_ret;exact ⟨rfl,HB3.out⟩
theorem same3_c {ok ok':Nat→Prop} {v1 v2:TrV} {t:Tr} {w:World} (h1:TreeR ok w v1 t) (h2:TreeR ok' w v2 t) (hn:t.Nrw):Calls Tryz.prog 38 #[trVal v1,trVal v2] w (YesT w):=same3_n _ ok ok' v1 v2 t w h1 h2 hn (Nat.le_refl _)
end Go.Proofs.YtfcihnpmeabacaaGreatDoor
