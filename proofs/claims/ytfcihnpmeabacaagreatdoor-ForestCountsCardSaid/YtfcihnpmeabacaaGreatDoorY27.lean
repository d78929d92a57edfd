/- Texts SV, RY, SW, laid together. -/
import Derived.Test.YtfcihnpmeabacaaGreatDoorY1
import Derived.Test.YtfcihnpmeabacaaGreatDoorY21
import Derived.Test.YtfcihnpmeabacaaGreatDoorY13
import Derived.Test.YtfcihnpmeabacaaGreatDoorY26
import Derived.Laws.CopyOwn
namespace Go.Proofs.YtfcihnpmeabacaaGreatDoor
open Go.RowKit
structure CnM (W0:World) (base fid bS bC bX bF sB cB:Nat) (A:Option Addr) (n c:Nat) (r:Int) (nd:List NdI) (st:CSt) (w:World):Prop where
 bel:Below base W0 w
 bs:Blk w bS 25 #[.slice (some ⟨sB,0,none⟩) n n]
 bc:Blk w bC 25 #[.slice (some ⟨cB,0,none⟩) n n]
 bx:Blk w bX 45 #[.slice A n c,.int .i64 r]
 bf:Blk w bF 121 #[.func (.func fid) #[] #[.pointer (some ⟨bS,0,none⟩),.pointer (some ⟨bX,0,none⟩),.pointer (some ⟨bC,0,none⟩),.pointer (some ⟨bF,0,none⟩)]]
 ss:Blk w sB 3 (st.2.map (Value.int .i64)).toArray
 cs:Blk w cB 3 (st.1.map (Value.int .i64)).toArray
 nd:Sl NdE (fun b=>b≠sB∧b≠cB) w A n c nd
 ge:base≤sB∧base≤cB
 ne:bS≠sB∧bS≠cB∧bC≠sB∧bC≠cB∧bX≠sB∧bX≠cB∧bF≠sB∧bF≠cB∧sB≠cB
section
variable {W0 w w':World} {base fid bS bC bX bF sB cB:Nat} {A:Option Addr} {n c:Nat} {r:Int} {nd:List NdI} {st:CSt}
theorem CnM.via (h:CnM W0 base fid bS bC bX bF sB cB A n c r nd st w) (hb:Below w.heap.size w w'):CnM W0 base fid bS bC bX bF sB cB A n c r nd st w' :=
 ⟨h.bel.trans (hb.mono (Nat.le_trans h.ge.1 (Nat.le_of_lt h.ss.lt))),h.bs.via hb,h.bc.via hb,h.bx.via hb,h.bf.via hb,h.ss.via hb,h.cs.via hb,h.nd.via hb,h.ge,h.ne⟩
theorem ints_set (xs:List Int) (v:Nat) (x:Int):(xs.map (Value.int .i64)).toArray.setIfInBounds v (.int .i64 x)=((xs.set v x).map (Value.int .i64)).toArray:=by simp
theorem CnM.setS (h:CnM W0 base fid bS bC bX bF sB cB A n c r nd st w) (v:Nat) (x:Int):CnM W0 base fid bS bC bX bF sB cB A n c r nd (st.1,st.2.set v x) (w.setCell ⟨sB,v,none⟩ (.int .i64 x)):=by
 obtain ⟨n1,n2,n3,n4,n5,n6,n7,n8,n9⟩:=h.ne;refine ⟨h.bel.setCell (p:=⟨sB,v,none⟩) h.ge.1 _,h.bs.far n1 _,h.bc.far n3 _,h.bx.far n5 _,h.bf.far n7 _,?_,h.cs.far (Ne.symm n9) _,h.nd.agr (Agr.setCell (p:=⟨sB,v,none⟩) _ fun b hb=>hb.1),h.ge,h.ne⟩;have:=h.ss.set_ v (.int .i64 x)
 rwa [ints_set] at this
theorem CnM.setC (h:CnM W0 base fid bS bC bX bF sB cB A n c r nd st w) (v:Nat) (x:Int):CnM W0 base fid bS bC bX bF sB cB A n c r nd (st.1.set v x,st.2) (w.setCell ⟨cB,v,none⟩ (.int .i64 x)):=by
 obtain ⟨n1,n2,n3,n4,n5,n6,n7,n8,n9⟩:=h.ne;refine ⟨h.bel.setCell (p:=⟨cB,v,none⟩) h.ge.2 _,h.bs.far n2 _,h.bc.far n4 _,h.bx.far n6 _,h.bf.far n8 _,h.ss.far n9 _,?_,h.nd.agr (Agr.setCell (p:=⟨cB,v,none⟩) _ fun b hb=>hb.2),h.ge,h.ne⟩;have:=h.cs.set_ v (.int .i64 x)
 rwa [ints_set] at this
theorem CnM.cellS (h:CnM W0 base fid bS bC bX bF sB cB A n c r nd st w) {v:Nat} (hv:v < st.2.length):w.cell? ⟨sB,v,none⟩=some (.int .i64 (st.2.getD v 0)):=by
 rw [h.ss.cell]; simp [List.getD_eq_getElem?_getD,hv]
theorem CnM.cellC (h:CnM W0 base fid bS bC bX bF sB cB A n c r nd st w) {v:Nat} (hv:v < st.1.length):w.cell? ⟨cB,v,none⟩=some (.int .i64 (st.1.getD v 0)):=by
 rw [h.cs.cell]; simp [List.getD_eq_getElem?_getD,hv]
end
def CvP (W0:World) (base fid bS bC bX bF sB cB:Nat) (A:Option Addr) (n c:Nat) (r:Int) (nd:List NdI) (w:World) (q:Bool×CSt) (e:Ending) (w':World):Prop :=
 e=.returned (.bool q.1)∧CnM W0 base fid bS bC bX bF sB cB A n c r nd q.2 w'∧Agr (fun b=>b≠sB∧b≠cB) w w'∧w.heap.size≤w'.heap.size
set_option maxRecDepth 100000 in
set_option maxHeartbeats 8000000 in
theorem visit_n (W0:World) (base fid:Nat) (hfid:Hid (fid=60)) (he:∀ (args:Array Value) (w:World),(callFunc fid args).run Tryz.prog w=.ok (.enter fid args) w)
 (bS bC bX bF sB cB:Nat) (A:Option Addr) (n c:Nat) (r:Int) (nd:List NdI) (hk:KidsIn nd) (hB:FoB nd) (hnl:nd.length=n):∀ (d v:Nat) (st:CSt) (w:World),zer st.2 < d→v < n→CGood n st→CnM W0 base fid bS bC bX bF sB cB A n c r nd st w →
 Calls Tryz.prog fid #[.int .i64 (v:Int),.pointer (some ⟨bS,0,none⟩),.pointer (some ⟨bX,0,none⟩),.pointer (some ⟨bC,0,none⟩),.pointer (some ⟨bF,0,none⟩)] w (CvP W0 base fid bS bC bX bF sB cB A n c r nd w (visV nd d v st)):=by
 intro d
 induction d with
 | zero=>intro v st w h; omega
 | succ d ih =>
  intro v st w hz hv hg hM;have HIH:=Lib.hid ih;have HG:=Lib.hid hg;have HM:=Lib.hid hM;have HZ:=Lib.hid hz;have HK:=Lib.hid hk;have HBB:=Lib.hid hB;have HNL:=Lib.hid hnl;have HF:=hfid;have hn:=hB.1;rw [hnl] at hn;have v0:(0:Int)≤(v:Int):=(by omega);have v1:(v:Int) < (n:Int):=(by omega);have cs0:=hM.cellS (v:=v) (by rw [hg.sl]; exact hv);have BS:=hM.bs;obtain ⟨sv,hsv⟩:∃ sv,sv=st.2.getD v 0:=⟨_,rfl⟩;rw [← hsv] at cs0;have HSV:=Lib.hid hsv;have hlsB:=hM.ss.lt;clear ih hg hM hz hk hB hnl hsv;obtain ⟨Q,hQ⟩:∃ Q,Q=CvP W0 base fid:=⟨_,rfl⟩;rw [← hQ];have HQQ:=Lib.hid hQ;clear hQ;rw [hfid.out];go_enter Tryz.func60,Tryz.ntmps60
  by_cases hs:0 < sv
  ·have cBS:=BS.cell;have fBS:=BS.frozen;have lBS:=BS.lt;go_wp2_with fail;have e1:visV nd (d+1) v st=(decide (st.2.getD v 0=2),st):=(by unfold visV; rw [if_pos (by rw [← HSV.out]; exact hs)]);rw [HQQ.out,e1,← HSV.out];exact ⟨by simp [go_sem]; rfl,HM.out,Agr.refl,Nat.le_refl _⟩
  ·have HFS:=Lib.hid HM.out.ss.frozen;have fS:=HM.out.ss.frozen;have cBS:=BS.cell;have fBS:=BS.frozen;have lBS:=BS.lt;go_upto_region 4 with fail;clear cBS fBS lBS;clear BS cs0 fS;have HM1:=Lib.hid (HM.out.setS v 1);have HA1:=Lib.hid (show Agr (fun b=>b≠sB∧b≠cB) w (w.setCell ⟨sB,v,none⟩ (.int .i64 1)) from Agr.setCell (p:=⟨sB,v,none⟩) _ fun b hb=>hb.1);have hz1:(w.setCell ⟨sB,v,none⟩ (.int .i64 1)).heap.size=w.heap.size:=(by simp);have HZ1:=Lib.hid hz1;clear hz1 HFS hlsB;generalize w.setCell ⟨sB,v,none⟩ (.int .i64 1)=w1 at *;have hvn:v < n:=hv;obtain ⟨b1,o1,⟨⟨xb,xm,xi,xj⟩,PA,pl,pc⟩,⟨⟨xb',xm',xi',xj'⟩,ps⟩,hAa,-,hb1,hx,⟨hx1,hx2⟩,hcx⟩:=HM1.out.nd.at_ hvn;simp only at hx1 hx2;obtain ⟨rfl,rfl,rfl,rfl⟩:xb=xb'∧xm=xm'∧xi=xi'∧xj=xj':=(by simpa using hx1);subst hAa;have c0:=hcx 0 _ rfl;have c1:=hcx 1 _ rfl;have c2:=hcx 2 _ rfl;have c3:=hcx 3 _ rfl;have c4:=hcx 4 _ rfl;simp only [NdE,Nat.add_zero] at c0 c1 c2 c3 c4;have hnx:ndAt nd v=((xb,xm,xi,xj),ps):=(by unfold ndAt; rw [hx]; rfl);have HNX:=Lib.hid hnx
   have hpl:pl≤17592186044416:=by
    have h1:=(HBB.out.2 _ (List.mem_of_getElem? hx)).1;have h2:=hx2.len;simp only at h1; omega
   have HKB:=Lib.hid (HBB.out.2 _ (List.mem_of_getElem? hx)).2;have HKI:=Lib.hid (HK.out _ (List.mem_of_getElem? hx));have BX1:=HM1.out.bx;have hal:=(Below.refl w1.heap.size w1).al (.cells #[.bool xb,.int .i64 xm,.int .i64 xi,.int .i64 xj,.slice PA pl pc] 102);have HM2:=Lib.hid (HM1.out.via hal);have HPS:=Lib.hid (hx2.via hal);have HA2:=Lib.hid (HA1.out.trans (Agr.below hal));have HS2:=Lib.hid (show w.heap.size≤(w1.alloc (.cells #[.bool xb,.int .i64 xm,.int .i64 xi,.int .i64 xj,.slice PA pl pc] 102)).heap.size by have:=HZ1.out; simp; omega);have BN:=Blk.new w1 102 #[.bool xb,.int .i64 xm,.int .i64 xi,.int .i64 xj,.slice PA pl pc];have HNC:=Lib.hid (show w1.heap.size≠cB from fun e=>by have:=HM1.out.cs.lt; omega);clear hcx hx hx1 hx2 hnx hal;have cBX1:=BX1.cell;have fBX1:=BX1.frozen;have lBX1:=BX1.lt;have cBN:=BN.cell;have fBN:=BN.frozen;have lBN:=BN.lt;go_upto_if 33 with fail;clear cBX1 fBX1 lBX1 cBN fBN lBN;clear BX1 c0 c1 c2 c3 c4;generalize w1.alloc (.cells #[.bool xb,.int .i64 xm,.int .i64 xi,.int .i64 xj,.slice PA pl pc] 102)=w2 at *;generalize w1.heap.size=bn at *;have HOPN:=Lib.hid (show opn nd v st=(if xb=true then st.1.set v 1 else st.1,st.2.set v 1) by unfold opn; rw [HNX.out])
   have HZZ:=Lib.hid (show zer (opn nd v st).2 < d from by
    have h1:=zer_set_lt st.2 v 1 (by omega) (by rw [HG.out.sl]; exact hv) (by rw [← HSV.out]; exact hs);have h2:=HZ.out;show zer (st.2.set v 1) < d
    omega)
   have HGO:=Lib.hid (show CGood n (opn nd v st) from HG.out.opn);obtain ⟨st1,hst1⟩:∃ st1,st1=opn nd v st:=⟨_,rfl⟩;rw [← hst1] at HZZ HGO HOPN;have HST1:=Lib.hid hst1;clear hst1
   go_cut [] (fun wx=>CnM W0 base fid bS bC bX bF sB cB (some ⟨b1,o1,none⟩) n c r nd st1 wx∧Blk wx bn 102 #[.bool xb,.int .i64 xm,.int .i64 xi,.int .i64 xj,.slice PA pl pc]∧Agr (fun b=>b≠sB∧b≠cB) w2 wx∧wx.heap.size=w2.heap.size)
   case first =>
    have h1:=HOPN.out;cases xb with
    | true =>
     simp only [if_true] at h1;have BC:=HM2.out.bc;have fC:=HM2.out.cs.frozen;have hc1:∃ u,w2.cell? ⟨cB,v,none⟩=some u:=⟨_,HM2.out.cellC (v:=v) (by rw [HG.out.cl]; exact hv)⟩;obtain ⟨u,hu⟩:=hc1;have cBC:=BC.cell;have fBC:=BC.frozen;have lBC:=BC.lt;go_wp2_with fail;have hm3:=HM2.out.setC v 1;go_meet;refine ⟨by rw [h1]; exact hm3,BN.far HNC.out _,Agr.setCell (p:=⟨cB,v,none⟩) _ fun b hb=>hb.2,by simp⟩
    | false =>
     simp only [Bool.false_eq_true,if_false] at h1;have hm3:=HM2.out;go_wp2_with fail;go_meet;exact ⟨by rw [h1]; exact hm3,BN,Agr.refl,rfl⟩
   case rest =>
    obtain ⟨hm3,BN3,ha3,hz3⟩:=hcut;have HM3:=Lib.hid hm3;have HA3:=Lib.hid (HA2.out.trans ha3);have HS3:=Lib.hid (show w.heap.size≤wc.heap.size by rw [hz3]; exact HS2.out);have HPS3:=Lib.hid (HPS.out.agr ha3);clear hm3 ha3 hz3 HM2 HA2 HS2 HPS BN;have cBN3:=BN3.cell;have fBN3:=BN3.frozen;have lBN3:=BN3.lt;go_wp2_with fail;clear cBN3 fBN3 lBN3;clear BN3;have HRS:=Lib.hid (show packsV (visV nd d) v ps st1=packsV (visV nd d) v (ndAt nd v).2 (opn nd v st) by rw [HNX.out,HST1.out]);obtain ⟨RS,hRS⟩:∃ RS,RS=packsV (visV nd d) v ps st1:=⟨_,rfl⟩;rw [← hRS] at HRS;have HRE:=Lib.hid hRS.symm;clear hRS
    go_loopw [40] (fun q wr=>∃ (i:Nat) (st2:CSt),q=.int .i64 (i:Int)∧i≤pl∧Hid (CnM W0 base fid bS bC bX bF sB cB (some ⟨b1,o1,none⟩) n c r nd st2 wr∧CGood n st2∧zer st2.2 < d∧packsV (visV nd d) v (ps.drop i) st2=RS∧Agr (fun b=>b≠sB∧b≠cB) wc wr∧wc.heap.size≤wr.heap.size)) (fun q _=>pl - (intOf q).toNat)
    case atStart=>exact ⟨0,st1,rfl,Nat.zero_le _,Lib.hid ⟨HM3.out,HGO.out,HZZ.out,by rw [List.drop_zero]; exact HRE.out,Agr.refl,Nat.le_refl _⟩⟩
    case round =>
     obtain ⟨i,st2,rfl,hi,HQ⟩:=hrel;clear HM3 HGO HZZ HRE
     by_cases hip:i < pl
     ·obtain ⟨b2,o2,⟨pr,KA,kn,kc⟩,⟨pr',ks⟩,hPA,-,hb2,hp,⟨hp1,hp2⟩,hcp⟩:=(HPS3.out.agr HQ.out.2.2.2.2.1).at_ hip;simp only at hp1 hp2;obtain rfl:pr=pr':=hp1;subst hPA;have d0:=hcp 0 _ rfl;have d1:=hcp 1 _ rfl;simp only [FpE,Nat.add_zero] at d0 d1;have i0:(0:Int)≤(i:Int):=(by omega);have i1:(i:Int) < (pl:Int):=(by omega);have HP:=Lib.hid hp
      have hkn:kn≤17592186044416:=by
       have h1:=HKB.out _ (List.mem_of_getElem? hp);have h2:=hp2.len;simp only at h1; omega
      have HKK:=Lib.hid (HKI.out _ (List.mem_of_getElem? hp));have hal:=(Below.refl wr.heap.size wr).al (.cells #[.int .i64 pr,.slice KA kn kc] 104);have HM4:=Lib.hid (HQ.out.1.via hal);have HA4:=Lib.hid (HQ.out.2.2.2.2.1.trans (Agr.below hal));have HS4:=Lib.hid (show wc.heap.size≤(wr.alloc (.cells #[.int .i64 pr,.slice KA kn kc] 104)).heap.size from Nat.le_trans HQ.out.2.2.2.2.2 hal.size);have HKS:=Lib.hid (hp2.via hal);have BP:=Blk.new wr 104 #[.int .i64 pr,.slice KA kn kc];have HGD:=Lib.hid HQ.out.2.1;have HZ2:=Lib.hid HQ.out.2.2.1;have HR2:=Lib.hid HQ.out.2.2.2.1;clear hcp hp hp2 hal HQ hb2;go_upto_region 11 with fail;clear d0 d1;generalize wr.alloc (.cells #[.int .i64 pr,.slice KA kn kc] 104)=w4 at *;generalize wr.heap.size=bp at *;have cBP:=BP.cell;have fBP:=BP.frozen;have lBP:=BP.lt;go_wp2_with fail;clear cBP fBP lBP;clear BP
      have HDR:=Lib.hid (show ps.drop i=(pr,ks)::ps.drop (i+1) by
       have h1:=List.getElem?_eq_some_iff.1 HP.out
       rw [List.drop_eq_getElem_cons h1.1,h1.2])
      obtain ⟨KR,hKR⟩:∃ KR,KR=kidsV (visV nd d) ks 1 st2:=⟨_,rfl⟩;have HKR:=Lib.hid hKR;clear hKR
      go_loopw [10,47] (fun x q wr=>∃ (j:Nat) (xv:Int) (st3:CSt),x=.int .i64 xv∧q=.int .i64 (j:Int)∧j≤kn∧Hid (CnM W0 base fid bS bC bX bF sB cB (some ⟨b1,o1,none⟩) n c r nd st3 wr∧CGood n st3∧zer st3.2 < d∧(0≤xv∧xv≤1000000000)∧kidsV (visV nd d) (ks.drop j) xv st3=KR∧Agr (fun b=>b≠sB∧b≠cB) w4 wr∧w4.heap.size≤wr.heap.size)) (fun _ q _=>kn - (intOf q).toNat)
      case atStart=>exact ⟨0,1,st2,rfl,rfl,Nat.zero_le _,Lib.hid ⟨HM4.out,HGD.out,HZ2.out,by omega,by rw [List.drop_zero]; exact HKR.out.symm,Agr.refl,Nat.le_refl _⟩⟩
      case round =>
       obtain ⟨j,xv,st3,rfl,rfl,hj,HQ⟩:=hrel;clear HM4 HGD HZ2
       by_cases hjk:j < kn
       ·obtain ⟨b3,o3,k0,k1,hKA,-,hb3,hkk,hkr,hck⟩:=(HKS.out.agr HQ.out.2.2.2.2.2.1).at_ hjk;obtain rfl:k0=k1:=hkr;subst hKA;have d0:=hck 0 _ rfl;simp only [InE,Nat.mul_one,Nat.add_zero] at d0;have j0:(0:Int)≤(j:Int):=(by omega);have j1:(j:Int) < (kn:Int):=(by omega);have hkin:=HKK.out k0 (List.mem_of_getElem? hkk);rw [HNL.out] at hkin;obtain ⟨kv,rfl⟩:∃ kv:Nat,k0=(kv:Int):=⟨k0.toNat,by omega⟩;have hkv:kv < n:=(by omega)
        have HDK:=Lib.hid (show ks.drop j=(kv:Int)::ks.drop (j+1) by
         have h1:=List.getElem?_eq_some_iff.1 hkk
         rw [List.drop_eq_getElem_cons h1.1,h1.2])
        have HCA:=Lib.hid (HIH.out kv st3 wr HQ.out.2.2.1 hkv HQ.out.2.1 HQ.out.1);obtain ⟨kep1,kep2⟩:=visV_keeps HK.out d kv st3 (by rw [HNL.out]; exact hkv) (by rw [HNL.out]; exact HQ.out.2.1);rw [HNL.out] at kep1;have HKP:=Lib.hid (And.intro kep1 (Nat.lt_of_le_of_lt kep2 HQ.out.2.2.1));have HXV:=Lib.hid HQ.out.2.2.2.1;have HKQ:=Lib.hid (show kidsV (visV nd d) ((kv:Int)::ks.drop (j+1)) xv st3=KR by rw [← HDK.out]; exact HQ.out.2.2.2.2.1);have HAQ:=Lib.hid HQ.out.2.2.2.2.2;have BF:=HQ.out.1.bf;clear hck hkk hkin kep1 kep2 HQ hb3;go_upto_region 14 with fail;clear d0;have cBF:=BF.cell;have fBF:=BF.frozen;have lBF:=BF.lt
        iterate 9 go_step
        clear cBF fBF lBF;clear BF;refine HCA.out.mono ?_;clear HCA;rintro e w5 ⟨rfl,hm5,ha5,hz5⟩;obtain ⟨vk,hvk⟩:∃ vk,vk=visV nd d kv st3:=⟨_,rfl⟩
        have HKE:=Lib.hid (show (if vk.1=true then kidsV (visV nd d) (ks.drop (j+1)) (min (xv*vk.2.1.getD kv 0) 1000000000) vk.2 else (false,xv,vk.2))=KR by
         rw [← HKQ.out,kidsV,Int.toNat_natCast,← hvk])
        rw [← hvk] at hm5 HKP ⊢;have HM5:=Lib.hid hm5;have HA5:=Lib.hid (HAQ.out.1.trans ha5);have HZ5:=Lib.hid (Nat.le_trans HAQ.out.2 hz5);clear hvk hm5 ha5 hz5 HKQ HAQ;obtain ⟨vb,st4⟩:=vk;dsimp only at *;cases vb with
        | false =>
         have hkr:=HKE.out;try simp only [Bool.false_eq_true,if_false] at hkr
         have hrs:RS=(false,st4):=by
          rw [← HR2.out,HDR.out,packsV,← HKR.out,← hkr]; rfl
         have HRR:=Lib.hid hrs;clear hkr hrs;go_wp2_with fail
         have e1:visV nd (d+1) v st=(false,st4):=by
          unfold visV;rw [if_neg (by rw [← HSV.out]; omega),← HRS.out,HRR.out]; rfl
         rw [HQQ.out,e1];exact ⟨rfl,HM5.out,((HA3.out.trans HA4.out).trans HA5.out),Nat.le_trans HS3.out (Nat.le_trans HS4.out HZ5.out)⟩
        | true =>
         have hkr:=HKE.out;try simp only [if_true] at hkr
         have HKR2:=Lib.hid hkr;have hcl:=HM5.out.cellC (v:=kv) (by rw [HKP.out.1.cl]; exact hkv);have hat:=HKP.out.1.at_ kv;have hml:=mul_lim HXV.out hat;obtain ⟨cv,hcv⟩:∃ cv,cv=st4.1.getD kv 0:=⟨_,rfl⟩;rw [← hcv] at hcl hml hat;have HCV:=Lib.hid hcv;have HML:=Lib.hid hml
         have hwr:IntKind.i64.wrap (xv*cv)=xv*cv:=by
          have h1:=hml.1;have h2:=hml.2;exact IntWalk.i64_in _ (by omega)
         have BC:=HM5.out.bc;have kv0:(0:Int)≤(kv:Int):=(by omega);have kv1:(kv:Int) < (n:Int):=(by omega);clear hkr hcv hml hat HKE;have cBC:=BC.cell;have fBC:=BC.frozen;have lBC:=BC.lt;go_wp2_with fail;exact ⟨⟨j+1,min (xv*cv) 1000000000,st4,rfl,by go_num,by omega,Lib.hid ⟨HM5.out,HKP.out.1,HKP.out.2,by have:=HML.out; omega,by rw [HCV.out]; exact HKR2.out,HA5.out,HZ5.out⟩⟩,by simp [intOf]; omega⟩
       ·obtain rfl:kn=j:=(by omega)
        have hfin:KR=(true,xv,st3):=by
         rw [← HQ.out.2.2.2.2.1,List.drop_eq_nil_of_le (by rw [HKS.out.len]; exact Nat.le_refl _)]; rfl
        have HFI:=Lib.hid hfin;have BC:=HQ.out.1.bc;have fC:=HQ.out.1.cs.frozen;have hcl:=HQ.out.1.cellC (v:=v) (by rw [HQ.out.2.1.cl]; exact hv);have hat:=HQ.out.2.1.at_ v;obtain ⟨cv,hcv⟩:∃ cv,cv=st3.1.getD v 0:=⟨_,rfl⟩;rw [← hcv] at hcl hat;have hxv:=HQ.out.2.2.2.1;have HCV:=Lib.hid hcv;have HMQ:=Lib.hid HQ.out.1;have HGQ:=Lib.hid (And.intro HQ.out.2.1 HQ.out.2.2.1);have HAQ:=Lib.hid HQ.out.2.2.2.2.2;have hwr:IntKind.i64.wrap (cv+xv)=cv+xv:=IntWalk.i64_in _ (by omega);have HBD:=Lib.hid (And.intro hat hxv);clear hfin hcv hat hxv HQ;go_upto_region 18 with fail;have hlb:=BC.lt;have hcb:=HMQ.out.cs.lt;have SO:=Lib.hid (show ∀ w',Below wr.heap.size wr w'→((∀ x,w'.cell? ⟨bC,x,none⟩=#[.slice (some ⟨cB,0,none⟩) n n][x]?)∧w'.cell? ⟨cB,v,none⟩=some (.int .i64 cv)) from fun w' hb=>⟨(BC.via hb).cell,(hb.cell hcb).trans hcl⟩);have hHeld:=SO.out _ (Below.refl wr.heap.size wr).drew;have hdr:=(Below.refl wr.heap.size wr).drew;clear BC hcl fC;refine wp_region_L 10 (fun w'=>(∀ x,w'.cell? ⟨bC,x,none⟩=#[.slice (some ⟨cB,0,none⟩) n n][x]?)∧w'.cell? ⟨cB,v,none⟩=some (.int .i64 cv)) (by kernel_rfl) ?_;refine tkL 0 63 ?_;refine tkL 1 64 ?_;refine tkL 2 65 ?_;refine tkL 3 66 ?_;refine tkL 4 67 ?_;refine tkL 5 68 ?_;refine tkL 6 69 ?_;refine tkL 7 70 ?_;refine tkL 8 71 ?_;refine tkL 9 72 ?_;generalize wr.drew=wq at *;refine wpAnyL.ready (rs:=[10]) (by kernel_rfl) (by simp) ?_;refine AllL.cons rfl (fun K hK=>?_) AllL.nil;have fC:=(HMQ.out.cs.via hdr).frozen;have hcl2:=hHeld.2;go_simp;refine hK.out _ _ (fun h=>absurd rfl h) ?_;clear hK K;refine wpAnyL.done (by kernel_rfl) ?_ _;try refine NoPanic.normal ?_
        have HMD:=Lib.hid ((HMQ.out.via hdr).setC v (min (cv+xv) 1000000000));have HGD:=Lib.hid (HGQ.out.1.setC v (c:=min (cv+xv) 1000000000) (by have:=HBD.out; omega) (by have:=HBD.out; omega));have HAD:=Lib.hid ((HA4.out.trans HAQ.out.1).trans ((Agr.below hdr).trans (Agr.setCell (p:=⟨cB,v,none⟩) (.int .i64 (min (cv+xv) 1000000000)) fun b hb=>hb.2)))
        have HZD:=Lib.hid (show wc.heap.size≤(wq.setCell ⟨cB,v,none⟩ (.int .i64 (min (cv+xv) 1000000000))).heap.size by
         have h3:=hdr.size;have h1:=HS4.out;have h2:=HAQ.out.2
         simp; omega)
        have HRD:=Lib.hid (show packsV (visV nd d) v (ps.drop (i+1)) (st3.1.set v (min (cv+xv) 1000000000),st3.2)=RS by
         rw [← HR2.out,HDR.out,packsV,← HKR.out,HFI.out,HCV.out]; rfl)
        clear hHeld hdr SO fC hcl2;generalize wq.setCell ⟨cB,v,none⟩ (.int .i64 (min (cv+xv) 1000000000))=w9 at *;go_wp2_with fail;exact ⟨⟨i+1,_,by go_num,by omega,Lib.hid ⟨HMD.out,HGD.out,HGQ.out.2,HRD.out,HAD.out,HZD.out⟩⟩,by simp [intOf]; omega⟩
     ·obtain rfl:pl=i:=(by omega);have HQ2:=HQ
      have hfin:RS=(true,st2):=by
       rw [← HQ.out.2.2.2.1,List.drop_eq_nil_of_le (by rw [HPS3.out.len]; exact Nat.le_refl _)]; rfl
      have HFI:=Lib.hid hfin;have BS:=HQ.out.1.bs;have fS:=HQ.out.1.ss.frozen;have hcl:=HQ.out.1.cellS (v:=v) (by rw [HQ.out.2.1.sl]; exact hv);have hlS:=HQ.out.1.ss.lt;clear hfin;have cBS:=BS.cell;have fBS:=BS.frozen;have lBS:=BS.lt;go_wp2_with fail
      have e1:visV nd (d+1) v st=(true,(st2.1,st2.2.set v 2)):=by
       unfold visV;rw [if_neg (by rw [← HSV.out]; omega),← HRS.out,HFI.out]; rfl
      rw [HQQ.out,e1];exact ⟨rfl,HQ2.out.1.setS v 2,((HA3.out.trans HQ2.out.2.2.2.2.1)).trans (Agr.setCell (p:=⟨sB,v,none⟩) _ fun b hb=>hb.1),by simp; exact Nat.le_trans HS3.out HQ2.out.2.2.2.2.2⟩
end Go.Proofs.YtfcihnpmeabacaaGreatDoor
namespace Go.Proofs.YtfcihnpmeabacaaGreatDoor
open Go.RowKit
theorem made_one (z:Value) (n:Nat):madeCells #[z] n=Array.replicate n z:=by
 apply Array.ext_getElem?
 intro i;unfold madeCells;rw [Array.getElem?_map,Array.getElem?_range]
 by_cases h:i < n
 ·rw [if_pos h]; simp [h,Nat.mod_one]
 ·rw [if_neg h]; simp [h]
theorem int_inf1:(Tryz.prog.info? 3).map (fun i=>(i.zero,i.size,i.bytes))=some (some (.int .i64 0),1,8):=by kernel_rfl
end Go.Proofs.YtfcihnpmeabacaaGreatDoor
namespace Go.Proofs.YtfcihnpmeabacaaGreatDoor
open Go.RowKit
theorem mk_cnt (n:Nat) (hn:n≤1000000):∀ w:World,(Instr.makeSlice 25 (.int .i64 (n:Int)) (.int .i64 (n:Int))).run Tryz.prog w=.ok (.slice (some ⟨w.heap.size,0,none⟩) n n) (w.alloc (.cells (Array.replicate n (Value.int .i64 0)) 3)):=by
 intro w;obtain ⟨i,hi,hz,hs,hb⟩:=info_parts int_inf1;have h:=run_make (P:=Tryz.prog) w 25 3 i _ Tryz.underlying25 hi hz .i64 .i64 (n:Int) (n:Int) (by omega) (by omega) (by rw [hb]; omega) (by omega);rw [show ((n:Int)).toNat=n from by omega,hs,Nat.mul_one] at h;rw [← made_one];exact h
theorem CnM.start (w:World) (fid:Nat) (A:Option Addr) (n c:Nat) (r:Int) (nd:List NdI) (hnd:Sl NdE (fun b=>b < w.heap.size) w A n c nd) :
 CnM w w.heap.size fid (w.heap.size+1+1+1+1) (w.heap.size+1+1) w.heap.size (w.heap.size+1+1+1+1+1) (w.heap.size+1+1+1) (w.heap.size+1) A n c r nd (List.replicate n 0,List.replicate n 0) ((((((w.alloc (.cells #[.slice A n c,.int .i64 r] 45)).alloc (.cells (Array.replicate n (Value.int .i64 0)) 3)).alloc (.cells #[.slice (some ⟨w.heap.size+1,0,none⟩) n n] 25)).alloc (.cells (Array.replicate n (Value.int .i64 0)) 3)).alloc (.cells #[.slice (some ⟨w.heap.size+1+1+1,0,none⟩) n n] 25)).alloc (.cells #[.func (.func fid) #[] #[.pointer (some ⟨w.heap.size+1+1+1+1,0,none⟩),.pointer (some ⟨w.heap.size,0,none⟩),.pointer (some ⟨w.heap.size+1+1,0,none⟩),.pointer (some ⟨w.heap.size+1+1+1+1+1,0,none⟩)]] 121)) where
 bel:=((((((Below.refl w.heap.size w).al (.cells #[.slice A n c,.int .i64 r] 45)).al (.cells (Array.replicate n (Value.int .i64 0)) 3)).al (.cells #[.slice (some ⟨w.heap.size+1,0,none⟩) n n] 25)).al (.cells (Array.replicate n (Value.int .i64 0)) 3)).al (.cells #[.slice (some ⟨w.heap.size+1+1+1,0,none⟩) n n] 25)).al (.cells #[.func (.func fid) #[] #[.pointer (some ⟨w.heap.size+1+1+1+1,0,none⟩),.pointer (some ⟨w.heap.size,0,none⟩),.pointer (some ⟨w.heap.size+1+1,0,none⟩),.pointer (some ⟨w.heap.size+1+1+1+1+1,0,none⟩)]] 121)
 bs:=(Blk.newAt ((((w.alloc (.cells #[.slice A n c,.int .i64 r] 45)).alloc (.cells (Array.replicate n (Value.int .i64 0)) 3)).alloc (.cells #[.slice (some ⟨w.heap.size+1,0,none⟩) n n] 25)).alloc (.cells (Array.replicate n (Value.int .i64 0)) 3)) 25 #[.slice (some ⟨w.heap.size+1+1+1,0,none⟩) n n] (w.heap.size+1+1+1+1) (by simp)).al (.cells #[.func (.func fid) #[] #[.pointer (some ⟨w.heap.size+1+1+1+1,0,none⟩),.pointer (some ⟨w.heap.size,0,none⟩),.pointer (some ⟨w.heap.size+1+1,0,none⟩),.pointer (some ⟨w.heap.size+1+1+1+1+1,0,none⟩)]] 121)
 bc:=(((Blk.newAt ((w.alloc (.cells #[.slice A n c,.int .i64 r] 45)).alloc (.cells (Array.replicate n (Value.int .i64 0)) 3)) 25 #[.slice (some ⟨w.heap.size+1,0,none⟩) n n] (w.heap.size+1+1) (by simp)).al (.cells (Array.replicate n (Value.int .i64 0)) 3)).al (.cells #[.slice (some ⟨w.heap.size+1+1+1,0,none⟩) n n] 25)).al (.cells #[.func (.func fid) #[] #[.pointer (some ⟨w.heap.size+1+1+1+1,0,none⟩),.pointer (some ⟨w.heap.size,0,none⟩),.pointer (some ⟨w.heap.size+1+1,0,none⟩),.pointer (some ⟨w.heap.size+1+1+1+1+1,0,none⟩)]] 121)
 bx:=(((((Blk.newAt w 45 #[.slice A n c,.int .i64 r] (w.heap.size) (by simp)).al (.cells (Array.replicate n (Value.int .i64 0)) 3)).al (.cells #[.slice (some ⟨w.heap.size+1,0,none⟩) n n] 25)).al (.cells (Array.replicate n (Value.int .i64 0)) 3)).al (.cells #[.slice (some ⟨w.heap.size+1+1+1,0,none⟩) n n] 25)).al (.cells #[.func (.func fid) #[] #[.pointer (some ⟨w.heap.size+1+1+1+1,0,none⟩),.pointer (some ⟨w.heap.size,0,none⟩),.pointer (some ⟨w.heap.size+1+1,0,none⟩),.pointer (some ⟨w.heap.size+1+1+1+1+1,0,none⟩)]] 121)
 bf:=Blk.newAt (((((w.alloc (.cells #[.slice A n c,.int .i64 r] 45)).alloc (.cells (Array.replicate n (Value.int .i64 0)) 3)).alloc (.cells #[.slice (some ⟨w.heap.size+1,0,none⟩) n n] 25)).alloc (.cells (Array.replicate n (Value.int .i64 0)) 3)).alloc (.cells #[.slice (some ⟨w.heap.size+1+1+1,0,none⟩) n n] 25)) 121 #[.func (.func fid) #[] #[.pointer (some ⟨w.heap.size+1+1+1+1,0,none⟩),.pointer (some ⟨w.heap.size,0,none⟩),.pointer (some ⟨w.heap.size+1+1,0,none⟩),.pointer (some ⟨w.heap.size+1+1+1+1+1,0,none⟩)]] (w.heap.size+1+1+1+1+1) (by simp)
 ss:=by
  have h:=((Blk.newAt (((w.alloc (.cells #[.slice A n c,.int .i64 r] 45)).alloc (.cells (Array.replicate n (Value.int .i64 0)) 3)).alloc (.cells #[.slice (some ⟨w.heap.size+1,0,none⟩) n n] 25)) 3 (Array.replicate n (Value.int .i64 0)) (w.heap.size+1+1+1) (by simp)).al (.cells #[.slice (some ⟨w.heap.size+1+1+1,0,none⟩) n n] 25)).al (.cells #[.func (.func fid) #[] #[.pointer (some ⟨w.heap.size+1+1+1+1,0,none⟩),.pointer (some ⟨w.heap.size,0,none⟩),.pointer (some ⟨w.heap.size+1+1,0,none⟩),.pointer (some ⟨w.heap.size+1+1+1+1+1,0,none⟩)]] 121)
  simpa using h
 cs:=by
  have h:=((((Blk.newAt (w.alloc (.cells #[.slice A n c,.int .i64 r] 45)) 3 (Array.replicate n (Value.int .i64 0)) (w.heap.size+1) (by simp)).al (.cells #[.slice (some ⟨w.heap.size+1,0,none⟩) n n] 25)).al (.cells (Array.replicate n (Value.int .i64 0)) 3)).al (.cells #[.slice (some ⟨w.heap.size+1+1+1,0,none⟩) n n] 25)).al (.cells #[.func (.func fid) #[] #[.pointer (some ⟨w.heap.size+1+1+1+1,0,none⟩),.pointer (some ⟨w.heap.size,0,none⟩),.pointer (some ⟨w.heap.size+1+1,0,none⟩),.pointer (some ⟨w.heap.size+1+1+1+1+1,0,none⟩)]] 121)
  simpa using h
 nd:=(((((((hnd.mono (ok':=fun b=>b≠w.heap.size+1+1+1∧b≠w.heap.size+1) fun b _ hb=>by omega)).al (.cells #[.slice A n c,.int .i64 r] 45)).al (.cells (Array.replicate n (Value.int .i64 0)) 3)).al (.cells #[.slice (some ⟨w.heap.size+1,0,none⟩) n n] 25)).al (.cells (Array.replicate n (Value.int .i64 0)) 3)).al (.cells #[.slice (some ⟨w.heap.size+1+1+1,0,none⟩) n n] 25)).al (.cells #[.func (.func fid) #[] #[.pointer (some ⟨w.heap.size+1+1+1+1,0,none⟩),.pointer (some ⟨w.heap.size,0,none⟩),.pointer (some ⟨w.heap.size+1+1,0,none⟩),.pointer (some ⟨w.heap.size+1+1+1+1+1,0,none⟩)]] 121)
 ge:=by omega
 ne:=by omega
theorem zer_all (n:Nat):zer (List.replicate n 0)=n:=by simp [zer,List.countP_replicate]
set_option maxRecDepth 100000 in
theorem enters_cv:∀ (args:Array Value) (w:World),(callFunc 60 args).run Tryz.prog w=.ok (.enter 60 args) w :=
 enters_c (c:=_) (fn:=Tryz.f60) rfl (by kernel_rfl) rfl
set_option maxRecDepth 100000 in
set_option maxHeartbeats 8000000 in
theorem count_c (ok:Nat→Prop) (A:Option Addr) (n c:Nat) (r:Int) (nd:List NdI) (w:World) (hnd:Sl NdE ok w A n c nd) (hk:KidsIn nd) (hB:FoB nd) (hr:r < (n:Int)) (hn:n≤1000000) :
 Calls Tryz.prog 26 #[.agg #[.slice A n c,.int .i64 r]] w fun e w'=>e=.returned (.int .i64 (cntV (r,nd)))∧Below w.heap.size w w':=by
 have B0:=Blk.new w 45 #[.slice A n c,.int .i64 r];have HAL:=Lib.hid ((Below.refl w.heap.size w).al (.cells #[.slice A n c,.int .i64 r] 45));have hlen:=hnd.len;have HND:=Lib.hid (hnd.mono (ok':=fun b=>b < w.heap.size) fun b hb _=>hb);have HK:=Lib.hid hk;have HB:=Lib.hid hB;have HLN:=Lib.hid hlen;clear hnd hk hB hlen;go_enter Tryz.func26,Tryz.ntmps26
 by_cases h0:r < 0
 ·have cB0:=B0.cell;have fB0:=B0.frozen;have lB0:=B0.lt;go_wp2_with fail;go_ret;exact ⟨by simp [cntV,h0],HAL.out⟩
 ·obtain ⟨v,rfl⟩:∃ v:Nat,r=(v:Int):=⟨r.toNat,by omega⟩;have hv:v < n:=(by omega);have hmk:=mk_cnt n hn;have hmf:∀ (fn:Fn) (first cap:Array Value) (w:World),(Instr.makeFunc fn first cap).run Tryz.prog w=.ok (.func fn first cap) w:=fun _ _ _ _=>rfl
  have cB0:=B0.cell;have fB0:=B0.frozen;have lB0:=B0.lt;go_upto_region 7 with fail;clear cB0 fB0 lB0;clear hmk hmf;have HM:=Lib.hid (CnM.start w 60 A n c (v:Int) nd HND.out);generalize ((((((w.alloc (.cells #[.slice A n c,.int .i64 (v:Int)] 45)).alloc (.cells (Array.replicate n (Value.int .i64 0)) 3)).alloc (.cells #[.slice (some ⟨w.heap.size+1,0,none⟩) n n] 25)).alloc (.cells (Array.replicate n (Value.int .i64 0)) 3)).alloc (.cells #[.slice (some ⟨w.heap.size+1+1+1,0,none⟩) n n] 25)).alloc (.cells #[.func (.func 60) #[] #[.pointer (some ⟨w.heap.size+1+1+1+1,0,none⟩),.pointer (some ⟨w.heap.size,0,none⟩),.pointer (some ⟨w.heap.size+1+1,0,none⟩),.pointer (some ⟨w.heap.size+1+1+1+1+1,0,none⟩)]] 121))=W at *;have hz:zer (List.replicate n (0:Int)) < n+1:=(by rw [zer_all]; omega);have HV:=Lib.hid (visit_n w w.heap.size 60 (Lib.hid rfl) enters_cv _ _ _ _ _ _ A n c (v:Int) nd HK.out HB.out HLN.out (n+1) v (List.replicate n 0,List.replicate n 0) W hz hv ⟨by simp,by simp,fun c hc=>by have:=List.eq_of_mem_replicate hc; omega⟩ HM.out);have BF:=HM.out.bf;have BX:=HM.out.bx;clear B0 hz;have cBF:=BF.cell;have fBF:=BF.frozen;have lBF:=BF.lt;have cBX:=BX.cell;have fBX:=BX.frozen;have lBX:=BX.lt
  repeat go_step
  clear cBF fBF lBF cBX fBX lBX;clear BF BX;refine HV.out.mono ?_;clear HV;rintro e w8 ⟨rfl,hm,ha,hz⟩;have HM8:=Lib.hid hm;obtain ⟨vk,hvk⟩:∃ vk,vk=visV nd (n+1) v (List.replicate n 0,List.replicate n 0):=⟨_,rfl⟩;have hkp:=visV_keeps HK.out (n+1) v (List.replicate n 0,List.replicate n 0) (by rw [HLN.out]; exact hv) ⟨by simp [HLN.out],by simp [HLN.out],fun c hc=>by have:=List.eq_of_mem_replicate hc; omega⟩;rw [HLN.out] at hkp
  have HE:=Lib.hid (show cntV ((v:Int),nd)=if vk.1=true then vk.2.1.getD v 0 else -1 by
   unfold cntV;simp only
   rw [if_neg h0,Int.toNat_natCast,HLN.out,← hvk])
  rw [← hvk] at hm hkp HM8 ⊢;have HKP:=Lib.hid hkp.1;clear hm ha hz hvk hkp HM;obtain ⟨vb,st⟩:=vk;dsimp only at *;cases vb with
  | false =>
   have h1:=HE.out;try simp only [Bool.false_eq_true,if_false] at h1
   have HE1:=Lib.hid h1;clear h1;go_wp2_with fail;go_ret;exact ⟨by rw [HE1.out]; rfl,HM8.out.bel⟩
  | true =>
   have h1:=HE.out;try simp only [if_true] at h1
   have HE1:=Lib.hid h1;have hcl:=HM8.out.cellC (v:=v) (by rw [HKP.out.cl]; exact hv);have BC:=HM8.out.bc;have BX:=HM8.out.bx;have v0:(0:Int)≤(v:Int):=(by omega);clear h1;obtain ⟨cv,hcv⟩:∃ cv,cv=st.1.getD v 0:=⟨_,rfl⟩;rw [← hcv] at hcl;have HCV:=Lib.hid hcv;clear hcv;have cBC:=BC.cell;have fBC:=BC.frozen;have lBC:=BC.lt;have cBX:=BX.cell;have fBX:=BX.frozen;have lBX:=BX.lt;go_wp2_with fail;go_ret;exact ⟨by rw [HE1.out,← HCV.out]; rfl,HM8.out.bel⟩
end Go.Proofs.YtfcihnpmeabacaaGreatDoor
