/- Texts SE, SF, SG, laid together. -/
import Derived.Test.YtfcihnpmeabacaaGreatDoorY32
import Derived.Test.YtfcihnpmeabacaaGreatDoorY11
namespace Go.Proofs.YtfcihnpmeabacaaGreatDoor
open Go.RowKit
set_option maxRecDepth 100000 in
theorem enters_wy:∀ (args:Array Value) (w:World),(callFunc 65 args).run Tryz.prog w=.ok (.enter 65 args) w :=
 enters_c (c:=_) (fn:=Tryz.f65) rfl (by kernel_rfl) rfl
structure WyB (W0 w:World) (bx bo bmo bp:Nat) (k:Ky) (most bs:Nat) (base:Nat) (v:Value) (out:List (Nat×List Ky)):Prop where
 bel:Below W0.heap.size W0 w
 xb:Blk w bx 71 (kyC k)
 mb:Blk w bmo 3 #[.int .i64 (most:Int)]
 pb:Blk w bp 33 #[.pointer (some ⟨bs,0,none⟩)]
 outb:Blk w bo 79 #[v]
 own:Own PkE 84 (fun b=>base≤b) w base v out.length out
 ne:bx≠bo∧bmo≠bo∧bp≠bo
 lt:bo < base
 nr:some bx≠v.ownBlock∧some bmo≠v.ownBlock∧some bp≠v.ownBlock∧some bo≠v.ownBlock
 ge:W0.heap.size≤bo∧W0.heap.size≤base∧base≤w.heap.size
section
variable {W0 w w':World} {fid br bx bo bn bmo bp bf:Nat} {rcs:Array Value} {k:Ky} {rn most bs base:Nat} {v v':Value} {out:List (Nat×List Ky)}
theorem WyB.via (h:WyB W0 w bx bo bmo bp k most bs base v out) (hb:Below w.heap.size w w'):WyB W0 w' bx bo bmo bp k most bs base v out :=
 ⟨h.bel.via hb,h.xb.via hb,h.mb.via hb,h.pb.via hb,h.outb.via hb,h.own.via hb,h.ne,h.lt,h.nr,h.ge.1,h.ge.2.1,Nat.le_trans h.ge.2.2 hb.size⟩
theorem WyB.toM (h:WyB W0 w bx bo bmo bp k most bs base v out) (hr:Blk w br 74 rcs) (hi:Blk w bn 3 #[.int .i64 (rn:Int)]) (hf:Blk w bf 128 #[.func (.func fid) #[] #[.pointer (some ⟨br,0,none⟩),.pointer (some ⟨bx,0,none⟩),.pointer (some ⟨bo,0,none⟩),.pointer (some ⟨bn,0,none⟩),.pointer (some ⟨bmo,0,none⟩),.pointer (some ⟨bp,0,none⟩),.pointer (some ⟨bf,0,none⟩)]])
 (n0:br≠bo) (n1:bn≠bo) (n2:bf≠bo) (n5:some br≠v.ownBlock) (n3:some bn≠v.ownBlock) (n4:some bf≠v.ownBlock):WyM W0 w fid br bx bo bn bmo bp bf rcs k rn most bs base v out :=
 ⟨h.bel,hr,h.xb,hi,h.mb,h.pb,hf,h.outb,h.own,⟨n0,h.ne.1,n1,h.ne.2.1,h.ne.2.2,n2⟩,h.lt,⟨n5,h.nr.1,n3,h.nr.2.1,h.nr.2.2.1,n4,h.nr.2.2.2⟩,h.ge⟩
theorem WyM.toB (h:WyM W0 w fid br bx bo bn bmo bp bf rcs k rn most bs base v out):WyB W0 w bx bo bmo bp k most bs base v out :=
 ⟨h.bel,h.xb,h.mb,h.pb,h.outb,h.own,⟨h.ne.2.1,h.ne.2.2.2.1,h.ne.2.2.2.2.1⟩,h.lt,⟨h.nr.2.1,h.nr.2.2.2.1,h.nr.2.2.2.2.1,h.nr.2.2.2.2.2.2⟩,h.ge⟩
end
def WaysP (w:World) (ps:List (Nat×List Ky)) (most:Nat) (e:Ending) (w':World):Prop :=
 Below w.heap.size w w'∧if ps.length≤most then ∃ A c,e=.returned (.tuple #[.slice A ps.length c,.bool true])∧Own PkE 84 (fun b=>w.heap.size≤b) w' w.heap.size (.slice A ps.length c) ps.length ps
  else e=.returned (.tuple #[.slice none 0 0,.bool false])
theorem packT_pre {D:Ky→Bool} {R:List Ru} {k:Ky} {a b:Nat} (h:a≤b):(packT D R k a).length≤(packT D R k b).length:=by
 induction h with
 | refl=>exact Nat.le_refl _
 | step _ ih=>rw [packT_next,List.length_append]; omega
set_option maxRecDepth 100000 in
set_option maxHeartbeats 4000000 in
theorem ways_c (ok:Nat→Prop) (g:Gr) (Ag:Option Addr) (ng cg:Nat) (A:Option Addr) (n c bs bm:Nat) (S:Ky→Bool) (k:Ky) (most:Nat) (w:World) (hg:g.Ok) (hl:Sl RuE ok w Ag ng cg g.rules) (hR:SpR w g Ag ng cg A n c bs bm S) (hk:k.2.1≤k.2.2∧k.2.2≤12) :
 Calls Tryz.prog 34 #[.pointer (some ⟨bs,0,none⟩),kyVal k,.int .i64 (most:Int)] w (WaysP w (packsF S g.rules k) most):=by
 obtain ⟨⟨kb,kN⟩,ki,kj⟩:=k;simp only at hk;have hng:=hl.len;have hgc:=hg.count
 have hlen:∀ m,m < ng→(packT S g.rules ((kb,kN),ki,kj) m).length+28561≤1000000:=fun m hm=>by
  have:=packT_len (D:=S) (k:=((kb,kN),ki,kj)) m (fun u hu=>(hg.right u hu).1) hk.2;omega
 have HO:=Lib.hid (hl.mono (ok':=fun b=>b < w.heap.size) fun b hb _=>hb);have HR:=Lib.hid hR;have HLEN:=Lib.hid hlen;have HG:=Lib.hid hg;have hal:=(((Below.refl w.heap.size w).al (.cells #[.pointer (some ⟨bs,0,none⟩)] 33)).al (.cells (kyC ((kb,kN),ki,kj)) 71)).al (.cells #[.int .i64 (most:Int)] 3);have hb5:=hal.al (.cells #[.slice none 0 0] 79);have BP:=(((Blk.new w 33 #[.pointer (some ⟨bs,0,none⟩)]).al (.cells (kyC ((kb,kN),ki,kj)) 71)).al (.cells #[.int .i64 (most:Int)] 3)).al (.cells #[.slice none 0 0] 79);have BX:=((Blk.newAt (w.alloc (.cells #[.pointer (some ⟨bs,0,none⟩)] 33)) 71 (kyC ((kb,kN),ki,kj)) (w.heap.size+1) (by simp)).al (.cells #[.int .i64 (most:Int)] 3)).al (.cells #[.slice none 0 0] 79);have BM:=(Blk.newAt ((w.alloc (.cells #[.pointer (some ⟨bs,0,none⟩)] 33)).alloc (.cells (kyC ((kb,kN),ki,kj)) 71)) 3 #[.int .i64 (most:Int)] (w.heap.size+1+1) (by simp)).al (.cells #[.slice none 0 0] 79);have BO:=Blk.newAt (((w.alloc (.cells #[.pointer (some ⟨bs,0,none⟩)] 33)).alloc (.cells (kyC ((kb,kN),ki,kj)) 71)).alloc (.cells #[.int .i64 (most:Int)] 3)) 79 #[.slice none 0 0] (w.heap.size+1+1+1) (by simp)
 have HM:=Lib.hid (show WyB w _ (w.heap.size+1) (w.heap.size+1+1+1) (w.heap.size+1+1) w.heap.size ((kb,kN),ki,kj) most bs (w.heap.size+4) (.slice none 0 0) (packT S g.rules ((kb,kN),ki,kj) 0) from
  ⟨hb5,BX,BM,BP,BO,Own.nil _ _,by omega,by omega,by simp [Value.ownBlock],by omega,by omega,by simp⟩)
 have BS:=hR.blk.via hb5;simp only [kyC] at HM BX BP BS;clear hl hR hb5 hal BM BO hlen hg BX;simp only [kyVal];go_enter Tryz.func34,Tryz.ntmps34;have cBP:=BP.cell;have fBP:=BP.frozen;have lBP:=BP.lt;have cBS:=BS.cell;have fBS:=BS.frozen;have lBS:=BS.lt;go_wp2_with fail;have HSZ:=Lib.hid (show ((((w.alloc (.cells #[.pointer (some ⟨bs,0,none⟩)] 33)).alloc (.cells #[.bool kb,.int .i64 (kN:Int),.int .i64 (ki:Int),.int .i64 (kj:Int)] 71)).alloc (.cells #[.int .i64 (most:Int)] 3)).alloc (.cells #[.slice none 0 0] 79)).heap.size=w.heap.size+4 by simp);generalize ((((w.alloc (.cells #[.pointer (some ⟨bs,0,none⟩)] 33)).alloc (.cells #[.bool kb,.int .i64 (kN:Int),.int .i64 (ki:Int),.int .i64 (kj:Int)] 71)).alloc (.cells #[.int .i64 (most:Int)] 3)).alloc (.cells #[.slice none 0 0] 79))=W at *;generalize w.heap.size+1+1+1=bo at *;generalize w.heap.size+1+1=bmo at *;generalize w.heap.size+1=bx at *;generalize w.heap.size+4=base at *
 go_loopw [18] (fun q wr=>∃ (i:Nat) (v:Value),q=.int .i64 i∧i≤ng∧WyB w wr bx bo bmo w.heap.size ((kb,kN),ki,kj) most bs base v (packT S g.rules ((kb,kN),ki,kj) i)∧(packT S g.rules ((kb,kN),ki,kj) i).length≤most) (fun q _=>ng - (intOf q).toNat)
 case atStart=>exact ⟨0,_,rfl,Nat.zero_le _,HM.out,Nat.zero_le _⟩
 case round =>
  obtain ⟨i,v,rfl,hi,hM,hmo⟩:=hrel;have HMO:=Lib.hid hmo;clear HM HSZ BP BS hmo
  by_cases him:i < ng
  ·obtain ⟨b1,o1,⟨sl,sA,sn,sc⟩,⟨sl',rhs⟩,hAg,-,hbb,hy,⟨hx1,hx2⟩,hcel⟩:=HO.out.at_ him;simp only at hx1 hx2;obtain rfl:sl=sl':=hx1;subst hAg;have d0:=(hM.bel.cell (p:=⟨b1,o1+i*RuE.k+0,none⟩) hbb).trans (hcel 0 _ rfl);have d1:=(hM.bel.cell (p:=⟨b1,o1+i*RuE.k+1,none⟩) hbb).trans (hcel 1 _ rfl);simp only [RuE,Nat.add_zero] at d0 d1;have i0:(0:Int)≤(i:Int):=(by omega);have i1:(i:Int) < (ng:Int):=(by omega);have BK0:=hM.xb;simp only [kyC] at BK0;have hbx:=((Below.refl wr.heap.size wr).al (.cells #[.int .i64 (i:Int)] 3)).al (.cells #[.int .i64 (sl:Int),.slice sA sn sc] 74);have BK:=BK0.via hbx;have BI:=(Blk.new wr 3 #[.int .i64 (i:Int)]).al (.cells #[.int .i64 (sl:Int),.slice sA sn sc] 74);have BR:=Blk.newAt (wr.alloc (.cells #[.int .i64 (i:Int)] 3)) 74 #[.int .i64 (sl:Int),.slice sA sn sc] (wr.heap.size+1) (by simp);have HM2:=Lib.hid (hM.via hbx);have HY:=Lib.hid hy;have HRH:=Lib.hid hx2;have HWR:=Lib.hid (show bo < wr.heap.size∧(∀ b,v.ownBlock=some b→b < wr.heap.size) from ⟨hM.outb.lt,fun b e=>(hM.own.lt b e).2⟩);have HBK:=Lib.hid BK;have HBI:=Lib.hid BI;have HBR:=Lib.hid BR;have hpn:=packT_next (D:=S) g.rules ((kb,kN),ki,kj) i;clear hcel hx2 hM BK0 hbx
   by_cases hcond:sl=kN∧kb=false
   ·obtain ⟨rfl,rfl⟩:=hcond;have e1:((sl:Int) != (sl:Int))=false:=(by simp)
    have HPN:=Lib.hid (show packT S g.rules ((false,sl),ki,kj) (i+1)=packT S g.rules ((false,sl),ki,kj) i++(waysF S rhs ki kj).map fun p=>(i,[]++p) from by
     rw [hpn,packN,hy]; simp)
    clear hpn hy;have cBK:=BK.cell;have fBK:=BK.frozen;have lBK:=BK.lt;have cBR:=BR.cell;have fBR:=BR.frozen;have lBR:=BR.lt;have cBI:=BI.cell;have fBI:=BI.frozen;have lBI:=BI.lt;go_upto_region 6 with fail;clear cBK fBK lBK cBR fBR lBR cBI fBI lBI;clear BK BR BI d0 d1;have HS4:=Lib.hid (show ((wr.alloc (.cells #[.int .i64 (i:Int)] 3)).alloc (.cells #[.int .i64 (sl:Int),.slice sA sn sc] 74)).heap.size=wr.heap.size+2 by simp);generalize (wr.alloc (.cells #[.int .i64 (i:Int)] 3)).alloc (.cells #[.int .i64 (sl:Int),.slice sA sn sc] 74)=W4 at *;have hmf:∀ (fn:Fn) (first cap:Array Value) (w:World),(Instr.makeFunc fn first cap).run Tryz.prog w=.ok (.func fn first cap) w:=fun _ _ _ _=>rfl
    go_upto_region 8 with fail;clear hmf;have hax:=(Below.refl W4.heap.size W4).al (.cells #[.func (.func 65) #[] #[.pointer (some ⟨wr.heap.size+1,0,none⟩),.pointer (some ⟨bx,0,none⟩),.pointer (some ⟨bo,0,none⟩),.pointer (some ⟨wr.heap.size,0,none⟩),.pointer (some ⟨bmo,0,none⟩),.pointer (some ⟨w.heap.size,0,none⟩),.pointer (some ⟨W4.heap.size,0,none⟩)]] 128);have BF:=Blk.new W4 128 #[.func (.func 65) #[] #[.pointer (some ⟨wr.heap.size+1,0,none⟩),.pointer (some ⟨bx,0,none⟩),.pointer (some ⟨bo,0,none⟩),.pointer (some ⟨wr.heap.size,0,none⟩),.pointer (some ⟨bmo,0,none⟩),.pointer (some ⟨w.heap.size,0,none⟩),.pointer (some ⟨W4.heap.size,0,none⟩)]];have HM5:=Lib.hid (HM2.out.via hax);have HBI5:=Lib.hid (HBI.out.via hax);have HBR5:=Lib.hid (HBR.out.via hax);have BK:=HBK.out.via hax;have HBF:=Lib.hid BF;have HAX:=Lib.hid hax;clear hax HM2 HBI HBR HBK;generalize W4.alloc (.cells #[.func (.func 65) #[] #[.pointer (some ⟨wr.heap.size+1,0,none⟩),.pointer (some ⟨bx,0,none⟩),.pointer (some ⟨bo,0,none⟩),.pointer (some ⟨wr.heap.size,0,none⟩),.pointer (some ⟨bmo,0,none⟩),.pointer (some ⟨w.heap.size,0,none⟩),.pointer (some ⟨W4.heap.size,0,none⟩)]] 128)=W5 at *;generalize hbf:W4.heap.size=bf at *;have HBFE:=Lib.hid hbf;clear hbf;have cBF:=BF.cell;have fBF:=BF.frozen;have lBF:=BF.lt;have cBK:=BK.cell;have fBK:=BK.frozen;have lBK:=BK.lt
    repeat go_step
    clear cBF fBF lBF cBK fBK lBK;have hru:=HG.out.right _ (List.mem_of_getElem? HY.out);have hM:=HM5.out.toM (fid:=65) HBR5.out HBI5.out HBF.out (by have:=HWR.out.1; omega) (by have:=HWR.out.1; omega) (by have:=HWR.out.1; have:=HS4.out; have:=HBFE.out; omega) (fun e=>by have:=HWR.out.2 _ e.symm; omega) (fun e=>by have:=HWR.out.2 _ e.symm; omega) (fun e=>by have:=HWR.out.2 _ e.symm; have:=HS4.out; have:=HBFE.out; omega);refine (wy1_n w 65 (Lib.hid rfl) enters_wy (wr.heap.size+1) bx bo wr.heap.size bmo w.heap.size bf sl sA sn sc ((false,sl),ki,kj) i most bs bm base g (some ⟨b1,o1,none⟩) ng cg A n c S _ rhs HR.out HRH.out (fun t ht=>by have h1:=hru.2 t ht; have h2:=HG.out.terms; have h3:=HG.out.nons; simp only [Gr.okSy] at h1; split at h1 <;> omega) hru.1 (by show kj≤_; omega) rhs W5 0 ki none 0 0 [] v _ rfl (Nat.zero_le _) (by show ki≤kj+1; omega) (Sl.nil 0) ?_ (by have h1:=hru.1; simp only [List.length_nil] at h1 ⊢; omega) HMO.out hM).mono ?_
    ·have h1:=HLEN.out i him;have h2:=ways_len (D:=S) (l:=rhs) (i:=ki) (j:=kj) (by omega);have h3:13 ^ rhs.length≤28561:=Nat.le_trans (Nat.pow_le_pow_right (by omega) hru.1) (by decide);simp only;omega
    rintro e w6 ⟨b,v6,out',rfl,hb,ho,hM6,-⟩;have HM6:=Lib.hid hM6.toB;have HB:=Lib.hid hb;have HOU:=Lib.hid ho;clear hM6 hM hru HM5 HBI5 HBR5 HBF HAX BF BK hb ho;cases b with
    | true =>
     obtain rfl:out'=packT S g.rules ((false,sl),ki,kj) (i+1):=(by rw [HPN.out]; exact HOU.out rfl)
     have HL:=Lib.hid (show (packT S g.rules ((false,sl),ki,kj) (i+1)).length≤most from by
      have:=HB.out; rw [HPN.out,List.length_append]; exact of_decide_eq_true this.symm)
     clear HOU HB HPN;go_wp2_with fail;exact ⟨⟨i+1,v6,by go_num,by omega,HM6.out,HL.out⟩,by simp [intOf]; omega⟩
    | false =>
     have HL:=Lib.hid (show ¬ (packT S g.rules ((false,sl),ki,kj) (i+1)).length≤most from by
      have:=HB.out; rw [HPN.out,List.length_append]; exact of_decide_eq_false this.symm)
     clear HOU HB HPN;go_wp2_with fail;go_ret2;rw [WaysP];refine ⟨HM6.out.bel,?_⟩;have he:packsF S g.rules ((false,sl),ki,kj)=packT S g.rules ((false,sl),ki,kj) ng:=(by unfold packsF; rw [hng]);rw [he,if_neg (fun h=>HL.out (Nat.le_trans (packT_pre (by omega)) h))];rfl
   ·have HPN:=Lib.hid (show packT S g.rules ((kb,kN),ki,kj) (i+1)=packT S g.rules ((kb,kN),ki,kj) i from by
     rw [hpn,packN,hy]; simp only [hcond,if_false,List.append_nil])
    have hcc:kb=true∨(kb=false∧((sl:Int) != (kN:Int))=true):=by
     cases kb with
     | true=>exact Or.inl rfl
     | false =>
      refine Or.inr ⟨rfl,?_⟩;simp; intro e; exact hcond ⟨by omega,rfl⟩
    clear hpn hy hcond
    rcases hcc with rfl | ⟨rfl,e1⟩
    ·have cBK:=BK.cell;have fBK:=BK.frozen;have lBK:=BK.lt;have cBR:=BR.cell;have fBR:=BR.frozen;have lBR:=BR.lt;have cBI:=BI.cell;have fBI:=BI.frozen;have lBI:=BI.lt;go_wp2_with fail;exact ⟨⟨i+1,v,by go_num,by omega,by rw [HPN.out]; exact HM2.out,by rw [HPN.out]; exact HMO.out⟩,by simp [intOf]; omega⟩
    ·have cBK:=BK.cell;have fBK:=BK.frozen;have lBK:=BK.lt;have cBR:=BR.cell;have fBR:=BR.frozen;have lBR:=BR.lt;have cBI:=BI.cell;have fBI:=BI.frozen;have lBI:=BI.lt;go_wp2_with fail;exact ⟨⟨i+1,v,by go_num,by omega,by rw [HPN.out]; exact HM2.out,by rw [HPN.out]; exact HMO.out⟩,by simp [intOf]; omega⟩
  ·obtain rfl:i=ng:=(by omega);have HMF:=Lib.hid hM;have BO:=hM.outb;clear hM;have cBO:=BO.cell;have fBO:=BO.frozen;have lBO:=BO.lt;go_wp2_with fail;go_ret2;have hw:=HMF.out.own;obtain ⟨A',c',rfl,hc'⟩:=hw.form;have he:packsF S g.rules ((kb,kN),ki,kj)=packT S g.rules ((kb,kN),ki,kj) i:=(by unfold packsF; rw [hng]);rw [WaysP,he];have hge:=HMF.out.ge;refine ⟨HMF.out.bel,?_⟩;rw [if_pos HMO.out];exact ⟨A',c',rfl,(hw.mono (ok':=fun b=>w.heap.size≤b) fun b _ hb=>by omega).lower (by omega)⟩
end Go.Proofs.YtfcihnpmeabacaaGreatDoor
namespace Go.Proofs.YtfcihnpmeabacaaGreatDoor
open Go.RowKit
structure Stk (D:Ky→Bool) (R:List Ru) (root:Ky) (B:Nat) (M S:List Ky) (left:Nat):Prop where
 nodup:M.Nodup
 rin:root∈M∨root∈S
 sndM:∀ k∈M,RchK D R root k
 sndS:∀ k∈S,RchK D R root k
 cls:∀ k∈M,∀ q∈kidsF D R k,q∈M∨q∈S
 cnt:left+(M.map fun k=>(packsF D R k).length).sum=B
 len:S.length+4*left≤4*B+1
section
variable {D:Ky→Bool} {R:List Ru} {root x:Ky} {B left:Nat} {M S:List Ky}
theorem Stk.start (D:Ky→Bool) (R:List Ru) (root:Ky) (B:Nat):Stk D R root B [] [root] B :=
 ⟨List.nodup_nil,Or.inr (by simp),by simp,fun k h=>by simp at h; subst h; exact .root,by simp,by simp,by simp; omega⟩
theorem Stk.skip (h:Stk D R root B M (S++[x]) left) (hx:x∈M):Stk D R root B M S left:=by
 have hm:∀ q,q∈S++[x]→q∈M∨q∈S:=fun q hq=>by
  rcases List.mem_append.1 hq with h | h
  ·exact Or.inr h
  ·rw [List.mem_singleton.1 h]; exact Or.inl hx
 refine ⟨h.nodup,?_,h.sndM,fun k hk=>h.sndS k (by simp [hk]),fun k hk q hq=>?_,h.cnt,by have:=h.len; simp at this; omega⟩
 ·rcases h.rin with h1 | h1
  ·exact Or.inl h1
  ·exact hm _ h1
 ·rcases h.cls k hk q hq with h1 | h1
  ·exact Or.inl h1
  ·exact hm _ h1
theorem kids_len4 {k:Ky} (hR:∀ u∈R,u.2.length≤4):(kidsF D R k).length≤4*(packsF D R k).length:=by
 unfold kidsF
 have h4:∀ p∈packsF D R k,p.2.length≤4:=fun p hp=>by
  obtain ⟨-,u,hu,-,hw⟩:=packs_mem hp;have h1:=hw.len;have h2:=hR u (List.mem_of_getElem? hu);omega
 generalize packsF D R k=l at h4
 induction l with
 | nil=>simp
 | cons p l ih =>
  have h1:=h4 p (by simp);have h2:=ih fun q hq=>h4 q (by simp [hq])
  simp only [List.flatMap_cons,List.length_append,List.length_cons];omega
theorem Stk.take (h:Stk D R root B M (S++[x]) left) (hx:x∉M) (hR:∀ u∈R,u.2.length≤4) {left':Nat} (hl:left=left'+(packsF D R x).length):Stk D R root B (M++[x]) (S++kidsF D R x) left':=by
 have hk:=kids_len4 (D:=D) (k:=x) hR;have hrx:=h.sndS x (by simp)
 have hm:∀ q,q∈S++[x]→q∈M++[x]∨q∈S++kidsF D R x:=fun q hq=>by
  rcases List.mem_append.1 hq with h | h
  ·exact Or.inr (by simp [h])
  ·exact Or.inl (by simp [List.mem_singleton.1 h])
 refine ⟨?_,?_,fun k hk=>?_,fun k hk=>?_,fun k hk q hq=>?_,?_,?_⟩
 ·rw [List.nodup_append];exact ⟨h.nodup,by simp,fun a ha b hb e=>by simp at hb; subst hb; subst e; exact hx ha⟩
 ·rcases h.rin with h1 | h1
  ·exact Or.inl (by simp [h1])
  ·exact hm _ h1
 ·rcases List.mem_append.1 hk with hk | hk
  ·exact h.sndM k hk
  ·rw [List.mem_singleton.1 hk]; exact hrx
 ·rcases List.mem_append.1 hk with hk | hk
  ·exact h.sndS k (by simp [hk])
  ·exact hrx.kids hk
 ·rcases List.mem_append.1 hk with hk | hk
  ·rcases h.cls k hk q hq with h1 | h1
   ·exact Or.inl (by simp [h1])
   ·exact hm _ h1
  ·rw [List.mem_singleton.1 hk] at hq;exact Or.inr (by simp [hq])
 ·have:=h.cnt;rw [List.map_append,List.sum_append];simp; omega
 ·have:=h.len;simp only [List.length_append,List.length_singleton] at this ⊢;omega
theorem Stk.large (h:Stk D R root B M (S++[x]) left) (hx:x∉M) (hl:left < (packsF D R x).length) (L:List Ky) (hL:IsNds D R root L):B < totP D R L:=by
 have h1:((M++[x]).map fun k=>(packsF D R k).length).sum≤(L.map fun k=>(packsF D R k).length).sum:=by
  refine sum_sub ?_ fun k hk=>?_
  ·rw [List.nodup_append];exact ⟨h.nodup,by simp,fun a ha b hb e=>by simp at hb; subst hb; subst e; exact hx ha⟩
  ·rcases List.mem_append.1 hk with hk | hk
   ·exact (hL.mem k).2 (h.sndM k hk)
   ·rw [List.mem_singleton.1 hk]; exact (hL.mem x).2 (h.sndS x (by simp))
 have h2:=h.cnt;rw [List.map_append,List.sum_append] at h1;simp at h1;unfold totP;omega
theorem Stk.done (h:Stk D R root B M [] left) (k:Ky):k∈M↔RchK D R root k:=by
 refine ⟨h.sndM k,fun hr=>?_⟩
 induction hr with
 | root=>rcases h.rin with h1 | h1
         ·exact h1
         ·simp at h1
 | kid _ hp hq ih =>
  rcases h.cls _ ih _ (List.mem_flatMap.2 ⟨_,hp,hq⟩) with h1 | h1
  ·exact h1
  ·simp at h1
theorem Stk.nds {L':List Ky} (h:Stk D R root B M [] left) (hp:L'.Perm M) (hs:L'.Pairwise fun a b=>kyN a≤kyN b) (hok:∀ k∈M,k.Ok):IsNds D R root L':=by
 refine ⟨?_,fun k=>by rw [hp.mem_iff,h.done]⟩;have hn:L'.Nodup:=hp.nodup_iff.2 h.nodup;rw [List.nodup_iff_pairwise_ne] at hn;refine (hs.and hn).imp_of_mem fun {a b} ha hb hab=>?_
 have:=hab.2;have h2:kyN a≠kyN b:=fun e=>hab.2 (kyN_inj (hok a (hp.mem_iff.1 ha)) (hok b (hp.mem_iff.1 hb)) e)
 have h1:=hab.1;omega
end
section
variable {α ρ:Type} {E:Elem α ρ} {e:TypeId} {ok:Nat→Prop} {w:World} {base n:Nat} {v:Value} {l:List α}
theorem run_append_owned_empty (t ty e:TypeId) (i:TypeInfo) (size:Nat) (ht:Tryz.prog.underlying t=some (.slice e)) (hi:Tryz.prog.info? e=some i)
 (v:Value) (n:Nat) (xs:List Value) (hown:w.ownsRow base e size v n xs) (B:Option Addr) (d:Nat):(Builtin.append_ #[t,t] ty #[v,.slice B 0 d]).run Tryz.prog w=.ok v w:=by
 rcases hown.2 with ⟨rfl,rfl⟩ | ⟨g,cap,cur,rfl,_,_,hnc,_⟩
 ·cases B <;> simp [Builtin.append_,run_underlying ht,sizeOf,typeInfo,hi,Builtin.lenOf,Builtin.firstCells,loadCells,loadCellsFrom]
 ·cases B <;> simp [Builtin.append_,run_underlying ht,sizeOf,typeInfo,hi,Builtin.lenOf,Builtin.firstCells,hnc,storeCells,loadCells,loadCellsFrom]
theorem flat_one (raw:List ρ) (u:Value) (h:u∈flat E raw):u.oneCell'=true:=by
 obtain ⟨r,-,hr⟩:=List.mem_flatMap.1 h;exact E.one r u hr
theorem flat_app (a b:List ρ):flat E (a++b)=flat E a++flat E b:=by simp [flat]
theorem run_appends_E (w:World) (t ty e:TypeId) (i:TypeInfo) (z:Value) (bytes:Nat) (ht:Tryz.prog.underlying t=some (.slice e)) (hi:Tryz.prog.info? e=some i) (hz:i.zero=some z) (hs:i.size=E.k) (hby:i.bytes=bytes) (hzs:z.cells.size=E.k)
 (ok:Nat→Prop) (base:Nat) (v:Value) (n:Nat) (l:List α) (hown:Own E e ok w base v n l)
 (B:Option Addr) (m d:Nat) (ys:List α) (hsl:Sl E (fun b=>ok b∧some b≠v.ownBlock) w B m d ys)
 (h63:n+m≤maxLen) (hbytes:(n+m)*bytes≤140737488355328) (hbase:base≤w.heap.size) :
 ∃ A' c' w',(Builtin.append_ #[t,t] ty #[v,.slice B m d]).run Tryz.prog w=.ok (.slice A' (n+m) c') w'∧Own E e ok w' base (.slice A' (n+m) c') (n+m) (l++ys)∧w.grownBy w' v.ownBlock ∧
  ((Value.slice A' (n+m) c').ownBlock=v.ownBlock∨(Value.slice A' (n+m) c').ownBlock=some w.heap.size):=by
 by_cases hm:m=0
 ·subst hm;have hys:ys=[]:=List.eq_nil_of_length_eq_zero hsl.len;subst hys;obtain ⟨A,c,rfl,hc⟩:=hown.form;have h:=hown;obtain ⟨h1,raw,h3,h4,h5⟩:=h;refine ⟨A,c,w,?_,by simpa using hown,⟨rfl,rfl,rfl,Nat.le_refl _,fun _ _ _=>rfl⟩,Or.inl rfl⟩;exact run_append_owned_empty t ty e i E.k ht hi _ n _ h4 B d
 ·obtain ⟨g1,g2,raw2,g3,g4,g5⟩:=hsl
  have hne:flat E raw2≠[]:=fun e=>by
   have:=flat_len (E:=E) raw2;rw [e,g3] at this;have hp:=Nat.mul_pos (show 0 < m by omega) E.pos;simp at this; omega
  obtain ⟨b,off,rfl,hb,hcell⟩:=g4 hne;obtain ⟨h1,raw,h3,h4,h5⟩:=hown;obtain ⟨v',w',hrun,h6,h7,_,h8⟩:=run_append_own_at (P:=Tryz.prog) w base t ty e i z E.k bytes ht hi hz hs hby hzs E.pos v n _ h4 ⟨b,off,none⟩ m d (flat E raw2) (by rw [flat_len,g3]) (fun j u hu=>by rw [Addr.add_lit]; exact hcell j u hu) (fun u hu=>flat_one raw2 u hu) h63 hbytes hbase
  have hown':Own E e ok w' base v' (n+m) (l++ys):=by
   refine ⟨by simp [h1,g1],raw++raw2,by simp [h3,g3],by rw [flat_app]; exact h6,fun i r' x' hr' hx'=>?_⟩
   have key:E.rel (fun b=>ok b∧some b≠v.ownBlock) w r' x':=by
    rcases Nat.lt_or_ge i n with hi' | hi'
    ·rw [List.getElem?_append_left (by omega)] at hr' hx';exact h5 i r' x' hr' hx'
    ·rw [List.getElem?_append_right (by omega)] at hr' hx';rw [h3] at hr'; rw [h1] at hx';exact g5 _ r' x' hr' hx'
   have k1:=E.mono (ok':=fun b=>(ok b∧some b≠v.ownBlock)∧b < w.heap.size) key fun b hb hk=>⟨hk,hb⟩
   refine E.mono (E.agr k1 (Agr.grown h7 fun b hb=>hb.1.2)) fun b _ hk=>⟨hk.1.1,?_⟩
   rcases h8 with e8 | e8
   ·rw [e8]; exact hk.1.2
   ·rw [e8]; intro e9; cases e9; exact absurd hk.2 (Nat.lt_irrefl _)
  obtain ⟨A',c',rfl,_⟩:=hown'.form;exact ⟨A',c',w',hrun,hown',h7,h8⟩
theorem wpList_appends_E {ops:Array Oper} {rest:List Oper} {o:Oper} {a:Act} {Q:Exit→Act→World→Prop} (w:World) (hgd:o.guard=none) (s y:Operand) (t e:TypeId)
 (ho:o.op=.call { callee:=.builtin .append,args:=#[s,y],argTypes:=#[t,t] }) (i:TypeInfo) (z:Value) (bytes:Nat) (ht:Tryz.prog.underlying t=some (.slice e)) (hi:Tryz.prog.info? e=some i) (hz:i.zero=some z) (hs:i.size=E.k) (hby:i.bytes=bytes) (hzs:z.cells.size=E.k)
 (ok:Nat→Prop) (base:Nat) (v:Value) (n:Nat) (l:List α) (hv:a.eval s=v) (hown:Own E e ok w base v n l)
 (B:Option Addr) (m d:Nat) (ys:List α) (hy:a.eval y=.slice B m d) (hsl:Sl E (fun b=>ok b∧some b≠v.ownBlock) w B m d ys)
 (h63:n+m≤maxLen) (hbytes:(n+m)*bytes≤140737488355328) (hbase:base≤w.heap.size)
 (h:∀ A' c' w',Own E e ok w' base (.slice A' (n+m) c') (n+m) (l++ys)→w.grownBy w' v.ownBlock→((Value.slice A' (n+m) c').ownBlock=v.ownBlock∨(Value.slice A' (n+m) c').ownBlock=some w.heap.size)→wpList Tryz.prog ops Q rest (a.put o.dst (.slice A' (n+m) c')) w') :
 wpList Tryz.prog ops Q (o::rest) a w :=
 wpList_plain hgd fun K hK=>by
  obtain ⟨A',c',w',hrun,h2,h3,h4⟩:=run_appends_E w t o.type e i z bytes ht hi hz hs hby hzs ok base v n l hown B m d ys hsl h63 hbytes hbase;unfold Oper.wp execOp;simp only [ho,resolve,invoke,builtin,Sem.run_bind,Sem.run_pure,Result.andThen_ok,List.map_toArray,List.map_cons,List.map_nil,hv,hy,hrun];exact hK _ _ (h A' c' w' h2 h3 h4)
theorem Own.pop {A:Option Addr} {c:Nat} {x:α} (h:Own E e ok w base (.slice A (n+1) c) (n+1) (l++[x])):Own E e ok w base (.slice A n c) n l:=by
 obtain ⟨h1,raw,h3,h4,h5⟩:=h;have hl:l.length=n:=(by simp at h1; exact h1);have hob:(Value.slice A n c).ownBlock=(Value.slice A (n+1) c).ownBlock:=(by cases A <;> rfl);refine ⟨hl,raw.take n,by rw [List.length_take]; omega,⟨by rw [flat_len,List.length_take,h3,Nat.min_eq_left (by omega)],?_⟩,fun i r x' hr hx=>?_⟩
 ·rcases h4.2 with ⟨-,h0⟩ | ⟨g,cap,cur,hv,hbg,hh,hc1,hc2,hc3,hc4⟩
  ·omega
  ·cases hv
   refine Or.inr ⟨g,c,cur,rfl,hbg,hh,by omega,hc2,hc3,?_⟩;have e1:flat E raw=flat E (raw.take n)++flat E (raw.drop n):=(by rw [← flat_app,List.take_append_drop]);rw [e1] at hc4;have e2:(flat E (raw.take n)).length=n*E.k:=(by rw [flat_len,List.length_take,h3,Nat.min_eq_left (by omega)])
   have e3:cur.toList.take (n*E.k)=(cur.toList.take ((n+1)*E.k)).take (n*E.k):=by
    rw [List.take_take,Nat.min_eq_left (Nat.mul_le_mul_right _ (by omega))]
   rw [e3,hc4,← e2];exact List.take_left
 ·rw [hob]
  have hi:i < n:=by
   have:=(List.getElem?_eq_some_iff.1 hr).1;rw [List.length_take] at this; omega
  rw [List.getElem?_take_of_lt hi] at hr;exact h5 i r x' hr (by rw [List.getElem?_append_left (by omega)]; exact hx)
end
end Go.Proofs.YtfcihnpmeabacaaGreatDoor
namespace Go.Proofs.YtfcihnpmeabacaaGreatDoor
open Go.RowKit
open Go.Sort (grow alloc_eq_grow grow_grow grow_empty SWO)
theorem Ints.threeA (w:World) (m:Nat) (x y z:Int) (t:TypeId) (h:m=w.heap.size):Ints (w.alloc (.cells #[.int .i64 x,.int .i64 y,.int .i64 z] t)) (some ⟨m,0,none⟩) 3 3 [x,y,z]:=by subst h; exact Ints.threeB w x y z t
def befR (s:Sy):Int:=if s.1 then (s.2:Int) else 100+(s.2:Int)
def befK (a:Ky):List Int:=[(a.2.1:Int),(a.2.2:Int),befR a.1]
def befCmp (a b:Ky):Int:=cmpL (befK a) (befK b)
theorem befCmp_le {a b:Ky} (ha:a.Ok) (hb:b.Ok) (h:befCmp a b≤0):kyN a≤kyN b:=by
 obtain ⟨⟨ab,an⟩,ai,aj⟩:=a;obtain ⟨⟨bb,bn⟩,bi,bj⟩:=b;obtain ⟨h1,h2,h3⟩:=ha;obtain ⟨k1,k2,k3⟩:=hb;simp only at h1 h2 h3 k1 k2 k3;simp only [befCmp,befK,befR,cmpL,cmpI] at h;simp only [kyN,rkS];cases ab <;> cases bb <;> simp only [Bool.false_eq_true,if_false,if_true] at h ⊢ <;> (repeat' split at h) <;> omega
set_option maxHeartbeats 1000000 in
theorem rank_c (b:Bool) (n:Nat) (hn:n≤1000000) (w:World):Calls Tryz.prog 79 #[.agg #[.bool b,.int .i64 (n:Int)]] w (GrwI w (befR (b,n))):=by
 have B0:=Blk.new w 69 #[.bool b,.int .i64 (n:Int)];have HG:=Lib.hid ((Grw.refl w).al (.cells #[.bool b,.int .i64 (n:Int)] 69));go_enter Tryz.func79,Tryz.ntmps79;have cB0:=B0.cell;have fB0:=B0.frozen;have lB0:=B0.lt;cases b with
 | true =>
  go_wp2_with fail;go_ret;exact ⟨rfl,HG.out⟩
 | false =>
  go_wp2_with fail;go_ret;exact ⟨by simp [befR,go_sem],HG.out⟩
set_option maxRecDepth 100000 in
set_option maxHeartbeats 4000000 in
theorem before_c (a b:Ky) (ha:a.1.2≤1000000) (hb:b.1.2≤1000000) (w:World):Calls Tryz.prog 44 #[.agg (kyC a),.agg (kyC b)] w (GrwI w (befCmp a b)):=by
 obtain ⟨⟨ab,an⟩,ai,aj⟩:=a;obtain ⟨⟨bb,bn⟩,bi,bj⟩:=b;have B0:=(Blk.new w 71 (kyC ((ab,an),ai,aj))).al (.cells (kyC ((bb,bn),bi,bj)) 71);have B1:=Blk.newAt (w.alloc (.cells (kyC ((ab,an),ai,aj)) 71)) 71 (kyC ((bb,bn),bi,bj)) (w.heap.size+1) (by simp);have HG:=Lib.hid (((Grw.refl w).al (.cells (kyC ((ab,an),ai,aj)) 71)).al (.cells (kyC ((bb,bn),bi,bj)) 71));simp only [kyC] at *;obtain ⟨va,hva⟩:∃ v,v=befR (ab,an):=⟨_,rfl⟩;obtain ⟨vb,hvb⟩:∃ v,v=befR (bb,bn):=⟨_,rfl⟩;have HV:=Lib.hid (show befCmp ((ab,an),ai,aj) ((bb,bn),bi,bj)=cmpL [(ai:Int),(aj:Int),va] [(bi:Int),(bj:Int),vb] by rw [hva,hvb]; rfl);have JA:=Lib.hid (show ∀ W,Calls Tryz.prog 79 #[.agg #[.bool ab,.int .i64 (an:Int)]] W (GrwI W va) from fun W=>by rw [hva]; exact rank_c ab an ha W);have JB:=Lib.hid (show ∀ W,Calls Tryz.prog 79 #[.agg #[.bool bb,.int .i64 (bn:Int)]] W (GrwI W vb) from fun W=>by rw [hvb]; exact rank_c bb bn hb W);clear hva hvb;go_enter Tryz.func44,Tryz.ntmps44;go_upto_region 2 with fail;generalize (w.alloc (.cells #[.bool ab,.int .i64 (an:Int),.int .i64 (ai:Int),.int .i64 (aj:Int)] 71)).alloc (.cells #[.bool bb,.int .i64 (bn:Int),.int .i64 (bi:Int),.int .i64 (bj:Int)] 71)=W at *;have SOF:=Lib.hid (show ∀ w',Grw W w'→((∀ i,w'.cell? ⟨w.heap.size,i,none⟩=#[.bool ab,.int .i64 (an:Int),.int .i64 (ai:Int),.int .i64 (aj:Int)][i]?)∧(∀ i,w'.cell? ⟨w.heap.size+1,i,none⟩=#[.bool bb,.int .i64 (bn:Int),.int .i64 (bi:Int),.int .i64 (bj:Int)][i]?)∧Grw W w') from fun w' hb=>⟨(B0.via hb.below).cell,(B1.via hb.below).cell,hb⟩);have hb0:=(Grw.refl W).dr;clear B0 B1
 go_region_held3 (fun w'=>(∀ i,w'.cell? ⟨w.heap.size,i,none⟩=#[.bool ab,.int .i64 (an:Int),.int .i64 (ai:Int),.int .i64 (aj:Int)][i]?)∧(∀ i,w'.cell? ⟨w.heap.size+1,i,none⟩=#[.bool bb,.int .i64 (bn:Int),.int .i64 (bi:Int),.int .i64 (bj:Int)][i]?)∧Grw W w') (exact SOF.out _ (by (first | assumption | exact Grw.al (by assumption) _ | exact Grw.al (Grw.al (by assumption) _) _))) (first
  | (go_at_call 79; (with_reducible refine (JA.out _).mono ?_); rintro ee wk ⟨rfl,hgo⟩; have hgw:Grw W wk:=Grw.trans (by (first | assumption | exact Grw.al (by assumption) _ | exact Grw.al (Grw.al (by assumption) _) _)) hgo)
  | (go_at_call 79; (with_reducible refine (JB.out _).mono ?_); rintro ee wk ⟨rfl,hgo⟩; have hgw:Grw W wk:=Grw.trans (by (first | assumption | exact Grw.al (by assumption) _ | exact Grw.al (Grw.al (by assumption) _) _)) hgo)
  | (go_at_call 49; (with_reducible refine (cmpL_c (some ⟨_,0,none⟩) (some ⟨_,0,none⟩) 3 3 3 3 [(ai:Int),(aj:Int),va] [(bi:Int),(bj:Int),vb] _ (by (first | exact Ints.threeA _ _ _ _ _ _ (by first | rfl | simp) | exact (Ints.threeA _ _ _ _ _ _ (by first | rfl | simp)).via ((Below.refl _ _).al _) | (refine Ints.via ?_ ((Below.refl _ _).al _); exact (Ints.threeA _ _ _ _ _ _ (by first | rfl | simp)).via (Grw.below (by assumption))))) (by (first | exact Ints.threeA _ _ _ _ _ _ (by first | rfl | simp) | exact (Ints.threeA _ _ _ _ _ _ (by first | rfl | simp)).via ((Below.refl _ _).al _) | (refine Ints.via ?_ ((Below.refl _ _).al _); exact (Ints.threeA _ _ _ _ _ _ (by first | rfl | simp)).via (Grw.below (by assumption))))) (by simp)).mono ?_); rintro ee wk2 ⟨rfl,rfl⟩))
 all_goals (go_wp2_with fail; go_ret; exact ⟨by rw [HV.out]; rfl,HG.out.trans (by (first | assumption | exact Grw.al (by assumption) _ | exact Grw.al (Grw.al (by assumption) _) _))⟩)
end Go.Proofs.YtfcihnpmeabacaaGreatDoor
