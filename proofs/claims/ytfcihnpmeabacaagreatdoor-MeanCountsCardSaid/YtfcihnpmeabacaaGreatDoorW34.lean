/- Texts SE, SF, SG, SH, VR, laid together. -/
import Derived.Test.YtfcihnpmeabacaaGreatDoorW33
import Derived.Test.YtfcihnpmeabacaaGreatDoorW11
import Derived.Test.YtfcihnpmeabacaaGreatDoorW1
import Derived.Test.YtfcihnpmeabacaaGreatDoorW32
import Derived.Test.YtfcihnpmeabacaaGreatDoorW21
import Derived.Laws.StructEq
namespace Go.Proofs.YtfcihnpmeabacaaGreatDoor
open Go.RowKit
set_option maxRecDepth 100000 in
theorem enters_wy:∀ (args:Array Value) (w:World),(callFunc 65 args).run Tryz.prog w=.ok (.enter 65 args) w :=
 enters_c (c:=_) (fn:=Tryz.f65) rfl (by kernel_rfl) rfl
structure WyB (W0 w:World) (bx bo bmo bp:Nat) (k:Ky) (most bs:Nat) (base:Nat) (v:Value) (out:List (Nat×List Ky)):Prop where
 bel:Below W0.heap.size W0 w
 xb:Blk w bx 71 (kyC k)
 mb:Blk w bmo 3 #[.int .i64 (most:Int)]
 pb:Blk w bp 33 #[.pointer (some ⟨bs,0,none⟩)]
 outb:Blk w bo 79 #[v]
 own:Own PkE 84 (fun b=>base≤b) w base v out.length out
 ne:bx≠bo∧bmo≠bo∧bp≠bo
 lt:bo < base
 nr:some bx≠v.ownBlock∧some bmo≠v.ownBlock∧some bp≠v.ownBlock∧some bo≠v.ownBlock
 ge:W0.heap.size≤bo∧W0.heap.size≤base∧base≤w.heap.size
section
variable {W0 w w':World} {fid br bx bo bn bmo bp bf:Nat} {rcs:Array Value} {k:Ky} {rn most bs base:Nat} {v v':Value} {out:List (Nat×List Ky)}
theorem WyB.via (h:WyB W0 w bx bo bmo bp k most bs base v out) (hb:Below w.heap.size w w'):WyB W0 w' bx bo bmo bp k most bs base v out :=
 ⟨h.bel.via hb,h.xb.via hb,h.mb.via hb,h.pb.via hb,h.outb.via hb,h.own.via hb,h.ne,h.lt,h.nr,h.ge.1,h.ge.2.1,Nat.le_trans h.ge.2.2 hb.size⟩
theorem WyB.toM (h:WyB W0 w bx bo bmo bp k most bs base v out) (hr:Blk w br 74 rcs) (hi:Blk w bn 3 #[.int .i64 (rn:Int)]) (hf:Blk w bf 128 #[.func (.func fid) #[] #[.pointer (some ⟨br,0,none⟩),.pointer (some ⟨bx,0,none⟩),.pointer (some ⟨bo,0,none⟩),.pointer (some ⟨bn,0,none⟩),.pointer (some ⟨bmo,0,none⟩),.pointer (some ⟨bp,0,none⟩),.pointer (some ⟨bf,0,none⟩)]])
 (n0:br≠bo) (n1:bn≠bo) (n2:bf≠bo) (n5:some br≠v.ownBlock) (n3:some bn≠v.ownBlock) (n4:some bf≠v.ownBlock):WyM W0 w fid br bx bo bn bmo bp bf rcs k rn most bs base v out :=
 ⟨h.bel,hr,h.xb,hi,h.mb,h.pb,hf,h.outb,h.own,⟨n0,h.ne.1,n1,h.ne.2.1,h.ne.2.2,n2⟩,h.lt,⟨n5,h.nr.1,n3,h.nr.2.1,h.nr.2.2.1,n4,h.nr.2.2.2⟩,h.ge⟩
theorem WyM.toB (h:WyM W0 w fid br bx bo bn bmo bp bf rcs k rn most bs base v out):WyB W0 w bx bo bmo bp k most bs base v out :=
 ⟨h.bel,h.xb,h.mb,h.pb,h.outb,h.own,⟨h.ne.2.1,h.ne.2.2.2.1,h.ne.2.2.2.2.1⟩,h.lt,⟨h.nr.2.1,h.nr.2.2.2.1,h.nr.2.2.2.2.1,h.nr.2.2.2.2.2.2⟩,h.ge⟩
end
def WaysP (w:World) (ps:List (Nat×List Ky)) (most:Nat) (e:Ending) (w':World):Prop :=
 Below w.heap.size w w'∧if ps.length≤most then ∃ A c,e=.returned (.tuple #[.slice A ps.length c,.bool true])∧Own PkE 84 (fun b=>w.heap.size≤b) w' w.heap.size (.slice A ps.length c) ps.length ps
  else e=.returned (.tuple #[.slice none 0 0,.bool false])
theorem packT_pre {D:Ky→Bool} {R:List Ru} {k:Ky} {a b:Nat} (h:a≤b):(packT D R k a).length≤(packT D R k b).length:=by
 induction h with
 | refl=>exact Nat.le_refl _
 | step _ ih=>rw [packT_next,List.length_append]; omega
set_option maxRecDepth 100000 in
set_option maxHeartbeats 4000000 in
theorem ways_c (ok:Nat→Prop) (g:Gr) (Ag:Option Addr) (ng cg:Nat) (A:Option Addr) (n c bs bm:Nat) (S:Ky→Bool) (k:Ky) (most:Nat) (w:World) (hg:g.Ok) (hl:Sl RuE ok w Ag ng cg g.rules) (hR:SpR w g Ag ng cg A n c bs bm S) (hk:k.2.1≤k.2.2∧k.2.2≤12) :
 Calls Tryz.prog 34 #[.pointer (some ⟨bs,0,none⟩),kyVal k,.int .i64 (most:Int)] w (WaysP w (packsF S g.rules k) most):=by
 obtain ⟨⟨kb,kN⟩,ki,kj⟩:=k;simp only at hk;have hng:=hl.len;have hgc:=hg.count
 have hlen:∀ m,m < ng→(packT S g.rules ((kb,kN),ki,kj) m).length+28561≤1000000:=fun m hm=>by
  have:=packT_len (D:=S) (k:=((kb,kN),ki,kj)) m (fun u hu=>(hg.right u hu).1) hk.2;omega
 have HO:=Lib.hid (hl.mono (ok':=fun b=>b < w.heap.size) fun b hb _=>hb);have HR:=Lib.hid hR;have HLEN:=Lib.hid hlen;have HG:=Lib.hid hg;have hal:=(((Below.refl w.heap.size w).al (.cells #[.pointer (some ⟨bs,0,none⟩)] 33)).al (.cells (kyC ((kb,kN),ki,kj)) 71)).al (.cells #[.int .i64 (most:Int)] 3);have hb5:=hal.al (.cells #[.slice none 0 0] 79);have BP:=(((Blk.new w 33 #[.pointer (some ⟨bs,0,none⟩)]).al (.cells (kyC ((kb,kN),ki,kj)) 71)).al (.cells #[.int .i64 (most:Int)] 3)).al (.cells #[.slice none 0 0] 79);have BX:=((Blk.newAt (w.alloc (.cells #[.pointer (some ⟨bs,0,none⟩)] 33)) 71 (kyC ((kb,kN),ki,kj)) (w.heap.size+1) (by simp)).al (.cells #[.int .i64 (most:Int)] 3)).al (.cells #[.slice none 0 0] 79);have BM:=(Blk.newAt ((w.alloc (.cells #[.pointer (some ⟨bs,0,none⟩)] 33)).alloc (.cells (kyC ((kb,kN),ki,kj)) 71)) 3 #[.int .i64 (most:Int)] (w.heap.size+1+1) (by simp)).al (.cells #[.slice none 0 0] 79);have BO:=Blk.newAt (((w.alloc (.cells #[.pointer (some ⟨bs,0,none⟩)] 33)).alloc (.cells (kyC ((kb,kN),ki,kj)) 71)).alloc (.cells #[.int .i64 (most:Int)] 3)) 79 #[.slice none 0 0] (w.heap.size+1+1+1) (by simp)
 have HM:=Lib.hid (show WyB w _ (w.heap.size+1) (w.heap.size+1+1+1) (w.heap.size+1+1) w.heap.size ((kb,kN),ki,kj) most bs (w.heap.size+4) (.slice none 0 0) (packT S g.rules ((kb,kN),ki,kj) 0) from
  ⟨hb5,BX,BM,BP,BO,Own.nil _ _,by omega,by omega,by simp [Value.ownBlock],by omega,by omega,by simp⟩)
 have BS:=hR.blk.via hb5;simp only [kyC] at HM BX BP BS;clear hl hR hb5 hal BM BO hlen hg BX;simp only [kyVal];go_enter Tryz.func34,Tryz.ntmps34;have cBP:=BP.cell;have fBP:=BP.frozen;have lBP:=BP.lt;have cBS:=BS.cell;have fBS:=BS.frozen;have lBS:=BS.lt;go_wp2_with fail;have HSZ:=Lib.hid (show ((((w.alloc (.cells #[.pointer (some ⟨bs,0,none⟩)] 33)).alloc (.cells #[.bool kb,.int .i64 (kN:Int),.int .i64 (ki:Int),.int .i64 (kj:Int)] 71)).alloc (.cells #[.int .i64 (most:Int)] 3)).alloc (.cells #[.slice none 0 0] 79)).heap.size=w.heap.size+4 by simp);generalize ((((w.alloc (.cells #[.pointer (some ⟨bs,0,none⟩)] 33)).alloc (.cells #[.bool kb,.int .i64 (kN:Int),.int .i64 (ki:Int),.int .i64 (kj:Int)] 71)).alloc (.cells #[.int .i64 (most:Int)] 3)).alloc (.cells #[.slice none 0 0] 79))=W at *;generalize w.heap.size+1+1+1=bo at *;generalize w.heap.size+1+1=bmo at *;generalize w.heap.size+1=bx at *;generalize w.heap.size+4=base at *
 go_loopw [18] (fun q wr=>∃ (i:Nat) (v:Value),q=.int .i64 i∧i≤ng∧WyB w wr bx bo bmo w.heap.size ((kb,kN),ki,kj) most bs base v (packT S g.rules ((kb,kN),ki,kj) i)∧(packT S g.rules ((kb,kN),ki,kj) i).length≤most) (fun q _=>ng - (intOf q).toNat)
 case atStart=>exact ⟨0,_,rfl,Nat.zero_le _,HM.out,Nat.zero_le _⟩
 case round =>
  obtain ⟨i,v,rfl,hi,hM,hmo⟩:=hrel;have HMO:=Lib.hid hmo;clear HM HSZ BP BS hmo
  by_cases him:i < ng
  ·obtain ⟨b1,o1,⟨sl,sA,sn,sc⟩,⟨sl',rhs⟩,hAg,-,hbb,hy,⟨hx1,hx2⟩,hcel⟩:=HO.out.at_ him;simp only at hx1 hx2;obtain rfl:sl=sl':=hx1;subst hAg;have d0:=(hM.bel.cell (p:=⟨b1,o1+i*RuE.k+0,none⟩) hbb).trans (hcel 0 _ rfl);have d1:=(hM.bel.cell (p:=⟨b1,o1+i*RuE.k+1,none⟩) hbb).trans (hcel 1 _ rfl);simp only [RuE,Nat.add_zero] at d0 d1;have i0:(0:Int)≤(i:Int):=(by omega);have i1:(i:Int) < (ng:Int):=(by omega);have BK0:=hM.xb;simp only [kyC] at BK0;have hbx:=((Below.refl wr.heap.size wr).al (.cells #[.int .i64 (i:Int)] 3)).al (.cells #[.int .i64 (sl:Int),.slice sA sn sc] 74);have BK:=BK0.via hbx;have BI:=(Blk.new wr 3 #[.int .i64 (i:Int)]).al (.cells #[.int .i64 (sl:Int),.slice sA sn sc] 74);have BR:=Blk.newAt (wr.alloc (.cells #[.int .i64 (i:Int)] 3)) 74 #[.int .i64 (sl:Int),.slice sA sn sc] (wr.heap.size+1) (by simp);have HM2:=Lib.hid (hM.via hbx);have HY:=Lib.hid hy;have HRH:=Lib.hid hx2;have HWR:=Lib.hid (show bo < wr.heap.size∧(∀ b,v.ownBlock=some b→b < wr.heap.size) from ⟨hM.outb.lt,fun b e=>(hM.own.lt b e).2⟩);have HBK:=Lib.hid BK;have HBI:=Lib.hid BI;have HBR:=Lib.hid BR;have hpn:=packT_next (D:=S) g.rules ((kb,kN),ki,kj) i;clear hcel hx2 hM BK0 hbx
   by_cases hcond:sl=kN∧kb=false
   ·obtain ⟨rfl,rfl⟩:=hcond;have e1:((sl:Int) != (sl:Int))=false:=(by simp)
    have HPN:=Lib.hid (show packT S g.rules ((false,sl),ki,kj) (i+1)=packT S g.rules ((false,sl),ki,kj) i++(waysF S rhs ki kj).map fun p=>(i,[]++p) from by
     rw [hpn,packN,hy]; simp)
    clear hpn hy;have cBK:=BK.cell;have fBK:=BK.frozen;have lBK:=BK.lt;have cBR:=BR.cell;have fBR:=BR.frozen;have lBR:=BR.lt;have cBI:=BI.cell;have fBI:=BI.frozen;have lBI:=BI.lt;go_upto_region 6 with fail;clear cBK fBK lBK cBR fBR lBR cBI fBI lBI;clear BK BR BI d0 d1;have HS4:=Lib.hid (show ((wr.alloc (.cells #[.int .i64 (i:Int)] 3)).alloc (.cells #[.int .i64 (sl:Int),.slice sA sn sc] 74)).heap.size=wr.heap.size+2 by simp);generalize (wr.alloc (.cells #[.int .i64 (i:Int)] 3)).alloc (.cells #[.int .i64 (sl:Int),.slice sA sn sc] 74)=W4 at *;have hmf:∀ (fn:Fn) (first cap:Array Value) (w:World),(Instr.makeFunc fn first cap).run Tryz.prog w=.ok (.func fn first cap) w:=fun _ _ _ _=>rfl
    go_upto_region 8 with fail;clear hmf;have hax:=(Below.refl W4.heap.size W4).al (.cells #[.func (.func 65) #[] #[.pointer (some ⟨wr.heap.size+1,0,none⟩),.pointer (some ⟨bx,0,none⟩),.pointer (some ⟨bo,0,none⟩),.pointer (some ⟨wr.heap.size,0,none⟩),.pointer (some ⟨bmo,0,none⟩),.pointer (some ⟨w.heap.size,0,none⟩),.pointer (some ⟨W4.heap.size,0,none⟩)]] 128);have BF:=Blk.new W4 128 #[.func (.func 65) #[] #[.pointer (some ⟨wr.heap.size+1,0,none⟩),.pointer (some ⟨bx,0,none⟩),.pointer (some ⟨bo,0,none⟩),.pointer (some ⟨wr.heap.size,0,none⟩),.pointer (some ⟨bmo,0,none⟩),.pointer (some ⟨w.heap.size,0,none⟩),.pointer (some ⟨W4.heap.size,0,none⟩)]];have HM5:=Lib.hid (HM2.out.via hax);have HBI5:=Lib.hid (HBI.out.via hax);have HBR5:=Lib.hid (HBR.out.via hax);have BK:=HBK.out.via hax;have HBF:=Lib.hid BF;have HAX:=Lib.hid hax;clear hax HM2 HBI HBR HBK;generalize W4.alloc (.cells #[.func (.func 65) #[] #[.pointer (some ⟨wr.heap.size+1,0,none⟩),.pointer (some ⟨bx,0,none⟩),.pointer (some ⟨bo,0,none⟩),.pointer (some ⟨wr.heap.size,0,none⟩),.pointer (some ⟨bmo,0,none⟩),.pointer (some ⟨w.heap.size,0,none⟩),.pointer (some ⟨W4.heap.size,0,none⟩)]] 128)=W5 at *;generalize hbf:W4.heap.size=bf at *;have HBFE:=Lib.hid hbf;clear hbf;have cBF:=BF.cell;have fBF:=BF.frozen;have lBF:=BF.lt;have cBK:=BK.cell;have fBK:=BK.frozen;have lBK:=BK.lt
    repeat go_step
    clear cBF fBF lBF cBK fBK lBK;have hru:=HG.out.right _ (List.mem_of_getElem? HY.out);have hM:=HM5.out.toM (fid:=65) HBR5.out HBI5.out HBF.out (by have:=HWR.out.1; omega) (by have:=HWR.out.1; omega) (by have:=HWR.out.1; have:=HS4.out; have:=HBFE.out; omega) (fun e=>by have:=HWR.out.2 _ e.symm; omega) (fun e=>by have:=HWR.out.2 _ e.symm; omega) (fun e=>by have:=HWR.out.2 _ e.symm; have:=HS4.out; have:=HBFE.out; omega);refine (wy1_n w 65 (Lib.hid rfl) enters_wy (wr.heap.size+1) bx bo wr.heap.size bmo w.heap.size bf sl sA sn sc ((false,sl),ki,kj) i most bs bm base g (some ⟨b1,o1,none⟩) ng cg A n c S _ rhs HR.out HRH.out (fun t ht=>by have h1:=hru.2 t ht; have h2:=HG.out.terms; have h3:=HG.out.nons; simp only [Gr.okSy] at h1; split at h1 <;> omega) hru.1 (by show kj≤_; omega) rhs W5 0 ki none 0 0 [] v _ rfl (Nat.zero_le _) (by show ki≤kj+1; omega) (Sl.nil 0) ?_ (by have h1:=hru.1; simp only [List.length_nil] at h1 ⊢; omega) HMO.out hM).mono ?_
    ·have h1:=HLEN.out i him;have h2:=ways_len (D:=S) (l:=rhs) (i:=ki) (j:=kj) (by omega);have h3:13 ^ rhs.length≤28561:=Nat.le_trans (Nat.pow_le_pow_right (by omega) hru.1) (by decide);simp only;omega
    rintro e w6 ⟨b,v6,out',rfl,hb,ho,hM6,-⟩;have HM6:=Lib.hid hM6.toB;have HB:=Lib.hid hb;have HOU:=Lib.hid ho;clear hM6 hM hru HM5 HBI5 HBR5 HBF HAX BF BK hb ho;cases b with
    | true =>
     obtain rfl:out'=packT S g.rules ((false,sl),ki,kj) (i+1):=(by rw [HPN.out]; exact HOU.out rfl)
     have HL:=Lib.hid (show (packT S g.rules ((false,sl),ki,kj) (i+1)).length≤most from by
      have:=HB.out; rw [HPN.out,List.length_append]; exact of_decide_eq_true this.symm)
     clear HOU HB HPN;go_wp2_with fail;exact ⟨⟨i+1,v6,by go_num,by omega,HM6.out,HL.out⟩,by simp [intOf]; omega⟩
    | false =>
     have HL:=Lib.hid (show ¬ (packT S g.rules ((false,sl),ki,kj) (i+1)).length≤most from by
      have:=HB.out; rw [HPN.out,List.length_append]; exact of_decide_eq_false this.symm)
     clear HOU HB HPN;go_wp2_with fail;go_ret2;rw [WaysP];refine ⟨HM6.out.bel,?_⟩;have he:packsF S g.rules ((false,sl),ki,kj)=packT S g.rules ((false,sl),ki,kj) ng:=(by unfold packsF; rw [hng]);rw [he,if_neg (fun h=>HL.out (Nat.le_trans (packT_pre (by omega)) h))];rfl
   ·have HPN:=Lib.hid (show packT S g.rules ((kb,kN),ki,kj) (i+1)=packT S g.rules ((kb,kN),ki,kj) i from by
     rw [hpn,packN,hy]; simp only [hcond,if_false,List.append_nil])
    have hcc:kb=true∨(kb=false∧((sl:Int) != (kN:Int))=true):=by
     cases kb with
     | true=>exact Or.inl rfl
     | false =>
      refine Or.inr ⟨rfl,?_⟩;simp; intro e; exact hcond ⟨by omega,rfl⟩
    clear hpn hy hcond
    rcases hcc with rfl | ⟨rfl,e1⟩
    ·have cBK:=BK.cell;have fBK:=BK.frozen;have lBK:=BK.lt;have cBR:=BR.cell;have fBR:=BR.frozen;have lBR:=BR.lt;have cBI:=BI.cell;have fBI:=BI.frozen;have lBI:=BI.lt;go_wp2_with fail;exact ⟨⟨i+1,v,by go_num,by omega,by rw [HPN.out]; exact HM2.out,by rw [HPN.out]; exact HMO.out⟩,by simp [intOf]; omega⟩
    ·have cBK:=BK.cell;have fBK:=BK.frozen;have lBK:=BK.lt;have cBR:=BR.cell;have fBR:=BR.frozen;have lBR:=BR.lt;have cBI:=BI.cell;have fBI:=BI.frozen;have lBI:=BI.lt;go_wp2_with fail;exact ⟨⟨i+1,v,by go_num,by omega,by rw [HPN.out]; exact HM2.out,by rw [HPN.out]; exact HMO.out⟩,by simp [intOf]; omega⟩
  ·obtain rfl:i=ng:=(by omega);have HMF:=Lib.hid hM;have BO:=hM.outb;clear hM;have cBO:=BO.cell;have fBO:=BO.frozen;have lBO:=BO.lt;go_wp2_with fail;go_ret2;have hw:=HMF.out.own;obtain ⟨A',c',rfl,hc'⟩:=hw.form;have he:packsF S g.rules ((kb,kN),ki,kj)=packT S g.rules ((kb,kN),ki,kj) i:=(by unfold packsF; rw [hng]);rw [WaysP,he];have hge:=HMF.out.ge;refine ⟨HMF.out.bel,?_⟩;rw [if_pos HMO.out];exact ⟨A',c',rfl,(hw.mono (ok':=fun b=>w.heap.size≤b) fun b _ hb=>by omega).lower (by omega)⟩
end Go.Proofs.YtfcihnpmeabacaaGreatDoor
namespace Go.Proofs.YtfcihnpmeabacaaGreatDoor
open Go.RowKit
section
variable {D:Ky→Bool} {R:List Ru} {root x:Ky} {B left:Nat} {M S:List Ky}
end
section
variable {α ρ:Type} {E:Elem α ρ} {e:TypeId} {ok:Nat→Prop} {w:World} {base n:Nat} {v:Value} {l:List α}
theorem flat_app (a b:List ρ):flat E (a++b)=flat E a++flat E b:=by simp [flat]
theorem Own.pop {A:Option Addr} {c:Nat} {x:α} (h:Own E e ok w base (.slice A (n+1) c) (n+1) (l++[x])):Own E e ok w base (.slice A n c) n l:=by
 obtain ⟨h1,raw,h3,h4,h5⟩:=h;have hl:l.length=n:=(by simp at h1; exact h1);have hob:(Value.slice A n c).ownBlock=(Value.slice A (n+1) c).ownBlock:=(by cases A <;> rfl);refine ⟨hl,raw.take n,by rw [List.length_take]; omega,⟨by rw [flat_len,List.length_take,h3,Nat.min_eq_left (by omega)],?_⟩,fun i r x' hr hx=>?_⟩
 ·rcases h4.2 with ⟨-,h0⟩ | ⟨g,cap,cur,hv,hbg,hh,hc1,hc2,hc3,hc4⟩
  ·omega
  ·cases hv
   refine Or.inr ⟨g,c,cur,rfl,hbg,hh,by omega,hc2,hc3,?_⟩;have e1:flat E raw=flat E (raw.take n)++flat E (raw.drop n):=(by rw [← flat_app,List.take_append_drop]);rw [e1] at hc4;have e2:(flat E (raw.take n)).length=n*E.k:=(by rw [flat_len,List.length_take,h3,Nat.min_eq_left (by omega)])
   have e3:cur.toList.take (n*E.k)=(cur.toList.take ((n+1)*E.k)).take (n*E.k):=by
    rw [List.take_take,Nat.min_eq_left (Nat.mul_le_mul_right _ (by omega))]
   rw [e3,hc4,← e2];exact List.take_left
 ·rw [hob]
  have hi:i < n:=by
   have:=(List.getElem?_eq_some_iff.1 hr).1;rw [List.length_take] at this; omega
  rw [List.getElem?_take_of_lt hi] at hr;exact h5 i r x' hr (by rw [List.getElem?_append_left (by omega)]; exact hx)
end
end Go.Proofs.YtfcihnpmeabacaaGreatDoor
namespace Go.Proofs.YtfcihnpmeabacaaGreatDoor
open Go.RowKit
open Go.Sort (grow alloc_eq_grow grow_grow grow_empty SWO)
def RootP (w:World) (g:Gr) (n:Nat) (e:Ending) (w':World):Prop:=e=.returned (kyVal ((false,g.start),0,n))∧Below w.heap.size w w'
set_option maxRecDepth 100000 in
set_option maxHeartbeats 2000000 in
theorem root_c (g:Gr) (Ag:Option Addr) (ng cg:Nat) (A:Option Addr) (n c bs bm:Nat) (S:Ky→Bool) (w:World) (hR:SpR w g Ag ng cg A n c bs bm S) :
 Calls Tryz.prog 32 #[.pointer (some ⟨bs,0,none⟩)] w (RootP w g n):=by
 have BS:=hR.blk.al (.cells #[.bool false,.int .i64 0,.int .i64 0,.int .i64 0] 71);have B2:=Blk.new w 71 #[.bool false,.int .i64 0,.int .i64 0,.int .i64 0];have HB:=Lib.hid ((Below.refl w.heap.size w).al (.cells #[.bool false,.int .i64 0,.int .i64 0,.int .i64 0] 71));clear hR;go_enter Tryz.func32,Tryz.ntmps32;go_upto_region 1 with fail;generalize w.alloc (.cells #[.bool false,.int .i64 0,.int .i64 0,.int .i64 0] 71)=W at *;have cBS:=BS.cell;have fBS:=BS.frozen;have lBS:=BS.lt;have cB2:=B2.cell;have fB2:=B2.frozen;have lB2:=B2.lt
 go_still_tail 12,(by kernel_rfl)
 clear cBS fBS lBS cB2 fB2 lB2;have HDW:=Lib.hid (HB.out.via (Below.refl W.heap.size W).drew);have B3:=B2.via (Below.refl W.heap.size W).drew;change wpList _ _ _ _ _ W.drew
 generalize W.drew=W2 at *;clear BS B2 HB;have cB3:=B3.cell;have fB3:=B3.frozen;have lB3:=B3.lt;go_wp2_with fail;have B4:=(((B3.set_ 0 (.bool false)).set_ 1 (.int .i64 (g.start:Int))).set_ 2 (.int .i64 0)).set_ 3 (.int .i64 (n:Int));simp only [List.setIfInBounds_toArray,List.set_cons_zero,List.set_cons_succ] at B4;have c4:=B4.cell;refine bodyPost_ret (v:=kyVal ((false,g.start),0,n)) (by simp [results,Tryz.results32,go_sem,c4,kyVal]) rfl ⟨rfl,?_⟩;exact (((HDW.out.setCell (p:=⟨w.heap.size,0,none⟩) (Nat.le_refl _) _).setCell (p:=⟨w.heap.size,1,none⟩) (Nat.le_refl _) _).setCell (p:=⟨w.heap.size,2,none⟩) (Nat.le_refl _) _).setCell (p:=⟨w.heap.size,3,none⟩) (Nat.le_refl _) _
end Go.Proofs.YtfcihnpmeabacaaGreatDoor
namespace Go.Proofs.YtfcihnpmeabacaaGreatDoor
open Go.RowKit
structure CoW (w0:World) (fid:Nat) (R:List Ru) (D:Ky→Bool) (bs pW pS pF bw:Nat) (M:List Ky) (F:Ky→Option Value) (w:World):Prop where
 bel:Below w0.heap.size w0 w
 bxW:Blk w pW 77 #[.map (some bw)]
 bxS:Blk w pS 33 #[.pointer (some ⟨bs,0,none⟩)]
 bxF:Blk w pF 78 #[.func (.func fid) #[] #[.pointer (some ⟨pW,0,none⟩),.pointer (some ⟨pS,0,none⟩),.pointer (some ⟨pF,0,none⟩)]]
 pk:MapK Tryz.prog 71 kyVal w bw F
 fok:∀ k,F k≠none↔k∈M
 rows:∀ k V,F k=some V→∃ A c,V=.slice A (packsF D R k).length c∧Sl PkE (fun b=>w0.heap.size≤b∧b≠bw) w A (packsF D R k).length c (packsF D R k)
 ge:w0.heap.size≤bw∧w0.heap.size≤pW∧w0.heap.size≤pS∧w0.heap.size≤pF
 ne:pW≠bw∧pS≠bw∧pF≠bw
section
variable {w0 w w':World} {fid:Nat} {R:List Ru} {D:Ky→Bool} {bs pW pS pF bw:Nat} {M:List Ky} {F:Ky→Option Value}
theorem CoW.via (h:CoW w0 fid R D bs pW pS pF bw M F w) (hb:Below w.heap.size w w'):CoW w0 fid R D bs pW pS pF bw M F w' :=
 ⟨h.bel.via hb,h.bxW.via hb,h.bxS.via hb,h.bxF.via hb,h.pk.via hb,h.fok,fun k V hV=>by
  obtain ⟨A,c,h1,h2⟩:=h.rows k V hV
  exact ⟨A,c,h1,h2.via hb⟩,h.ge,h.ne⟩
theorem CoW.putp {k0:Ky} {A0:Option Addr} {c0:Nat} (h:CoW w0 fid R D bs pW pS pF bw M F w) (hr:Sl PkE (fun b=>w0.heap.size≤b∧b≠bw) w A0 (packsF D R k0).length c0 (packsF D R k0)) (hp:MapK Tryz.prog 71 kyVal w' bw (fun k=>if k=k0 then some (.slice A0 (packsF D R k0).length c0) else F k)) (hg:w.grownBy w' (some bw)) :
 CoW w0 fid R D bs pW pS pF bw (M++[k0]) (fun k=>if k=k0 then some (.slice A0 (packsF D R k0).length c0) else F k) w':=by
 have hne:∀ b,b≠bw→some b≠some bw:=fun b hb e=>hb (Option.some.inj e)
 refine ⟨h.bel.grown hg h.bel.size (fun b e=>by have:=Option.some.inj e; have:=h.ge.1; omega),h.bxW.grown hg (hne _ h.ne.1),h.bxS.grown hg (hne _ h.ne.2.1),h.bxF.grown hg (hne _ h.ne.2.2),hp,fun k=>?_,fun k V hV=>?_,h.ge,h.ne⟩
 ·by_cases e:k=k0
  ·subst e; simp
  ·simp only [List.mem_append,List.mem_singleton,e,or_false,if_false]; exact h.fok k
 ·by_cases e:k=k0
  ·subst e;rw [if_pos rfl] at hV;exact ⟨A0,c0,(Option.some.inj hV).symm,hr.agr (Agr.grown hg fun b hb=>hne _ hb.2)⟩
  ·rw [if_neg e] at hV;obtain ⟨A,c,h1,h2⟩:=h.rows k V hV;exact ⟨A,c,h1,h2.agr (Agr.grown hg fun b hb=>hne _ hb.2)⟩
end
theorem KyOk.skeyR {g:Gr} {n:Nat} {k:Ky} (h:KyOk g n k) (hg:g.Ok) (hn:n≤12):∃ l,keyOf Tryz.prog 71 (kyVal k)=some l:=by
 obtain ⟨h2,h3,h4⟩:=h.ok hg hn;exact span_k k.1 k.2.1 k.2.2 (by omega) (by omega) (by omega)
theorem cow_room {w0 wr:World} {fid:Nat} {g:Gr} {n:Nat} {D:Ky→Bool} {bs pW pS pF bw:Nat} {M:List Ky} {F:Ky→Option Value} (h:CoW w0 fid g.rules D bs pW pS pF bw M F wr) (hM:∀ k∈M,KyOk g n k) (hg:g.Ok) (hn:n≤12):∀ es clock,wr.heap[bw]?=some (.map es clock)→es.size < maxLen:=fun es clock he =>
 Nat.lt_of_le_of_lt (h.pk.room kyC2 3400 (fun y hy=>kyC2_lt (hM y ((h.fok y).1 hy)) hg hn) (fun x y hx hy e=>kyC2_inj (hM x ((h.fok x).1 hx)) (hM y ((h.fok y).1 hy)) hg hn e) es clock he) (by simp [maxLen])
def ReaP (w0:World) (fid:Nat) (R:List Ru) (D:Ky→Bool) (bs pW pS pF bw:Nat) (M':List Ky) (w:World) (e:Ending) (w':World):Prop :=
 e=.returned (.tuple #[])∧∃ F',CoW w0 fid R D bs pW pS pF bw M' F' w'∧Frq (fun b=>b=bw) w w'
set_option maxRecDepth 100000 in
set_option maxHeartbeats 8000000 in
theorem reach_n (w0:World) (fid:Nat) (hfid:Hid (fid=33)) (he:∀ (args:Array Value) (w:World),(callFunc fid args).run Tryz.prog w=.ok (.enter fid args) w) (ok:Nat→Prop) (g:Gr) (D:Ky→Bool) (Ag:Option Addr) (ng cg:Nat) (A:Option Addr) (n c bs bm pW pS pF bw:Nat) (hg:g.Ok) (hn:n≤12)
 (U:List Ky) (hUk:∀ k∈U,KyOk g n k) (hU:∀ k∈U,∀ q∈kidsP (packsF D g.rules) k,q∈U) (hUn:U.Nodup) (hRR:∀ w,Below w0.heap.size w0 w→Sl RuE ok w Ag ng cg g.rules∧SpR w g Ag ng cg A n c bs bm D) :
 ∀ (d:Nat) (k:Ky) (M:List Ky) (F:Ky→Option Value) (w:World),k∈U→M.Nodup→(∀ q∈M,q∈U)→U.length < d+M.length→CoW w0 fid g.rules D bs pW pS pF bw M F w →
 Calls Tryz.prog fid #[kyVal k,.pointer (some ⟨pW,0,none⟩),.pointer (some ⟨pS,0,none⟩),.pointer (some ⟨pF,0,none⟩)] w (ReaP w0 fid g.rules D bs pW pS pF bw (rchV (packsF D g.rules) d k M) w):=by
 intro d
 induction d with
 | zero=>intro k M F w _ h1 h2 h3; have:=nodup_sub_len h1 h2; omega
 | succ d ih =>
  intro k M F w hk hMn hMU hd hM;obtain ⟨Q,hQ⟩:∃ Q,Q=ReaP w0 fid g.rules D bs pW pS pF bw (rchV (packsF D g.rules) (d+1) k M) w:=⟨_,rfl⟩;rw [← hQ];have HQQ:=Lib.hid hQ;have HIH:=Lib.hid ih;have HM0:=Lib.hid hM;have HK:=Lib.hid (And.intro hk (And.intro hMn (And.intro hMU hd)));have HUU:=Lib.hid (And.intro hUk (And.intro hU hUn));have HRR:=Lib.hid hRR;have HG:=Lib.hid hg;have hko:=hUk k hk;obtain ⟨kl,hkl⟩:=hko.skeyR hg hn;have HKL:=Lib.hid hkl;have HWY:=Lib.hid (show ∀ w',Below w0.heap.size w0 w'→Calls Tryz.prog 34 #[.pointer (some ⟨bs,0,none⟩),kyVal k,.int .i64 1073741824] w' (WaysP w' (packsF D g.rules k) 1073741824) from fun w' h=>ways_c ok g Ag ng cg A n c bs bm D k 1073741824 w' hg (hRR w' h).1 (hRR w' h).2 ⟨hko.2.1,Nat.le_trans hko.2.2 hn⟩);have HPL:=Lib.hid (show (packsF D g.rules k).length≤913952 from packs_len (fun u hu=>(hg.right u hu).1) hg.count (Nat.le_trans hko.2.2 hn));have hal:=(Below.refl w.heap.size w).al (.cells (kyC k) 71);have BX:=Blk.new w 71 (kyC k);have HM1:=Lib.hid (hM.via hal);have HF1:=Lib.hid (Frq.bel (S:=fun b=>b=bw) hal);clear hQ ih hM hk hMn hMU hd hUk hU hUn hRR hko hkl hal hg;have hkv:kyVal k=.agg #[.bool k.1.1,.int .i64 (k.1.2:Int),.int .i64 (k.2.1:Int),.int .i64 (k.2.2:Int)]:=rfl;unfold kyC at BX HM1 HF1;rw [hkv];rw [hfid.out];go_enter Tryz.func33,Tryz.ntmps33;go_upto_region 1 with fail;generalize w.alloc (.cells #[.bool k.1.1,.int .i64 (k.1.2:Int),.int .i64 (k.2.1:Int),.int .i64 (k.2.2:Int)] 71)=w1 at *;have hlk:=HM1.out.pk.look true span_keyed Tryz.underlying77 (z:=.slice none 0 0) (by kernel_rfl) k HKL.out;rw [hkv] at hlk;simp only [if_true] at hlk;have BW:=HM1.out.bxW
  by_cases hin:k∈M
  ·obtain ⟨V,hV⟩:=Option.ne_none_iff_exists'.1 ((HM1.out.fok k).2 hin);rw [hV] at hlk;simp only [Option.getD_some,Option.isSome_some] at hlk;have cBW:=BW.cell;have fBW:=BW.frozen;have lBW:=BW.lt;have cBX:=BX.cell;have fBX:=BX.frozen;have lBX:=BX.lt;go_wp2_with fail;refine bodyPost_end (v:=.tuple #[]) (by simp [results,Tryz.results33,go_sem]) rfl ?_;rw [HQQ.out];refine ⟨rfl,F,?_,HF1.out⟩;have e:rchV (packsF D g.rules) (d+1) k M=M:=(by unfold rchV; rw [if_pos hin]);rw [e]; exact HM1.out
  ·have hV:F k=none:=by
    cases hf:F k with
    | none=>rfl
    | some V=>exact absurd ((HM1.out.fok k).1 (by rw [hf]; exact fun e=>by cases e)) hin
   rw [hV] at hlk;simp only [Option.getD_none,Option.isSome_none] at hlk;have cBW:=BW.cell;have fBW:=BW.frozen;have lBW:=BW.lt;have cBX:=BX.cell;have fBX:=BX.frozen;have lBX:=BX.lt;go_upto_region 3 with fail;clear cBW fBW lBW cBX fBX lBX;clear hlk BW hV;have hdr:=(Below.refl w1.heap.size w1).drew;have HM2:=Lib.hid (HM1.out.via hdr);have BX2:=Lib.hid (BX.via hdr);have HF2:=Lib.hid (HF1.out.trans2 (Frq.bel (S:=fun b=>b=bw) hdr) fun b _ h=>h);clear hdr BX HM1 HF1;have hHeld:=And.intro HM2.out.bxW.cell (And.intro HM2.out.bxS.cell BX2.out.cell);refine wp_region_noPanic ?_;refine wp_region_N 8 (fun w'=>(∀ x,w'.cell? ⟨pW,x,none⟩=#[.map (some bw)][x]?)∧(∀ x,w'.cell? ⟨pS,x,none⟩=#[.pointer (some ⟨bs,0,none⟩)][x]?)∧∀ x,w'.cell? ⟨w.heap.size,x,none⟩=#[.bool k.1.1,.int .i64 (k.1.2:Int),.int .i64 (k.2.1:Int),.int .i64 (k.2.2:Int)][x]?) (by kernel_rfl) ?_;generalize w1.drew=w2 at *;refine tkN 0 19 ?_;refine tkN 1 20 ?_;refine tkN 2 21 ?_;refine tkN 3 22 ?_;clear hHeld;refine wpAnyN.ready (rs:=[4]) (by kernel_rfl) (by simp) ?_;refine AllN.cons rfl (fun K hK=>?_) AllN.nil;go_simp
   go_at_call 34
   refine (HWY.out w2 HM2.out.bel).mono ?_;rintro e w3 ⟨hb3,hret⟩;rw [if_pos (by have:=HPL.out; omega)] at hret;obtain ⟨VA,vc,rfl,hown⟩:=hret;dsimp only;have HBL:=Lib.hid (show bw < w2.heap.size∧w0.heap.size≤w2.heap.size from ⟨HM2.out.pk.lt,HM2.out.bel.size⟩);have HSL:=Lib.hid (hown.toSl (ok':=fun b=>w0.heap.size≤b∧b≠bw) (fun b _ hb=>by have:=HBL.out; omega) (fun b hb=>by have:=HBL.out; omega));have HM3:=Lib.hid (HM2.out.via hb3);have BX3:=Lib.hid (BX2.out.via hb3);have HF3:=Lib.hid (HF2.out.trans2 (Frq.bel (S:=fun b=>b=bw) hb3) fun b _ h=>h);clear hb3 hown HM2 BX2 HF2;go_wp2_with fail;have hHeld:=And.intro HM3.out.bxW.cell (And.intro HM3.out.bxS.cell BX3.out.cell);refine hK.out _ _ (fun _=>hHeld) ?_;clear hK K;try simp only [Act.put,List.setIfInBounds_toArray,List.set_cons_zero,List.set_cons_succ]
   refine frN 5 18 ?_;refine frN 6 24 ?_;refine frN 7 25 ?_;clear hHeld;obtain ⟨w4,hrun,hmk,hgr,hsz⟩:=HM3.out.pk.store span_keyed Tryz.underlying77 kyVal_inj k (.slice VA (packsF D g.rules k).length vc) HKL.out (cow_room HM3.out (fun q hq=>HUU.out.1 q (HK.out.2.2.1 q hq)) HG.out hn);rw [hkv] at hrun;refine wpAnyN.ready (rs:=[8]) (by kernel_rfl) (by simp) ?_;refine AllN.cons rfl (fun K hK=>?_) AllN.nil;go_simp;refine hK.out _ _ (fun h=>absurd h (by decide)) ?_;clear hK K hrun;refine wpAnyN.done (by kernel_rfl) ?_ _;refine NoPanic.normal ?_;have HM4:=Lib.hid (HM3.out.putp HSL.out hmk hgr);have BX4:=BX3.out.grown hgr (fun e=>by have:=Option.some.inj e; have:=HM0.out.pk.lt; omega);have HF4:=Lib.hid (HF3.out.trans2 (Frq.row (S:=fun b=>b=bw) hgr fun b e _=>(Option.some.inj e).symm) fun b _ h=>h)
   have HNM:=Lib.hid (show (M++[k]).Nodup∧(∀ q∈M++[k],q∈U) from ⟨List.nodup_append.2 ⟨HK.out.2.1,by simp,fun a ha b hb=>by rw [List.mem_singleton.1 hb]; exact fun e=>hin (e ▸ ha)⟩,fun q hq=>by
    rcases List.mem_append.1 hq with h | h
    ·exact HK.out.2.2.1 q h
    ·rw [List.mem_singleton.1 h]; exact HK.out.1⟩)
   have HUNF:=Lib.hid (show rchV (packsF D g.rules) (d+1) k M=(kidsP (packsF D g.rules) k).foldl (fun M q=>rchV (packsF D g.rules) d q M) (M++[k]) by conv=>lhs; unfold rchV; rw [if_neg hin]);clear hmk hgr hsz HM3 BX3 HF3 HSL HBL;have hlk:=HM4.out.pk.look false span_keyed Tryz.underlying77 (z:=.slice none 0 0) (by kernel_rfl) k HKL.out;rw [hkv] at hlk;simp only [Bool.false_eq_true,if_false,if_true,Option.getD_some] at hlk;obtain ⟨VA2,vc2,hV2,hS2⟩:=HM4.out.rows k _ (if_pos rfl);obtain ⟨ps,hps⟩:∃ ps,ps=packsF D g.rules k:=⟨_,rfl⟩;rw [← hps] at hS2 hlk hV2;have HPS:=Lib.hid hps;have hpl:=HPL.out;rw [← hps] at hpl;cases hV2
   clear hps;have BW:=HM4.out.bxW;have cBW:=BW.cell;have fBW:=BW.frozen;have lBW:=BW.lt;have cBX4:=BX4.cell;have fBX4:=BX4.frozen;have lBX4:=BX4.lt;go_wp2_with fail;clear cBW fBW lBW cBX4 fBX4 lBX4;clear hlk BW BX4;have HS2:=Lib.hid hS2;clear hS2
   go_loopw [30] (fun q wr=>∃ (i:Nat) (Mi:List Ky) (Fi:Ky→Option Value),q=.int .i64 (i:Int)∧i≤ps.length∧Hid (CoW w0 fid g.rules D bs pW pS pF bw Mi Fi wr)∧Hid (Mi=((ps.take i).flatMap (·.2)).foldl (fun M q=>rchV (packsF D g.rules) d q M) (M++[k])∧Mi.Nodup∧(∀ q∈Mi,q∈U)∧M.length+1≤Mi.length)∧Hid (Frq (fun b=>b=bw) w4 wr)) (fun q _=>ps.length - (intOf q).toNat)
   case atStart=>exact ⟨0,M++[k],_,rfl,Nat.zero_le _,HM4,Lib.hid ⟨by simp,HNM.out.1,HNM.out.2,by simp⟩,Lib.hid (Frq.refl _)⟩
   case round =>
    obtain ⟨i,Mi,Fi,rfl,hi,HMI,HE,HFR⟩:=hrel;clear HM4
    by_cases hip:i < ps.length
    ·obtain ⟨b1,o1,⟨pr,KA,kn,kc⟩,⟨pr',ks⟩,rfl,-,hb1,hx,⟨hx1,hx2⟩,hcx⟩:=(HS2.out.agr (HFR.out.agr fun b hb=>hb.2)).at_ hip;simp only at hx1 hx2;subst hx1;have c0:=hcx 0 _ rfl;have c1:=hcx 1 _ rfl;simp only [PkE,Nat.add_zero] at c0 c1
     have hks:ks.length≤4:=by
      have h1:=List.mem_of_getElem? hx;rw [HPS.out] at h1;obtain ⟨-,u,hu,-,hw⟩:=packs_mem h1;have h2:=(HG.out.right u (List.mem_of_getElem? hu)).1;have h3:=hw.len;simp only at h3; omega
     have hknl:ks.length=kn:=hx2.len;have HX:=Lib.hid hx;have HX2:=Lib.hid hx2;have i0:(0:Int)≤(i:Int):=(by omega);have i1:(i:Int) < (ps.length:Int):=(by omega);have hw2:IntKind.i64.wrap ((i:Int)+1)=(i:Int)+1:=IntWalk.i64_in _ (by omega);have hal:=(Below.refl wr.heap.size wr).al (.cells #[.int .i64 (pr:Int),.slice KA kn kc] 84);have BN:=Blk.new wr 84 #[.int .i64 (pr:Int),.slice KA kn kc];have HM5:=Lib.hid (HMI.out.via hal);have HF5:=Lib.hid (HFR.out.trans2 (Frq.bel (S:=fun b=>b=bw) hal) fun b _ h=>h);have HX5:=Lib.hid (hx2.via hal);clear hcx hx hx2 hal hb1 HMI HFR HX2;have cBN:=BN.cell;have fBN:=BN.frozen;have lBN:=BN.lt;go_wp2_with fail;clear cBN fBN lBN;clear BN c0 c1;generalize wr.alloc (.cells #[.int .i64 (pr:Int),.slice KA kn kc] 84)=w5 at *
     go_loopw [37] (fun q wz=>∃ (j:Nat) (Mj:List Ky) (Fj:Ky→Option Value),q=.int .i64 (j:Int)∧j≤kn∧Hid (CoW w0 fid g.rules D bs pW pS pF bw Mj Fj wz)∧Hid (Mj=(ks.take j).foldl (fun M q=>rchV (packsF D g.rules) d q M) Mi∧Mj.Nodup∧(∀ q∈Mj,q∈U)∧M.length+1≤Mj.length)∧Hid (Frq (fun b=>b=bw) w5 wz)) (fun q _=>kn - (intOf q).toNat)
     case atStart=>exact ⟨0,Mi,Fi,rfl,Nat.zero_le _,HM5,Lib.hid ⟨rfl,HE.out.2⟩,Lib.hid (Frq.refl _)⟩
     case round =>
      obtain ⟨j,Mj,Fj,rfl,hj,HMJ,HEJ,HFJ⟩:=hrel;clear HM5
      by_cases hjk:j < kn
      ·obtain ⟨b3,o3,q,q',hKA,-,hb3,hq,hqr,hcq⟩:=(HX5.out.agr (HFJ.out.agr fun b hb=>hb.2)).at_ hjk;obtain rfl:q=q':=hqr;subst hKA;have d0:=hcq 0 _ rfl;have d1:=hcq 1 _ rfl;have d2:=hcq 2 _ rfl;have d3:=hcq 3 _ rfl;simp only [KyE,Nat.add_zero] at d0 d1 d2 d3;have j0:(0:Int)≤(j:Int):=(by omega);have j1:(j:Int) < (kn:Int):=(by omega);have hw3:IntKind.i64.wrap ((j:Int)+1)=(j:Int)+1:=IntWalk.i64_in _ (by omega)
       have hqU:q∈U:=HUU.out.2.1 k HK.out.1 q (by
        unfold kidsP;rw [List.mem_flatMap]
        exact ⟨(pr,ks),by rw [← HPS.out]; exact List.mem_of_getElem? HX.out,List.mem_of_getElem? hq⟩)
       have HQ:=Lib.hid hq;have HQU:=Lib.hid hqU;have hal:=(Below.refl wr.heap.size wr).al (.cells #[.bool q.1.1,.int .i64 (q.1.2:Int),.int .i64 (q.2.1:Int),.int .i64 (q.2.2:Int)] 71);have BN:=Blk.new wr 71 #[.bool q.1.1,.int .i64 (q.1.2:Int),.int .i64 (q.2.1:Int),.int .i64 (q.2.2:Int)];have hM6:=HMJ.out.via hal;have HF6:=Lib.hid (HFJ.out.trans2 (Frq.bel (S:=fun b=>b=bw) hal) fun b _ h=>h);have hca:=HIH.out q Mj Fj _ hqU HEJ.out.2.1 HEJ.out.2.2.1 (by have h1:=HK.out.2.2.2; have h2:=HEJ.out.2.2.2; omega) hM6;have BF:=hM6.bxF;rw [show kyVal q=.agg #[.bool q.1.1,.int .i64 (q.1.2:Int),.int .i64 (q.2.1:Int),.int .i64 (q.2.2:Int)] from rfl] at hca;have HCA:=Lib.hid hca;clear hcq hq hqU hal hb3 hM6 hca;go_upto_region 10 with fail;clear d0 d1 d2 d3;have cBF:=BF.cell;have fBF:=BF.frozen;have lBF:=BF.lt;have cBN:=BN.cell;have fBN:=BN.frozen;have lBN:=BN.lt;go_wp2_with fail;clear cBF fBF lBF cBN fBN lBN;clear BF BN;refine HCA.out.mono ?_;clear HCA;rintro e w7 ⟨rfl,F7,hm7,hf7⟩;obtain ⟨ra,rb⟩:=rchV_spec (P:=packsF D g.rules) HUU.out.2.1 HUU.out.2.2 d q Mj HQU.out HEJ.out.2.1 HEJ.out.2.2.1 (by have h1:=HK.out.2.2.2; have h2:=HEJ.out.2.2.2; omega);have HM7:=Lib.hid hm7
       have HE7:=Lib.hid (show rchV (packsF D g.rules) d q Mj=(ks.take (j+1)).foldl (fun M q=>rchV (packsF D g.rules) d q M) Mi∧(rchV (packsF D g.rules) d q Mj).Nodup∧(∀ x∈rchV (packsF D g.rules) d q Mj,x∈U)∧M.length+1≤(rchV (packsF D g.rules) d q Mj).length from by
        refine ⟨?_,ra.nodup,rb,?_⟩
        ·have hl:=List.getElem?_eq_some_iff.1 HQ.out;rw [List.take_succ_eq_append_getElem hl.1,hl.2,List.foldl_append,← HEJ.out.1]; rfl
        ·obtain ⟨X,hX⟩:=ra.pre;rw [hX,List.length_append]
         have:=HEJ.out.2.2.2; omega)
       have HF7:=Lib.hid (HF6.out.trans2 hf7 fun b _ h=>h);clear hm7 hf7 ra rb HMJ HEJ HFJ HF6;go_wp2_with fail;exact ⟨⟨j+1,_,F7,by go_num,by omega,HM7,HE7,HF7⟩,by simp [intOf]; omega⟩
      ·obtain rfl:kn=j:=(by omega)
       have HEK:=Lib.hid (show Mj=((ps.take (i+1)).flatMap (·.2)).foldl (fun M q=>rchV (packsF D g.rules) d q M) (M++[k]) from by
        have h1:=HEJ.out.1;rw [← hknl,List.take_length,HE.out.1] at h1;have hl:=List.getElem?_eq_some_iff.1 HX.out;rw [h1,List.take_succ_eq_append_getElem hl.1,hl.2,List.flatMap_append,List.foldl_append]
        simp)
       have HF8:=Lib.hid (HF5.out.trans2 HFJ.out fun b _ h=>h);go_wp2_with fail;exact ⟨⟨i+1,Mj,Fj,by go_num,by omega,HMJ,Lib.hid ⟨HEK.out,HEJ.out.2⟩,HF8⟩,by simp [intOf]; omega⟩
    ·obtain rfl:i=ps.length:=(by omega)
     have HRS:=Lib.hid (show rchV (packsF D g.rules) (d+1) k M=Mi from by
      have h1:=HE.out.1;rw [List.take_length] at h1
      rw [HUNF.out,h1,HPS.out]; rfl)
     have HFN:=Lib.hid (HF4.out.trans2 HFR.out fun b _ h=>h);go_wp2_with fail;refine bodyPost_end (v:=.tuple #[]) (by simp [results,Tryz.results33,go_sem]) rfl ?_;rw [HQQ.out,HRS.out];exact ⟨rfl,Fi,HMI.out,HFN.out⟩
end Go.Proofs.YtfcihnpmeabacaaGreatDoor
