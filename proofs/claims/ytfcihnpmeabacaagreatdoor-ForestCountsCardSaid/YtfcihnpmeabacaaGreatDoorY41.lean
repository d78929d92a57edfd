/- Texts QD, QE, SY, laid together. -/
import Derived.Test.YtfcihnpmeabacaaGreatDoorY40
import Derived.Test.YtfcihnpmeabacaaGreatDoorY30
import Derived.Test.YtfcihnpmeabacaaGreatDoorY39
namespace Go.Proofs.YtfcihnpmeabacaaGreatDoor
open Go.RowKit
theorem runL_lst {nd:List NdI} {root most base:Nat} (hf:FoK nd):∀ (d:Nat) (st r:LsS),LInv nd most base st 0 0→runL nd root most d st=some r→∀ v,(lstAt r.lists v).length≤most∧∀ t∈lstAt r.lists v,t.Wf∧t.size≤5000
 | 0,st,r,_,h=>by simp [runL] at h
 | d+1,st,r,hi,h=>by
  unfold runL at h
  split at h
  ·cases h; exact hi.lst
  ·cases hp:(popQ st.q).getLast? with
   | none=>rw [hp] at h; cases h; exact hi.lst
   | some x =>
    rw [hp] at h;simp only at h;obtain ⟨h1,h2,h3,h4⟩:=popQ_cut hp;have hi2:=hi.pop (q:=(popQ st.q).dropLast) (by omega) h3
    split at h
    ·cases h; exact hi2.lst
    ·next hbig =>
     have hx:=hi.qok x h2;obtain ⟨t1,-,-⟩:=takeL_inv hf (x:=x) hx.1 hx.2.1 hx.2.2.1 (by omega) hi2;exact runL_lst hf d _ r t1 h
theorem CT.Wf.nrw {x:CT} (h:x.Wf):x.tr.Nrw:=by
 induction h with
 | mk r t ks h hn ht ih =>
  rw [CT.tr_eq]
  by_cases hr:(CT.mk r t (1+(ks.map CT.size).sum) ks).rule < 0
  ·rw [if_pos hr]; exact .leaf _
  ·rw [if_neg hr];refine .node _ _ (by simp only [List.length_map]; show ks.length≤1000000; omega) fun y hy=>?_
   obtain ⟨k,hk,rfl⟩:=List.mem_map.1 hy;exact ih k hk
theorem trsV_nrw {r:Int} {nd:List NdI} {most:Nat} (hf:FoK nd) (hT:TmK nd):(trsV r nd most).1.length≤most∧∀ t∈(trsV r nd most).1,t.Nrw:=by
 unfold trsV
 split
 ·exact ⟨Nat.zero_le _,fun t ht=>by cases ht⟩
 ·next hc =>
  have hm:1≤most:=(by omega)
  split
  ·exact ⟨Nat.zero_le _,fun t ht=>by cases ht⟩
  ·obtain ⟨h,-⟩:=seedTo_inv hf hT hm nd.length (Nat.le_refl _);rw [restK_end (Nat.le_refl _)] at h;obtain ⟨d,hd⟩:=endL_run (root:=r.toNat) hf hT hm;have hl:=runL_lst hf d _ _ h hd r.toNat;refine ⟨by rw [List.length_map]; exact hl.1,fun t ht=>?_⟩;obtain ⟨x,hx,rfl⟩:=List.mem_map.1 ht;exact (hl.2 x hx).1.nrw
theorem FoW.neg:FoW ((-1,[]):FoI):=⟨by simp,by simp,by simp [KidsIn],⟨by simp [KidsIn],fun v p hp=>by cases hp⟩,by simp [TmK],⟨by simp,by simp⟩,by simp [restK]⟩
theorem ValQ.foW {g:Gr} {f:FoI} (hg:g.Ok) (h:ValQ g f 0):FoW f:=by
 rcases h with ⟨-,rfl | ⟨ws,h⟩⟩ | ⟨h,-⟩
 ·exact FoW.neg
 ·exact h.whF.ok hg h.1
 ·cases h
theorem ValQ.or {g:Gr} {f:FoI} {q:Int} (h:ValQ g f q):q=0∨q=3:=by
 rcases h with ⟨h,-⟩ | ⟨h,-⟩
 ·exact Or.inl h
 ·exact Or.inr h
def FcP (w:World) (g:Gr) (f:FoI) (e:Ending) (w':World):Prop:=∃ q,e=.returned (.tuple #[.int .i64 (if q=0 then cntV f else 0),.int .i64 q])∧ValQ g f q∧Below w.heap.size w w'
set_option maxRecDepth 100000 in
set_option maxHeartbeats 8000000 in
theorem fcount_c (ok okf:Nat→Prop) (g:Gr) (Ag:Option Addr) (ng cg:Nat) (fA:Option Addr) (fn fc:Nat) (r:Int) (nd:List NdI) (w:World) (hg:GrOk g) (hl:Sl RiE ok w Ag ng cg (g.rules.map embR)) (hT:TabW w) (hf:Sl NdE okf w fA fn fc nd) (hfn:fn≤9223372036854775807) :
 Calls Tryz.prog 18 #[grVal g Ag ng cg,.agg #[.slice fA fn fc,.int .i64 r]] w (FcP w g (r,nd)):=by
 obtain ⟨Q,hQ⟩:∃ Q,Q=FcP w g (r,nd):=⟨_,rfl⟩;rw [← hQ];have HQQ:=Lib.hid hQ;have hal:=((Below.refl w.heap.size w).al (.cells #[.int .i64 (g.terms:Int),.int .i64 (g.nons:Int),.int .i64 (g.start:Int),.slice Ag ng cg] 24)).al (.cells #[.slice fA fn fc,.int .i64 r] 45);have B0:=(Blk.new w 24 #[.int .i64 (g.terms:Int),.int .i64 (g.nons:Int),.int .i64 (g.start:Int),.slice Ag ng cg]).al (.cells #[.slice fA fn fc,.int .i64 r] 45);have B1:=Blk.newAt (w.alloc (.cells #[.int .i64 (g.terms:Int),.int .i64 (g.nons:Int),.int .i64 (g.start:Int),.slice Ag ng cg] 24)) 45 #[.slice fA fn fc,.int .i64 r] (w.heap.size+1) (by simp);have HVA:=Lib.hid (valid_c ok okf g Ag ng cg fA fn fc r nd _ hg (hl.via hal) (hT.via hal) (hf.via hal) hfn);have HAL:=Lib.hid hal;have HB1:=Lib.hid B1;have HF:=Lib.hid (hf.via hal);have HG:=Lib.hid hg;have HNL:=Lib.hid hf.len;clear hl hT hg hal hf hQ;simp only [grVal] at HVA ⊢;go_enter Tryz.func18,Tryz.ntmps18;have cB0:=B0.cell;have fB0:=B0.frozen;have lB0:=B0.lt;have cB1:=B1.cell;have fB1:=B1.frozen;have lB1:=B1.lt;go_wp2_with fail;clear cB0 fB0 lB0 cB1 fB1 lB1;clear B0 B1;generalize (w.alloc (.cells #[.int .i64 (g.terms:Int),.int .i64 (g.nons:Int),.int .i64 (g.start:Int),.slice Ag ng cg] 24)).alloc (.cells #[.slice fA fn fc,.int .i64 r] 45)=W at *;refine HVA.out.mono ?_;clear HVA;rintro e w1 ⟨q,rfl,hq,hb1⟩;have HQA:=Lib.hid hq;have HBB:=Lib.hid (HAL.out.via hb1);have BF:=HB1.out.via hb1;have HF1:=Lib.hid (HF.out.via hb1);clear hq hb1 HAL HB1 HF
 rcases HQA.out.or with rfl | rfl
 ·have hfo:=HQA.out.foW HG.out.ok;have HCO:=Lib.hid (count_c okf fA fn fc r nd w1 HF1.out hfo.kids hfo.fob (by have:=hfo.root; rw [← HNL.out]; exact this) (by have:=hfo.len; rw [← HNL.out]; exact Nat.le_trans this (by omega)));clear hfo;have cBF:=BF.cell;have fBF:=BF.frozen;have lBF:=BF.lt;go_wp2_with fail;clear cBF fBF lBF;refine HCO.out.mono ?_;rintro e w2 ⟨rfl,hb2⟩;have HB2:=Lib.hid (HBB.out.via hb2);clear hb2;go_wp2_with fail;rw [HQQ.out];exact ⟨0,rfl,HQA.out,HB2.out⟩
 ·go_wp2_with fail;rw [HQQ.out];exact ⟨3,rfl,HQA.out,HBB.out⟩
def TrA (g:Gr) (f:FoI) (most:Int) (q2:Int) (l:List Tr):Prop:=∃ q,ValQ g f q∧((q=3∧q2=3∧l=[])∨(q=0∧(most < 0∨100 < most)∧q2=1∧l=[]) ∨
 (q=0∧∃ m:Nat,most=(m:Int)∧m≤100∧q2=(if (trsV f.1 f.2 m).2=true then 0 else 2)∧l=if (trsV f.1 f.2 m).2=true then (trsV f.1 f.2 m).1 else []))
def FtP (w:World) (g:Gr) (f:FoI) (most:Int) (e:Ending) (w':World):Prop:=∃ A n c q2 l,e=.returned (.tuple #[.slice A n c,.int .i64 q2])∧TrA g f most q2 l∧Sl TrE (fun b=>w.heap.size≤b) w' A n c l∧Below w.heap.size w w'
set_option maxRecDepth 100000 in
set_option maxHeartbeats 8000000 in
theorem ftrees_c (ok okf:Nat→Prop) (g:Gr) (Ag:Option Addr) (ng cg:Nat) (fA:Option Addr) (fn fc:Nat) (r:Int) (nd:List NdI) (most:Int) (w:World) (hg:GrOk g) (hl:Sl RiE ok w Ag ng cg (g.rules.map embR)) (hT:TabW w) (hf:Sl NdE okf w fA fn fc nd) (hfn:fn≤9223372036854775807) :
 Calls Tryz.prog 19 #[grVal g Ag ng cg,.agg #[.slice fA fn fc,.int .i64 r],.int .i64 most] w (FtP w g (r,nd) most):=by
 obtain ⟨Q,hQ⟩:∃ Q,Q=FtP w g (r,nd) most:=⟨_,rfl⟩;rw [← hQ];have HQQ:=Lib.hid hQ;have hal:=((Below.refl w.heap.size w).al (.cells #[.int .i64 (g.terms:Int),.int .i64 (g.nons:Int),.int .i64 (g.start:Int),.slice Ag ng cg] 24)).al (.cells #[.slice fA fn fc,.int .i64 r] 45);have B0:=(Blk.new w 24 #[.int .i64 (g.terms:Int),.int .i64 (g.nons:Int),.int .i64 (g.start:Int),.slice Ag ng cg]).al (.cells #[.slice fA fn fc,.int .i64 r] 45);have B1:=Blk.newAt (w.alloc (.cells #[.int .i64 (g.terms:Int),.int .i64 (g.nons:Int),.int .i64 (g.start:Int),.slice Ag ng cg] 24)) 45 #[.slice fA fn fc,.int .i64 r] (w.heap.size+1) (by simp);have HVA:=Lib.hid (valid_c ok okf g Ag ng cg fA fn fc r nd _ hg (hl.via hal) (hT.via hal) (hf.via hal) hfn);have HAL:=Lib.hid hal;have HB1:=Lib.hid B1;have HF:=Lib.hid (hf.via hal);have HG:=Lib.hid hg;have HNL:=Lib.hid hf.len;clear hl hT hg hal hf hQ;simp only [grVal] at HVA ⊢;go_enter Tryz.func19,Tryz.ntmps19;have cB0:=B0.cell;have fB0:=B0.frozen;have lB0:=B0.lt;have cB1:=B1.cell;have fB1:=B1.frozen;have lB1:=B1.lt;go_wp2_with fail;clear cB0 fB0 lB0 cB1 fB1 lB1;clear B0 B1;generalize (w.alloc (.cells #[.int .i64 (g.terms:Int),.int .i64 (g.nons:Int),.int .i64 (g.start:Int),.slice Ag ng cg] 24)).alloc (.cells #[.slice fA fn fc,.int .i64 r] 45)=W at *;refine HVA.out.mono ?_;clear HVA;rintro e w1 ⟨q,rfl,hq,hb1⟩;have HQA:=Lib.hid hq;have HBB:=Lib.hid (HAL.out.via hb1);have BF:=HB1.out.via hb1;have HF1:=Lib.hid (HF.out.via hb1);clear hq hb1 HAL HB1 HF
 rcases HQA.out.or with rfl | rfl
 ·by_cases hm0:most < 0
  ·go_wp2_with fail;rw [HQQ.out];exact ⟨_,_,_,1,[],rfl,⟨0,HQA.out,Or.inr (Or.inl ⟨rfl,Or.inl hm0,rfl,rfl⟩)⟩,Sl.nil 0,HBB.out⟩
  by_cases hm1:100 < most
  ·go_wp2_with fail;rw [HQQ.out];exact ⟨_,_,_,1,[],rfl,⟨0,HQA.out,Or.inr (Or.inl ⟨rfl,Or.inr hm1,rfl,rfl⟩)⟩,Sl.nil 0,HBB.out⟩
  obtain ⟨m,rfl⟩:∃ m:Nat,most=(m:Int):=⟨most.toNat,by omega⟩;have hm:m≤100:=(by omega);have hfo:=HQA.out.foW HG.out.ok;have HCO:=Lib.hid (trees_c okf fA fn fc r nd m w1 HF1.out hfo.fok hfo.tmk hfo.fob (by have:=hfo.root; rw [← HNL.out]; exact this) (by have:=hfo.len; rw [← HNL.out]; exact Nat.le_trans this (by omega)) (by omega) (hfo.big hm));have HZ2:=Lib.hid HBB.out.size;clear hfo;have cBF:=BF.cell;have fBF:=BF.frozen;have lBF:=BF.lt;go_wp2_with fail;clear cBF fBF lBF;refine HCO.out.mono ?_;rintro e w3 ⟨A3,n3,c3,rfl,hS3,hb3⟩;have HB3:=Lib.hid (HBB.out.via hb3);have HS3:=Lib.hid (hS3.mono (ok':=fun b=>w.heap.size≤b) fun b _ hb=>Nat.le_trans HZ2.out hb);clear hb3 hS3;obtain ⟨tb,htb⟩:∃ tb,tb=(trsV r nd m).2:=⟨_,rfl⟩;have HTB:=Lib.hid htb;rw [← htb];clear htb;cases tb with
  | true =>
   go_wp2_with fail;rw [HQQ.out];refine ⟨_,_,_,0,_,rfl,⟨0,HQA.out,Or.inr (Or.inr ⟨rfl,m,rfl,hm,by rw [if_pos HTB.out.symm],rfl⟩)⟩,?_,HB3.out⟩;rw [if_pos HTB.out.symm]; exact HS3.out
  | false =>
   go_wp2_with fail;rw [HQQ.out];refine ⟨_,_,_,2,_,rfl,⟨0,HQA.out,Or.inr (Or.inr ⟨rfl,m,rfl,hm,by rw [if_neg (by rw [← HTB.out]; simp)],rfl⟩)⟩,?_,HB3.out⟩;rw [if_neg (by rw [← HTB.out]; simp)]; exact Sl.nil 0
 ·go_wp2_with fail;rw [HQQ.out];exact ⟨_,_,_,3,[],rfl,⟨3,HQA.out,Or.inl ⟨rfl,rfl,rfl⟩⟩,Sl.nil 0,HBB.out⟩
set_option maxRecDepth 100000 in
theorem valid_e (ok:Nat→Prop) (T N S:Int) (A:Option Addr) (n c:Nat) (rs:List Ri) (fA:Option Addr) (fn fc:Nat) (r:Int) (w:World) (hl:Sl RiE ok w A n c rs) (q:Int) (hq:chkG T N S rs=q) (hbad:q≠0) :
 Calls Tryz.prog 53 #[.agg #[.int .i64 T,.int .i64 N,.int .i64 S,.slice A n c],.agg #[.slice fA fn fc,.int .i64 r]] w fun e w'=>e=.returned (.int .i64 q)∧Below w.heap.size w w':=by
 have hal:=((Below.refl w.heap.size w).al (.cells #[.int .i64 T,.int .i64 N,.int .i64 S,.slice A n c] 24)).al (.cells #[.slice fA fn fc,.int .i64 r] 45);have B0:=(Blk.new w 24 #[.int .i64 T,.int .i64 N,.int .i64 S,.slice A n c]).al (.cells #[.slice fA fn fc,.int .i64 r] 45);have B1:=Blk.newAt (w.alloc (.cells #[.int .i64 T,.int .i64 N,.int .i64 S,.slice A n c] 24)) 45 #[.slice fA fn fc,.int .i64 r] (w.heap.size+1) (by simp);have HAL:=Lib.hid hal;have HL:=Lib.hid (hl.via hal);have HQ:=Lib.hid hq;have hq1:(q != 0)=true:=(by simpa using hbad);clear hl hal hq hbad;go_enter Tryz.func53,Tryz.ntmps53;have cB0:=B0.cell;have fB0:=B0.frozen;have lB0:=B0.lt;have cB1:=B1.cell;have fB1:=B1.frozen;have lB1:=B1.lt;go_wp2_with fail;clear cB0 fB0 lB0 cB1 fB1 lB1;clear B0 B1;generalize (w.alloc (.cells #[.int .i64 T,.int .i64 N,.int .i64 S,.slice A n c] 24)).alloc (.cells #[.slice fA fn fc,.int .i64 r] 45)=W at *;have hc:=checkI_c ok T N S A n c rs W HL.out;rw [HQ.out] at hc;refine hc.mono ?_;rintro e w1 ⟨rfl,hb⟩;have HB:=Lib.hid (HAL.out.via hb);clear hb hc;go_wp2_with fail;go_ret;exact ⟨rfl,HB.out⟩
set_option maxRecDepth 100000 in
theorem fcount_e (ok:Nat→Prop) (T N S:Int) (A:Option Addr) (n c:Nat) (rs:List Ri) (fA:Option Addr) (fn fc:Nat) (r:Int) (w:World) (hl:Sl RiE ok w A n c rs) (q:Int) (hq:chkG T N S rs=q) (hbad:q≠0) :
 Calls Tryz.prog 18 #[.agg #[.int .i64 T,.int .i64 N,.int .i64 S,.slice A n c],.agg #[.slice fA fn fc,.int .i64 r]] w fun e w'=>e=.returned (.tuple #[.int .i64 0,.int .i64 q])∧Below w.heap.size w w':=by
 have hbad0:=hbad;have hal:=((Below.refl w.heap.size w).al (.cells #[.int .i64 T,.int .i64 N,.int .i64 S,.slice A n c] 24)).al (.cells #[.slice fA fn fc,.int .i64 r] 45);have B0:=(Blk.new w 24 #[.int .i64 T,.int .i64 N,.int .i64 S,.slice A n c]).al (.cells #[.slice fA fn fc,.int .i64 r] 45);have B1:=Blk.newAt (w.alloc (.cells #[.int .i64 T,.int .i64 N,.int .i64 S,.slice A n c] 24)) 45 #[.slice fA fn fc,.int .i64 r] (w.heap.size+1) (by simp);have HAL:=Lib.hid hal;have HL:=Lib.hid (hl.via hal);have HQ:=Lib.hid hq;have hq1:(q != 0)=true:=(by simpa using hbad);clear hl hal hq hbad;go_enter Tryz.func18,Tryz.ntmps18;have cB0:=B0.cell;have fB0:=B0.frozen;have lB0:=B0.lt;have cB1:=B1.cell;have fB1:=B1.frozen;have lB1:=B1.lt;go_wp2_with fail;clear cB0 fB0 lB0 cB1 fB1 lB1;clear B0 B1;generalize (w.alloc (.cells #[.int .i64 T,.int .i64 N,.int .i64 S,.slice A n c] 24)).alloc (.cells #[.slice fA fn fc,.int .i64 r] 45)=W at *;refine (valid_e ok T N S A n c rs fA fn fc r W HL.out q HQ.out hbad0).mono ?_;rintro e w1 ⟨rfl,hb⟩;have HB:=Lib.hid (HAL.out.via hb);clear hb;go_wp2_with fail;go_ret2;exact ⟨rfl,HB.out⟩
set_option maxRecDepth 100000 in
theorem ftrees_e (ok:Nat→Prop) (T N S:Int) (A:Option Addr) (n c:Nat) (rs:List Ri) (fA:Option Addr) (fn fc:Nat) (r most:Int) (w:World) (hl:Sl RiE ok w A n c rs) (q:Int) (hq:chkG T N S rs=q) (hbad:q≠0) :
 Calls Tryz.prog 19 #[.agg #[.int .i64 T,.int .i64 N,.int .i64 S,.slice A n c],.agg #[.slice fA fn fc,.int .i64 r],.int .i64 most] w fun e w'=>e=.returned (.tuple #[.slice none 0 0,.int .i64 q])∧Below w.heap.size w w':=by
 have hbad0:=hbad;have hal:=((Below.refl w.heap.size w).al (.cells #[.int .i64 T,.int .i64 N,.int .i64 S,.slice A n c] 24)).al (.cells #[.slice fA fn fc,.int .i64 r] 45);have B0:=(Blk.new w 24 #[.int .i64 T,.int .i64 N,.int .i64 S,.slice A n c]).al (.cells #[.slice fA fn fc,.int .i64 r] 45);have B1:=Blk.newAt (w.alloc (.cells #[.int .i64 T,.int .i64 N,.int .i64 S,.slice A n c] 24)) 45 #[.slice fA fn fc,.int .i64 r] (w.heap.size+1) (by simp);have HAL:=Lib.hid hal;have HL:=Lib.hid (hl.via hal);have HQ:=Lib.hid hq;have hq1:(q != 0)=true:=(by simpa using hbad);clear hl hal hq hbad;go_enter Tryz.func19,Tryz.ntmps19;have cB0:=B0.cell;have fB0:=B0.frozen;have lB0:=B0.lt;have cB1:=B1.cell;have fB1:=B1.frozen;have lB1:=B1.lt;go_wp2_with fail;clear cB0 fB0 lB0 cB1 fB1 lB1;clear B0 B1;generalize (w.alloc (.cells #[.int .i64 T,.int .i64 N,.int .i64 S,.slice A n c] 24)).alloc (.cells #[.slice fA fn fc,.int .i64 r] 45)=W at *;refine (valid_e ok T N S A n c rs fA fn fc r W HL.out q HQ.out hbad0).mono ?_;rintro e w1 ⟨rfl,hb⟩;have HB:=Lib.hid (HAL.out.via hb);clear hb;go_wp2_with fail;go_ret2;exact ⟨rfl,HB.out⟩
def MtaP (w:World) (e:Ending) (w':World):Prop:=e=.returned (.tuple #[.slice none 0 0,.int .i64 1])∧Below w.heap.size w w'
set_option maxRecDepth 100000 in
set_option maxHeartbeats 8000000 in
theorem mtrees_a (ok:Nat→Prop) (g:Gr) (Ag:Option Addr) (ng cg:Nat) (A:Option Addr) (n c:Nat) (xs:List Int) (most:Int) (w:World) (hg:GrOk g) (hl:Sl RuE ok w Ag ng cg g.rules) (hx:Ints w A n c xs) (hn:n≤12) (hxt:∀ x∈xs,0≤x∧x < (g.terms:Int)) (hT:TabW w) (hm:most < 0∨100 < most) :
 Calls Tryz.prog 12 #[grVal g Ag ng cg,.slice A n c,.int .i64 most] w (MtaP w):=by
 have hal:=(Below.refl w.heap.size w).al (.cells #[.int .i64 (g.terms:Int),.int .i64 (g.nons:Int),.int .i64 (g.start:Int),.slice Ag ng cg] 24);have B0:=Blk.new w 24 #[.int .i64 (g.terms:Int),.int .i64 (g.nons:Int),.int .i64 (g.start:Int),.slice Ag ng cg];have HCK:=Lib.hid (mcheck_c ok g Ag ng cg A n c xs _ hg (hl.via hal) (hx.keep hal (Nat.le_refl _)) hn hxt);have HMO:=Lib.hid (show ∀ w',Below w.heap.size w w'→Calls Tryz.prog 27 #[.agg #[.int .i64 (g.terms:Int),.int .i64 (g.nons:Int),.int .i64 (g.start:Int),.slice Ag ng cg],.slice A n c] w' (MofP w' g xs) from fun w' h=>mof_c ok g Ag ng cg A n c xs w' hg (hl.via h) (hx.keep h (Nat.le_refl _)) hn (hT.via h));have HB:=Lib.hid hal;have HG:=Lib.hid hg;have HXL:=Lib.hid hx.len;clear hl hx hT hg hal hxt;simp only [grVal] at HCK ⊢;go_enter Tryz.func12,Tryz.ntmps12;have HB0:=Lib.hid B0;have cB0:=B0.cell;have fB0:=B0.frozen;have lB0:=B0.lt;go_wp2_with fail;clear cB0 fB0 lB0;clear B0;generalize w.alloc (.cells #[.int .i64 (g.terms:Int),.int .i64 (g.nons:Int),.int .i64 (g.start:Int),.slice Ag ng cg] 24)=W at *;refine HCK.out.mono ?_;clear HCK;rintro e w1 ⟨rfl,hb⟩;have HB1:=Lib.hid (HB.out.via hb);have BG:=HB0.out.via hb;clear HB HB0 hb
 by_cases hm0:most < 0
 ·have cBG:=BG.cell;have fBG:=BG.frozen;have lBG:=BG.lt;go_wp2_with fail;go_ret2;exact ⟨rfl,HB1.out⟩
 ·have hm1:100 < most:=(by omega);have cBG:=BG.cell;have fBG:=BG.frozen;have lBG:=BG.lt;go_wp2_with fail;go_ret2;exact ⟨rfl,HB1.out⟩
end Go.Proofs.YtfcihnpmeabacaaGreatDoor
namespace Go.Proofs.YtfcihnpmeabacaaGreatDoor
open Go.RowKit
def WoP (w:World) (g:Gr) (f:FoI) (e:Ending) (w':World):Prop:=∃ A n c b,e=.returned (.tuple #[.slice A n c,.bool b])∧(b=true→∃ ws,GoF g f ws∧Ints w' A n c ws)∧(b=false→¬ ∃ ws,GoF g f ws)∧Below w.heap.size w w'
set_option maxRecDepth 100000 in
set_option maxHeartbeats 8000000 in
theorem wordof_c (ok okf:Nat→Prop) (g:Gr) (Ag:Option Addr) (ng cg:Nat) (fA:Option Addr) (fn fc:Nat) (r:Int) (nd:List NdI) (w:World) (hg:GrOk g) (hl:Sl RuE ok w Ag ng cg g.rules) (hf:Sl NdE okf w fA fn fc nd) (hfn:fn≤9223372036854775807) :
 Calls Tryz.prog 21 #[grVal g Ag ng cg,.agg #[.slice fA fn fc,.int .i64 r]] w (WoP w g (r,nd)):=by
 obtain ⟨Q,hQ⟩:∃ Q,Q=WoP w g (r,nd):=⟨_,rfl⟩;rw [← hQ];have HQQ:=Lib.hid hQ;have hal:=((Below.refl w.heap.size w).al (.cells #[.int .i64 (g.terms:Int),.int .i64 (g.nons:Int),.int .i64 (g.start:Int),.slice Ag ng cg] 24)).al (.cells #[.slice fA fn fc,.int .i64 r] 45);have B0:=(Blk.new w 24 #[.int .i64 (g.terms:Int),.int .i64 (g.nons:Int),.int .i64 (g.start:Int),.slice Ag ng cg]).al (.cells #[.slice fA fn fc,.int .i64 r] 45);have BF:=Blk.newAt (w.alloc (.cells #[.int .i64 (g.terms:Int),.int .i64 (g.nons:Int),.int .i64 (g.start:Int),.slice Ag ng cg] 24)) 45 #[.slice fA fn fc,.int .i64 r] (w.heap.size+1) (by simp);have HAL:=Lib.hid hal;have HBF:=Lib.hid BF;have HF1:=Lib.hid (hf.via hal);have HL:=Lib.hid (hl.via hal);have HG:=Lib.hid hg;have HNL:=Lib.hid hf.len;have HBG:=Lib.hid B0;have hsz:((w.alloc (.cells #[.int .i64 (g.terms:Int),.int .i64 (g.nons:Int),.int .i64 (g.start:Int),.slice Ag ng cg] 24)).alloc (.cells #[.slice fA fn fc,.int .i64 r] 45)).heap.size=w.heap.size+2:=(by simp);have HSZ:=Lib.hid hsz;clear hl hg hal hf hQ hsz;simp only [grVal];have HNO:=Lib.hid (show ∀ wz:World,Below w.heap.size w wz→(¬ ∃ ws,GoF g (r,nd) ws)→Q (.returned (.tuple #[.slice none 0 0,.bool false])) wz from fun wz hb h=>by rw [HQQ.out]; exact ⟨none,0,0,false,rfl,(fun e=>by cases e),(fun _=>h),hb⟩);go_enter Tryz.func21,Tryz.ntmps21;clear B0;go_upto_region 1 with fail;generalize (w.alloc (.cells #[.int .i64 (g.terms:Int),.int .i64 (g.nons:Int),.int .i64 (g.start:Int),.slice Ag ng cg] 24)).alloc (.cells #[.slice fA fn fc,.int .i64 r] 45)=W at *
 by_cases hr0:r < 0
 ·as_aux_lemma =>
  have HR0:=Lib.hid (show ¬ ∃ ws,GoF g (r,nd) ws from fun ⟨ws,h⟩=>by have:=h.facts.1; simp only at this; omega);have cBF:=BF.cell;have fBF:=BF.frozen;have lBF:=BF.lt;go_wp2_with fail;exact HNO.out _ HAL.out HR0.out
 by_cases hrf:(fn:Int)≤r
 ·as_aux_lemma =>
  have HR0:=Lib.hid (show ¬ ∃ ws,GoF g (r,nd) ws from fun ⟨ws,h⟩=>by have:=h.facts.2.1; have h2:=HNL.out; simp only at this; omega);have cBF:=BF.cell;have fBF:=BF.frozen;have lBF:=BF.lt;go_wp2_with fail;exact HNO.out _ HAL.out HR0.out
 obtain ⟨v,rfl⟩:∃ v:Nat,r=(v:Int):=⟨r.toNat,by omega⟩;have hv:v < fn:=(by omega);obtain ⟨b1,o1,⟨⟨xb,xm,xi,xj⟩,PA,pl,pc⟩,⟨⟨xb',xm',xi',xj'⟩,ps⟩,hAa,-,hb1l,hx,⟨hx1,hx2⟩,hcx⟩:=HF1.out.at_ hv;simp only at hx1 hx2;obtain ⟨rfl,rfl,rfl,rfl⟩:xb=xb'∧xm=xm'∧xi=xi'∧xj=xj':=(by simpa using hx1);subst hAa;have c3:=hcx 3 _ rfl;simp only [NdE] at c3;have HXJ:=Lib.hid (show (ndAt nd v).1.2.2.2=xj by unfold ndAt; rw [hx]; rfl)
 have HTO:=Lib.hid (show ∀ ws,GoF g ((v:Int),nd) ws→xj=(ws.length:Int) from fun ws h=>by
  have h1:=h.facts.2.2.1;simp only [Int.toNat_natCast] at h1
  rw [← HXJ.out]; exact h1)
 have v0:(0:Int)≤(v:Int):=(by omega);have v1:(v:Int) < (fn:Int):=(by omega);clear hcx hx hx1 hx2 hb1l
 by_cases ht0:xj < 0
 ·as_aux_lemma =>
  have HR0:=Lib.hid (show ¬ ∃ ws,GoF g ((v:Int),nd) ws from fun ⟨ws,h⟩=>by have:=HTO.out ws h; omega);have cBF:=BF.cell;have fBF:=BF.frozen;have lBF:=BF.lt;go_wp2_with fail;exact HNO.out _ HAL.out HR0.out
 by_cases ht1:12 < xj
 ·as_aux_lemma =>
  have HR0:=Lib.hid (show ¬ ∃ ws,GoF g ((v:Int),nd) ws from fun ⟨ws,h⟩=>by have h1:=HTO.out ws h; have h2:=h.1; omega);have cBF:=BF.cell;have fBF:=BF.frozen;have lBF:=BF.lt;go_wp2_with fail;exact HNO.out _ HAL.out HR0.out
 obtain ⟨t,rfl⟩:∃ t:Nat,xj=(t:Int):=⟨xj.toNat,by omega⟩;have h12:t≤12:=(by omega);have HFS:=Lib.hid (show ∀ ws,GoF g ((v:Int),nd) ws→fillZ t nd (List.replicate t 0)=ws from fun ws h=>fillZ_of (h.fill_some (t:=t) (by simp only [Int.toNat_natCast]; exact HXJ.out) (by simp)));have hmk:=mk_cnt t (by omega);have cBF:=BF.cell;have fBF:=BF.frozen;have lBF:=BF.lt;go_upto_region 7 with fail;clear cBF fBF lBF;clear BF c3 ht0 ht1 hr0 hrf hmk;have hal2:=(Below.refl W.heap.size W).al (.cells (Array.replicate t (Value.int .i64 0)) 3);have BN:=Blk.new W 3 (Array.replicate t (Value.int .i64 0));obtain ⟨bw,hbw⟩:∃ bw,bw=W.heap.size:=⟨_,rfl⟩;rw [← hbw] at BN;rw [← hbw];have HWB:=Lib.hid (show Blk (W.alloc (.cells (Array.replicate t (Value.int .i64 0)) 3)) bw 3 (((List.replicate t (0:Int)).map (Value.int .i64)).toArray) by simpa using BN);have HBWE:=Lib.hid hbw;have BF:=HBF.out.via hal2;have HB1:=Lib.hid hal2;clear BN hbw hal2;generalize W.alloc (.cells (Array.replicate t (Value.int .i64 0)) 3)=W1 at *;have cBF:=BF.cell;have fBF:=BF.frozen;have lBF:=BF.lt;go_wp2_with fail;clear cBF fBF lBF;clear BF
 go_loopw [41] (fun q wr=>∃ (i:Nat) (cur:List Int),q=.int .i64 (i:Int)∧i≤fn∧Hid (Blk wr bw 3 ((cur.map (Value.int .i64)).toArray)∧cur.length=t∧fillZ t nd (List.replicate t 0)=fillZ t (nd.drop i) cur∧Below W.heap.size W wr)) (fun q _=>fn - (intOf q).toNat)
 case atStart=>exact ⟨0,_,rfl,Nat.zero_le _,Lib.hid ⟨HWB.out,by simp,by rw [List.drop_zero],HB1.out⟩⟩
 case round =>
  obtain ⟨i,cur,rfl,hi,HQ⟩:=hrel;clear HWB HB1
  by_cases hin:i < fn
  ·as_aux_lemma =>
   obtain ⟨b3,o3,⟨⟨yb,ym,yi,yj⟩,QA,ql,qc⟩,⟨⟨yb',ym',yi',yj'⟩,qs⟩,hAa,-,hb3,hy,⟨hy1,hy2⟩,hcy⟩:=HF1.out.at_ hin;simp only at hy1 hy2;obtain ⟨rfl,rfl,rfl,rfl⟩:yb=yb'∧ym=ym'∧yi=yi'∧yj=yj':=(by simpa using hy1);cases hAa
   have hbr:=HQ.out.2.2.2;have c0:=(hbr.cell (p:=⟨b1,o1+i*NdE.k+0,none⟩) hb3).trans (hcy 0 _ rfl);have c1:=(hbr.cell (p:=⟨b1,o1+i*NdE.k+1,none⟩) hb3).trans (hcy 1 _ rfl);have c2:=(hbr.cell (p:=⟨b1,o1+i*NdE.k+2,none⟩) hb3).trans (hcy 2 _ rfl);have c3:=(hbr.cell (p:=⟨b1,o1+i*NdE.k+3,none⟩) hb3).trans (hcy 3 _ rfl);have c4:=(hbr.cell (p:=⟨b1,o1+i*NdE.k+4,none⟩) hb3).trans (hcy 4 _ rfl);simp only [NdE,Nat.add_zero] at c0 c1 c2 c3 c4;have i0:(0:Int)≤(i:Int):=(by omega);have i1:(i:Int) < (fn:Int):=(by omega)
   have HDR:=Lib.hid (show nd.drop i=((yb,ym,yi,yj),qs)::nd.drop (i+1) by
    have h1:=List.getElem?_eq_some_iff.1 hy
    rw [List.drop_eq_getElem_cons h1.1,h1.2])
   have hfq:=HQ.out.2.2.1;rw [HDR.out,fillZ] at hfq;simp only at hfq;have hal:=(Below.refl wr.heap.size wr).al (.cells #[.bool yb,.int .i64 ym,.int .i64 yi,.int .i64 yj,.slice QA ql qc] 102);have BN:=Blk.new wr 102 #[.bool yb,.int .i64 ym,.int .i64 yi,.int .i64 yj,.slice QA ql qc];have BWB:=HQ.out.1.via hal;have HBE:=Lib.hid (HQ.out.2.2.2.trans (hal.mono HQ.out.2.2.2.size));have HCL:=Lib.hid HQ.out.2.1;have HWB:=Lib.hid BWB;clear hcy hy hy1 hy2 hb3 hbr hal HQ;cases yb with
   | false =>
    simp only [Bool.false_eq_true,false_and,if_false] at hfq;have HFQ:=Lib.hid hfq;clear hfq BWB;go_upto_region 10 with fail;clear c0 c1 c2 c3 c4;generalize wr.alloc (.cells #[.bool false,.int .i64 ym,.int .i64 yi,.int .i64 yj,.slice QA ql qc] 102)=W9 at *;generalize wr.heap.size=bn at *;have cBN:=BN.cell;have fBN:=BN.frozen;have lBN:=BN.lt;go_wp2_with fail;exact ⟨⟨i+1,cur,by go_num,by omega,Lib.hid ⟨HWB.out,HCL.out,HFQ.out,HBE.out⟩⟩,by simp [intOf]; omega⟩
   | true =>
    go_upto_region 10 with fail;clear c0 c1 c2 c3 c4;generalize wr.alloc (.cells #[.bool true,.int .i64 ym,.int .i64 yi,.int .i64 yj,.slice QA ql qc] 102)=W9 at *;generalize wr.heap.size=bn at *
    by_cases hyi:0≤yi∧yi < (t:Int)
    ·rw [if_pos ⟨rfl,hyi⟩] at hfq;obtain ⟨p,rfl⟩:∃ p:Nat,yi=(p:Int):=⟨yi.toNat,by omega⟩;have hpt:p < t:=(by omega);have p0:(0:Int)≤(p:Int):=(by omega);have p1:(p:Int) < (t:Int):=(by omega);rw [Int.toNat_natCast] at hfq;have HFQ:=Lib.hid hfq;clear hfq hyi
     have hcell:W9.cell? ⟨bw,p,none⟩=some (.int .i64 (cur.getD p 0)):=by
      rw [BWB.cell];have h:=HCL.out;simp [List.getD_eq_getElem?_getD,h,hpt]
     have fW:=BWB.frozen;clear BWB;have cBN:=BN.cell;have fBN:=BN.frozen;have lBN:=BN.lt;go_wp2_with fail;have h2:=HWB.out.set_ p (.int .i64 ym);rw [ints_set] at h2;exact ⟨⟨i+1,cur.set p ym,by go_num,by omega,Lib.hid ⟨h2,by rw [List.length_set]; exact HCL.out,HFQ.out,HBE.out.setCell (p:=⟨bw,p,none⟩) (by show W.heap.size≤bw; have:=HBWE.out; omega) _⟩⟩,by simp [intOf]; omega⟩
    ·rw [if_neg (fun e=>hyi e.2)] at hfq;have HFQ:=Lib.hid hfq;clear hfq BWB
     by_cases hy0:0≤yi
     ·have hy1:¬ yi < (t:Int):=(by omega);have cBN:=BN.cell;have fBN:=BN.frozen;have lBN:=BN.lt;go_wp2_with fail;exact ⟨⟨i+1,cur,by go_num,by omega,Lib.hid ⟨HWB.out,HCL.out,HFQ.out,HBE.out⟩⟩,by simp [intOf]; omega⟩
     ·have cBN:=BN.cell;have fBN:=BN.frozen;have lBN:=BN.lt;go_wp2_with fail;exact ⟨⟨i+1,cur,by go_num,by omega,Lib.hid ⟨HWB.out,HCL.out,HFQ.out,HBE.out⟩⟩,by simp [intOf]; omega⟩
  ·as_aux_lemma =>
   obtain rfl:fn=i:=(by omega)
   have hcur:fillZ t nd (List.replicate t 0)=cur:=by
    have h:=HQ.out.2.2.1;rw [List.drop_eq_nil_of_le (by rw [HNL.out]; exact Nat.le_refl _)] at h;exact h
   have HCU:=Lib.hid (show ∀ ws,GoF g ((v:Int),nd) ws→ws=cur from fun ws h=>(HFS.out ws h).symm.trans hcur);have hbr:=HQ.out.2.2.2;have hcl:=HQ.out.2.1;have HX:=Lib.hid (show Ints wr (some ⟨bw,0,none⟩) t t cur from Ints.litB HQ.out.1 (by simp) hcl);have HCL:=Lib.hid hcl;have BG:=HBG.out.via hbr;have HBF2:=Lib.hid (HBF.out.via hbr);have HBG2:=Lib.hid BG;have HB9:=Lib.hid (HAL.out.via hbr);have HL2:=Lib.hid (HL.out.via hbr);have HF2:=Lib.hid (HF1.out.via hbr);have hcw:=refword_c (g.terms:Int) (g.nons:Int) (g.start:Int) (by have:=HG.out.ok.terms; omega) Ag ng cg (some ⟨bw,0,none⟩) t t 12 cur wr HX.out (by omega);clear hcur hbr hcl HQ HFS HAL HBG HBF
   by_cases hok:∀ x∈cur,0≤x∧x < (g.terms:Int)
   ·have HOK:=Lib.hid hok
    have hq0:chkW (g.terms:Int) 12 cur=0:=by
     unfold chkW;rw [if_neg (by have:=HCL.out; omega),if_neg];intro h;obtain ⟨x,hx,hx2⟩:=List.any_eq_true.1 h;have:=hok x hx;simp [okT] at hx2; omega
    rw [hq0] at hcw;clear hok hq0;have cBG:=BG.cell;have fBG:=BG.frozen;have lBG:=BG.lt;go_wp2_with fail;clear cBG fBG lBG;refine hcw.mono ?_;rintro e w5 ⟨rfl,hb5⟩;clear hcw BG;have BG5:=HBG2.out.via hb5;have HB5:=Lib.hid hb5;clear hb5;go_upto_region 15 with fail;have has:=allspans_c _ g Ag ng cg (some ⟨bw,0,none⟩) t t cur w5 HG.out (HL2.out.via HB5.out) (HX.out.via HB5.out) h12 HOK.out;simp only [grVal] at has;have cBG5:=BG5.cell;have fBG5:=BG5.frozen;have lBG5:=BG5.lt;go_wp2_with fail;clear cBG5 fBG5 lBG5;refine has.mono ?_;clear has BG5;rintro e w6 ⟨bs,bm,rfl,hR,-,-,hb6⟩;have HB6:=Lib.hid (HB5.out.via hb6);have hsf:=spforest_c _ g Ag ng cg (some ⟨bw,0,none⟩) t t bs bm (dvD g.rules cur) w6 HG.out.ok (HL2.out.via HB6.out) hR h12;have HD:=Lib.hid (show ∀ k,dvD g.rules cur k=true→k.2.1≤k.2.2∧k.2.2≤t from fun k h=>by rw [← HCL.out]; exact dv_le h);clear hR hb6 HB5;dsimp only;go_wp2_with fail;refine hsf.mono ?_;clear hsf;rintro e w7 ⟨fo,vv,bb,rfl,hfo,⟨gA,gn,gc,rfl,hS⟩,hb7⟩;have HFB:=Lib.hid (fo_bound HG.out.ok h12 HD.out hfo);have HFO:=Lib.hid (show IsFo (dvD g.rules cur) g.rules ((false,g.start),0,cur.length) 20000 fo bb by rw [HCL.out]; exact hfo);have hal7:=(Below.refl w7.heap.size w7).al (.cells #[.slice gA gn gc,.int .i64 fo.1] 45);have HB7:=Lib.hid ((HB6.out.via hb7).via hal7);have HS7:=Lib.hid (hS.via hal7);have BF2:=Blk.new w7 45 #[.slice gA gn gc,.int .i64 fo.1];have BFZ:=HBF2.out.via HB7.out;clear hfo hS hb7 hal7 HB6;dsimp only;go_upto_region 16 with fail;generalize w7.alloc (.cells #[.slice gA gn gc,.int .i64 fo.1] 45)=W7 at *;generalize w7.heap.size=bf2 at *;cases bb with
    | false =>
     have HR0:=Lib.hid (show ¬ ∃ ws,GoF g ((v:Int),nd) ws from fun ⟨ws,h⟩=>by
      obtain rfl:=HCU.out ws h
      have:=(h.isFo.uniq HFO.out).2; cases this)
     go_wp2_with fail;rw [HQQ.out];exact ⟨_,_,_,false,rfl,(fun e=>by cases e),(fun _=>HR0.out),HB9.out.via HB7.out⟩
    | true =>
     have hsm:=same_c _ _ (some ⟨b1,o1,none⟩) gA fn fc gn gc (v:Int) fo.1 nd fo.2 W7 (HF2.out.via HB7.out) HS7.out HFB.out;have cBF2:=BF2.cell;have fBF2:=BF2.frozen;have lBF2:=BF2.lt;have cBFZ:=BFZ.cell;have fBFZ:=BFZ.frozen;have lBFZ:=BFZ.lt;go_wp2_with fail;clear cBF2 fBF2 lBF2 cBFZ fBFZ lBFZ;refine hsm.mono ?_;clear hsm BF2 BFZ;rintro e w8 ⟨b9,rfl,hb9,hbe⟩;have HB8:=Lib.hid (HB7.out.via hbe);have HE:=Lib.hid hb9;clear hb9 hbe;go_wp2_with fail;rw [HQQ.out];refine ⟨_,_,_,b9,rfl,fun e=>?_,fun e=>?_,HB9.out.via HB8.out⟩
     ·obtain ⟨h1,h2⟩:=HE.out.1 e;refine ⟨cur,GoF.of (by have:=HCL.out; omega) HOK.out ?_ (by simp),HX.out.via HB8.out⟩;have:(((v:Int),nd):FoI)=fo:=Prod.ext h1 h2;rw [this]; exact HFO.out
     ·rintro ⟨ws,h⟩;obtain rfl:=HCU.out ws h;have h1:=(h.isFo.uniq HFO.out).1;have:=HE.out.2 ⟨congrArg Prod.fst h1,congrArg Prod.snd h1⟩;rw [e] at this; cases this
   ·have HR0:=Lib.hid (show ¬ ∃ ws,GoF g ((v:Int),nd) ws from fun ⟨ws,h⟩=>hok (by rw [← HCU.out ws h]; exact h.2.1))
    have hq0:chkW (g.terms:Int) 12 cur=1:=by
     unfold chkW;rw [if_neg (by have:=HCL.out; omega),if_pos];rw [List.any_eq_true];obtain ⟨x,hx2⟩:=Classical.not_forall.1 hok;obtain ⟨hx,hx2⟩:=Classical.not_imp.1 hx2;refine ⟨x,hx,?_⟩;simp [okT]; omega
    rw [hq0] at hcw;clear hok hq0;have cBG:=BG.cell;have fBG:=BG.frozen;have lBG:=BG.lt;go_wp2_with fail;clear cBG fBG lBG;refine hcw.mono ?_;rintro e w5 ⟨rfl,hb5⟩;clear hcw BG;have HB5:=Lib.hid (HB9.out.via hb5);clear hb5;go_wp2_with fail;exact HNO.out _ HB5.out HR0.out
end Go.Proofs.YtfcihnpmeabacaaGreatDoor
namespace Go.Proofs.YtfcihnpmeabacaaGreatDoor
open Go.RowKit
theorem doubling_d (w:World):Calls Tryz.prog 29 #[] w fun e w'=>∃ A,e=.returned (.agg #[.int .i64 1,.int .i64 1,.int .i64 0,.slice A 2 2])∧Sl RuE (fun _=>True) w' A 2 2 dblG.rules∧Below w.heap.size w w':=doubling_c w
set_option maxRecDepth 100000 in
set_option maxHeartbeats 4000000 in
theorem woods_c (w:World) (hT:TabW w):Calls Tryz.prog 20 #[] w fun e w'=>e=.returned (.bool true)∧Below w.heap.size w w':=by
 have HT:=Lib.hid hT;clear hT;go_enter Tryz.func20,Tryz.ntmps20;go_wp2_with fail;refine (doubling_d w).mono ?_;rintro e w1 ⟨A1,rfl,hr1,hb1⟩;have hal:=(Below.refl w1.heap.size w1).al (.cells #[.int .i64 0,.int .i64 0] 3);have hw1:Ints (w1.alloc (.cells #[.int .i64 0,.int .i64 0] 3)) (some ⟨w1.heap.size,0,none⟩) 2 2 [0,0]:=Ints.litB (Blk.new w1 3 #[.int .i64 0,.int .i64 0]) rfl rfl;have HC:Calls Tryz.prog 54 #[.agg #[.int .i64 1,.int .i64 1,.int .i64 0,.slice A1 2 2],.slice (some ⟨w1.heap.size,0,none⟩) 2 2] (w1.alloc (.cells #[.int .i64 0,.int .i64 0] 3)) _:=of_c (fun _=>True) dblG A1 2 2 (some ⟨w1.heap.size,0,none⟩) 2 2 [0,0] (w1.alloc (.cells #[.int .i64 0,.int .i64 0] 3)) dblG_ok (hr1.via hal) hw1 (by omega) (by simp [dblG]) ((HT.out.via hb1).via hal);have HB1:=Lib.hid (hb1.via hal);clear hr1 hb1 hal hw1;go_wp2_with fail;generalize w1.alloc (.cells #[.int .i64 0,.int .i64 0] 3)=W1 at *;generalize w1.heap.size=b1 at *;refine HC.mono ?_;clear HC;rintro e w2 ⟨f,v,b,rfl,hf,⟨fA,fn,fc,rfl,hS⟩,hb2⟩;obtain ⟨rfl,rfl⟩:=dbl_fo hf;have hl:=hS.len;rw [dbl_len] at hl;subst hl;have hr:=dbl_root;rw [hr];have hal:=(Below.refl w2.heap.size w2).al (.cells #[.slice fA 5 fc,.int .i64 2] 45);have HB2:=Lib.hid ((HB1.out.via hb2).via hal);have HS2:=Lib.hid (hS.via hal);have BF:=Blk.new w2 45 #[.slice fA 5 fc,.int .i64 2];clear hf hS hr hb2 hal HB1;simp only [if_true];go_upto_region 2 with fail;generalize w2.alloc (.cells #[.slice fA 5 fc,.int .i64 2] 45)=W2 at *;generalize w2.heap.size=bf at *;have SOF:=Lib.hid (show ∀ w',Below W2.heap.size W2 w'→((∀ i,w'.cell? ⟨bf,i,none⟩=#[.slice fA 5 fc,.int .i64 2][i]?)∧Below W2.heap.size W2 w') from fun w' hb=>⟨(BF.via hb).cell,hb⟩);have JC:=Lib.hid (show ∀ A w',Sl RuE (fun _=>True) w' A 2 2 dblG.rules→Below W2.heap.size W2 w'→Calls Tryz.prog 18 #[.agg #[.int .i64 1,.int .i64 1,.int .i64 0,.slice A 2 2],.agg #[.slice fA 5 fc,.int .i64 2]] w' fun e w''=>e=.returned (.tuple #[.int .i64 1,.int .i64 0])∧Below w'.heap.size w' w'' from fun A w' h hb=>fcount_d (fun _=>True) _ A fA fc w' h (HT.out.via (HB2.out.via hb)) (HS2.out.via hb));have hb0:=(Below.refl W2.heap.size W2).drew;have HBF:=Lib.hid BF;clear BF
 go_region_held3 (fun w'=>(∀ i,w'.cell? ⟨bf,i,none⟩=#[.slice fA 5 fc,.int .i64 2][i]?)∧Below W2.heap.size W2 w') (exact SOF.out _ (by assumption)) (first
  | (go_at_call 29; (with_reducible refine (doubling_d _).mono ?_); rintro ee wk ⟨A4,rfl,hr4,hb4⟩; have hbk:Below W2.heap.size W2 wk:=Below.via (by assumption) hb4)
  | (go_at_call 18; (with_reducible refine (JC.out A4 _ (by assumption) (by assumption)).mono ?_); rintro ee wk2 ⟨rfl,hb5⟩; have hbm:Below W2.heap.size W2 wk2:=Below.via (by assumption) hb5))
 all_goals (have BF9:=HBF.out.via hbm; have cB:=BF9.cell; have fB:=BF9.frozen; have lB:=BF9.lt; go_wp2_with fail; go_ret; exact ⟨rfl,HB2.out.via hbm⟩)
end Go.Proofs.YtfcihnpmeabacaaGreatDoor
