/- Texts TW, TX, laid together. -/
import Derived.Test.YtfcihnpmeabacaaGreatDoorW24
import Derived.Test.YtfcihnpmeabacaaGreatDoorW1
namespace Go.Proofs.YtfcihnpmeabacaaGreatDoor
open Go.RowKit
theorem LInv.see {nd:List NdI} {most base:Nat} {st:LsS} {hand rem:Nat} (h:LInv nd most base st hand (rem+1)) (c:Cand):LInv nd most base { st with seen:=st.seen++[c] } (hand+1) rem :=
 ⟨h.len,h.lst,h.qok,h.wok,by have:=h.cnt; simp only [List.length_append,List.length_singleton]; omega,by have:=h.scn; simp only [List.length_append,List.length_singleton]; omega,h.wk⟩
set_option maxRecDepth 100000 in
set_option maxHeartbeats 8000000 in
theorem first_c (w0:World) (bl lb bs bw:Nat) (A:Option Addr) (n c:Nat) (root:Int) (most base:Nat) (nd:List NdI) (hx:LsX w0 A n c most base nd) (cd:Cand) (p:Option Addr) (hand rem:Nat) (tg:Nat→Tg) (st:LsS) (qv:Value) (vs:Nat→Value) (F:WtK→Option Value) (w:World)
 (hM:LsM w0 bl lb bs bw A n c root (most:Int) tg st qv vs F w) (hc:CdOk nd most cd) (hi:LInv nd most base st hand (rem+1)) :
 Calls Tryz.prog 67 #[.pointer (ptA bl),cdVal cd p] w (TryP w0 bl lb bs bw A n c root (most:Int) tg st (firstL nd cd st) vs w):=by
 obtain ⟨Q,hQ⟩:∃ Q,Q=TryP w0 bl lb bs bw A n c root (most:Int) tg st (firstL nd cd st) vs w:=⟨_,rfl⟩;rw [← hQ];have HQQ:=Lib.hid hQ;have HX:=Lib.hid hx;have HC:=Lib.hid hc;have HI:=Lib.hid hi;have hal:=(Below.refl w.heap.size w).al (.cells (cdCs cd p) 145);have BC:=Blk.new w 145 (cdCs cd p);have HB:=Lib.hid hal;have HM0:=Lib.hid hM;clear hQ hx hc hi hM hal;unfold cdCs at BC HB;unfold cdVal;go_enter Tryz.func67,Tryz.ntmps67;go_upto_region 1 with fail;generalize w.alloc (.cells #[.int .i64 (cd.1:Int),.int .i64 (cd.2.1:Int),.int .i64 (cd.2.2.1:Int),.int .i64 (cd.2.2.2.1:Int),.int .i64 (cd.2.2.2.2.1:Int),.int .i64 (cd.2.2.2.2.2:Int),.pointer p] 145)=w1 at *;have cBC:=BC.cell;have fBC:=BC.frozen;have lBC:=BC.lt;go_upto_region 2 with fail;clear cBC fBC lBC;have HB1:=Lib.hid (HB.out.setCell (p:=⟨w.heap.size,6,none⟩) (Nat.le_refl _) (.pointer none))
 have BC1:Blk (w1.setCell ⟨w.heap.size,6,none⟩ (.pointer none)) w.heap.size 145 (cdCs cd none):=by
  have:=BC.set_ 6 (.pointer none); simpa [cdCs] using this
 clear BC HB;generalize w1.setCell ⟨w.heap.size,6,none⟩ (.pointer none)=w2 at *;unfold cdCs at BC1;have g4:=(HM0.out.via HB1.out).que.blk.cell 4;simp only [List.getElem?_toArray,List.getElem?_cons_succ,List.getElem?_cons_zero] at g4;have cBC1:=BC1.cell;have fBC1:=BC1.frozen;have lBC1:=BC1.lt
 go_still_tail 5,(by kernel_rfl)
 clear cBC1 fBC1 lBC1;clear g4;change wpList _ _ _ _ _ w2.drew
 have hdr:=(Below.refl w2.heap.size w2).drew;have HB3:=Lib.hid (HB1.out.via hdr);have BC3:=BC1.via hdr;clear hdr HB1 BC1;generalize w2.drew=w3 at *;have hlk:=(HM0.out.via HB3.out).seen.look cd;unfold cdVal at hlk
 by_cases hin:cd∈st.seen
 ·have hde:decide (cd∈st.seen)=true:=decide_eq_true hin;rw [hde] at hlk;go_wp2_with fail;refine bodyPost_end (v:=.tuple #[]) (by simp [results,Tryz.results67,go_sem]) rfl ?_;have e:firstL nd cd st=st:=(by unfold firstL; rw [if_pos hin]);rw [HQQ.out,e];exact ⟨rfl,tg,qv,F,HM0.out.via HB3.out,fun b _=>rfl,Frq.bel HB3.out⟩
 ·have hde:decide (cd∈st.seen)=false:=decide_eq_false hin;rw [hde] at hlk;have HE:=Lib.hid (show firstL nd cd st=tryL nd cd { st with seen:=st.seen++[cd] } by unfold firstL; rw [if_neg hin]);go_upto_region 3 with fail;clear hlk hde;have g4:=(HM0.out.via HB3.out).que.blk.cell 4;simp only [List.getElem?_toArray,List.getElem?_cons_succ,List.getElem?_cons_zero] at g4;have cBC3:=BC3.cell;have fBC3:=BC3.frozen;have lBC3:=BC3.lt
  go_still_tail 5,(by kernel_rfl)
  clear cBC3 fBC3 lBC3;clear g4;change wpList _ _ _ _ _ w3.drew
  have hdr:=(Below.refl w3.heap.size w3).drew;have HB4:=Lib.hid (HB3.out.via hdr);have BC4:=BC3.via hdr;clear hdr HB3 BC3;generalize w3.drew=w4 at *;obtain ⟨w5,hrun,hs5,hg5,hz5⟩:=(HM0.out.via HB4.out).seen.store cd hin;unfold cdVal at hrun;have HM5:=Lib.hid ((HM0.out.via HB4.out).setSeen hg5 hs5);have hbs:bs < w.heap.size:=HM0.out.seen.lt;have BC5:=BC4.grown hg5 (fun e=>by have:=Option.some.inj e; omega);have HF5:=Lib.hid ((Frq.bel (S:=TryS tg st.lists) HB4.out).trans2 (Frq.row (S:=TryS tg st.lists) hg5 fun b e _=>Or.inl (by rw [← Option.some.inj e]; exact HM0.out.fix.2.2.1)) fun b _ h=>h);have HZ5:=Lib.hid (show w.heap.size≤w5.heap.size from by have h1:=HB4.out.size; omega);clear hs5 hg5 hz5;go_upto_region 4 with fail;clear hrun BC4;have HT:=Lib.hid (try_c w0 bl lb bs bw A n c root most base nd HX.out cd hand rem tg { st with seen:=st.seen++[cd] } qv vs F w5 HM5.out HC.out (HI.out.see cd));have cBC5:=BC5.cell;have fBC5:=BC5.frozen;have lBC5:=BC5.lt;go_wp2_with fail;refine HT.out.mono ?_;clear HT;rintro e w6 ⟨rfl,tg6,qv6,F6,hm6,ht6,hf6⟩;have HFN:=Lib.hid (And.intro hm6 (And.intro ht6 hf6));clear hm6 ht6 hf6;go_wp2_with fail;refine bodyPost_end (v:=.tuple #[]) (by simp [results,Tryz.results67,go_sem]) rfl ?_;rw [HQQ.out,HE.out];exact ⟨rfl,tg6,qv6,F6,HFN.out.1,fun b hb=>HFN.out.2.1 b (Nat.lt_of_lt_of_le hb HZ5.out),HF5.out.trans2 HFN.out.2.2 fun b _ h=>h⟩
end Go.Proofs.YtfcihnpmeabacaaGreatDoor
namespace Go.Proofs.YtfcihnpmeabacaaGreatDoor
open Go.RowKit
theorem wpList_delete_M {κ:Type} {P:Program} {k:TypeId} {kk:κ→Value} [DecidableEq κ] {f:κ→Option Value} {w:World} {e:TypeId} {ops:Array Oper} {rest:List Oper} {o:Oper} {a:Act} {Q:Exit→Act→World→Prop} (hg:o.guard=none) (m x:Operand) (t:TypeId) (hop:o.op=Op.call { callee:=Callee.builtin Builtin.delete,args:=#[m,x],argTypes:=#[t,k] })
 (K:Maps.Keyed P k) (ht:P.underlying t=some (.map k e)) (hinj:∀ x y,kk x=kk y→x=y) (b:Nat) (y:κ) {kl:Lit} (hkey:keyOf P k (kk y)=some kl)
 (hm:a.eval m=.map (some b)) (hx:a.eval x=kk y) (h:MapK P k kk w b f)
 (hK:∀ w',MapK P k kk w' b (fun x=>if x=y then none else f x)→w.grownBy w' (some b)→w'.heap.size=w.heap.size→wpList P ops Q rest (a.put o.dst (.tuple #[])) w') :
 wpList P ops Q (o::rest) a w:=by
 refine wpList_plain hg fun K' hK'=>?_
 obtain ⟨w',hrun,r1,r2,r3,-⟩:=h.del (ty:=o.type) K ht y hkey hinj;unfold Oper.wp;simp [execOp,hop,resolve,invoke,builtin,hm,hx,hrun,Result.andThen];exact hK' _ _ (hK w' r1 r2 r3)
theorem cd_inc {w:World} {b:Nat} {cd:Cand} {p:Option Addr} (h:Blk w b 145 (cdCs cd p)) {i:Nat} (hi:i < 4):Blk (w.setCell ⟨b,2+i,none⟩ (.int .i64 ((cd.2.2.get i:Int)+1))) b 145 (cdCs (cd.1,cd.2.1,Rk.inc cd.2.2 i) p):=by
 have h1:=h.set_ (2+i) (.int .i64 ((cd.2.2.get i:Int)+1))
 match i,hi with
 | 0,_=>simpa [cdCs,Rk.get,Rk.inc] using h1
 | 1,_=>simpa [cdCs,Rk.get,Rk.inc] using h1
 | 2,_=>simpa [cdCs,Rk.get,Rk.inc] using h1
 | 3,_=>simpa [cdCs,Rk.get,Rk.inc] using h1
def TakeP (w0:World) (bl lb bs bw:Nat) (A:Option Addr) (n c:Nat) (root most:Int) (tg:Nat→Tg) (st':LsS) (w:World) (e:Ending) (w':World):Prop :=
 e=.returned (.tuple #[])∧∃ tg' qv' vs' F',LsM w0 bl lb bs bw A n c root most tg' st' qv' vs' F' w'∧(∀ b,b < w.heap.size→tg' b=tg b)∧Frq (fun b=>tg b≠.free∧tg b≠.tree) w w'
theorem lstAt_set {L:List (List CT)} {v:Nat} (hv:v < L.length) (l:List CT) (u:Nat):lstAt (L.set v l) u=if u=v then l else lstAt L u:=by
 unfold lstAt;rw [List.getD_eq_getElem?_getD]
 by_cases e:u=v
 ·rw [if_pos e,e,List.getElem?_set_self hv]; rfl
 ·rw [if_neg e,List.getElem?_set_ne (Ne.symm e),List.getD_eq_getElem?_getD]
theorem TryS.ne {tg:Nat→Tg} {L:List (List CT)} {b:Nat} (h:TryS tg L b):tg b≠.free∧tg b≠.tree:=by
 rcases h with h | h | ⟨k,h,-⟩ <;> rw [h] <;> exact ⟨(fun e=>by cases e),fun e=>by cases e⟩
theorem LInv.took {nd:List NdI} {most base:Nat} {st:LsS} {x:QE} (hf:FoK nd) (hx:CdOk nd most x.1) (hw:x.2.Wf) (hs:x.2.size≤5000) (h:LInv nd most base st 0 0) (hm:(lstAt st.lists x.1.1).length≠most) :
 LInv nd most base { st with lists:=st.lists.set x.1.1 (lstAt st.lists x.1.1++[x.2]),waits:=wDel st.waits (x.1.1,(lstAt st.lists x.1.1).length) } ((wGet st.waits (x.1.1,(lstAt st.lists x.1.1).length)).length+0) (packOf nd x.1).2.length:=by
 have hvl:x.1.1 < st.lists.length:=(by rw [h.len]; exact hx.1)
 have hget:st.lists[x.1.1]?=some (lstAt st.lists x.1.1):=by
  unfold lstAt;rw [List.getD_eq_getElem?_getD,List.getElem?_eq_getElem hvl]; rfl
 have hsum:=sumL_set st.lists x.1.1 _ x.2 hget;have hp:=hf.2 x.1.1 _ (packOf_mem hx);refine ⟨by simpa using h.len,fun v=>?_,h.qok,fun p hp c hc=>h.wok p (wMem_del p hp) c hc,?_,?_,h.wk.del _⟩
 ·show (lstAt (st.lists.set x.1.1 (lstAt st.lists x.1.1++[x.2])) v).length≤most∧∀ t∈lstAt (st.lists.set x.1.1 (lstAt st.lists x.1.1++[x.2])) v,t.Wf∧t.size≤5000
  rw [lstAt_set hvl]
  by_cases e:v=x.1.1
  ·rw [if_pos e];refine ⟨by rw [List.length_append,List.length_singleton]; have:=(h.lst x.1.1).1; omega,fun t ht=>?_⟩
   rcases List.mem_append.1 ht with ht | ht
   ·exact (h.lst x.1.1).2 t ht
   ·rw [List.mem_singleton.1 ht]; exact ⟨hw,hs⟩
  ·rw [if_neg e]; exact h.lst v
 ·have:=h.cnt;have:=wSum_del st.waits (x.1.1,(lstAt st.lists x.1.1).length);show st.q.length+wSum (wDel st.waits (x.1.1,(lstAt st.lists x.1.1).length))+_≤st.seen.length
  omega
 ·have:=h.scn;show st.seen.length+(packOf nd x.1).2.length≤base+4*sumL (st.lists.set x.1.1 (lstAt st.lists x.1.1++[x.2]))
  rw [hsum]; have:=hp.1; omega
section
variable {w0 w w':World} {bl lb bs bw:Nat} {A:Option Addr} {n c:Nat} {root most:Int} {tg:Nat→Tg} {st:LsS} {qv:Value} {vs:Nat→Value} {F:WtK→Option Value}
open Classical in
theorem LsM.listed {v:Nat} {V':Value} {L':List CT} (h:LsM w0 bl lb bs bw A n c root most tg st qv vs F w) (hv:v < n) (hln:st.lists.length=n) (hF:Frq (fun b=>b=lb∨some b=(vs v).ownBlock) w w')
 (hb:∃ cs:Array Value,Blk w' lb 139 cs∧cs.size=n∧∀ u,u < n→cs[u]?=some (if u=v then V' else vs u)) (ho:Own PtE 138 (OkT tg) w' w0.heap.size V' L'.length L') (hat:V'.ownBlock=(vs v).ownBlock∨∀ b,V'.ownBlock=some b→w.heap.size≤b) :
 ∃ tg',LsM w0 bl lb bs bw A n c root most tg' { st with lists:=st.lists.set v L' } qv (fun u=>if u=v then V' else vs u) F w'∧(∀ b,b < w.heap.size→tg' b=tg b)∧∀ b,w.heap.size≤b→V'.ownBlock≠some b→tg' b=.free:=by
 have hfr:∀ b,w.heap.size≤b→tg b=.free:=fun b hb=>Classical.byContradiction fun hn=>absurd (h.rng b hn).2 (by omega)
 have hT:∀ b,b < w.heap.size→(if V'.ownBlock=some b then Tg.list v else tg b)=tg b:=fun b hb=>by
  split
  ·next e =>
   rcases hat with h1 | h1
   ·exact (h.ltg v hv b (h1.symm.trans e)).symm
   ·have:=h1 b e; omega
  ·rfl
 have hok:∀ b,OkT tg b→(if V'.ownBlock=some b then Tg.list v else tg b)=.tree:=fun b hk=>by
  have hk':tg b=.tree:=hk;rw [hT b (h.rng b (by rw [hk']; exact fun e=>by cases e)).2]; exact hk'
 refine ⟨fun b=>if V'.ownBlock=some b then .list v else tg b,h.setList hv hln hF hT (fun b hb=>?_) hb (ho.mono fun b _ hk=>hok b hk) (fun b hb=>if_pos hb),hT,fun b hb hn=>by show (if V'.ownBlock=some b then Tg.list v else tg b)=.free; rw [if_neg hn]; exact hfr b hb⟩
 by_cases e:V'.ownBlock=some b
 ·exact ho.lt b e
 ·simp only [if_neg e] at hb;have:=h.rng b hb;exact ⟨this.1,Nat.lt_of_lt_of_le this.2 hF.size⟩
theorem LsM.unwait {k:WtK} (h:LsM w0 bl lb bs bw A n c root most tg st qv vs F w) (hw:WOk st.waits) (hg:w.grownBy w' (some bw)) (hm:MapK Tryz.prog 193 wkVal w' bw fun x=>if x=k then none else F x) :
 LsM w0 bl lb bs bw A n c root most tg { st with waits:=wDel st.waits k } qv vs (fun x=>if x=k then none else F x) w' :=
 h.setWait (k:=k) (Frq.row hg fun b e _=>Or.inl (Option.some.inj e).symm) (fun _ _=>rfl) (fun b hb=>⟨(h.rng b hb).1,Nat.lt_of_lt_of_le (h.rng b hb).2 hg.size⟩) hm (fun j hj=>if_neg hj) (fun j hj=>by rw [wGet_del hw,if_neg hj]) (Or.inl ⟨if_pos rfl,by rw [wGet_del hw,if_pos rfl]⟩)
end
set_option maxRecDepth 100000 in
set_option maxHeartbeats 8000000 in
theorem take_c (w0:World) (bl lb bs bw:Nat) (A:Option Addr) (n c:Nat) (root:Int) (most base:Nat) (nd:List NdI) (hx:LsX w0 A n c most base nd) (x:QE) (p:Nat) (tg:Nat→Tg) (st:LsS) (qv:Value) (vs:Nat→Value) (F:WtK→Option Value) (w:World)
 (hM:LsM w0 bl lb bs bw A n c root (most:Int) tg st qv vs F w) (hc:CdOk nd most x.1) (hr:∀ i,i < (packOf nd x.1).2.length→x.1.2.2.get i < most) (hw:x.2.Wf) (hs:x.2.size≤5000) (hp:PtR (OkT tg) w p x.2) (hi:LInv nd most base st 0 0) :
 Calls Tryz.prog 69 #[.pointer (ptA bl),cdVal x.1 (ptA p)] w (TakeP w0 bl lb bs bw A n c root (most:Int) tg (takeL nd most x st) w):=by
 obtain ⟨cd,t⟩:=x;simp only at hc hr hw hs hp ⊢;obtain ⟨Q,hQ⟩:∃ Q,Q=TakeP w0 bl lb bs bw A n c root (most:Int) tg (takeL nd most (cd,t) st) w:=⟨_,rfl⟩;rw [← hQ];have HQQ:=Lib.hid hQ;have HX:=Lib.hid hx;have HC:=Lib.hid hc;have HI:=Lib.hid hi;have HR:=Lib.hid hr;have HW:=Lib.hid (And.intro hw hs);have HPT:=Lib.hid hp;have hv:cd.1 < n:=(by have:=hc.1; rwa [hx.len] at this);have hal:=(Below.refl w.heap.size w).al (.cells (cdCs cd (ptA p)) 145);have BC:=Blk.new w 145 (cdCs cd (ptA p));have HB:=Lib.hid hal;have HM0:=Lib.hid hM;have hm1:=hx.m1;have hn1:=hx.n1;clear hQ hx hc hi hM hal hr hw hs hp;unfold cdCs at BC HB;unfold cdVal;go_enter Tryz.func69,Tryz.ntmps69;go_upto_region 1 with fail;generalize w.alloc (.cells #[.int .i64 (cd.1:Int),.int .i64 (cd.2.1:Int),.int .i64 (cd.2.2.1:Int),.int .i64 (cd.2.2.2.1:Int),.int .i64 (cd.2.2.2.2.1:Int),.int .i64 (cd.2.2.2.2.2:Int),.pointer (ptA p)] 145)=w1 at *;have i0:(0:Int)≤(cd.1:Int):=(by omega);have i1:(cd.1:Int) < (n:Int):=(by omega);have g3:=(HM0.out.via HB.out).que.blk.cell 3;simp only [List.getElem?_toArray,List.getElem?_cons_succ,List.getElem?_cons_zero] at g3;obtain ⟨cs,hlb,hcs,hcv⟩:=(HM0.out.via HB.out).lbk;have l0:=hlb.cell cd.1;rw [hcv cd.1 hv] at l0;obtain ⟨LA,lc,hvs,hlc⟩:=(HM0.out.lst cd.1 hv).form;obtain ⟨m,hm⟩:∃ m,m=(lstAt st.lists cd.1).length:=⟨_,rfl⟩;rw [← hm] at hvs hlc;rw [hvs] at l0;have HMM:=Lib.hid hm;have HVS:=Lib.hid hvs;clear hm hvs hlb hcs hcv cs;have cBC:=BC.cell;have fBC:=BC.frozen;have lBC:=BC.lt
 go_still_tail 9,(by kernel_rfl)
 clear cBC fBC lBC;clear g3 l0;change wpList _ _ _ _ _ w1.drew
 have hdr:=(Below.refl w1.heap.size w1).drew;have HB2:=Lib.hid (HB.out.via hdr);have BC2:=Lib.hid (BC.via hdr);clear hdr HB BC;generalize w1.drew=w2 at *;have g2:=(HM0.out.via HB2.out).que.blk.cell 2;simp only [List.getElem?_toArray,List.getElem?_cons_succ,List.getElem?_cons_zero] at g2
 by_cases hfull:m=most
 ·have hde:((m:Int)==(most:Int))=true:=(by simp [hfull]);go_wp2_with fail;refine bodyPost_end (v:=.tuple #[]) (by simp [results,Tryz.results69,go_sem]) rfl ?_;have e:takeL nd most (cd,t) st=st:=(by unfold takeL; rw [if_pos (by rw [← hfull]; exact HMM.out.symm)]);rw [HQQ.out,e];exact ⟨rfl,tg,qv,vs,F,HM0.out.via HB2.out,fun b _=>rfl,Frq.bel HB2.out⟩
 ·have hde:((m:Int)==(most:Int))=false:=(by simp; omega);have HFU:=Lib.hid (show (lstAt st.lists cd.1).length≠most by rw [← HMM.out]; exact hfull);go_upto_region 3 with fail;clear g2 hde;have hlow:∀ b,(Value.slice LA m lc).ownBlock=some b→tg b=.list cd.1:=fun b hb=>HM0.out.ltg cd.1 hv b (by rw [HVS.out]; exact hb)
  have hown:∀ b,(Value.slice LA m lc).ownBlock=some b→b≠bl∧b≠lb∧b < w.heap.size:=fun b hb=>by
   have h1:=hlow b hb;refine ⟨fun e=>?_,fun e=>?_,(HM0.out.rng b (by rw [h1]; exact fun e=>by cases e)).2⟩
   ·rw [e,HM0.out.fix.1] at h1; cases h1
   ·rw [e,HM0.out.fix.2.1] at h1; cases h1
  have HOWN:=Lib.hid hown;have HLOW:=Lib.hid hlow;have hdr:=(Below.refl w2.heap.size w2).drew;have HB3:=Lib.hid (HB2.out.via hdr);have BC3:=Lib.hid (BC2.out.via hdr);clear hdr HB2 BC2 hown hlow;have g3:=(HM0.out.via HB3.out).que.blk.cell 3;simp only [List.getElem?_toArray,List.getElem?_cons_succ,List.getElem?_cons_zero] at g3;obtain ⟨cs,hlb,hcs,hcv⟩:=(HM0.out.via HB3.out).lbk;have l0:=hlb.cell cd.1;rw [hcv cd.1 hv,HVS.out] at l0;have hHeld:=And.intro BC3.out.cell (And.intro g3 l0);clear g3 l0;refine wp_region_noPanic ?_;refine wp_region_N 19 (fun w'=>(∀ x,w'.cell? ⟨w.heap.size,x,none⟩=#[.int .i64 (cd.1:Int),.int .i64 (cd.2.1:Int),.int .i64 (cd.2.2.1:Int),.int .i64 (cd.2.2.2.1:Int),.int .i64 (cd.2.2.2.2.1:Int),.int .i64 (cd.2.2.2.2.2:Int),.pointer (ptA p)][x]?)∧w'.cell? ⟨bl,3,none⟩=some (.slice (some ⟨lb,0,none⟩) n n)∧w'.cell? ⟨lb,cd.1,none⟩=some (.slice LA m lc)) (by kernel_rfl) ?_;have HLB:=Lib.hid hlb;clear hlb;generalize w2.drew=w3 at *;refine tkN 0 26 ?_;refine tkN 1 27 ?_;refine tkN 2 28 ?_;refine tkN 3 29 ?_;refine tkN 4 30 ?_;refine tkN 5 31 ?_;refine tkN 6 32 ?_;refine tkN 7 33 ?_;refine tkN 8 34 ?_;refine tkN 9 35 ?_;refine tkN 10 36 ?_;refine tkN 11 37 ?_;refine tkN 12 38 ?_;refine tkN 13 39 ?_;refine tkN 14 40 ?_;refine tkN 15 41 ?_;clear hHeld;have hal:=(Below.refl w3.heap.size w3).al (.cells #[.pointer (ptA p)] 138);have HB4:=Lib.hid (HB3.out.via hal);have BC4:=Lib.hid (BC3.out.via hal);have HLB4:=Lib.hid (HLB.out.via hal);have BN4:=Lib.hid (Blk.new w3 138 #[.pointer (ptA p)]);have HW3:=Lib.hid (show w.heap.size < w3.heap.size from BC3.out.lt);clear hal HB3 BC3 HLB;have g3:=(HM0.out.via HB4.out).que.blk.cell 3;simp only [List.getElem?_toArray,List.getElem?_cons_succ,List.getElem?_cons_zero] at g3;have l0:=HLB4.out.cell cd.1;rw [hcv cd.1 hv,HVS.out] at l0;have hHeld:=And.intro BC4.out.cell (And.intro g3 l0);clear g3 l0;refine wpAnyN.ready (rs:=[16]) (by kernel_rfl) (by simp) ?_;refine AllN.cons rfl (fun K hK=>?_) AllN.nil;go_simp;refine hK.out _ _ (fun _=>hHeld) ?_;clear hK K hHeld;try simp only [Act.put,List.setIfInBounds_toArray,List.set_cons_zero,List.set_cons_succ]
  generalize w3.alloc (.cells #[.pointer (ptA p)] 138)=w4 at *;generalize w3.heap.size=b4 at *;have howl:=(HM0.out.via HB4.out).lst cd.1 hv;rw [HVS.out,← HMM.out] at howl;have hmle:=(HI.out.lst cd.1).1;rw [← HMM.out] at hmle;refine wpAnyN.ready (rs:=[17]) (by kernel_rfl) (by simp) ?_;refine AllN.cons rfl (fun K hK=>?_) AllN.nil;refine step_append_pt _ rfl (.tmp 39) (.tmp 42) rfl (OkT tg) w0.heap.size (.slice LA m lc) m (lstAt st.lists cd.1) rfl howl b4 p t rfl BN4.out (PtR.mono (PtR.via HPT.out HB4.out) fun b _ hb=>⟨hb,fun e=>by have h1:=HLOW.out b e.symm; rw [show tg b=.tree from hb] at h1; cases h1⟩) (by omega) (HM0.out.via HB4.out).size ?_;intro A' c' w5 ho hg hat;have BC5:=Lib.hid (BC4.out.grown hg (fun e=>by have:=(HOWN.out _ e.symm).2.2; omega));have HLB5:=Lib.hid (HLB4.out.grown hg (fun e=>(HOWN.out _ e.symm).2.1 rfl));have g3:=((HM0.out.via HB4.out).que.blk.grown hg (fun e=>(HOWN.out _ e.symm).1 rfl)).cell 3;simp only [List.getElem?_toArray,List.getElem?_cons_succ,List.getElem?_cons_zero] at g3;have l0:=HLB5.out.cell cd.1;rw [hcv cd.1 hv,HVS.out] at l0;have hHeld:=And.intro BC5.out.cell (And.intro g3 l0);refine hK.out _ _ (fun _=>hHeld) ?_;clear hK K g3 howl;try simp only [Act.put,List.setIfInBounds_toArray]
  refine wpAnyN.ready (rs:=[18]) (by kernel_rfl) (by simp) ?_;refine AllN.cons rfl (fun K hK=>?_) AllN.nil;go_simp;refine hK.out _ _ (fun _=>hHeld) ?_;clear hK K hHeld;try simp only [Act.put,List.setIfInBounds_toArray,List.set_cons_zero,List.set_cons_succ]
  have HO5:=Lib.hid ho;have HG5:=Lib.hid hg;have HAT:=Lib.hid hat;clear ho hg hat;have fz:=HLB5.out.frozen;refine wpAnyN.ready (rs:=[19]) (by kernel_rfl) (by simp) ?_;refine AllN.cons rfl (fun K hK=>?_) AllN.nil;go_simp;refine hK.out _ _ (fun h=>absurd h (by decide)) ?_;clear hK K fz l0;refine wpAnyN.done (by kernel_rfl) ?_ _;refine NoPanic.normal ?_;have hlbw:lb < w.heap.size:=(HM0.out.rng lb (by rw [HM0.out.fix.2.1]; exact fun e=>by cases e)).2
  have hat2:(Value.slice A' (m+1) c').ownBlock=(Value.slice LA m lc).ownBlock∨∀ b,(Value.slice A' (m+1) c').ownBlock=some b→w4.heap.size≤b:=by
   rcases HAT.out with h1 | h1
   ·exact Or.inl h1
   ·exact Or.inr fun b hb=>by rw [h1] at hb; have:=Option.some.inj hb; omega
  have hz4:w.heap.size < w4.heap.size:=BC4.out.lt
  have hcs':∃ cs':Array Value,Blk (w5.setCell ⟨lb,cd.1,none⟩ (.slice A' (m+1) c')) lb 139 cs'∧cs'.size=n∧∀ u,u < n→cs'[u]?=some (if u=cd.1 then .slice A' (m+1) c' else vs u):=by
   refine ⟨_,HLB5.out.set_ cd.1 _,by simpa using hcs,fun u hu=>?_⟩
   by_cases e:u=cd.1
   ·rw [if_pos e,e,Array.getElem?_setIfInBounds_self_of_lt (by omega)]
   ·rw [if_neg e,Array.getElem?_setIfInBounds_ne (Ne.symm e)]; exact hcv u hu
  have hF6:Frq (fun b=>b=lb∨some b=(vs cd.1).ownBlock) w (w5.setCell ⟨lb,cd.1,none⟩ (.slice A' (m+1) c')) :=
   ((Frq.bel HB4.out).trans2 (Frq.row (S:=fun b=>b=lb∨some b=(vs cd.1).ownBlock) HG5.out fun b e _=>Or.inr (by rw [HVS.out]; exact e.symm)) fun b _ h=>h).trans2 (Frq.row (S:=fun b=>b=lb∨some b=(vs cd.1).ownBlock) (grownSetT w5 lb cd.1 _) fun b e _=>Or.inl (Option.some.inj e).symm) fun b _ h=>h
  obtain ⟨tg1,hM6,hT6,hf6⟩:=HM0.out.listed (L':=lstAt st.lists cd.1++[t]) hv (HI.out.len.trans HX.out.len) hF6 hcs' (by
   rw [List.length_append,List.length_singleton,← HMM.out];refine HO5.out.agr (Agr.setCell (p:=⟨lb,cd.1,none⟩) _ fun b hb=>?_)
   rcases hb with hb | hb
   ·intro e;have hb':tg b=.tree:=hb;rw [show b=lb from e,HM0.out.fix.2.1] at hb'; cases hb'
   ·intro e;have e':b=lb:=e
    rcases hat2 with h1 | h1
    ·exact (HOWN.out b (h1.symm.trans hb.symm)).2.1 e'
    ·have:=h1 b hb.symm; omega) (by
   rw [HVS.out]
   rcases hat2 with h1 | h1
   ·exact Or.inl h1
   ·exact Or.inr fun b hb=>by have:=h1 b hb; omega)
  have hbcf:tg1 w.heap.size=.free:=hf6 _ (Nat.le_refl _) fun e=>by
   rcases hat2 with h1 | h1
   ·have:=(HOWN.out _ (h1.symm.trans e)).2.2; omega
   ·have:=h1 _ e; omega
  have BC6:=BC5.out.far (p:=⟨lb,cd.1,none⟩) (by show w.heap.size≠lb; omega) (.slice A' (m+1) c');have hI6:=LInv.took (x:=(cd,t)) HX.out.fok HC.out HW.out.1 HW.out.2 HI.out HFU.out;simp only at hI6;obtain ⟨st1,hst1⟩:∃ st1:LsS,st1={ st with lists:=st.lists.set cd.1 (lstAt st.lists cd.1++[t]) }:=⟨_,rfl⟩;rw [← hst1] at hM6;have HS1:=Lib.hid hst1;have HM6:=Lib.hid hM6;have HT6:=Lib.hid hT6;have HI6:=Lib.hid hI6;have HBF:=Lib.hid hbcf
  have HF6:=Lib.hid (show Frq (fun b=>tg b≠.free∧tg b≠.tree) w (w5.setCell ⟨lb,cd.1,none⟩ (.slice A' (m+1) c')) from hF6.mono fun b _ hb=>by
   rcases hb with hb | hb
   ·rw [hb,HM0.out.fix.2.1]; exact ⟨(fun e=>by cases e),fun e=>by cases e⟩
   ·rw [HM0.out.ltg cd.1 hv b hb.symm]; exact ⟨(fun e=>by cases e),fun e=>by cases e⟩)
  clear hst1 hM6 hT6 hf6 hI6 hbcf hF6 hcs' hat2 hz4 HLB5 HLB4 BC4 BC5 HO5 HG5 HAT BN4 HW3 HB4 hcs hcv cs;generalize w5.setCell ⟨lb,cd.1,none⟩ (.slice A' (m+1) c')=w6 at *;generalize (fun u=>if u=cd.1 then Value.slice A' (m+1) c' else vs u)=vs1 at *;have hal:=(Below.refl w6.heap.size w6).al (.cells #[.int .i64 (cd.1:Int),.int .i64 (m:Int)] 193);have HM7:=Lib.hid (HM6.out.via hal);have BC7:=Lib.hid (BC6.via hal);have BW7:=Blk.new w6 193 #[.int .i64 (cd.1:Int),.int .i64 (m:Int)];have HF7:=Lib.hid (HF6.out.trans2 (Frq.bel (S:=fun b=>tg b≠.free∧tg b≠.tree) hal) fun b _ h=>h);have HZ7:=Lib.hid (show tg1 w6.heap.size=.free from Classical.byContradiction fun hn=>absurd (HM6.out.rng _ hn).2 (by omega));clear hal;have cBC6:=BC6.cell;have fBC6:=BC6.frozen;have lBC6:=BC6.lt;go_upto_region 5 with fail;clear cBC6 fBC6 lBC6;clear BC6 HM6 HF6;generalize w6.alloc (.cells #[.int .i64 (cd.1:Int),.int .i64 (m:Int)] 193)=w7 at *;generalize w6.heap.size=b7 at *;have g5:=HM7.out.que.blk.cell 5;simp only [List.getElem?_toArray,List.getElem?_cons_succ,List.getElem?_cons_zero] at g5;have cBW7:=BW7.cell;have fBW7:=BW7.frozen;have lBW7:=BW7.lt
  go_still_tail 5,(by kernel_rfl)
  clear cBW7 fBW7 lBW7;clear g5;change wpList _ _ _ _ _ w7.drew
  have hdr:=(Below.refl w7.heap.size w7).drew;have HM8:=Lib.hid (HM7.out.via hdr);have BC8:=Lib.hid (BC7.out.via hdr);have BW8:=BW7.via hdr;have HF8:=Lib.hid (HF7.out.trans2 (Frq.bel (S:=fun b=>tg b≠.free∧tg b≠.tree) hdr) fun b _ h=>h);clear hdr HM7 BC7 BW7 HF7;generalize w7.drew=w8 at *;obtain ⟨kl0,hkl⟩:=wk_key (cd.1,m) (by simp only; omega) (by simp only; omega);have hlk:=HM8.out.wts.look false wk_keyed Tryz.underlying133 (z:=.slice none 0 0) (by kernel_rfl) (cd.1,m) hkl;obtain ⟨hwr,hwn⟩:=HM8.out.waitRow (cd.1,m);obtain ⟨WA,wc,hV,hwl⟩:=hwr.form;rw [hV] at hlk hwr hwn;obtain ⟨W,hW⟩:∃ W,W=wGet st.waits (cd.1,m):=⟨_,rfl⟩;have hW1:wGet st1.waits (cd.1,m)=W:=(by rw [HS1.out,hW]);rw [hW1] at hlk hwr hwn hwl hV;simp only [wkVal,Bool.false_eq_true,if_false] at hlk;have HWR:=Lib.hid hwr;have HWN:=Lib.hid hwn;have HWD:=Lib.hid hW;have HKL:=Lib.hid hkl;have HVV:=Lib.hid hV;clear hwr hwn hW hW1 hkl hV;go_upto_region 6 with fail;clear hlk;have g5:=HM8.out.que.blk.cell 5;simp only [List.getElem?_toArray,List.getElem?_cons_succ,List.getElem?_cons_zero] at g5;have cBW8:=BW8.cell;have fBW8:=BW8.frozen;have lBW8:=BW8.lt
  go_still_tail 5,(by kernel_rfl)
  clear cBW8 fBW8 lBW8;clear g5 BW8;change wpList _ _ _ _ _ w8.drew
  have hdr:=(Below.refl w8.heap.size w8).drew;have HM9:=Lib.hid (HM8.out.via hdr);have BC9:=Lib.hid (BC8.out.via hdr);have HWR9:=Lib.hid (HWR.out.via hdr);have HF9:=Lib.hid (HF8.out.trans2 (Frq.bel (S:=fun b=>tg b≠.free∧tg b≠.tree) hdr) fun b _ h=>h);clear hdr HM8 BC8 HWR HF8;generalize w8.drew=w9 at *;go_wp2_with (at_delete; refine wpList_delete_M rfl _ _ 133 rfl wk_keyed Tryz.underlying133 wkVal_inj bw (cd.1,m) HKL.out rfl rfl HM9.out.wts ?_);intro wL hm10 hg10 hz10;have hwk:WOk st1.waits:=(by rw [HS1.out]; exact HI.out.wk);have hML:=HM9.out.unwait hwk hg10 hm10;have hI6:=HI6.out;obtain ⟨st2,hst2⟩:∃ st2:LsS,st2={ st with lists:=st.lists.set cd.1 (lstAt st.lists cd.1++[t]),waits:=wDel st.waits (cd.1,(lstAt st.lists cd.1).length) }:=⟨_,rfl⟩;rw [← hst2] at hI6;have he2:{ st1 with waits:=wDel st1.waits (cd.1,m) }=st2:=(by rw [hst2,HS1.out,← HMM.out]);rw [he2] at hML;have HS2:=Lib.hid hst2;have HML:=Lib.hid hML;obtain ⟨kn,hkn⟩:∃ kn,kn=(packOf nd cd).2.length:=⟨_,rfl⟩;rw [← hkn,← HMM.out,← HWD.out] at hI6;have HIL:=Lib.hid hI6;have HKN:=Lib.hid hkn;have hbww:bw < w.heap.size:=HM0.out.wts.lt;have HBC:=Lib.hid (BC9.out.grown hg10 (fun e=>by have:=Option.some.inj e; omega))
  have HWRL:=Lib.hid (HWR9.out.agr (Agr.grown hg10 (row:=some bw) fun b hb e=>by
   rcases hb with hb | hb
   ·exact hb
   ·exact HWN.out b hb.symm (Option.some.inj e)))
  have HFL:=Lib.hid (HF9.out.trans2 (Frq.row (S:=fun b=>tg b≠.free∧tg b≠.tree) hg10 fun b e _=>by rw [← Option.some.inj e,HM0.out.fix.2.2.2]; exact ⟨(fun e=>by cases e),fun e=>by cases e⟩) fun b _ h=>h)
  have HNT:=Lib.hid (show (∀ b,(Value.slice WA W.length wc).ownBlock=some b→¬ TryS tg1 st2.lists b∧b < wL.heap.size)∧¬ TryS tg1 st2.lists w.heap.size∧w.heap.size < wL.heap.size from by
   refine ⟨fun b hb=>?_,?_,HBC.out.lt⟩
   ·have h1:tg1 b=.wait (cd.1,m):=by
     cases hf:F (cd.1,m) with
     | none =>
      have h2:=HVV.out;rw [hf] at h2;have h3:Value.slice none 0 0=Value.slice WA W.length wc:=h2;rw [← h3] at hb; cases hb
     | some V =>
      have h2:=HVV.out;rw [hf] at h2;have h3:V=Value.slice WA W.length wc:=h2;exact HM9.out.wtg (cd.1,m) V b hf (by rw [h3]; exact hb)
    refine ⟨?_,(HWRL.out.lt b hb).2⟩;have hl:lstAt st2.lists cd.1=lstAt st.lists cd.1++[t]:=(by rw [HS2.out]; simp only; rw [lstAt_set (by rw [HI.out.len]; exact HC.out.1),if_pos rfl]);rintro (h | h | ⟨k,h,h2⟩)
    ·rw [h1] at h; cases h
    ·rw [h1] at h; cases h
    ·rw [h1] at h; cases h;rw [hl,List.length_append,List.length_singleton,← HMM.out] at h2;omega
   ·rintro (h | h | ⟨k,h,h2⟩) <;> (rw [HBF.out] at h; cases h))
  have HCW:=Lib.hid (show ∀ c∈W,CdOk nd most c from fun c hc=>by
   rw [HWD.out] at hc;obtain ⟨q,hq,hc⟩:=wGet_mem hc
   exact HI.out.wok q hq c hc)
  clear hm10 hg10 hz10 hML hI6 hst2 hkn hwk he2 HM9 BC9 HWR9 HF9 HS1 HVV HI6 HZ7
  have hwl9:W.length≤100000000000:=by
   have h1:=(HI.out.small HX.out.big).1;have h2:=wGet_le st.waits (cd.1,m);rw [← HWD.out] at h2; omega
  have HST2:=Lib.hid (show st2=(W.take 0).foldl (fun s c=>tryL nd c s) st2 from rfl);go_wp2_with fail
  go_loopw [62] (fun q wr=>∃ (i:Nat) (st3:LsS) (tg3:Nat→Tg) (qv3:Value) (F3:WtK→Option Value),q=.int .i64 (i:Int)∧i≤W.length∧Hid (LsM w0 bl lb bs bw A n c root (most:Int) tg3 st3 qv3 vs1 F3 wr)∧Hid (LInv nd most base st3 (W.length - i) kn)∧Hid (st3=(W.take i).foldl (fun s c=>tryL nd c s) st2∧st3.lists=st2.lists)∧Hid ((∀ b,b < wL.heap.size→tg3 b=tg1 b)∧Frq (TryS tg1 st2.lists) wL wr)) (fun q _=>W.length - (intOf q).toNat)
  case atStart=>exact ⟨0,st2,tg1,qv,_,rfl,Nat.zero_le _,HML,Lib.hid HIL.out,Lib.hid ⟨rfl,rfl⟩,Lib.hid ⟨fun b _=>rfl,Frq.refl _⟩⟩
  case round =>
   obtain ⟨i,st3,tg3,qv3,F3,rfl,hi,HM,HI3,HE,HF⟩:=hrel
   by_cases hil:i < W.length
   ·have hrow:=HWRL.out.agr (HF.out.2.agr fun b hb=>by
     rcases hb with hb | hb
     ·exact hb.elim
     ·exact (HNT.out.1 b hb.symm).1)
    obtain ⟨g,rfl⟩:=hrow.addrT (by omega);obtain ⟨y,y',hy,hyy,hcy,-,-,-⟩:=hrow.elt hil;obtain rfl:y=y':=hyy;have d0:=hcy 0 _ rfl;have d1:=hcy 1 _ rfl;have d2:=hcy 2 _ rfl;have d3:=hcy 3 _ rfl;have d4:=hcy 4 _ rfl;have d5:=hcy 5 _ rfl;have d6:=hcy 6 _ rfl;simp only [WtE,Nat.add_zero] at d0 d1 d2 d3 d4 d5 d6;have k0:(0:Int)≤(i:Int):=(by omega);have k1:(i:Int) < (W.length:Int):=(by omega);have hw2:IntKind.i64.wrap ((i:Int)+1)=(i:Int)+1:=IntWalk.i64_in _ (by omega);have HY:=Lib.hid hy;have hal:=(Below.refl wr.heap.size wr).al (.cells #[.int .i64 (y.1:Int),.int .i64 (y.2.1:Int),.int .i64 (y.2.2.1:Int),.int .i64 (y.2.2.2.1:Int),.int .i64 (y.2.2.2.2.1:Int),.int .i64 (y.2.2.2.2.2:Int),.pointer none] 145);have BY:=Blk.new wr 145 #[.int .i64 (y.1:Int),.int .i64 (y.2.1:Int),.int .i64 (y.2.2.1:Int),.int .i64 (y.2.2.2.1:Int),.int .i64 (y.2.2.2.2.1:Int),.int .i64 (y.2.2.2.2.2:Int),.pointer none];have HFA:=Lib.hid (HF.out.2.trans2 (Frq.bel (S:=TryS tg1 st2.lists) hal) fun b _ h=>h);have hI3:=HI3.out;rw [show W.length - i=(W.length - (i+1))+1 by omega] at hI3;have HII:=Lib.hid hI3;have HT:=Lib.hid (try_c w0 bl lb bs bw A n c root most base nd HX.out y (W.length - (i+1)) kn tg3 st3 qv3 vs1 F3 _ (HM.out.via hal) (HCW.out y (List.mem_of_getElem? hy)) hI3);have HZW:=Lib.hid (show wL.heap.size≤(wr.alloc (.cells #[.int .i64 (y.1:Int),.int .i64 (y.2.1:Int),.int .i64 (y.2.2.1:Int),.int .i64 (y.2.2.2.1:Int),.int .i64 (y.2.2.2.2.1:Int),.int .i64 (y.2.2.2.2.2:Int),.pointer none] 145)).heap.size from by have:=HF.out.2.size; have:=hal.size; omega);clear hcy hy hrow hal hI3;unfold cdVal at HT;have cBY:=BY.cell;have fBY:=BY.frozen;have lBY:=BY.lt;go_wp2_with fail;clear cBY fBY lBY;clear d0 d1 d2 d3 d4 d5 d6 BY;refine HT.out.mono ?_;clear HT;rintro e w4 ⟨rfl,tg4,qv4,F4,hm4,ht4,hf4⟩;have HM4:=Lib.hid hm4
    have HE4:=Lib.hid (show tryL nd y st3=(W.take (i+1)).foldl (fun s c=>tryL nd c s) st2∧(tryL nd y st3).lists=st2.lists from by
     have hl:=List.getElem?_eq_some_iff.1 HY.out;refine ⟨?_,(tryL_lists nd y st3).1.trans HE.out.2⟩
     rw [List.take_succ_eq_append_getElem hl.1,hl.2,List.foldl_append,← HE.out.1]; rfl)
    have HI4:=Lib.hid (tryL_inv HX.out.fok (HCW.out y (List.mem_of_getElem? HY.out)) HII.out)
    have HF4:=Lib.hid (show (∀ b,b < wL.heap.size→tg4 b=tg1 b)∧Frq (TryS tg1 st2.lists) wL w4 from
     ⟨fun b hb=>(ht4 b (Nat.lt_of_lt_of_le hb HZW.out)).trans (HF.out.1 b hb),HFA.out.trans2 hf4 fun b hb hs=>by
      simp only [TryS] at hs ⊢
      rwa [HF.out.1 b hb,HE.out.2] at hs⟩)
    clear hm4 ht4 hf4 HM HI3 HE HF HFA HII HZW;go_wp2_with fail;exact ⟨⟨i+1,tryL nd y st3,tg4,qv4,F4,by go_num,by omega,HM4,HI4,HE4,HF4⟩,by simp [intOf]; omega⟩
   ·obtain rfl:i=W.length:=(by omega);have hE:=HE.out.1;rw [List.take_length] at hE;have HE3:=Lib.hid (And.intro hE HE.out.2);have hI3:=HI3.out;rw [Nat.sub_self] at hI3;have HI3':=Lib.hid hI3;have BC:=(HF.out.2.block w.heap.size HNT.out.2.2 HNT.out.2.1).trans HBC.out;have BCr:Blk wr w.heap.size 145 (cdCs cd (ptA p)):=BC;obtain ⟨b1,o1,b2,o2,pl,pc,pn,kl,kc,KA,ks,hP⟩:=HX.out.pack HM.out.bel HC.out;obtain ⟨rfl,⟨lt1,lt2,lt3,lt4⟩,c4,p0,p1,hks,hpk,-⟩:=hP;have hkl:kl=kn:=(by have:=hks.len; rw [HKN.out,hpk]; exact this.symm);have j0:(0:Int)≤(cd.2.1:Int):=(by omega);have j1:(cd.2.1:Int) < (pl:Int):=(by omega);have g0:=HM.out.que.blk.cell 0;simp only [List.getElem?_toArray,List.getElem?_cons_zero] at g0;clear hE hI3 BC hks hpk;unfold cdCs at BCr;have cBCr:=BCr.cell;have fBCr:=BCr.frozen;have lBCr:=BCr.lt;go_upto_region 12 with fail
    go_quiet (fail)
    clear cBCr fBCr lBCr;have HDQ:=below_drewN (Below.refl wr.heap.size wr) nq;have HM5:=Lib.hid (HM.out.via HDQ);have HF5:=Lib.hid (And.intro HF.out.1 (HF.out.2.trans2 (Frq.bel (S:=TryS tg1 st2.lists) HDQ) fun b _ h=>h));clear HDQ HM HF c4 p0 p1 g0 BCr;generalize wr.drewN nq=w5 at *;subst hkl;go_wp2_with fail
    go_loopw [86] (fun q wz=>∃ (k:Nat) (st4:LsS) (tg4:Nat→Tg) (qv4:Value) (F4:WtK→Option Value),q=.int .i64 (k:Int)∧k≤kl∧Hid (LsM w0 bl lb bs bw (some ⟨b1,o1,none⟩) n c root (most:Int) tg4 st4 qv4 vs1 F4 wz)∧Hid (LInv nd most base st4 0 (kl - k))∧Hid (st4=(List.range k).foldl (fun s i=>firstL nd (cd.1,cd.2.1,Rk.inc cd.2.2 i) s) st3∧st4.lists=st2.lists)∧Hid ((∀ b,b < wL.heap.size→tg4 b=tg1 b)∧Frq (TryS tg1 st2.lists) wL wz)) (fun q _=>kl - (intOf q).toNat)
    case atStart=>exact ⟨0,st3,tg3,qv3,F3,rfl,Nat.zero_le _,HM5,HI3',Lib.hid ⟨rfl,HE3.out.2⟩,HF5⟩
    case round =>
     obtain ⟨k,st4,tg4,qv4,F4,rfl,hk,HM4,HI4,HE4,HF4⟩:=hrel;clear HM5 HF5
     by_cases hkk:k < kl
     ·have BCz:Blk wr w.heap.size 145 (cdCs cd (ptA p)):=(HF4.out.2.block w.heap.size HNT.out.2.2 HNT.out.2.1).trans HBC.out;have hal:=((Below.refl wr.heap.size wr).al (.cells #[.int .i64 (cd.1:Int),.int .i64 (cd.2.1:Int),.int .i64 (cd.2.2.1:Int),.int .i64 (cd.2.2.2.1:Int),.int .i64 (cd.2.2.2.2.1:Int),.int .i64 (cd.2.2.2.2.2:Int),.pointer (ptA p)] 145)).setCell (p:=⟨wr.heap.size,2+k,none⟩) (Nat.le_refl _) (.int .i64 ((cd.2.2.get k:Int)+1));have BX:=Blk.new wr 145 #[.int .i64 (cd.1:Int),.int .i64 (cd.2.1:Int),.int .i64 (cd.2.2.1:Int),.int .i64 (cd.2.2.2.1:Int),.int .i64 (cd.2.2.2.2.1:Int),.int .i64 (cd.2.2.2.2.2:Int),.pointer (ptA p)];have HM6:=Lib.hid (HM4.out.via hal);have HF6:=Lib.hid (HF4.out.2.trans2 (Frq.bel (S:=TryS tg1 st2.lists) hal) fun b _ h=>h);have HZ6:=Lib.hid (show wL.heap.size≤((wr.alloc (.cells #[.int .i64 (cd.1:Int),.int .i64 (cd.2.1:Int),.int .i64 (cd.2.2.1:Int),.int .i64 (cd.2.2.2.1:Int),.int .i64 (cd.2.2.2.2.1:Int),.int .i64 (cd.2.2.2.2.2:Int),.pointer (ptA p)] 145)).setCell ⟨wr.heap.size,2+k,none⟩ (.int .i64 ((cd.2.2.get k:Int)+1))).heap.size from by have:=HF4.out.2.size; have:=hal.size; omega);have rc:=rank_cell (c:=cd) (p:=ptA p) BX (i:=k) (by omega);have fx:=BX.frozen;have k0:(0:Int)≤(k:Int):=(by omega);have k4:(k:Int) < 4:=(by omega);have k1:(k:Int) < (kl:Int):=(by omega);have hrk:=HR.out k (by rw [← HKN.out]; exact hkk);have HNX:=Lib.hid (show CdOk nd most (cd.1,cd.2.1,Rk.inc cd.2.2 k) from ⟨HC.out.1,HC.out.2.1,Rk.inc_le hrk HC.out.2.2⟩);have hw1:IntKind.i64.wrap ((cd.2.2.get k:Int)+1)=(cd.2.2.get k:Int)+1:=IntWalk.i64_in _ (by omega);have hw2:IntKind.i64.wrap ((k:Int)+1)=(k:Int)+1:=IntWalk.i64_in _ (by omega);have BX':=cd_inc (cd:=cd) (p:=ptA p) BX (i:=k) (by omega);have hI4:=HI4.out;rw [show kl - k=(kl - (k+1))+1 by omega] at hI4;have HI5:=Lib.hid hI4;have HBX:=Lib.hid BX';clear hal BX hrk hI4 BX';unfold cdCs at BCz;have cBCz:=BCz.cell;have fBCz:=BCz.frozen;have lBCz:=BCz.lt;go_upto_region 16 with fail;clear cBCz fBCz lBCz;clear BCz;generalize wr.alloc (.cells #[.int .i64 (cd.1:Int),.int .i64 (cd.2.1:Int),.int .i64 (cd.2.2.1:Int),.int .i64 (cd.2.2.2.1:Int),.int .i64 (cd.2.2.2.2.1:Int),.int .i64 (cd.2.2.2.2.2:Int),.pointer (ptA p)] 145)=wa at *;go_upto_region 17 with fail;clear rc fx hw1;generalize wa.setCell ⟨wr.heap.size,2+k,none⟩ (.int .i64 ((cd.2.2.get k:Int)+1))=w6 at *;have HT:=Lib.hid (first_c w0 bl lb bs bw _ n c root most base nd HX.out (cd.1,cd.2.1,Rk.inc cd.2.2 k) (ptA p) 0 (kl - (k+1)) tg4 st4 qv4 vs1 F4 w6 HM6.out HNX.out HI5.out);have BZ:=HBX.out;unfold cdVal at HT;unfold cdCs at BZ;simp only at HT BZ;have cBZ:=BZ.cell;have fBZ:=BZ.frozen;have lBZ:=BZ.lt;go_wp2_with fail;clear cBZ fBZ lBZ;clear BZ;refine HT.out.mono ?_;clear HT;rintro e w7 ⟨rfl,tg7,qv7,F7,hm7,ht7,hf7⟩;have HM7:=Lib.hid hm7
      have HE7:=Lib.hid (show firstL nd (cd.1,cd.2.1,Rk.inc cd.2.2 k) st4=(List.range (k+1)).foldl (fun s i=>firstL nd (cd.1,cd.2.1,Rk.inc cd.2.2 i) s) st3∧(firstL nd (cd.1,cd.2.1,Rk.inc cd.2.2 k) st4).lists=st2.lists from by
       refine ⟨?_,(firstL_lists nd _ st4).trans HE4.out.2⟩
       rw [List.range_succ,List.foldl_append,← HE4.out.1]; rfl)
      have HI7:=Lib.hid (firstL_inv HX.out.fok HNX.out HI5.out)
      have HF7:=Lib.hid (show (∀ b,b < wL.heap.size→tg7 b=tg1 b)∧Frq (TryS tg1 st2.lists) wL w7 from
       ⟨fun b hb=>(ht7 b (Nat.lt_of_lt_of_le hb HZ6.out)).trans (HF4.out.1 b hb),HF6.out.trans2 hf7 fun b hb hs=>by
        simp only [TryS] at hs ⊢
        rwa [HF4.out.1 b hb,HE4.out.2] at hs⟩)
      clear hm7 ht7 hf7 HM4 HI4 HE4 HF4 HM6 HF6 HZ6 HI5;go_wp2_with fail;exact ⟨⟨k+1,firstL nd (cd.1,cd.2.1,Rk.inc cd.2.2 k) st4,tg7,qv7,F7,by go_num,by omega,HM7,HI7,HE7,HF7⟩,by simp [intOf]; omega⟩
     ·obtain rfl:k=kl:=(by omega)
      have HTK:=Lib.hid (show takeL nd most (cd,t) st=st4 from by
       unfold takeL
       rw [if_neg HFU.out,← HKN.out,HE4.out.1,HE3.out.1,HS2.out,HWD.out,HMM.out])
      have HFN:=Lib.hid (show (∀ b,b < w.heap.size→tg4 b=tg b)∧Frq (fun b=>tg b≠.free∧tg b≠.tree) w wr from by
       have hwl2:∀ b,b < w.heap.size→b < wL.heap.size:=fun b hb=>Nat.lt_trans hb HNT.out.2.2
       refine ⟨fun b hb=>(HF4.out.1 b (hwl2 b hb)).trans (HT6.out b hb),HFL.out.trans2 HF4.out.2 fun b hb hs=>?_⟩
       rw [← HT6.out b hb]; exact hs.ne)
      go_wp2_with fail;refine bodyPost_end (v:=.tuple #[]) (by simp [results,Tryz.results69,go_sem]) rfl ?_;rw [HQQ.out,HTK.out];exact ⟨rfl,tg4,qv4,vs1,F4,HM4.out,HFN.out.1,HFN.out.2⟩
end Go.Proofs.YtfcihnpmeabacaaGreatDoor
