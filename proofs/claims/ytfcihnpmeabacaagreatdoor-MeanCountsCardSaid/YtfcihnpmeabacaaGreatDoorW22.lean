/- Texts TQ, TO, laid together. -/
import Derived.Test.YtfcihnpmeabacaaGreatDoorW21
import Derived.Test.YtfcihnpmeabacaaGreatDoorW20
import Derived.Test.YtfcihnpmeabacaaGreatDoorW10
import Derived.Laws.StructEq
namespace Go.Proofs.YtfcihnpmeabacaaGreatDoor
open Go.RowKit
def CdOk (nd:List NdI) (most:Nat) (c:Cand):Prop:=c.1 < nd.length∧c.2.1 < (ndAt nd c.1).2.length∧∀ i,c.2.2.get i≤most
def FoK (nd:List NdI):Prop:=KidsIn nd∧∀ v,∀ p∈(ndAt nd v).2,p.2.length≤4∧0≤p.1
def sumL (L:List (List CT)):Nat:=(L.map List.length).sum
structure LInv (nd:List NdI) (most base:Nat) (st:LsS) (hand rem:Nat):Prop where
 len:st.lists.length=nd.length
 lst:∀ v,(lstAt st.lists v).length≤most∧∀ t∈lstAt st.lists v,t.Wf∧t.size≤5000
 qok:∀ x∈st.q,CdOk nd most x.1∧(∀ i,i < (packOf nd x.1).2.length→x.1.2.2.get i < most)∧x.2.Wf∧x.2.size≤20001
 wok:∀ p∈st.waits,∀ c∈p.2,CdOk nd most c
 cnt:st.q.length+wSum st.waits+hand≤st.seen.length
 scn:st.seen.length+rem≤base+4*sumL st.lists
 wk:WOk st.waits
theorem packOf_mem {nd:List NdI} {most:Nat} {c:Cand} (h:CdOk nd most c):packOf nd c∈(ndAt nd c.1).2:=by
 unfold packOf;rw [List.getElem?_eq_getElem h.2.1];exact List.getElem_mem h.2.1
theorem szL_le {m:Int}:∀ {l:List CT},(∀ t∈l,t.size≤m)→szL l≤m*l.length
 | [],_=>by simp [szL]
 | a::l,h=>by
  have h1:=h a (List.mem_cons_self ..);have h2:=szL_le (l:=l) fun t ht=>h t (List.mem_cons_of_mem _ ht)
  rw [szL_cons,List.length_cons];have:m*((l.length+1:Nat):Int)=m*l.length+m:=(by rw [Int.natCast_add,Int.mul_add]; simp);omega
theorem coll_inr {L:List (List CT)} {r:Rk}:∀ {ks:List Int} {i:Nat} {l:List CT},coll L r i ks=.inr l→l.length=ks.length∧(∀ t∈l,∃ v,t∈lstAt L v)∧∀ j,j < ks.length→∃ v,r.get (i+j) < (lstAt L v).length
 | [],i,l,h=>by
  simp only [coll,Sum.inr.injEq] at h;subst h; exact ⟨rfl,fun t ht=>absurd ht List.not_mem_nil,fun j hj=>absurd hj (Nat.not_lt_zero _)⟩
 | k::ks,i,l,h=>by
  unfold coll at h;cases hx:(lstAt L k.toNat)[r.get i]? with
  | none=>rw [hx] at h; simp at h
  | some x =>
   rw [hx] at h;cases hc:coll L r (i+1) ks with
   | inl w=>rw [hc] at h; simp at h
   | inr m =>
    rw [hc] at h;simp only [Sum.inr.injEq] at h;subst h;obtain ⟨h1,h2,h3⟩:=coll_inr hc;refine ⟨by simp [h1],fun t ht=>?_,fun j hj=>?_⟩
    ·rcases List.mem_cons.1 ht with rfl | ht
     ·exact ⟨k.toNat,List.mem_of_getElem? hx⟩
     ·exact h2 t ht
    ·cases j with
     | zero=>exact ⟨k.toNat,(List.getElem?_eq_some_iff.1 hx).1⟩
     | succ j =>
      obtain ⟨v,hv⟩:=h3 j (by simpa using hj);exact ⟨v,by rw [show i+(j+1)=i+1+j by omega]; exact hv⟩
theorem tryL_lists (nd:List NdI) (c:Cand) (st:LsS):(tryL nd c st).lists=st.lists∧(tryL nd c st).seen=st.seen:=by
 unfold tryL; split <;> exact ⟨rfl,rfl⟩
theorem tryL_inv {nd:List NdI} {most base:Nat} {st:LsS} {hand rem:Nat} (hf:FoK nd) {c:Cand} (hc:CdOk nd most c) (h:LInv nd most base st (hand+1) rem):LInv nd most base (tryL nd c st) hand rem:=by
 unfold tryL
 split
 ·next k hk =>
  refine ⟨h.len,h.lst,h.qok,fun p hp d hd=>?_,?_,h.scn,h.wk.add k c⟩
  ·rcases wMem_add p hp d hd with rfl | ⟨q,hq,hd⟩
   ·exact hc
   ·exact h.wok q hq d hd
  ·have:=h.cnt;simp only [wSum_add]; omega
 ·next ks hk =>
  obtain ⟨h1,h2,h3⟩:=coll_inr hk;have hp:=hf.2 c.1 _ (packOf_mem hc)
  have hall:∀ t∈ks,t.Wf∧t.size≤5000:=fun t ht=>by
   obtain ⟨v,hv⟩:=h2 t ht;exact (h.lst v).2 t hv
  have hsz:=szL_le (m:=5000) fun t ht=>(hall t ht).2
  have hl4:ks.length≤4:=(by rw [h1]; exact hp.1);refine ⟨h.len,h.lst,fun x hx=>?_,h.wok,?_,h.scn,h.wk⟩
  ·have hx:=upQ_mem _ _ _ (Nat.le_refl _) x hx
   rcases List.mem_append.1 hx with hx | hx
   ·exact h.qok x hx
   ·rw [List.mem_singleton.1 hx];refine ⟨hc,fun i hi=>?_,.mk _ _ ks (fun t ht=>(hall t ht).1) hl4 (fun h=>by have:=hp.2; omega),?_⟩
    ·obtain ⟨v,hv⟩:=h3 i hi;rw [Nat.zero_add] at hv;exact Nat.lt_of_lt_of_le hv (h.lst v).1
    show 1+szL ks≤20001
    have:(5000:Int)*ks.length≤5000*4:=(by omega);omega
  ·have:=h.cnt;simp only [upQ_len _ _ _ (Nat.le_refl _),List.length_append,List.length_singleton]; omega
theorem firstL_lists (nd:List NdI) (c:Cand) (st:LsS):(firstL nd c st).lists=st.lists:=by
 unfold firstL; split
 ·rfl
 ·exact (tryL_lists nd c _).1
theorem firstL_inv {nd:List NdI} {most base:Nat} {st:LsS} {hand rem:Nat} (hf:FoK nd) {c:Cand} (hc:CdOk nd most c) (h:LInv nd most base st hand (rem+1)):LInv nd most base (firstL nd c st) hand rem:=by
 unfold firstL
 split
 ·exact ⟨h.len,h.lst,h.qok,h.wok,h.cnt,by have:=h.scn; omega,h.wk⟩
 ·refine tryL_inv hf hc ⟨h.len,h.lst,h.qok,h.wok,?_,?_,h.wk⟩
  ·have:=h.cnt; simp only [List.length_append,List.length_singleton]; omega
  ·have:=h.scn; simp only [List.length_append,List.length_singleton]; omega
theorem sumL_set:∀ (L:List (List CT)) (v:Nat) (l:List CT) (t:CT),L[v]?=some l→sumL (L.set v (l++[t]))=sumL L+1
 | [],v,l,t,h=>by simp at h
 | a::L,0,l,t,h=>by
  simp only [List.getElem?_cons_zero,Option.some.injEq] at h;subst h;simp [sumL]; omega
 | a::L,v+1,l,t,h=>by
  have:=sumL_set L v l t (by simpa using h);unfold sumL at this ⊢;simp only [List.set_cons_succ,List.map_cons,List.sum_cons,this]; omega
theorem Rk.inc_le {r:Rk} {i m:Nat} (hi:r.get i < m) (h:∀ j,r.get j≤m) (j:Nat):(r.inc i).get j≤m:=by
 have h0:=h 0;have h1:=h 1;have h2:=h 2;have h3:=h 3;obtain ⟨a,b,c,d⟩:=r
 match i,hi,j with
 | 0,hi,0=>simp [Rk.inc,Rk.get] at *; omega
 | 0,hi,1=>simp [Rk.inc,Rk.get] at *; omega
 | 0,hi,2=>simp [Rk.inc,Rk.get] at *; omega
 | 0,hi,j+3=>simp [Rk.inc,Rk.get] at *; omega
 | 1,hi,0=>simp [Rk.inc,Rk.get] at *; omega
 | 1,hi,1=>simp [Rk.inc,Rk.get] at *; omega
 | 1,hi,2=>simp [Rk.inc,Rk.get] at *; omega
 | 1,hi,j+3=>simp [Rk.inc,Rk.get] at *; omega
 | 2,hi,0=>simp [Rk.inc,Rk.get] at *; omega
 | 2,hi,1=>simp [Rk.inc,Rk.get] at *; omega
 | 2,hi,2=>simp [Rk.inc,Rk.get] at *; omega
 | 2,hi,j+3=>simp [Rk.inc,Rk.get] at *; omega
 | i+3,hi,0=>simp [Rk.inc,Rk.get] at *; omega
 | i+3,hi,1=>simp [Rk.inc,Rk.get] at *; omega
 | i+3,hi,2=>simp [Rk.inc,Rk.get] at *; omega
 | i+3,hi,j+3=>simp [Rk.inc,Rk.get] at *; omega
theorem foldTry_inv {nd:List NdI} {most base:Nat} (hf:FoK nd):∀ (l:List Cand) (st:LsS) (hand rem:Nat),(∀ c∈l,CdOk nd most c)→LInv nd most base st (l.length+hand) rem →
 LInv nd most base (l.foldl (fun s c=>tryL nd c s) st) hand rem∧(l.foldl (fun s c=>tryL nd c s) st).lists=st.lists
 | [],st,hand,rem,_,h=>⟨by simpa using h,rfl⟩
 | c::l,st,hand,rem,hc,h=>by
  obtain ⟨a,b⟩:=foldTry_inv hf l (tryL nd c st) hand rem (fun d hd=>hc d (List.mem_cons_of_mem _ hd)) (tryL_inv hf (hc c (List.mem_cons_self ..)) (by rw [List.length_cons] at h; rwa [show l.length+hand+1=l.length+1+hand by omega]));exact ⟨a,b.trans (tryL_lists nd c st).1⟩
theorem foldFirst_inv {nd:List NdI} {most base:Nat} (hf:FoK nd) (f:Nat→Cand):∀ (l:List Nat) (st:LsS) (rem:Nat),(∀ i∈l,CdOk nd most (f i))→LInv nd most base st 0 (l.length+rem) →
 LInv nd most base (l.foldl (fun s i=>firstL nd (f i) s) st) 0 rem∧(l.foldl (fun s i=>firstL nd (f i) s) st).lists=st.lists
 | [],st,rem,_,h=>⟨by simpa using h,rfl⟩
 | i::l,st,rem,hc,h=>by
  obtain ⟨a,b⟩:=foldFirst_inv hf f l (firstL nd (f i) st) rem (fun d hd=>hc d (List.mem_cons_of_mem _ hd)) (firstL_inv hf (hc i (List.mem_cons_self ..)) (by rw [List.length_cons] at h; rwa [show l.length+rem+1=l.length+1+rem by omega]));exact ⟨a,b.trans (firstL_lists nd (f i) st)⟩
theorem takeL_inv {nd:List NdI} {most base:Nat} {st:LsS} (hf:FoK nd) {x:QE} (hx:CdOk nd most x.1) (hr:∀ i,i < (packOf nd x.1).2.length→x.1.2.2.get i < most) (hw:x.2.Wf) (hs:x.2.size≤5000) (h:LInv nd most base st 0 0) :
 LInv nd most base (takeL nd most x st) 0 0∧((lstAt st.lists x.1.1).length=most→takeL nd most x st=st)∧((lstAt st.lists x.1.1).length≠most→sumL (takeL nd most x st).lists=sumL st.lists+1):=by
 unfold takeL
 by_cases hm:(lstAt st.lists x.1.1).length=most
 ·rw [if_pos hm]; exact ⟨h,fun _=>rfl,fun hn=>absurd hm hn⟩
 ·rw [if_neg hm];have hvl:x.1.1 < st.lists.length:=(by rw [h.len]; exact hx.1)
  have hget:st.lists[x.1.1]?=some (lstAt st.lists x.1.1):=by
   unfold lstAt;rw [List.getD_eq_getElem?_getD,List.getElem?_eq_getElem hvl]; rfl
  have hset:∀ v,lstAt (st.lists.set x.1.1 (lstAt st.lists x.1.1++[x.2])) v=if v=x.1.1 then lstAt st.lists x.1.1++[x.2] else lstAt st.lists v:=fun v=>by
   unfold lstAt;rw [List.getD_eq_getElem?_getD]
   by_cases e:v=x.1.1
   ·rw [if_pos e,e,List.getElem?_set_self hvl]; rfl
   ·rw [if_neg e,List.getElem?_set_ne (Ne.symm e),List.getD_eq_getElem?_getD]
  have hsum:=sumL_set st.lists x.1.1 _ x.2 hget;have hp:=hf.2 x.1.1 _ (packOf_mem hx)
  have i1:LInv nd most base { st with lists:=st.lists.set x.1.1 (lstAt st.lists x.1.1++[x.2]),waits:=wDel st.waits (x.1.1,(lstAt st.lists x.1.1).length) } ((wGet st.waits (x.1.1,(lstAt st.lists x.1.1).length)).length+0) (packOf nd x.1).2.length:=by
   refine ⟨by simpa using h.len,fun v=>?_,h.qok,fun p hp c hc=>h.wok p (wMem_del p hp) c hc,?_,?_,h.wk.del _⟩
   ·show (lstAt (st.lists.set x.1.1 (lstAt st.lists x.1.1++[x.2])) v).length≤most∧∀ t∈lstAt (st.lists.set x.1.1 (lstAt st.lists x.1.1++[x.2])) v,t.Wf∧t.size≤5000
    rw [hset]
    by_cases e:v=x.1.1
    ·rw [if_pos e];refine ⟨by rw [List.length_append,List.length_singleton]; have:=(h.lst x.1.1).1; omega,fun t ht=>?_⟩
     rcases List.mem_append.1 ht with ht | ht
     ·exact (h.lst x.1.1).2 t ht
     ·rw [List.mem_singleton.1 ht]; exact ⟨hw,hs⟩
    ·rw [if_neg e]; exact h.lst v
   ·have:=h.cnt;have:=wSum_del st.waits (x.1.1,(lstAt st.lists x.1.1).length);show st.q.length+wSum (wDel st.waits (x.1.1,(lstAt st.lists x.1.1).length))+_≤st.seen.length
    omega
   ·have:=h.scn;show st.seen.length+(packOf nd x.1).2.length≤base+4*sumL (st.lists.set x.1.1 (lstAt st.lists x.1.1++[x.2]))
    rw [hsum]; have:=hp.1; omega
  obtain ⟨a,b⟩:=foldTry_inv hf _ _ 0 _ (fun c hc=>by obtain ⟨p,hp,hc⟩:=wGet_mem hc; exact h.wok p hp c hc) i1;obtain ⟨c,d⟩:=foldFirst_inv (most:=most) (base:=base) hf (fun i=>(x.1.1,x.1.2.1,Rk.inc x.1.2.2 i)) (List.range (packOf nd x.1).2.length) _ 0 (fun i hi=>⟨hx.1,hx.2.1,Rk.inc_le (hr i (List.mem_range.1 hi)) hx.2.2⟩) (by rw [List.length_range]; exact a);exact ⟨c,fun e=>absurd e hm,fun _=>by rw [d,b]; exact hsum⟩
theorem sumL_le {m:Nat}:∀ (L:List (List CT)),(∀ v,(lstAt L v).length≤m)→sumL L≤L.length*m
 | [],_=>by simp [sumL]
 | a::L,h=>by
  have h0:=h 0;have ih:=sumL_le L fun v=>h (v+1)
  have h0':a.length≤m:=h0;unfold sumL at ih ⊢;rw [List.map_cons,List.sum_cons,List.length_cons,Nat.succ_mul];omega
theorem LInv.pop {nd:List NdI} {most base:Nat} {st:LsS} {q:List QE} (h:LInv nd most base st 0 0) (hl:q.length≤st.q.length) (hq:∀ x∈q,x∈st.q):LInv nd most base { st with q:=q } 0 0 :=
 ⟨h.len,h.lst,fun x hx=>h.qok x (hq x hx),h.wok,by have:=h.cnt; show q.length+wSum st.waits+0≤st.seen.length; omega,h.scn,h.wk⟩
theorem popQ_cut {q:List QE} {x:QE} (h:(popQ q).getLast?=some x):popQ q=(popQ q).dropLast++[x]∧x∈q∧(∀ y∈(popQ q).dropLast,y∈q)∧(popQ q).dropLast.length+1=q.length:=by
 have hne:popQ q≠[]:=fun e=>by rw [e] at h; simp at h
 have hx:(popQ q).getLast hne=x:=(by rw [List.getLast?_eq_some_getLast hne] at h; exact Option.some.inj h);have hc:popQ q=(popQ q).dropLast++[x]:=(by rw [← hx]; exact (List.dropLast_concat_getLast hne).symm);refine ⟨hc,popQ_mem x (by rw [hc]; simp),fun y hy=>popQ_mem y (by have h:=List.mem_append_left [x] hy; rwa [← hc] at h),?_⟩;have:=popQ_len q;have h2:=congrArg List.length hc;rw [List.length_append,List.length_singleton,this] at h2;omega
theorem runL_ex {nd:List NdI} {root most base:Nat} (hf:FoK nd):∀ (a b:Nat) (st:LsS),nd.length*most - sumL st.lists≤a→st.q.length≤b→LInv nd most base st 0 0→∃ d r,runL nd root most d st=some r:=by
 intro a
 induction a with
 | zero =>
  intro b
  induction b with
  | zero =>
   intro st _ hb _;exact ⟨1,st,by rw [runL,if_pos (Or.inl (List.eq_nil_of_length_eq_zero (by omega)))]⟩
  | succ b ih =>
   intro st ha hb hi
   by_cases hend:st.q=[]∨most≤(lstAt st.lists root).length
   ·exact ⟨1,st,by rw [runL,if_pos hend]⟩
   ·cases hp:(popQ st.q).getLast? with
    | none=>exact ⟨1,st,by rw [runL,if_neg hend,hp]⟩
    | some x =>
     obtain ⟨h1,h2,h3,h4⟩:=popQ_cut hp
     by_cases hbig:5000 < x.2.size
     ·exact ⟨1,{ st with q:=(popQ st.q).dropLast },by rw [runL,if_neg hend,hp]; simp only [if_pos hbig]⟩
     ·have hi2:=hi.pop (q:=(popQ st.q).dropLast) (by omega) h3;have hx:=hi.qok x h2;obtain ⟨t1,t2,t3⟩:=takeL_inv hf (x:=x) hx.1 hx.2.1 hx.2.2.1 (by omega) hi2
      by_cases hfull:(lstAt st.lists x.1.1).length=most
      ·have e:=t2 hfull;obtain ⟨d,r,hd⟩:=ih { st with q:=(popQ st.q).dropLast } ha (by show (popQ st.q).dropLast.length≤b; omega) hi2;exact ⟨d+1,r,by rw [runL,if_neg hend,hp]; simp only [if_neg hbig,e]; exact hd⟩
      ·have e:=t3 hfull;have hle:=sumL_le _ fun v=>(t1.lst v).1
       rw [t1.len] at hle;have e':sumL (takeL nd most x { st with q:=(popQ st.q).dropLast }).lists=sumL st.lists+1:=e;omega
 | succ a iha =>
  intro b
  induction b with
  | zero =>
   intro st _ hb _;exact ⟨1,st,by rw [runL,if_pos (Or.inl (List.eq_nil_of_length_eq_zero (by omega)))]⟩
  | succ b ih =>
   intro st ha hb hi
   by_cases hend:st.q=[]∨most≤(lstAt st.lists root).length
   ·exact ⟨1,st,by rw [runL,if_pos hend]⟩
   ·cases hp:(popQ st.q).getLast? with
    | none=>exact ⟨1,st,by rw [runL,if_neg hend,hp]⟩
    | some x =>
     obtain ⟨h1,h2,h3,h4⟩:=popQ_cut hp
     by_cases hbig:5000 < x.2.size
     ·exact ⟨1,{ st with q:=(popQ st.q).dropLast },by rw [runL,if_neg hend,hp]; simp only [if_pos hbig]⟩
     ·have hi2:=hi.pop (q:=(popQ st.q).dropLast) (by omega) h3;have hx:=hi.qok x h2;obtain ⟨t1,t2,t3⟩:=takeL_inv hf (x:=x) hx.1 hx.2.1 hx.2.2.1 (by omega) hi2
      by_cases hfull:(lstAt st.lists x.1.1).length=most
      ·have e:=t2 hfull;obtain ⟨d,r,hd⟩:=ih { st with q:=(popQ st.q).dropLast } ha (by show (popQ st.q).dropLast.length≤b; omega) hi2;exact ⟨d+1,r,by rw [runL,if_neg hend,hp]; simp only [if_neg hbig,e]; exact hd⟩
      ·have e':sumL (takeL nd most x { st with q:=(popQ st.q).dropLast }).lists=sumL st.lists+1:=t3 hfull;obtain ⟨d,r,hd⟩:=iha _ (takeL nd most x { st with q:=(popQ st.q).dropLast }) (by omega) (Nat.le_refl _) t1;exact ⟨d+1,r,by rw [runL,if_neg hend,hp]; simp only [if_neg hbig]; exact hd⟩
end Go.Proofs.YtfcihnpmeabacaaGreatDoor
namespace Go.Proofs.YtfcihnpmeabacaaGreatDoor
open Go.RowKit
theorem part_int {xs:Array Value} {o:Nat} {k:IntKind} {n:Int} (h:xs[o]?=some (.int k n)) (w:World):(Go.part 3 xs o).run Tryz.prog w=.ok (.int k n) w:=by
 have hi:Tryz.prog.underlying 3=some (.int .i64):=(by kernel_rfl);simp [Go.part,go_sem,h]
set_option maxHeartbeats 1000000 in
theorem arr_eq (a0 a1 a2 a3 b0 b1 b2 b3:Int) (w:World) (d:Nat):(Op.equalIn (d+2) 143 (.agg #[.int .i64 a0,.int .i64 a1,.int .i64 a2,.int .i64 a3]) (.agg #[.int .i64 b0,.int .i64 b1,.int .i64 b2,.int .i64 b3])).run Tryz.prog w=.ok (decide (a0=b0∧a1=b1∧a2=b2∧a3=b3)) w:=by
 have hu:Tryz.prog.underlying 143=some (.array 4 3):=(by kernel_rfl);have hi:Tryz.prog.underlying 3=some (.int .i64):=(by kernel_rfl);have hs:∀ w,(sizeOf 3).run Tryz.prog w=.ok 1 w:=fun w=>by kernel_rfl
 have he:∀ (a b:Int) (w:World),(Op.equalIn (d+1) 3 (.int .i64 a) (.int .i64 b)).run Tryz.prog w=.ok (a==b) w:=fun a b w=>run_equalIn_int w d 3 .i64 .i64 a b hi
 unfold Op.equalIn;simp only [Sem.run_bind,run_underlying hu,Result.andThen_ok,hs];have hr:List.range' 0 4 1=[0,1,2,3]:=rfl;rw [Std.Legacy.Range.forIn_eq_forIn_range'];have hz:(Std.Legacy.Range.size [0:4])=4:=rfl;simp only [hz];rw [show (List.range' [0:4].start 4 [0:4].step)=[0,1,2,3] from rfl];simp only [List.forIn_cons,List.forIn_nil,Sem.run_bind,Nat.mul_one];have p0:∀ (x y z u:Int) (w:World),(Go.part 3 #[.int .i64 x,.int .i64 y,.int .i64 z,.int .i64 u] 0).run Tryz.prog w=.ok (.int .i64 x) w:=fun _ _ _ _ w=>part_int rfl w
 have p1:∀ (x y z u:Int) (w:World),(Go.part 3 #[.int .i64 x,.int .i64 y,.int .i64 z,.int .i64 u] 1).run Tryz.prog w=.ok (.int .i64 y) w:=fun _ _ _ _ w=>part_int rfl w
 have p2:∀ (x y z u:Int) (w:World),(Go.part 3 #[.int .i64 x,.int .i64 y,.int .i64 z,.int .i64 u] 2).run Tryz.prog w=.ok (.int .i64 z) w:=fun _ _ _ _ w=>part_int rfl w
 have p3:∀ (x y z u:Int) (w:World),(Go.part 3 #[.int .i64 x,.int .i64 y,.int .i64 z,.int .i64 u] 3).run Tryz.prog w=.ok (.int .i64 u) w:=fun _ _ _ _ w=>part_int rfl w
 by_cases h0:a0=b0
 ·by_cases h1:a1=b1
  ·by_cases h2:a2=b2
   ·by_cases h3:a3=b3
    ·simp [p0,p1,p2,p3,he,h0,h1,h2,h3]
    ·have e3:(a3==b3)=false:=(by simpa using h3);simp [p0,p1,p2,p3,he,h0,h1,h2,h3,e3]
   ·have e3:(a2==b2)=false:=(by simpa using h2);simp [p0,p1,p2,p3,he,h0,h1,h2,e3]
  ·have e3:(a1==b1)=false:=(by simpa using h1);simp [p0,p1,p2,p3,he,h0,h1,e3]
 ·have e3:(a0==b0)=false:=(by simpa using h0);simp [p0,he,h0,e3]
theorem arr_eq9 (a0 a1 a2 a3 b0 b1 b2 b3:Int) (w:World):(Op.equalIn 9999 143 (.agg #[.int .i64 a0,.int .i64 a1,.int .i64 a2,.int .i64 a3]) (.agg #[.int .i64 b0,.int .i64 b1,.int .i64 b2,.int .i64 b3])).run Tryz.prog w=.ok (decide (a0=b0∧a1=b1∧a2=b2∧a3=b3)) w:=arr_eq a0 a1 a2 a3 b0 b1 b2 b3 w 9997
theorem nil_eq9 (w:World):(Op.equalIn 9999 138 (.pointer none) (.pointer none)).run Tryz.prog w=.ok true w:=by
 have hu:Tryz.prog.underlying 138=some (.pointer 141):=(by kernel_rfl);unfold Op.equalIn;simp [go_sem,run_underlying hu]
set_option maxHeartbeats 1000000 in
theorem cd_eq (c d:Cand) (w:World):(Op.equal 145 (cdVal c none) (cdVal d none)).run Tryz.prog w=.ok (decide (c=d)) w:=by
 have h:(Op.equalIn 10000 145 (cdVal c none) (cdVal d none)).run Tryz.prog w=.ok (decide (c=d)) w:=by
  obtain ⟨a,b,a0,a1,a2,a3⟩:=c;obtain ⟨a',b',b0,b1,b2,b3⟩:=d;unfold cdVal;simp [go_sem,arr_eq9,nil_eq9]
  by_cases e1:a=a'
  ·by_cases e2:b=b'
   ·by_cases e3:a0=b0
    ·by_cases e4:a1=b1
     ·by_cases e5:a2=b2
      ·by_cases e6:a3=b3
       ·simp [e1,e2,e3,e4,e5,e6]
       ·have n6:¬ (a3:Int)=(b3:Int):=(by omega);simp [e1,e2,e3,e4,e5,e6,n6]
      ·have n6:¬ (a2:Int)=(b2:Int):=(by omega);simp [e1,e2,e3,e4,e5,n6]
     ·have n6:¬ (a1:Int)=(b1:Int):=(by omega);simp [e1,e2,e3,e4,n6]
    ·have n6:¬ (a0:Int)=(b0:Int):=(by omega);simp [e1,e2,e3,n6]
   ·have n6:¬ (b:Int)=(b':Int):=(by omega);simp [e1,e2,n6]
  ·have n6:¬ (a:Int)=(a':Int):=(by omega);simp [e1,n6]
 exact h
theorem ask_cd (c:Cand) (w:World):∀ (es:List MapEntry) (i:Nat),(∀ e∈es,∃ d,e.key=cdVal d none) →
 ((Instr.findAsking 145 (cdVal c none) es i).run Tryz.prog w=.ok none w∧∀ e∈es,e.key≠cdVal c none)∨∃ j e,(Instr.findAsking 145 (cdVal c none) es i).run Tryz.prog w=.ok (some (i+j,e.val)) w∧es[j]?=some e∧e.key=cdVal c none
 | [],i,_=>Or.inl ⟨rfl,fun e he=>absurd he List.not_mem_nil⟩
 | e::es,i,h=>by
  obtain ⟨d,hd⟩:=h e (List.mem_cons_self ..)
  by_cases hcd:c=d
  ·subst hcd;refine Or.inr ⟨0,e,?_,rfl,hd⟩;simp [Instr.findAsking,hd,Sem.run_bind,cd_eq]
  ·have hne:e.key≠cdVal c none:=by
    rw [hd]; intro he
    apply hcd
    obtain ⟨a,b,a0,a1,a2,a3⟩:=c;obtain ⟨a',b',b0,b1,b2,b3⟩:=d;simp [cdVal] at he;simp only [Prod.mk.injEq];omega
   have hstep:∀ w,(Instr.findAsking 145 (cdVal c none) (e::es) i).run Tryz.prog w=(Instr.findAsking 145 (cdVal c none) es (i+1)).run Tryz.prog w:=fun w=>by
    simp [Instr.findAsking,hd,Sem.run_bind,cd_eq,hcd]
   rcases ask_cd c w es (i+1) (fun x hx=>h x (List.mem_cons_of_mem _ hx)) with ⟨h1,h2⟩ | ⟨j,x,h1,h2,h3⟩
   ·exact Or.inl ⟨(hstep w).trans h1,fun x hx=>by
     rcases List.mem_cons.1 hx with rfl | hx
     ·exact hne
     ·exact h2 x hx⟩
   ·exact Or.inr ⟨j+1,x,(hstep w).trans (by rw [h1,show i+1+j=i+(j+1) by omega]),h2,h3⟩
theorem find_cd (c:Cand) (w:World) (es:List MapEntry) (h:∀ e∈es,∃ d,e.key=cdVal d none) :
 ((Instr.findKey 145 (cdVal c none) es).run Tryz.prog w=.ok none w∧∀ e∈es,e.key≠cdVal c none)∨∃ j e,(Instr.findKey 145 (cdVal c none) es).run Tryz.prog w=.ok (some (j,e.val)) w∧es[j]?=some e∧e.key=cdVal c none:=by
 have hu:∃ fs,Tryz.prog.underlying 145=some (.struct fs):=⟨Tryz.prog.fieldsOf 145,by kernel_rfl⟩;obtain ⟨fs,hu⟩:=hu
 have hk:∀ (es:List MapEntry),es≠[]→Instr.findNow (.struct fs) (cdVal c none) es 0=none:=by
  intro es hne;cases es with
  | nil=>exact absurd rfl hne
  | cons e es=>simp [Instr.findNow,Instr.sameNow]
 by_cases he:es=[]
 ·subst he;refine Or.inl ⟨?_,fun e he=>absurd he List.not_mem_nil⟩;simp [Instr.findKey,Instr.findNow,run_underlying hu]
 ·have hr:(Instr.findKey 145 (cdVal c none) es).run Tryz.prog w=(Instr.findAsking 145 (cdVal c none) es 0).run Tryz.prog w:=by
   simp [Instr.findKey,Sem.run_bind,run_underlying hu,hk es he]
  rcases ask_cd c w es 0 h with ⟨h1,h2⟩ | ⟨j,x,h1,h2,h3⟩
  ·exact Or.inl ⟨hr.trans h1,h2⟩
  ·exact Or.inr ⟨j,x,hr.trans (by rw [h1,Nat.zero_add]),h2,h3⟩
theorem check_int (em:Bool) (d:Nat) (k:IntKind) (n:Int) (w:World):(Instr.checkKey em (d+1) 3 (.int k n)).run Tryz.prog w=.ok () w:=by
 have hi:Tryz.prog.underlying 3=some (.int .i64):=(by kernel_rfl);simp [Instr.checkKey,Sem.run_bind,run_underlying hi]
theorem check_ptr (em:Bool) (d:Nat) (p:Option Addr) (w:World):(Instr.checkKey em (d+1) 138 (.pointer p)).run Tryz.prog w=.ok () w:=by
 have hu:Tryz.prog.underlying 138=some (.pointer 141):=(by kernel_rfl);simp [Instr.checkKey,Sem.run_bind,run_underlying hu]
theorem check_arr (em:Bool) (d:Nat) (a0 a1 a2 a3:Int) (w:World):(Instr.checkKey em (d+2) 143 (.agg #[.int .i64 a0,.int .i64 a1,.int .i64 a2,.int .i64 a3])).run Tryz.prog w=.ok () w:=by
 have hu:Tryz.prog.underlying 143=some (.array 4 3):=(by kernel_rfl);have hs:∀ w,(sizeOf 3).run Tryz.prog w=.ok 1 w:=fun w=>by kernel_rfl
 unfold Instr.checkKey;simp only [Sem.run_bind,run_underlying hu,Result.andThen_ok];rw [Std.Legacy.Range.forIn_eq_forIn_range'];have hz:(Std.Legacy.Range.size [0:4])=4:=rfl;simp only [hz];rw [show (List.range' [0:4].start 4 [0:4].step)=[0,1,2,3] from rfl];have p0:∀ (w:World),(Go.part 3 #[.int .i64 a0,.int .i64 a1,.int .i64 a2,.int .i64 a3] 0).run Tryz.prog w=.ok (.int .i64 a0) w:=fun w=>part_int rfl w
 have p1:∀ (w:World),(Go.part 3 #[.int .i64 a0,.int .i64 a1,.int .i64 a2,.int .i64 a3] 1).run Tryz.prog w=.ok (.int .i64 a1) w:=fun w=>part_int rfl w
 have p2:∀ (w:World),(Go.part 3 #[.int .i64 a0,.int .i64 a1,.int .i64 a2,.int .i64 a3] 2).run Tryz.prog w=.ok (.int .i64 a2) w:=fun w=>part_int rfl w
 have p3:∀ (w:World),(Go.part 3 #[.int .i64 a0,.int .i64 a1,.int .i64 a2,.int .i64 a3] 3).run Tryz.prog w=.ok (.int .i64 a3) w:=fun w=>part_int rfl w
 simp [Sem.run_bind,hs,p0,p1,p2,p3,check_int]
theorem check_cd (em:Bool) (c:Cand) (w:World):(Instr.checkKey em 10000 145 (cdVal c none)).run Tryz.prog w=.ok () w:=by
 have h1:∀ (k:IntKind) (n:Int) (w:World),(Instr.checkKey em 9999 3 (.int k n)).run Tryz.prog w=.ok () w:=fun k n w=>check_int em 9998 k n w
 have h2:∀ (p:Option Addr) (w:World),(Instr.checkKey em 9999 138 (.pointer p)).run Tryz.prog w=.ok () w:=fun p w=>check_ptr em 9998 p w
 have h3:∀ (a0 a1 a2 a3:Int) (w:World),(Instr.checkKey em 9999 143 (.agg #[.int .i64 a0,.int .i64 a1,.int .i64 a2,.int .i64 a3])).run Tryz.prog w=.ok () w:=fun a0 a1 a2 a3 w=>check_arr em 9997 a0 a1 a2 a3 w
 show (Instr.checkKey em (9999+1) 145 (cdVal c none)).run Tryz.prog w=.ok () w
 unfold Instr.checkKey cdVal;simp [go_sem,h1,h2,h3]
def SeenM (w:World) (b:Nat) (S:List Cand):Prop :=
 ∃ es clock,w.heap[b]?=some (.map es clock)∧(∀ x∈es.toList,∃ c∈S,x.key=cdVal c none∧x.val=.bool true)∧∀ c∈S,∃ x∈es.toList,x.key=cdVal c none
theorem SeenM.made (w:World):SeenM (w.alloc (.map #[] 0)) w.heap.size []:=⟨#[],0,(MapKept.heap_alloc w _).1,by simp,by simp⟩
theorem SeenM.lt {w:World} {b:Nat} {S:List Cand} (h:SeenM w b S):b < w.heap.size:=by
 obtain ⟨es,clock,hb,_⟩:=h;exact (Array.getElem?_eq_some_iff.1 hb).1
theorem SeenM.agr_ {w w':World} {b:Nat} {S:List Cand} (h:SeenM w b S) (e:w'.heap[b]?=w.heap[b]?):SeenM w' b S:=by
 obtain ⟨es,clock,hb,r⟩:=h;exact ⟨es,clock,e.trans hb,r⟩
theorem SeenM.look {w:World} {b:Nat} {S:List Cand} (h:SeenM w b S) (c:Cand):(Instr.lookup 132 (.map (some b)) (cdVal c none) false).run Tryz.prog w=.ok (.bool (decide (c∈S))) w:=by
 obtain ⟨es,clock,hb,h1,h2⟩:=h;have hu:Tryz.prog.underlying 132=some (.map 145 4):=(by kernel_rfl);have hz:∀ w,(zeroValue 4).run Tryz.prog w=.ok (.bool false) w:=fun w=>by kernel_rfl
 have hg:(getObj b).run Tryz.prog w=.ok (.map es clock) w:=MapKept.run_getObj_map hb
 rcases find_cd c w es.toList (fun x hx=>by obtain ⟨d,-,hd,-⟩:=h1 x hx; exact ⟨d,hd⟩) with ⟨hf,hno⟩ | ⟨j,x,hf,hj,hx⟩
 ·have hn:c∉S:=fun hc=>by obtain ⟨x,hx,hk⟩:=h2 c hc; exact hno x hx hk
  simp [Instr.lookup,Sem.run_bind,run_underlying hu,hg,check_cd,hf,hz,hn]
 ·have hm:=List.mem_of_getElem? hj;obtain ⟨d,hd,hk,hv⟩:=h1 x hm
  have hcd:c=d:=by
   rw [hk] at hx;obtain ⟨a,b,a0,a1,a2,a3⟩:=c;obtain ⟨a',b',b0,b1,b2,b3⟩:=d;simp [cdVal] at hx;simp only [Prod.mk.injEq];omega
  have hn:c∈S:=hcd ▸ hd;simp [Instr.lookup,Sem.run_bind,run_underlying hu,hg,check_cd,hf,hv,hn]
theorem SeenM.store {w:World} {b:Nat} {S:List Cand} (h:SeenM w b S) (c:Cand) (hc:c∉S) :
 ∃ w',(Instr.mapUpdate 132 (.map (some b)) (cdVal c none) (.bool true)).run Tryz.prog w=.ok () w'∧SeenM w' b (S++[c])∧w.grownBy w' (some b)∧w'.heap.size=w.heap.size:=by
 obtain ⟨es,clock,hb,h1,h2⟩:=h;have hu:Tryz.prog.underlying 132=some (.map 145 4):=(by kernel_rfl);have hg:(getObj b).run Tryz.prog w=.ok (.map es clock) w:=MapKept.run_getObj_map hb;have hso:∀ o,(setObj b o).run Tryz.prog w=.ok () (ChangeMaps.setBlock w b o):=fun o=>MapKept.run_setObj_map o hb
 rcases find_cd c w es.toList (fun x hx=>by obtain ⟨d,-,hd,-⟩:=h1 x hx; exact ⟨d,hd⟩) with ⟨hf,hno⟩ | ⟨j,x,hf,hj,hx⟩
 ·refine ⟨ChangeMaps.setBlock w b (.map (es.push { key:=cdVal c none,val:=.bool true,born:=clock }) (clock+1)),?_,⟨_,_,ChangeMaps.heap_setBlock_same hb _,fun x hx=>?_,fun d hd=>?_⟩,⟨rfl,rfl,rfl,by simp [ChangeMaps.setBlock],fun i _ hi=>ChangeMaps.heap_setBlock_other hb _ (fun e=>hi (by rw [e]))⟩,by simp [ChangeMaps.setBlock]⟩
  ·simp [Instr.mapUpdate,Sem.run_bind,run_underlying hu,hg,check_cd,hf,hso]
  ·simp only [Array.toList_push,List.mem_append,List.mem_singleton] at hx
   rcases hx with hx | rfl
   ·obtain ⟨d,hd,hk,hv⟩:=h1 x hx;exact ⟨d,List.mem_append_left _ hd,hk,hv⟩
   ·exact ⟨c,by simp,rfl,rfl⟩
  ·rcases List.mem_append.1 hd with hd | hd
   ·obtain ⟨x,hx,hk⟩:=h2 d hd;exact ⟨x,by simp [hx],hk⟩
   ·rw [List.mem_singleton.1 hd];exact ⟨{ key:=cdVal c none,val:=.bool true,born:=clock },by simp,rfl⟩
 ·exfalso
  obtain ⟨d,hd,hk,-⟩:=h1 x (List.mem_of_getElem? hj)
  have hcd:c=d:=by
   rw [hk] at hx;obtain ⟨a,b,a0,a1,a2,a3⟩:=c;obtain ⟨a',b',b0,b1,b2,b3⟩:=d;simp [cdVal] at hx;simp only [Prod.mk.injEq];omega
  exact hc (hcd ▸ hd)
end Go.Proofs.YtfcihnpmeabacaaGreatDoor
