/- Texts TV, TY, EK, SK, SV, RY, laid together. -/
import Derived.Test.YtfcihnpmeabacaaGreatDoorW20
import Derived.Test.YtfcihnpmeabacaaGreatDoorW4
import Derived.Test.YtfcihnpmeabacaaGreatDoorW25
import Derived.Test.YtfcihnpmeabacaaGreatDoorW5
import Derived.Test.YtfcihnpmeabacaaGreatDoorW3
import Derived.Test.YtfcihnpmeabacaaGreatDoorW1
import Derived.Test.YtfcihnpmeabacaaGreatDoorW21
import Derived.Test.YtfcihnpmeabacaaGreatDoorW13
import Derived.Laws.StructEq
import Derived.Laws.CopyOwn
namespace Go.Proofs.YtfcihnpmeabacaaGreatDoor
open Go.RowKit
mutual
def CT.tr:CT→Tr
 | .mk r t _ ks=>if r < 0 then .leaf t.toNat else .node r.toNat (CT.trs ks)
def CT.trs:List CT→List Tr
 | []=>[]
 | a::l=>a.tr::CT.trs l
end
theorem CT.trs_eq:∀ l:List CT,CT.trs l=l.map CT.tr
 | []=>by simp [CT.trs]
 | a::l=>by simp [CT.trs,CT.trs_eq l]
theorem CT.tr_eq (x:CT):x.tr=if x.rule < 0 then .leaf x.term.toNat else .node x.rule.toNat (x.kids.map CT.tr):=by
 cases x with | mk r t s ks =>
  show (CT.mk r t s ks).tr=if r < 0 then .leaf t.toNat else .node r.toNat (ks.map CT.tr)
  rw [CT.tr,CT.trs_eq]
theorem szL_mem {l:List CT} (h:∀ x∈l,x.Wf) {y:CT} (hy:y∈l):y.size≤szL l:=by
 induction l with
 | nil=>cases hy
 | cons a l ih =>
  rw [szL_cons];have h1:=(h a (List.mem_cons_self ..)).pos;have h2:=szL_nn fun x hx=>h x (List.mem_cons_of_mem a hx)
  rcases List.mem_cons.1 hy with rfl | hy
  ·omega
  ·have:=ih (fun x hx=>h x (List.mem_cons_of_mem _ hx)) hy; omega
theorem leafT_c (a:Nat) (w:World):Calls Tryz.prog 103 #[.int .i64 (a:Int)] w fun e w'=>e=.returned (trVal (-1,(a:Int),none,0,0))∧Below w.heap.size w w':=by
 go_enter Tryz.func103,Tryz.ntmps103;go_wp2_with fail;refine bodyPost_ret (v:=trVal (-1,(a:Int),none,0,0)) (by simp [results,Tryz.results103,go_sem,trVal]) rfl ⟨rfl,?_⟩
 first | exact Below.refl _ _ | exact (Below.refl _ _).al _
structure PlRel (w:World) (r:Int) (l:List Tr) (k:Nat) (v:Value) (wr:World):Prop where
 b1:Blk wr w.heap.size 64 #[.int .i64 0,.int .i64 0,.slice none 0 0]
 b2:Blk wr (w.heap.size+1) 64 #[.int .i64 r,.int .i64 0,v]
 own:Own TrE 64 (fun b=>w.heap.size+2≤b) wr (w.heap.size+2) v k (l.take k)
 bel:Below w.heap.size w wr
 size:w.heap.size+2≤wr.heap.size
theorem PlRel.via {w wr wa:World} {r:Int} {l:List Tr} {k:Nat} {v:Value} (h:PlRel w r l k v wr) (hb:Below wr.heap.size wr wa):PlRel w r l k v wa :=
 ⟨h.b1.via hb,h.b2.via hb,h.own.via hb,h.bel.via hb,Nat.le_trans h.size hb.size⟩
theorem PlRel.push {w wr w1:World} {r:Int} {l:List Tr} {y:Tr} {k:Nat} {v v':Value} (h:PlRel w r l k v wr) (hy:l[k]?=some y) (ho:Own TrE 64 (fun b=>w.heap.size+2≤b) w1 (w.heap.size+2) v' (k+1) (l.take k++[y])) (hg:wr.grownBy w1 v.ownBlock) :
 PlRel w r l (k+1) v' (w1.setCell ⟨w.heap.size+1,2,none⟩ v'):=by
 have hne:∀ j,j < w.heap.size+2→some j≠v.ownBlock:=fun j hj e=>by have:=(h.own.lt j e.symm).1; omega
 have hsz:=h.size;refine ⟨?_,?_,?_,?_,?_⟩
 ·exact (h.b1.grown hg (hne _ (by omega))).far (by simp) _
 ·have:=(h.b2.grown hg (hne _ (by omega))).set_ 2 v'; simpa using this
 ·have e:l.take (k+1)=l.take k++[y]:=by
   have hl:=(List.getElem?_eq_some_iff.1 hy);rw [List.take_succ_eq_append_getElem hl.1,hl.2]
  rw [e];exact ho.setCell _ (fun b hb=>by show b≠w.heap.size+1; omega) (by show w.heap.size+1 < _; omega)
 ·exact (h.bel.grown hg (by omega) fun j hj=>by have:=(h.own.lt j hj).1; omega).setCell (by simp) _
 ·have:=hg.size; simp; omega
def PlP (w:World) (t:CT) (e:Ending) (w':World):Prop:=∃ v:TrV,e=.returned (trVal v)∧TreeR (fun b=>w.heap.size≤b) w' v t.tr∧Below w.heap.size w w'
set_option maxRecDepth 100000 in
set_option maxHeartbeats 4000000 in
theorem plain_n (N:Nat):∀ (ok:Nat→Prop) (b:Nat) (t:CT) (w:World),PtR ok w b t→t.Wf→t.size≤(N:Int) →
 Calls Tryz.prog 70 #[.pointer (ptA b)] w (PlP w t):=by
 induction N with
 | zero=>intro ok b t w _ h1 h2; have:=h1.pos; omega
 | succ N ih =>
  intro ok b t w h hW hN;obtain ⟨A,c,hb,hB,hS⟩:=h.open;have hlen:=hW.len;have hle:=hS.le;have htm:=hW.term;have HS:=Lib.hid hS;have HW:=Lib.hid hW;have HN:=Lib.hid hN;obtain ⟨n,hn⟩:∃ n,n=t.kids.length:=⟨_,rfl⟩;have HNN:=Lib.hid hn;rw [← hn] at hB hlen hle;obtain ⟨r,hr⟩:∃ r,r=t.rule:=⟨_,rfl⟩;obtain ⟨tm,ht⟩:∃ tm,tm=t.term:=⟨_,rfl⟩;have HRR:=Lib.hid hr;have HTT:=Lib.hid ht;rw [← hr,← ht] at hB;rw [← hr,← ht] at htm;have hal:=(Below.refl w.heap.size w).al (.cells #[.int .i64 0,.int .i64 0,.slice none 0 0] 64);have HB1:=Lib.hid hal;have B1:=Blk.new w 64 #[.int .i64 0,.int .i64 0,.slice none 0 0];have BT:=hB.via hal;clear h hS hW hN hn hr ht hB hal hb;go_enter Tryz.func70,Tryz.ntmps70
  by_cases h0:r < 0
  ·obtain ⟨a,rfl⟩:∃ a:Nat,tm=(a:Int):=⟨tm.toNat,by have:=htm h0; omega⟩;have HTR:=Lib.hid (show t.tr=.leaf a by rw [CT.tr_eq,if_pos (by rw [← HRR.out]; exact h0),← HTT.out]; rfl);clear htm;have cBT:=BT.cell;have fBT:=BT.frozen;have lBT:=BT.lt;go_upto_region 2 with fail;generalize hW1:w.alloc (.cells #[.int .i64 0,.int .i64 0,.slice none 0 0] 64)=W1 at *;have HW1:=Lib.hid hW1;clear hW1;go_wp2_with fail;refine (leafT_c a W1).mono ?_;rintro e w2 ⟨rfl,hb2⟩;clear cBT fBT lBT;have B2:=B1.via hb2;have HB2:=Lib.hid (HB1.out.via hb2);clear hb2 BT B1;simp only [trVal];have cB2:=B2.cell;have fB2:=B2.frozen;have lB2:=B2.lt;go_wp2_with fail;refine bodyPost_ret (v:=trVal (-1,(a:Int),none,0,0)) (by simp [results,Tryz.results70,go_sem,trVal,cB2]) rfl ⟨_,rfl,?_,?_⟩
   ·rw [HTR.out]; exact .leaf a none 0
   ·exact ((HB2.out.setCell (by simp) _).setCell (by simp) _).setCell (by simp) _
  ·obtain ⟨rn,rfl⟩:∃ rn:Nat,r=(rn:Int):=⟨r.toNat,by omega⟩;have HTR:=Lib.hid (show t.tr=.node rn (t.kids.map CT.tr) by rw [CT.tr_eq,if_neg (by rw [← HRR.out]; exact h0),← HRR.out]; rfl);have HKL:=Lib.hid (show (t.kids.map CT.tr).length=n by rw [List.length_map]; exact HNN.out.symm);obtain ⟨l,hl⟩:∃ l,l=t.kids.map CT.tr:=⟨_,rfl⟩;have HL:=Lib.hid hl;rw [← hl] at HTR HKL;clear htm hl;have BT2:=BT.al (.cells #[.int .i64 (rn:Int),.int .i64 0,.slice none 0 0] 64);have cBT:=BT.cell;have fBT:=BT.frozen;have lBT:=BT.lt;have cBT2:=BT2.cell;have fBT2:=BT2.frozen;have lBT2:=BT2.lt;go_wp2_with fail;clear cBT fBT lBT cBT2 fBT2 lBT2
   go_loopw [26] (fun i wr=>∃ (k:Nat) (v:Value),i=.int .i64 k∧k≤n∧Hid (PlRel w (rn:Int) l k v wr)) (fun i _=>n - (intOf i).toNat)
   case atStart =>
    refine ⟨0,_,rfl,Nat.zero_le _,Lib.hid ⟨?_,?_,Own.nil _ _,?_,?_⟩⟩
    ·exact B1.al _
    ·have:=(Blk.new (w.alloc (.cells #[.int .i64 0,.int .i64 0,.slice none 0 0] 64)) 64 #[.int .i64 (rn:Int),.int .i64 0,.slice none 0 0])
     simpa using this
    ·exact ((Below.refl _ _).al _).al _
    ·simp
   case round =>
    obtain ⟨k,v,rfl,hk,HR⟩:=hrel;obtain ⟨Av,cv,rfl,-⟩:=HR.out.own.form
    by_cases hlt:k < n
    ·obtain ⟨b3,o3,x,y,hA,-,hb3,hy,hxy,hc⟩:=HS.out.at_ (i:=k) (by rw [← HNN.out]; exact hlt);subst hA;have hxy':PtR ok w x y:=hxy;have c0:=(HR.out.bel.cell (p:=⟨b3,o3+k*1,none⟩) hb3).trans (hc 0 _ rfl);simp only [Nat.mul_one] at c0;have i0:(0:Int)≤(k:Int):=(by omega);have i1:(k:Int) < (n:Int):=(by omega);have hym:=List.mem_of_getElem? hy
     have hsy:y.size≤(N:Int):=by
      have h1:=HW.out.size_eq;have h2:=HN.out;have h3:=szL_nn HW.out.kids;have h4:y.size≤szL t.kids:=szL_mem HW.out.kids hym;have h5:t.size=1+szL t.kids:=h1;omega
     have HYL:=Lib.hid (show l[k]?=some y.tr by rw [HL.out,List.getElem?_map,hy]; rfl);have HYW:=Lib.hid (HW.out.kids y hym);have HY:=Lib.hid (hxy'.via HR.out.bel);have HSY:=Lib.hid hsy;have Bo:=HR.out.b2;clear hc hy hxy hxy' hsy hym hb3;go_upto_region 7 with fail;clear c0;have cBo:=Bo.cell;have fBo:=Bo.frozen;have lBo:=Bo.lt
     go_region_law (first
      | (go_simp; go_at_call 70; refine (ih ok x y wr.drew (PtR.via HY.out (Below.refl wr.heap.size wr).drew) HYW.out HSY.out).mono ?_; rintro e w' ⟨v2,rfl,hT2,hb2⟩; have cP:=(Bo.dr.via hb2).cell; have lP:=(Bo.dr.via hb2).lt; dsimp only [trVal])
      | (have HA:=(HR.out.via ((Below.refl wr.heap.size wr).drew)).via hb2
         have HB:=HA.via ((Below.refl w'.heap.size w').alloc (Nat.le_refl _) (.cells #[.int .i64 v2.1,.int .i64 v2.2.1,.slice v2.2.2.1 v2.2.2.2.1 v2.2.2.2.2] 64));refine step_append_tr _ rfl (.tmp 31) (.tmp 34) rfl (fun b=>w.heap.size+2≤b) (w.heap.size+2) (.slice Av k cv) k (l.take k) rfl HB.own w'.heap.size v2 y.tr rfl (Blk.new w' 64 #[.int .i64 v2.1,.int .i64 v2.2.1,.slice v2.2.2.1 v2.2.2.2.1 v2.2.2.2.2]) ((hT2.al _).mono fun b _ hb=>⟨Nat.le_trans HR.out.size hb,fun e=>Nat.lt_irrefl b (Nat.lt_of_lt_of_le (HR.out.own.lt b e.symm).2 hb)⟩) (by omega) HB.size ?_;intro Av1 cv1 w1 ho1 hg1 hat1;have B2g:=HB.b2.grown hg1 (fun e=>by have:=(HB.own.lt _ e.symm).1; omega);have c2g:=B2g.cell
         have f2g:=B2g.frozen))
     all_goals
      have HP:=Lib.hid (PlRel.push HB HYL.out ho1 hg1);clear HA HB;go_wp2_with fail;exact ⟨⟨k+1,_,by go_num,by omega,HP⟩,by simp [intOf]; omega⟩
    ·have hk':k=n:=(by omega);subst hk';have B1':=HR.out.b1;have B2':=HR.out.b2;have cB1':=B1'.cell;have fB1':=B1'.frozen;have lB1':=B1'.lt;have cB2':=B2'.cell;have fB2':=B2'.frozen;have lB2':=B2'.lt;go_wp2_with fail;refine bodyPost_ret (v:=trVal ((rn:Int),0,Av,k,cv)) (by simp [results,Tryz.results70,go_sem,trVal,cB1']) rfl ⟨_,rfl,?_,?_⟩
     ·have ho:=((HR.out.own.setCell (p:=⟨w.heap.size,0,none⟩) (.int .i64 (rn:Int)) (fun b hb=>by show b≠w.heap.size; omega) (by show w.heap.size < _; omega)).setCell (p:=⟨w.heap.size,1,none⟩) (.int .i64 0) (fun b hb=>by show b≠w.heap.size; omega) (by show w.heap.size < _; omega)).setCell (p:=⟨w.heap.size,2,none⟩) (.slice Av k cv) (fun b hb=>by show b≠w.heap.size; omega) (by show w.heap.size < _; omega);have hs:=ho.toSl (ok':=fun b=>w.heap.size≤b) (fun b _ hb=>by omega) (fun b hb=>by omega);rw [List.take_of_length_le (by rw [HKL.out]; exact Nat.le_refl _)] at hs;rw [HTR.out];exact TreeR.mk rn hs
     ·exact ((HR.out.bel.setCell (by simp) _).setCell (by simp) _).setCell (by simp) _
end Go.Proofs.YtfcihnpmeabacaaGreatDoor
namespace Go.Proofs.YtfcihnpmeabacaaGreatDoor
open Go.RowKit
theorem runL_uniq {nd:List NdI} {root most:Nat}:∀ (d d':Nat) (st r r':LsS),runL nd root most d st=some r→runL nd root most d' st=some r'→r=r'
 | 0,d',st,r,r',h,_=>by simp [runL] at h
 | d+1,0,st,r,r',_,h=>by simp [runL] at h
 | d+1,d'+1,st,r,r',h,h'=>by
  unfold runL at h h'
  split at h
  ·next hc =>
   rw [if_pos hc] at h';cases h; cases h'; rfl
  ·next hc =>
   rw [if_neg hc] at h';cases hp:(popQ st.q).getLast? with
   | none =>
    rw [hp] at h h';cases h; cases h'; rfl
   | some x =>
    rw [hp] at h h';simp only at h h'
    split at h
    ·next hb =>
     rw [if_pos hb] at h';cases h; cases h'; rfl
    ·next hb =>
     rw [if_neg hb] at h';exact runL_uniq d d' _ r r' h h'
def initT (x:NdI):List CT:=if x.1.1=true then [.mk (-1) x.1.2.1 1 []] else []
def startL (nd:List NdI):LsS:=⟨nd.map initT,[],[],[]⟩
abbrev c00 (v p:Nat):Cand:=(v,p,0,0,0,0)
noncomputable def feedTo (nd:List NdI) (v k:Nat) (st:LsS):LsS:=(List.range k).foldl (fun s p=>firstL nd (c00 v p) s) st
noncomputable def seedTo (nd:List NdI) (v:Nat):LsS:=(List.range v).foldl (fun s u=>feedTo nd u (ndAt nd u).2.length s) (startL nd)
theorem feedTo_succ (nd:List NdI) (v k:Nat) (st:LsS):feedTo nd v (k+1) st=firstL nd (c00 v k) (feedTo nd v k st):=by
 unfold feedTo; rw [List.range_succ,List.foldl_append]; rfl
theorem seedTo_succ (nd:List NdI) (v:Nat):seedTo nd (v+1)=feedTo nd v (ndAt nd v).2.length (seedTo nd v):=by
 unfold seedTo; rw [List.range_succ,List.foldl_append]; rfl
def restK (nd:List NdI) (v:Nat):Nat:=((nd.drop v).map fun x=>x.2.length).sum
theorem restK_step {nd:List NdI} {v:Nat} (hv:v < nd.length):restK nd v=(ndAt nd v).2.length+restK nd (v+1):=by
 unfold restK;rw [List.drop_eq_getElem_cons hv,List.map_cons,List.sum_cons];unfold ndAt;rw [List.getElem?_eq_getElem hv]; rfl
theorem restK_end {nd:List NdI} {v:Nat} (hv:nd.length≤v):restK nd v=0:=by unfold restK; rw [List.drop_eq_nil_of_le hv]; rfl
def TmK (nd:List NdI):Prop:=∀ x∈nd,x.1.1=true→0≤x.1.2.1
theorem lstAt_start {nd:List NdI} (v:Nat):lstAt (startL nd).lists v=initT (ndAt nd v):=by
 show (nd.map initT).getD v []=_
 rw [List.getD_eq_getElem?_getD,List.getElem?_map];unfold ndAt;cases nd[v]? <;> rfl
theorem initT_ok {x:NdI} (h:x.1.1=true→0≤x.1.2.1):(initT x).length≤1∧∀ t∈initT x,t.Wf∧t.size≤5000:=by
 unfold initT
 split
 ·next hx =>
  refine ⟨by simp,fun t ht=>?_⟩;rw [List.mem_singleton.1 ht];refine ⟨?_,by show (1:Int)≤5000; omega⟩;have:=CT.Wf.mk (-1) x.1.2.1 [] (fun k hk=>by cases hk) (by simp) (fun _=>h hx)
  simpa using this
 ·exact ⟨by simp,fun t ht=>by cases ht⟩
theorem startL_inv {nd:List NdI} {most:Nat} (hT:TmK nd) (hm:1≤most):LInv nd most (restK nd 0) (startL nd) 0 (restK nd 0):=by
 refine ⟨by simp [startL],fun v=>?_,(fun x hx=>by cases hx),(fun p hp=>by cases hp),by simp [startL,wSum],by simp [startL],⟨by simp [startL],fun p hp=>by cases hp⟩⟩;rw [lstAt_start]
 have h:=initT_ok (x:=ndAt nd v) (by
  by_cases hv:v < nd.length
  ·have:ndAt nd v∈nd:=(by unfold ndAt; rw [List.getElem?_eq_getElem hv]; exact List.getElem_mem hv);exact hT _ this
  ·unfold ndAt; rw [List.getElem?_eq_none (by omega)]; intro h; cases h)
 exact ⟨Nat.le_trans h.1 hm,h.2⟩
theorem c00_ok {nd:List NdI} {most v p:Nat} (hv:v < nd.length) (hp:p < (ndAt nd v).2.length):CdOk nd most (c00 v p) :=
 ⟨hv,hp,fun i=>by
  have:Rk.get (0,0,0,0) i=0:=by
   match i with
   | 0=>rfl
   | 1=>rfl
   | 2=>rfl
   | i+3=>rfl
  show Rk.get (0,0,0,0) i≤most
  rw [this]; exact Nat.zero_le _⟩
theorem feedTo_inv {nd:List NdI} {most base:Nat} (hf:FoK nd) {v:Nat} (hv:v < nd.length):∀ (k:Nat) (st:LsS) (rem:Nat),k≤(ndAt nd v).2.length→LInv nd most base st 0 (k+rem)→LInv nd most base (feedTo nd v k st) 0 rem∧(feedTo nd v k st).lists=st.lists
 | 0,st,rem,_,h=>⟨by simpa [feedTo] using h,rfl⟩
 | k+1,st,rem,hk,h=>by
  obtain ⟨a,b⟩:=feedTo_inv hf hv k st (rem+1) (by omega) (by rwa [show k+(rem+1)=k+1+rem by omega]);rw [feedTo_succ];exact ⟨firstL_inv hf (c00_ok hv (by omega)) a,(firstL_lists nd _ _).trans b⟩
theorem seedTo_inv {nd:List NdI} {most:Nat} (hf:FoK nd) (hT:TmK nd) (hm:1≤most):∀ v,v≤nd.length→LInv nd most (restK nd 0) (seedTo nd v) 0 (restK nd v)∧(seedTo nd v).lists=nd.map initT
 | 0,_=>⟨startL_inv hT hm,rfl⟩
 | v+1,hv=>by
  obtain ⟨a,b⟩:=seedTo_inv hf hT hm v (by omega);rw [restK_step (show v < nd.length by omega)] at a;rw [seedTo_succ];obtain ⟨c,d⟩:=feedTo_inv hf (show v < nd.length by omega) _ _ _ (Nat.le_refl _) a;exact ⟨c,d.trans b⟩
noncomputable def endL (nd:List NdI) (root most:Nat):LsS:=@Classical.epsilon LsS ⟨startL nd⟩ fun s=>∃ d,runL nd root most d (seedTo nd nd.length)=some s
theorem endL_eq {nd:List NdI} {root most d:Nat} {s:LsS} (h:runL nd root most d (seedTo nd nd.length)=some s):endL nd root most=s:=by
 obtain ⟨d',h'⟩:=@Classical.epsilon_spec_aux LsS ⟨startL nd⟩ (fun s=>∃ d,runL nd root most d (seedTo nd nd.length)=some s) ⟨s,d,h⟩;exact runL_uniq d' d _ _ _ h' h
theorem endL_run {nd:List NdI} {root most:Nat} (hf:FoK nd) (hT:TmK nd) (hm:1≤most):∃ d,runL nd root most d (seedTo nd nd.length)=some (endL nd root most):=by
 obtain ⟨h,-⟩:=seedTo_inv hf hT hm nd.length (Nat.le_refl _);rw [restK_end (Nat.le_refl _)] at h;obtain ⟨d,r,hd⟩:=runL_ex (root:=root) hf _ _ _ (Nat.le_refl _) (Nat.le_refl _) h;exact ⟨d,by rw [endL_eq hd]; exact hd⟩
noncomputable def trsV (r:Int) (nd:List NdI) (most:Nat):List Tr×Bool :=
 if r < 0∨most=0 then ([],true)
 else if (lstAt (endL nd r.toNat most).lists r.toNat).length < most∧(cntV (r,nd)=-1∨((lstAt (endL nd r.toNat most).lists r.toNat).length:Int) < cntV (r,nd)) then ([],false)
 else ((lstAt (endL nd r.toNat most).lists r.toNat).map CT.tr,true)
end Go.Proofs.YtfcihnpmeabacaaGreatDoor
namespace Go.Proofs.YtfcihnpmeabacaaGreatDoor
open Go.RowKit
def FoB (f:List NdI):Prop:=f.length≤17592186044416∧∀ x∈f,x.2.length≤17592186044416∧∀ p∈x.2,p.2.length≤17592186044416
end Go.Proofs.YtfcihnpmeabacaaGreatDoor
namespace Go.Proofs.YtfcihnpmeabacaaGreatDoor
open Go.RowKit
structure CnM (W0:World) (base fid bS bC bX bF sB cB:Nat) (A:Option Addr) (n c:Nat) (r:Int) (nd:List NdI) (st:CSt) (w:World):Prop where
 bel:Below base W0 w
 bs:Blk w bS 25 #[.slice (some ⟨sB,0,none⟩) n n]
 bc:Blk w bC 25 #[.slice (some ⟨cB,0,none⟩) n n]
 bx:Blk w bX 45 #[.slice A n c,.int .i64 r]
 bf:Blk w bF 121 #[.func (.func fid) #[] #[.pointer (some ⟨bS,0,none⟩),.pointer (some ⟨bX,0,none⟩),.pointer (some ⟨bC,0,none⟩),.pointer (some ⟨bF,0,none⟩)]]
 ss:Blk w sB 3 (st.2.map (Value.int .i64)).toArray
 cs:Blk w cB 3 (st.1.map (Value.int .i64)).toArray
 nd:Sl NdE (fun b=>b≠sB∧b≠cB) w A n c nd
 ge:base≤sB∧base≤cB
 ne:bS≠sB∧bS≠cB∧bC≠sB∧bC≠cB∧bX≠sB∧bX≠cB∧bF≠sB∧bF≠cB∧sB≠cB
section
variable {W0 w w':World} {base fid bS bC bX bF sB cB:Nat} {A:Option Addr} {n c:Nat} {r:Int} {nd:List NdI} {st:CSt}
theorem CnM.via (h:CnM W0 base fid bS bC bX bF sB cB A n c r nd st w) (hb:Below w.heap.size w w'):CnM W0 base fid bS bC bX bF sB cB A n c r nd st w' :=
 ⟨h.bel.trans (hb.mono (Nat.le_trans h.ge.1 (Nat.le_of_lt h.ss.lt))),h.bs.via hb,h.bc.via hb,h.bx.via hb,h.bf.via hb,h.ss.via hb,h.cs.via hb,h.nd.via hb,h.ge,h.ne⟩
theorem ints_set (xs:List Int) (v:Nat) (x:Int):(xs.map (Value.int .i64)).toArray.setIfInBounds v (.int .i64 x)=((xs.set v x).map (Value.int .i64)).toArray:=by simp
theorem CnM.setS (h:CnM W0 base fid bS bC bX bF sB cB A n c r nd st w) (v:Nat) (x:Int):CnM W0 base fid bS bC bX bF sB cB A n c r nd (st.1,st.2.set v x) (w.setCell ⟨sB,v,none⟩ (.int .i64 x)):=by
 obtain ⟨n1,n2,n3,n4,n5,n6,n7,n8,n9⟩:=h.ne;refine ⟨h.bel.setCell (p:=⟨sB,v,none⟩) h.ge.1 _,h.bs.far n1 _,h.bc.far n3 _,h.bx.far n5 _,h.bf.far n7 _,?_,h.cs.far (Ne.symm n9) _,h.nd.agr (Agr.setCell (p:=⟨sB,v,none⟩) _ fun b hb=>hb.1),h.ge,h.ne⟩;have:=h.ss.set_ v (.int .i64 x)
 rwa [ints_set] at this
theorem CnM.setC (h:CnM W0 base fid bS bC bX bF sB cB A n c r nd st w) (v:Nat) (x:Int):CnM W0 base fid bS bC bX bF sB cB A n c r nd (st.1.set v x,st.2) (w.setCell ⟨cB,v,none⟩ (.int .i64 x)):=by
 obtain ⟨n1,n2,n3,n4,n5,n6,n7,n8,n9⟩:=h.ne;refine ⟨h.bel.setCell (p:=⟨cB,v,none⟩) h.ge.2 _,h.bs.far n2 _,h.bc.far n4 _,h.bx.far n6 _,h.bf.far n8 _,h.ss.far n9 _,?_,h.nd.agr (Agr.setCell (p:=⟨cB,v,none⟩) _ fun b hb=>hb.2),h.ge,h.ne⟩;have:=h.cs.set_ v (.int .i64 x)
 rwa [ints_set] at this
theorem CnM.cellS (h:CnM W0 base fid bS bC bX bF sB cB A n c r nd st w) {v:Nat} (hv:v < st.2.length):w.cell? ⟨sB,v,none⟩=some (.int .i64 (st.2.getD v 0)):=by
 rw [h.ss.cell]; simp [List.getD_eq_getElem?_getD,hv]
theorem CnM.cellC (h:CnM W0 base fid bS bC bX bF sB cB A n c r nd st w) {v:Nat} (hv:v < st.1.length):w.cell? ⟨cB,v,none⟩=some (.int .i64 (st.1.getD v 0)):=by
 rw [h.cs.cell]; simp [List.getD_eq_getElem?_getD,hv]
end
def CvP (W0:World) (base fid bS bC bX bF sB cB:Nat) (A:Option Addr) (n c:Nat) (r:Int) (nd:List NdI) (w:World) (q:Bool×CSt) (e:Ending) (w':World):Prop :=
 e=.returned (.bool q.1)∧CnM W0 base fid bS bC bX bF sB cB A n c r nd q.2 w'∧Agr (fun b=>b≠sB∧b≠cB) w w'∧w.heap.size≤w'.heap.size
set_option maxRecDepth 100000 in
set_option maxHeartbeats 8000000 in
theorem visit_n (W0:World) (base fid:Nat) (hfid:Hid (fid=60)) (he:∀ (args:Array Value) (w:World),(callFunc fid args).run Tryz.prog w=.ok (.enter fid args) w)
 (bS bC bX bF sB cB:Nat) (A:Option Addr) (n c:Nat) (r:Int) (nd:List NdI) (hk:KidsIn nd) (hB:FoB nd) (hnl:nd.length=n):∀ (d v:Nat) (st:CSt) (w:World),zer st.2 < d→v < n→CGood n st→CnM W0 base fid bS bC bX bF sB cB A n c r nd st w →
 Calls Tryz.prog fid #[.int .i64 (v:Int),.pointer (some ⟨bS,0,none⟩),.pointer (some ⟨bX,0,none⟩),.pointer (some ⟨bC,0,none⟩),.pointer (some ⟨bF,0,none⟩)] w (CvP W0 base fid bS bC bX bF sB cB A n c r nd w (visV nd d v st)):=by
 intro d
 induction d with
 | zero=>intro v st w h; omega
 | succ d ih =>
  intro v st w hz hv hg hM;have HIH:=Lib.hid ih;have HG:=Lib.hid hg;have HM:=Lib.hid hM;have HZ:=Lib.hid hz;have HK:=Lib.hid hk;have HBB:=Lib.hid hB;have HNL:=Lib.hid hnl;have HF:=hfid;have hn:=hB.1;rw [hnl] at hn;have v0:(0:Int)≤(v:Int):=(by omega);have v1:(v:Int) < (n:Int):=(by omega);have cs0:=hM.cellS (v:=v) (by rw [hg.sl]; exact hv);have BS:=hM.bs;obtain ⟨sv,hsv⟩:∃ sv,sv=st.2.getD v 0:=⟨_,rfl⟩;rw [← hsv] at cs0;have HSV:=Lib.hid hsv;have hlsB:=hM.ss.lt;clear ih hg hM hz hk hB hnl hsv;obtain ⟨Q,hQ⟩:∃ Q,Q=CvP W0 base fid:=⟨_,rfl⟩;rw [← hQ];have HQQ:=Lib.hid hQ;clear hQ;rw [hfid.out];go_enter Tryz.func60,Tryz.ntmps60
  by_cases hs:0 < sv
  ·have cBS:=BS.cell;have fBS:=BS.frozen;have lBS:=BS.lt;go_wp2_with fail;have e1:visV nd (d+1) v st=(decide (st.2.getD v 0=2),st):=(by unfold visV; rw [if_pos (by rw [← HSV.out]; exact hs)]);rw [HQQ.out,e1,← HSV.out];exact ⟨by simp [go_sem]; rfl,HM.out,Agr.refl,Nat.le_refl _⟩
  ·have HFS:=Lib.hid HM.out.ss.frozen;have fS:=HM.out.ss.frozen;have cBS:=BS.cell;have fBS:=BS.frozen;have lBS:=BS.lt;go_upto_region 4 with fail;clear cBS fBS lBS;clear BS cs0 fS;have HM1:=Lib.hid (HM.out.setS v 1);have HA1:=Lib.hid (show Agr (fun b=>b≠sB∧b≠cB) w (w.setCell ⟨sB,v,none⟩ (.int .i64 1)) from Agr.setCell (p:=⟨sB,v,none⟩) _ fun b hb=>hb.1);have hz1:(w.setCell ⟨sB,v,none⟩ (.int .i64 1)).heap.size=w.heap.size:=(by simp);have HZ1:=Lib.hid hz1;clear hz1 HFS hlsB;generalize w.setCell ⟨sB,v,none⟩ (.int .i64 1)=w1 at *;have hvn:v < n:=hv;obtain ⟨b1,o1,⟨⟨xb,xm,xi,xj⟩,PA,pl,pc⟩,⟨⟨xb',xm',xi',xj'⟩,ps⟩,hAa,-,hb1,hx,⟨hx1,hx2⟩,hcx⟩:=HM1.out.nd.at_ hvn;simp only at hx1 hx2;obtain ⟨rfl,rfl,rfl,rfl⟩:xb=xb'∧xm=xm'∧xi=xi'∧xj=xj':=(by simpa using hx1);subst hAa;have c0:=hcx 0 _ rfl;have c1:=hcx 1 _ rfl;have c2:=hcx 2 _ rfl;have c3:=hcx 3 _ rfl;have c4:=hcx 4 _ rfl;simp only [NdE,Nat.add_zero] at c0 c1 c2 c3 c4;have hnx:ndAt nd v=((xb,xm,xi,xj),ps):=(by unfold ndAt; rw [hx]; rfl);have HNX:=Lib.hid hnx
   have hpl:pl≤17592186044416:=by
    have h1:=(HBB.out.2 _ (List.mem_of_getElem? hx)).1;have h2:=hx2.len;simp only at h1; omega
   have HKB:=Lib.hid (HBB.out.2 _ (List.mem_of_getElem? hx)).2;have HKI:=Lib.hid (HK.out _ (List.mem_of_getElem? hx));have BX1:=HM1.out.bx;have hal:=(Below.refl w1.heap.size w1).al (.cells #[.bool xb,.int .i64 xm,.int .i64 xi,.int .i64 xj,.slice PA pl pc] 102);have HM2:=Lib.hid (HM1.out.via hal);have HPS:=Lib.hid (hx2.via hal);have HA2:=Lib.hid (HA1.out.trans (Agr.below hal));have HS2:=Lib.hid (show w.heap.size≤(w1.alloc (.cells #[.bool xb,.int .i64 xm,.int .i64 xi,.int .i64 xj,.slice PA pl pc] 102)).heap.size by have:=HZ1.out; simp; omega);have BN:=Blk.new w1 102 #[.bool xb,.int .i64 xm,.int .i64 xi,.int .i64 xj,.slice PA pl pc];have HNC:=Lib.hid (show w1.heap.size≠cB from fun e=>by have:=HM1.out.cs.lt; omega);clear hcx hx hx1 hx2 hnx hal;have cBX1:=BX1.cell;have fBX1:=BX1.frozen;have lBX1:=BX1.lt;have cBN:=BN.cell;have fBN:=BN.frozen;have lBN:=BN.lt;go_upto_if 33 with fail;clear cBX1 fBX1 lBX1 cBN fBN lBN;clear BX1 c0 c1 c2 c3 c4;generalize w1.alloc (.cells #[.bool xb,.int .i64 xm,.int .i64 xi,.int .i64 xj,.slice PA pl pc] 102)=w2 at *;generalize w1.heap.size=bn at *;have HOPN:=Lib.hid (show opn nd v st=(if xb=true then st.1.set v 1 else st.1,st.2.set v 1) by unfold opn; rw [HNX.out])
   have HZZ:=Lib.hid (show zer (opn nd v st).2 < d from by
    have h1:=zer_set_lt st.2 v 1 (by omega) (by rw [HG.out.sl]; exact hv) (by rw [← HSV.out]; exact hs);have h2:=HZ.out;show zer (st.2.set v 1) < d
    omega)
   have HGO:=Lib.hid (show CGood n (opn nd v st) from HG.out.opn);obtain ⟨st1,hst1⟩:∃ st1,st1=opn nd v st:=⟨_,rfl⟩;rw [← hst1] at HZZ HGO HOPN;have HST1:=Lib.hid hst1;clear hst1
   go_cut [] (fun wx=>CnM W0 base fid bS bC bX bF sB cB (some ⟨b1,o1,none⟩) n c r nd st1 wx∧Blk wx bn 102 #[.bool xb,.int .i64 xm,.int .i64 xi,.int .i64 xj,.slice PA pl pc]∧Agr (fun b=>b≠sB∧b≠cB) w2 wx∧wx.heap.size=w2.heap.size)
   case first =>
    have h1:=HOPN.out;cases xb with
    | true =>
     simp only [if_true] at h1;have BC:=HM2.out.bc;have fC:=HM2.out.cs.frozen;have hc1:∃ u,w2.cell? ⟨cB,v,none⟩=some u:=⟨_,HM2.out.cellC (v:=v) (by rw [HG.out.cl]; exact hv)⟩;obtain ⟨u,hu⟩:=hc1;have cBC:=BC.cell;have fBC:=BC.frozen;have lBC:=BC.lt;go_wp2_with fail;have hm3:=HM2.out.setC v 1;go_meet;refine ⟨by rw [h1]; exact hm3,BN.far HNC.out _,Agr.setCell (p:=⟨cB,v,none⟩) _ fun b hb=>hb.2,by simp⟩
    | false =>
     simp only [Bool.false_eq_true,if_false] at h1;have hm3:=HM2.out;go_wp2_with fail;go_meet;exact ⟨by rw [h1]; exact hm3,BN,Agr.refl,rfl⟩
   case rest =>
    obtain ⟨hm3,BN3,ha3,hz3⟩:=hcut;have HM3:=Lib.hid hm3;have HA3:=Lib.hid (HA2.out.trans ha3);have HS3:=Lib.hid (show w.heap.size≤wc.heap.size by rw [hz3]; exact HS2.out);have HPS3:=Lib.hid (HPS.out.agr ha3);clear hm3 ha3 hz3 HM2 HA2 HS2 HPS BN;have cBN3:=BN3.cell;have fBN3:=BN3.frozen;have lBN3:=BN3.lt;go_wp2_with fail;clear cBN3 fBN3 lBN3;clear BN3;have HRS:=Lib.hid (show packsV (visV nd d) v ps st1=packsV (visV nd d) v (ndAt nd v).2 (opn nd v st) by rw [HNX.out,HST1.out]);obtain ⟨RS,hRS⟩:∃ RS,RS=packsV (visV nd d) v ps st1:=⟨_,rfl⟩;rw [← hRS] at HRS;have HRE:=Lib.hid hRS.symm;clear hRS
    go_loopw [40] (fun q wr=>∃ (i:Nat) (st2:CSt),q=.int .i64 (i:Int)∧i≤pl∧Hid (CnM W0 base fid bS bC bX bF sB cB (some ⟨b1,o1,none⟩) n c r nd st2 wr∧CGood n st2∧zer st2.2 < d∧packsV (visV nd d) v (ps.drop i) st2=RS∧Agr (fun b=>b≠sB∧b≠cB) wc wr∧wc.heap.size≤wr.heap.size)) (fun q _=>pl - (intOf q).toNat)
    case atStart=>exact ⟨0,st1,rfl,Nat.zero_le _,Lib.hid ⟨HM3.out,HGO.out,HZZ.out,by rw [List.drop_zero]; exact HRE.out,Agr.refl,Nat.le_refl _⟩⟩
    case round =>
     obtain ⟨i,st2,rfl,hi,HQ⟩:=hrel;clear HM3 HGO HZZ HRE
     by_cases hip:i < pl
     ·obtain ⟨b2,o2,⟨pr,KA,kn,kc⟩,⟨pr',ks⟩,hPA,-,hb2,hp,⟨hp1,hp2⟩,hcp⟩:=(HPS3.out.agr HQ.out.2.2.2.2.1).at_ hip;simp only at hp1 hp2;obtain rfl:pr=pr':=hp1;subst hPA;have d0:=hcp 0 _ rfl;have d1:=hcp 1 _ rfl;simp only [FpE,Nat.add_zero] at d0 d1;have i0:(0:Int)≤(i:Int):=(by omega);have i1:(i:Int) < (pl:Int):=(by omega);have HP:=Lib.hid hp
      have hkn:kn≤17592186044416:=by
       have h1:=HKB.out _ (List.mem_of_getElem? hp);have h2:=hp2.len;simp only at h1; omega
      have HKK:=Lib.hid (HKI.out _ (List.mem_of_getElem? hp));have hal:=(Below.refl wr.heap.size wr).al (.cells #[.int .i64 pr,.slice KA kn kc] 104);have HM4:=Lib.hid (HQ.out.1.via hal);have HA4:=Lib.hid (HQ.out.2.2.2.2.1.trans (Agr.below hal));have HS4:=Lib.hid (show wc.heap.size≤(wr.alloc (.cells #[.int .i64 pr,.slice KA kn kc] 104)).heap.size from Nat.le_trans HQ.out.2.2.2.2.2 hal.size);have HKS:=Lib.hid (hp2.via hal);have BP:=Blk.new wr 104 #[.int .i64 pr,.slice KA kn kc];have HGD:=Lib.hid HQ.out.2.1;have HZ2:=Lib.hid HQ.out.2.2.1;have HR2:=Lib.hid HQ.out.2.2.2.1;clear hcp hp hp2 hal HQ hb2;go_upto_region 11 with fail;clear d0 d1;generalize wr.alloc (.cells #[.int .i64 pr,.slice KA kn kc] 104)=w4 at *;generalize wr.heap.size=bp at *;have cBP:=BP.cell;have fBP:=BP.frozen;have lBP:=BP.lt;go_wp2_with fail;clear cBP fBP lBP;clear BP
      have HDR:=Lib.hid (show ps.drop i=(pr,ks)::ps.drop (i+1) by
       have h1:=List.getElem?_eq_some_iff.1 HP.out
       rw [List.drop_eq_getElem_cons h1.1,h1.2])
      obtain ⟨KR,hKR⟩:∃ KR,KR=kidsV (visV nd d) ks 1 st2:=⟨_,rfl⟩;have HKR:=Lib.hid hKR;clear hKR
      go_loopw [10,47] (fun x q wr=>∃ (j:Nat) (xv:Int) (st3:CSt),x=.int .i64 xv∧q=.int .i64 (j:Int)∧j≤kn∧Hid (CnM W0 base fid bS bC bX bF sB cB (some ⟨b1,o1,none⟩) n c r nd st3 wr∧CGood n st3∧zer st3.2 < d∧(0≤xv∧xv≤1000000000)∧kidsV (visV nd d) (ks.drop j) xv st3=KR∧Agr (fun b=>b≠sB∧b≠cB) w4 wr∧w4.heap.size≤wr.heap.size)) (fun _ q _=>kn - (intOf q).toNat)
      case atStart=>exact ⟨0,1,st2,rfl,rfl,Nat.zero_le _,Lib.hid ⟨HM4.out,HGD.out,HZ2.out,by omega,by rw [List.drop_zero]; exact HKR.out.symm,Agr.refl,Nat.le_refl _⟩⟩
      case round =>
       obtain ⟨j,xv,st3,rfl,rfl,hj,HQ⟩:=hrel;clear HM4 HGD HZ2
       by_cases hjk:j < kn
       ·obtain ⟨b3,o3,k0,k1,hKA,-,hb3,hkk,hkr,hck⟩:=(HKS.out.agr HQ.out.2.2.2.2.2.1).at_ hjk;obtain rfl:k0=k1:=hkr;subst hKA;have d0:=hck 0 _ rfl;simp only [InE,Nat.mul_one,Nat.add_zero] at d0;have j0:(0:Int)≤(j:Int):=(by omega);have j1:(j:Int) < (kn:Int):=(by omega);have hkin:=HKK.out k0 (List.mem_of_getElem? hkk);rw [HNL.out] at hkin;obtain ⟨kv,rfl⟩:∃ kv:Nat,k0=(kv:Int):=⟨k0.toNat,by omega⟩;have hkv:kv < n:=(by omega)
        have HDK:=Lib.hid (show ks.drop j=(kv:Int)::ks.drop (j+1) by
         have h1:=List.getElem?_eq_some_iff.1 hkk
         rw [List.drop_eq_getElem_cons h1.1,h1.2])
        have HCA:=Lib.hid (HIH.out kv st3 wr HQ.out.2.2.1 hkv HQ.out.2.1 HQ.out.1);obtain ⟨kep1,kep2⟩:=visV_keeps HK.out d kv st3 (by rw [HNL.out]; exact hkv) (by rw [HNL.out]; exact HQ.out.2.1);rw [HNL.out] at kep1;have HKP:=Lib.hid (And.intro kep1 (Nat.lt_of_le_of_lt kep2 HQ.out.2.2.1));have HXV:=Lib.hid HQ.out.2.2.2.1;have HKQ:=Lib.hid (show kidsV (visV nd d) ((kv:Int)::ks.drop (j+1)) xv st3=KR by rw [← HDK.out]; exact HQ.out.2.2.2.2.1);have HAQ:=Lib.hid HQ.out.2.2.2.2.2;have BF:=HQ.out.1.bf;clear hck hkk hkin kep1 kep2 HQ hb3;go_upto_region 14 with fail;clear d0;have cBF:=BF.cell;have fBF:=BF.frozen;have lBF:=BF.lt
        iterate 9 go_step
        clear cBF fBF lBF;clear BF;refine HCA.out.mono ?_;clear HCA;rintro e w5 ⟨rfl,hm5,ha5,hz5⟩;obtain ⟨vk,hvk⟩:∃ vk,vk=visV nd d kv st3:=⟨_,rfl⟩
        have HKE:=Lib.hid (show (if vk.1=true then kidsV (visV nd d) (ks.drop (j+1)) (min (xv*vk.2.1.getD kv 0) 1000000000) vk.2 else (false,xv,vk.2))=KR by
         rw [← HKQ.out,kidsV,Int.toNat_natCast,← hvk])
        rw [← hvk] at hm5 HKP ⊢;have HM5:=Lib.hid hm5;have HA5:=Lib.hid (HAQ.out.1.trans ha5);have HZ5:=Lib.hid (Nat.le_trans HAQ.out.2 hz5);clear hvk hm5 ha5 hz5 HKQ HAQ;obtain ⟨vb,st4⟩:=vk;dsimp only at *;cases vb with
        | false =>
         have hkr:=HKE.out;try simp only [Bool.false_eq_true,if_false] at hkr
         have hrs:RS=(false,st4):=by
          rw [← HR2.out,HDR.out,packsV,← HKR.out,← hkr]; rfl
         have HRR:=Lib.hid hrs;clear hkr hrs;go_wp2_with fail
         have e1:visV nd (d+1) v st=(false,st4):=by
          unfold visV;rw [if_neg (by rw [← HSV.out]; omega),← HRS.out,HRR.out]; rfl
         rw [HQQ.out,e1];exact ⟨rfl,HM5.out,((HA3.out.trans HA4.out).trans HA5.out),Nat.le_trans HS3.out (Nat.le_trans HS4.out HZ5.out)⟩
        | true =>
         have hkr:=HKE.out;try simp only [if_true] at hkr
         have HKR2:=Lib.hid hkr;have hcl:=HM5.out.cellC (v:=kv) (by rw [HKP.out.1.cl]; exact hkv);have hat:=HKP.out.1.at_ kv;have hml:=mul_lim HXV.out hat;obtain ⟨cv,hcv⟩:∃ cv,cv=st4.1.getD kv 0:=⟨_,rfl⟩;rw [← hcv] at hcl hml hat;have HCV:=Lib.hid hcv;have HML:=Lib.hid hml
         have hwr:IntKind.i64.wrap (xv*cv)=xv*cv:=by
          have h1:=hml.1;have h2:=hml.2;exact IntWalk.i64_in _ (by omega)
         have BC:=HM5.out.bc;have kv0:(0:Int)≤(kv:Int):=(by omega);have kv1:(kv:Int) < (n:Int):=(by omega);clear hkr hcv hml hat HKE;have cBC:=BC.cell;have fBC:=BC.frozen;have lBC:=BC.lt;go_wp2_with fail;exact ⟨⟨j+1,min (xv*cv) 1000000000,st4,rfl,by go_num,by omega,Lib.hid ⟨HM5.out,HKP.out.1,HKP.out.2,by have:=HML.out; omega,by rw [HCV.out]; exact HKR2.out,HA5.out,HZ5.out⟩⟩,by simp [intOf]; omega⟩
       ·obtain rfl:kn=j:=(by omega)
        have hfin:KR=(true,xv,st3):=by
         rw [← HQ.out.2.2.2.2.1,List.drop_eq_nil_of_le (by rw [HKS.out.len]; exact Nat.le_refl _)]; rfl
        have HFI:=Lib.hid hfin;have BC:=HQ.out.1.bc;have fC:=HQ.out.1.cs.frozen;have hcl:=HQ.out.1.cellC (v:=v) (by rw [HQ.out.2.1.cl]; exact hv);have hat:=HQ.out.2.1.at_ v;obtain ⟨cv,hcv⟩:∃ cv,cv=st3.1.getD v 0:=⟨_,rfl⟩;rw [← hcv] at hcl hat;have hxv:=HQ.out.2.2.2.1;have HCV:=Lib.hid hcv;have HMQ:=Lib.hid HQ.out.1;have HGQ:=Lib.hid (And.intro HQ.out.2.1 HQ.out.2.2.1);have HAQ:=Lib.hid HQ.out.2.2.2.2.2;have hwr:IntKind.i64.wrap (cv+xv)=cv+xv:=IntWalk.i64_in _ (by omega);have HBD:=Lib.hid (And.intro hat hxv);clear hfin hcv hat hxv HQ;go_upto_region 18 with fail;have hlb:=BC.lt;have hcb:=HMQ.out.cs.lt;have SO:=Lib.hid (show ∀ w',Below wr.heap.size wr w'→((∀ x,w'.cell? ⟨bC,x,none⟩=#[.slice (some ⟨cB,0,none⟩) n n][x]?)∧w'.cell? ⟨cB,v,none⟩=some (.int .i64 cv)) from fun w' hb=>⟨(BC.via hb).cell,(hb.cell hcb).trans hcl⟩);have hHeld:=SO.out _ (Below.refl wr.heap.size wr).drew;have hdr:=(Below.refl wr.heap.size wr).drew;clear BC hcl fC;refine wp_region_L 10 (fun w'=>(∀ x,w'.cell? ⟨bC,x,none⟩=#[.slice (some ⟨cB,0,none⟩) n n][x]?)∧w'.cell? ⟨cB,v,none⟩=some (.int .i64 cv)) (by kernel_rfl) ?_;refine tkL 0 63 ?_;refine tkL 1 64 ?_;refine tkL 2 65 ?_;refine tkL 3 66 ?_;refine tkL 4 67 ?_;refine tkL 5 68 ?_;refine tkL 6 69 ?_;refine tkL 7 70 ?_;refine tkL 8 71 ?_;refine tkL 9 72 ?_;generalize wr.drew=wq at *;refine wpAnyL.ready (rs:=[10]) (by kernel_rfl) (by simp) ?_;refine AllL.cons rfl (fun K hK=>?_) AllL.nil;have fC:=(HMQ.out.cs.via hdr).frozen;have hcl2:=hHeld.2;go_simp;refine hK.out _ _ (fun h=>absurd rfl h) ?_;clear hK K;refine wpAnyL.done (by kernel_rfl) ?_ _;try refine NoPanic.normal ?_
        have HMD:=Lib.hid ((HMQ.out.via hdr).setC v (min (cv+xv) 1000000000));have HGD:=Lib.hid (HGQ.out.1.setC v (c:=min (cv+xv) 1000000000) (by have:=HBD.out; omega) (by have:=HBD.out; omega));have HAD:=Lib.hid ((HA4.out.trans HAQ.out.1).trans ((Agr.below hdr).trans (Agr.setCell (p:=⟨cB,v,none⟩) (.int .i64 (min (cv+xv) 1000000000)) fun b hb=>hb.2)))
        have HZD:=Lib.hid (show wc.heap.size≤(wq.setCell ⟨cB,v,none⟩ (.int .i64 (min (cv+xv) 1000000000))).heap.size by
         have h3:=hdr.size;have h1:=HS4.out;have h2:=HAQ.out.2
         simp; omega)
        have HRD:=Lib.hid (show packsV (visV nd d) v (ps.drop (i+1)) (st3.1.set v (min (cv+xv) 1000000000),st3.2)=RS by
         rw [← HR2.out,HDR.out,packsV,← HKR.out,HFI.out,HCV.out]; rfl)
        clear hHeld hdr SO fC hcl2;generalize wq.setCell ⟨cB,v,none⟩ (.int .i64 (min (cv+xv) 1000000000))=w9 at *;go_wp2_with fail;exact ⟨⟨i+1,_,by go_num,by omega,Lib.hid ⟨HMD.out,HGD.out,HGQ.out.2,HRD.out,HAD.out,HZD.out⟩⟩,by simp [intOf]; omega⟩
     ·obtain rfl:pl=i:=(by omega);have HQ2:=HQ
      have hfin:RS=(true,st2):=by
       rw [← HQ.out.2.2.2.1,List.drop_eq_nil_of_le (by rw [HPS3.out.len]; exact Nat.le_refl _)]; rfl
      have HFI:=Lib.hid hfin;have BS:=HQ.out.1.bs;have fS:=HQ.out.1.ss.frozen;have hcl:=HQ.out.1.cellS (v:=v) (by rw [HQ.out.2.1.sl]; exact hv);have hlS:=HQ.out.1.ss.lt;clear hfin;have cBS:=BS.cell;have fBS:=BS.frozen;have lBS:=BS.lt;go_wp2_with fail
      have e1:visV nd (d+1) v st=(true,(st2.1,st2.2.set v 2)):=by
       unfold visV;rw [if_neg (by rw [← HSV.out]; omega),← HRS.out,HFI.out]; rfl
      rw [HQQ.out,e1];exact ⟨rfl,HQ2.out.1.setS v 2,((HA3.out.trans HQ2.out.2.2.2.2.1)).trans (Agr.setCell (p:=⟨sB,v,none⟩) _ fun b hb=>hb.1),by simp; exact Nat.le_trans HS3.out HQ2.out.2.2.2.2.2⟩
end Go.Proofs.YtfcihnpmeabacaaGreatDoor
namespace Go.Proofs.YtfcihnpmeabacaaGreatDoor
open Go.RowKit
theorem made_one (z:Value) (n:Nat):madeCells #[z] n=Array.replicate n z:=by
 apply Array.ext_getElem?
 intro i;unfold madeCells;rw [Array.getElem?_map,Array.getElem?_range]
 by_cases h:i < n
 ·rw [if_pos h]; simp [h,Nat.mod_one]
 ·rw [if_neg h]; simp [h]
theorem int_inf1:(Tryz.prog.info? 3).map (fun i=>(i.zero,i.size,i.bytes))=some (some (.int .i64 0),1,8):=by kernel_rfl
end Go.Proofs.YtfcihnpmeabacaaGreatDoor
