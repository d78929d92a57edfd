/- Texts TV, TY, EK, SK, laid together. -/
import Derived.Test.YtfcihnpmeabacaaGreatDoorY20
import Derived.Test.YtfcihnpmeabacaaGreatDoorY4
import Derived.Test.YtfcihnpmeabacaaGreatDoorY25
import Derived.Test.YtfcihnpmeabacaaGreatDoorY3
import Derived.Test.YtfcihnpmeabacaaGreatDoorY5
import Derived.Laws.StructEq
namespace Go.Proofs.YtfcihnpmeabacaaGreatDoor
open Go.RowKit
mutual
def CT.tr:CT→Tr
 | .mk r t _ ks=>if r < 0 then .leaf t.toNat else .node r.toNat (CT.trs ks)
def CT.trs:List CT→List Tr
 | []=>[]
 | a::l=>a.tr::CT.trs l
end
theorem CT.trs_eq:∀ l:List CT,CT.trs l=l.map CT.tr
 | []=>by simp [CT.trs]
 | a::l=>by simp [CT.trs,CT.trs_eq l]
theorem CT.tr_eq (x:CT):x.tr=if x.rule < 0 then .leaf x.term.toNat else .node x.rule.toNat (x.kids.map CT.tr):=by
 cases x with | mk r t s ks =>
  show (CT.mk r t s ks).tr=if r < 0 then .leaf t.toNat else .node r.toNat (ks.map CT.tr)
  rw [CT.tr,CT.trs_eq]
theorem szL_mem {l:List CT} (h:∀ x∈l,x.Wf) {y:CT} (hy:y∈l):y.size≤szL l:=by
 induction l with
 | nil=>cases hy
 | cons a l ih =>
  rw [szL_cons];have h1:=(h a (List.mem_cons_self ..)).pos;have h2:=szL_nn fun x hx=>h x (List.mem_cons_of_mem a hx)
  rcases List.mem_cons.1 hy with rfl | hy
  ·omega
  ·have:=ih (fun x hx=>h x (List.mem_cons_of_mem _ hx)) hy; omega
theorem leafT_c (a:Nat) (w:World):Calls Tryz.prog 103 #[.int .i64 (a:Int)] w fun e w'=>e=.returned (trVal (-1,(a:Int),none,0,0))∧Below w.heap.size w w':=by
 go_enter Tryz.func103,Tryz.ntmps103;go_wp2_with fail;refine bodyPost_ret (v:=trVal (-1,(a:Int),none,0,0)) (by simp [results,Tryz.results103,go_sem,trVal]) rfl ⟨rfl,?_⟩
 first | exact Below.refl _ _ | exact (Below.refl _ _).al _
structure PlRel (w:World) (r:Int) (l:List Tr) (k:Nat) (v:Value) (wr:World):Prop where
 b1:Blk wr w.heap.size 64 #[.int .i64 0,.int .i64 0,.slice none 0 0]
 b2:Blk wr (w.heap.size+1) 64 #[.int .i64 r,.int .i64 0,v]
 own:Own TrE 64 (fun b=>w.heap.size+2≤b) wr (w.heap.size+2) v k (l.take k)
 bel:Below w.heap.size w wr
 size:w.heap.size+2≤wr.heap.size
theorem PlRel.via {w wr wa:World} {r:Int} {l:List Tr} {k:Nat} {v:Value} (h:PlRel w r l k v wr) (hb:Below wr.heap.size wr wa):PlRel w r l k v wa :=
 ⟨h.b1.via hb,h.b2.via hb,h.own.via hb,h.bel.via hb,Nat.le_trans h.size hb.size⟩
theorem PlRel.push {w wr w1:World} {r:Int} {l:List Tr} {y:Tr} {k:Nat} {v v':Value} (h:PlRel w r l k v wr) (hy:l[k]?=some y) (ho:Own TrE 64 (fun b=>w.heap.size+2≤b) w1 (w.heap.size+2) v' (k+1) (l.take k++[y])) (hg:wr.grownBy w1 v.ownBlock) :
 PlRel w r l (k+1) v' (w1.setCell ⟨w.heap.size+1,2,none⟩ v'):=by
 have hne:∀ j,j < w.heap.size+2→some j≠v.ownBlock:=fun j hj e=>by have:=(h.own.lt j e.symm).1; omega
 have hsz:=h.size;refine ⟨?_,?_,?_,?_,?_⟩
 ·exact (h.b1.grown hg (hne _ (by omega))).far (by simp) _
 ·have:=(h.b2.grown hg (hne _ (by omega))).set_ 2 v'; simpa using this
 ·have e:l.take (k+1)=l.take k++[y]:=by
   have hl:=(List.getElem?_eq_some_iff.1 hy);rw [List.take_succ_eq_append_getElem hl.1,hl.2]
  rw [e];exact ho.setCell _ (fun b hb=>by show b≠w.heap.size+1; omega) (by show w.heap.size+1 < _; omega)
 ·exact (h.bel.grown hg (by omega) fun j hj=>by have:=(h.own.lt j hj).1; omega).setCell (by simp) _
 ·have:=hg.size; simp; omega
def PlP (w:World) (t:CT) (e:Ending) (w':World):Prop:=∃ v:TrV,e=.returned (trVal v)∧TreeR (fun b=>w.heap.size≤b) w' v t.tr∧Below w.heap.size w w'
set_option maxRecDepth 100000 in
set_option maxHeartbeats 4000000 in
theorem plain_n (N:Nat):∀ (ok:Nat→Prop) (b:Nat) (t:CT) (w:World),PtR ok w b t→t.Wf→t.size≤(N:Int) →
 Calls Tryz.prog 70 #[.pointer (ptA b)] w (PlP w t):=by
 induction N with
 | zero=>intro ok b t w _ h1 h2; have:=h1.pos; omega
 | succ N ih =>
  intro ok b t w h hW hN;obtain ⟨A,c,hb,hB,hS⟩:=h.open;have hlen:=hW.len;have hle:=hS.le;have htm:=hW.term;have HS:=Lib.hid hS;have HW:=Lib.hid hW;have HN:=Lib.hid hN;obtain ⟨n,hn⟩:∃ n,n=t.kids.length:=⟨_,rfl⟩;have HNN:=Lib.hid hn;rw [← hn] at hB hlen hle;obtain ⟨r,hr⟩:∃ r,r=t.rule:=⟨_,rfl⟩;obtain ⟨tm,ht⟩:∃ tm,tm=t.term:=⟨_,rfl⟩;have HRR:=Lib.hid hr;have HTT:=Lib.hid ht;rw [← hr,← ht] at hB;rw [← hr,← ht] at htm;have hal:=(Below.refl w.heap.size w).al (.cells #[.int .i64 0,.int .i64 0,.slice none 0 0] 64);have HB1:=Lib.hid hal;have B1:=Blk.new w 64 #[.int .i64 0,.int .i64 0,.slice none 0 0];have BT:=hB.via hal;clear h hS hW hN hn hr ht hB hal hb;go_enter Tryz.func70,Tryz.ntmps70
  by_cases h0:r < 0
  ·obtain ⟨a,rfl⟩:∃ a:Nat,tm=(a:Int):=⟨tm.toNat,by have:=htm h0; omega⟩;have HTR:=Lib.hid (show t.tr=.leaf a by rw [CT.tr_eq,if_pos (by rw [← HRR.out]; exact h0),← HTT.out]; rfl);clear htm;have cBT:=BT.cell;have fBT:=BT.frozen;have lBT:=BT.lt;go_upto_region 2 with fail;generalize hW1:w.alloc (.cells #[.int .i64 0,.int .i64 0,.slice none 0 0] 64)=W1 at *;have HW1:=Lib.hid hW1;clear hW1;go_wp2_with fail;refine (leafT_c a W1).mono ?_;rintro e w2 ⟨rfl,hb2⟩;clear cBT fBT lBT;have B2:=B1.via hb2;have HB2:=Lib.hid (HB1.out.via hb2);clear hb2 BT B1;simp only [trVal];have cB2:=B2.cell;have fB2:=B2.frozen;have lB2:=B2.lt;go_wp2_with fail;refine bodyPost_ret (v:=trVal (-1,(a:Int),none,0,0)) (by simp [results,Tryz.results70,go_sem,trVal,cB2]) rfl ⟨_,rfl,?_,?_⟩
   ·rw [HTR.out]; exact .leaf a none 0
   ·exact ((HB2.out.setCell (by simp) _).setCell (by simp) _).setCell (by simp) _
  ·obtain ⟨rn,rfl⟩:∃ rn:Nat,r=(rn:Int):=⟨r.toNat,by omega⟩;have HTR:=Lib.hid (show t.tr=.node rn (t.kids.map CT.tr) by rw [CT.tr_eq,if_neg (by rw [← HRR.out]; exact h0),← HRR.out]; rfl);have HKL:=Lib.hid (show (t.kids.map CT.tr).length=n by rw [List.length_map]; exact HNN.out.symm);obtain ⟨l,hl⟩:∃ l,l=t.kids.map CT.tr:=⟨_,rfl⟩;have HL:=Lib.hid hl;rw [← hl] at HTR HKL;clear htm hl;have BT2:=BT.al (.cells #[.int .i64 (rn:Int),.int .i64 0,.slice none 0 0] 64);have cBT:=BT.cell;have fBT:=BT.frozen;have lBT:=BT.lt;have cBT2:=BT2.cell;have fBT2:=BT2.frozen;have lBT2:=BT2.lt;go_wp2_with fail;clear cBT fBT lBT cBT2 fBT2 lBT2
   go_loopw [26] (fun i wr=>∃ (k:Nat) (v:Value),i=.int .i64 k∧k≤n∧Hid (PlRel w (rn:Int) l k v wr)) (fun i _=>n - (intOf i).toNat)
   case atStart =>
    refine ⟨0,_,rfl,Nat.zero_le _,Lib.hid ⟨?_,?_,Own.nil _ _,?_,?_⟩⟩
    ·exact B1.al _
    ·have:=(Blk.new (w.alloc (.cells #[.int .i64 0,.int .i64 0,.slice none 0 0] 64)) 64 #[.int .i64 (rn:Int),.int .i64 0,.slice none 0 0])
     simpa using this
    ·exact ((Below.refl _ _).al _).al _
    ·simp
   case round =>
    obtain ⟨k,v,rfl,hk,HR⟩:=hrel;obtain ⟨Av,cv,rfl,-⟩:=HR.out.own.form
    by_cases hlt:k < n
    ·obtain ⟨b3,o3,x,y,hA,-,hb3,hy,hxy,hc⟩:=HS.out.at_ (i:=k) (by rw [← HNN.out]; exact hlt);subst hA;have hxy':PtR ok w x y:=hxy;have c0:=(HR.out.bel.cell (p:=⟨b3,o3+k*1,none⟩) hb3).trans (hc 0 _ rfl);simp only [Nat.mul_one] at c0;have i0:(0:Int)≤(k:Int):=(by omega);have i1:(k:Int) < (n:Int):=(by omega);have hym:=List.mem_of_getElem? hy
     have hsy:y.size≤(N:Int):=by
      have h1:=HW.out.size_eq;have h2:=HN.out;have h3:=szL_nn HW.out.kids;have h4:y.size≤szL t.kids:=szL_mem HW.out.kids hym;have h5:t.size=1+szL t.kids:=h1;omega
     have HYL:=Lib.hid (show l[k]?=some y.tr by rw [HL.out,List.getElem?_map,hy]; rfl);have HYW:=Lib.hid (HW.out.kids y hym);have HY:=Lib.hid (hxy'.via HR.out.bel);have HSY:=Lib.hid hsy;have Bo:=HR.out.b2;clear hc hy hxy hxy' hsy hym hb3;go_upto_region 7 with fail;clear c0;have cBo:=Bo.cell;have fBo:=Bo.frozen;have lBo:=Bo.lt
     go_region_law (first
      | (go_simp; go_at_call 70; refine (ih ok x y wr.drew (PtR.via HY.out (Below.refl wr.heap.size wr).drew) HYW.out HSY.out).mono ?_; rintro e w' ⟨v2,rfl,hT2,hb2⟩; have cP:=(Bo.dr.via hb2).cell; have lP:=(Bo.dr.via hb2).lt; dsimp only [trVal])
      | (have HA:=(HR.out.via ((Below.refl wr.heap.size wr).drew)).via hb2
         have HB:=HA.via ((Below.refl w'.heap.size w').alloc (Nat.le_refl _) (.cells #[.int .i64 v2.1,.int .i64 v2.2.1,.slice v2.2.2.1 v2.2.2.2.1 v2.2.2.2.2] 64));refine step_append_tr _ rfl (.tmp 31) (.tmp 34) rfl (fun b=>w.heap.size+2≤b) (w.heap.size+2) (.slice Av k cv) k (l.take k) rfl HB.own w'.heap.size v2 y.tr rfl (Blk.new w' 64 #[.int .i64 v2.1,.int .i64 v2.2.1,.slice v2.2.2.1 v2.2.2.2.1 v2.2.2.2.2]) ((hT2.al _).mono fun b _ hb=>⟨Nat.le_trans HR.out.size hb,fun e=>Nat.lt_irrefl b (Nat.lt_of_lt_of_le (HR.out.own.lt b e.symm).2 hb)⟩) (by omega) HB.size ?_;intro Av1 cv1 w1 ho1 hg1 hat1;have B2g:=HB.b2.grown hg1 (fun e=>by have:=(HB.own.lt _ e.symm).1; omega);have c2g:=B2g.cell
         have f2g:=B2g.frozen))
     all_goals
      have HP:=Lib.hid (PlRel.push HB HYL.out ho1 hg1);clear HA HB;go_wp2_with fail;exact ⟨⟨k+1,_,by go_num,by omega,HP⟩,by simp [intOf]; omega⟩
    ·have hk':k=n:=(by omega);subst hk';have B1':=HR.out.b1;have B2':=HR.out.b2;have cB1':=B1'.cell;have fB1':=B1'.frozen;have lB1':=B1'.lt;have cB2':=B2'.cell;have fB2':=B2'.frozen;have lB2':=B2'.lt;go_wp2_with fail;refine bodyPost_ret (v:=trVal ((rn:Int),0,Av,k,cv)) (by simp [results,Tryz.results70,go_sem,trVal,cB1']) rfl ⟨_,rfl,?_,?_⟩
     ·have ho:=((HR.out.own.setCell (p:=⟨w.heap.size,0,none⟩) (.int .i64 (rn:Int)) (fun b hb=>by show b≠w.heap.size; omega) (by show w.heap.size < _; omega)).setCell (p:=⟨w.heap.size,1,none⟩) (.int .i64 0) (fun b hb=>by show b≠w.heap.size; omega) (by show w.heap.size < _; omega)).setCell (p:=⟨w.heap.size,2,none⟩) (.slice Av k cv) (fun b hb=>by show b≠w.heap.size; omega) (by show w.heap.size < _; omega);have hs:=ho.toSl (ok':=fun b=>w.heap.size≤b) (fun b _ hb=>by omega) (fun b hb=>by omega);rw [List.take_of_length_le (by rw [HKL.out]; exact Nat.le_refl _)] at hs;rw [HTR.out];exact TreeR.mk rn hs
     ·exact ((HR.out.bel.setCell (by simp) _).setCell (by simp) _).setCell (by simp) _
end Go.Proofs.YtfcihnpmeabacaaGreatDoor
namespace Go.Proofs.YtfcihnpmeabacaaGreatDoor
open Go.RowKit
theorem runL_uniq {nd:List NdI} {root most:Nat}:∀ (d d':Nat) (st r r':LsS),runL nd root most d st=some r→runL nd root most d' st=some r'→r=r'
 | 0,d',st,r,r',h,_=>by simp [runL] at h
 | d+1,0,st,r,r',_,h=>by simp [runL] at h
 | d+1,d'+1,st,r,r',h,h'=>by
  unfold runL at h h'
  split at h
  ·next hc =>
   rw [if_pos hc] at h';cases h; cases h'; rfl
  ·next hc =>
   rw [if_neg hc] at h';cases hp:(popQ st.q).getLast? with
   | none =>
    rw [hp] at h h';cases h; cases h'; rfl
   | some x =>
    rw [hp] at h h';simp only at h h'
    split at h
    ·next hb =>
     rw [if_pos hb] at h';cases h; cases h'; rfl
    ·next hb =>
     rw [if_neg hb] at h';exact runL_uniq d d' _ r r' h h'
def initT (x:NdI):List CT:=if x.1.1=true then [.mk (-1) x.1.2.1 1 []] else []
def startL (nd:List NdI):LsS:=⟨nd.map initT,[],[],[]⟩
abbrev c00 (v p:Nat):Cand:=(v,p,0,0,0,0)
noncomputable def feedTo (nd:List NdI) (v k:Nat) (st:LsS):LsS:=(List.range k).foldl (fun s p=>firstL nd (c00 v p) s) st
noncomputable def seedTo (nd:List NdI) (v:Nat):LsS:=(List.range v).foldl (fun s u=>feedTo nd u (ndAt nd u).2.length s) (startL nd)
theorem feedTo_succ (nd:List NdI) (v k:Nat) (st:LsS):feedTo nd v (k+1) st=firstL nd (c00 v k) (feedTo nd v k st):=by
 unfold feedTo; rw [List.range_succ,List.foldl_append]; rfl
theorem seedTo_succ (nd:List NdI) (v:Nat):seedTo nd (v+1)=feedTo nd v (ndAt nd v).2.length (seedTo nd v):=by
 unfold seedTo; rw [List.range_succ,List.foldl_append]; rfl
def restK (nd:List NdI) (v:Nat):Nat:=((nd.drop v).map fun x=>x.2.length).sum
theorem restK_step {nd:List NdI} {v:Nat} (hv:v < nd.length):restK nd v=(ndAt nd v).2.length+restK nd (v+1):=by
 unfold restK;rw [List.drop_eq_getElem_cons hv,List.map_cons,List.sum_cons];unfold ndAt;rw [List.getElem?_eq_getElem hv]; rfl
theorem restK_end {nd:List NdI} {v:Nat} (hv:nd.length≤v):restK nd v=0:=by unfold restK; rw [List.drop_eq_nil_of_le hv]; rfl
def TmK (nd:List NdI):Prop:=∀ x∈nd,x.1.1=true→0≤x.1.2.1
theorem lstAt_start {nd:List NdI} (v:Nat):lstAt (startL nd).lists v=initT (ndAt nd v):=by
 show (nd.map initT).getD v []=_
 rw [List.getD_eq_getElem?_getD,List.getElem?_map];unfold ndAt;cases nd[v]? <;> rfl
theorem initT_ok {x:NdI} (h:x.1.1=true→0≤x.1.2.1):(initT x).length≤1∧∀ t∈initT x,t.Wf∧t.size≤5000:=by
 unfold initT
 split
 ·next hx =>
  refine ⟨by simp,fun t ht=>?_⟩;rw [List.mem_singleton.1 ht];refine ⟨?_,by show (1:Int)≤5000; omega⟩;have:=CT.Wf.mk (-1) x.1.2.1 [] (fun k hk=>by cases hk) (by simp) (fun _=>h hx)
  simpa using this
 ·exact ⟨by simp,fun t ht=>by cases ht⟩
theorem startL_inv {nd:List NdI} {most:Nat} (hT:TmK nd) (hm:1≤most):LInv nd most (restK nd 0) (startL nd) 0 (restK nd 0):=by
 refine ⟨by simp [startL],fun v=>?_,(fun x hx=>by cases hx),(fun p hp=>by cases hp),by simp [startL,wSum],by simp [startL],⟨by simp [startL],fun p hp=>by cases hp⟩⟩;rw [lstAt_start]
 have h:=initT_ok (x:=ndAt nd v) (by
  by_cases hv:v < nd.length
  ·have:ndAt nd v∈nd:=(by unfold ndAt; rw [List.getElem?_eq_getElem hv]; exact List.getElem_mem hv);exact hT _ this
  ·unfold ndAt; rw [List.getElem?_eq_none (by omega)]; intro h; cases h)
 exact ⟨Nat.le_trans h.1 hm,h.2⟩
theorem c00_ok {nd:List NdI} {most v p:Nat} (hv:v < nd.length) (hp:p < (ndAt nd v).2.length):CdOk nd most (c00 v p) :=
 ⟨hv,hp,fun i=>by
  have:Rk.get (0,0,0,0) i=0:=by
   match i with
   | 0=>rfl
   | 1=>rfl
   | 2=>rfl
   | i+3=>rfl
  show Rk.get (0,0,0,0) i≤most
  rw [this]; exact Nat.zero_le _⟩
theorem feedTo_inv {nd:List NdI} {most base:Nat} (hf:FoK nd) {v:Nat} (hv:v < nd.length):∀ (k:Nat) (st:LsS) (rem:Nat),k≤(ndAt nd v).2.length→LInv nd most base st 0 (k+rem)→LInv nd most base (feedTo nd v k st) 0 rem∧(feedTo nd v k st).lists=st.lists
 | 0,st,rem,_,h=>⟨by simpa [feedTo] using h,rfl⟩
 | k+1,st,rem,hk,h=>by
  obtain ⟨a,b⟩:=feedTo_inv hf hv k st (rem+1) (by omega) (by rwa [show k+(rem+1)=k+1+rem by omega]);rw [feedTo_succ];exact ⟨firstL_inv hf (c00_ok hv (by omega)) a,(firstL_lists nd _ _).trans b⟩
theorem seedTo_inv {nd:List NdI} {most:Nat} (hf:FoK nd) (hT:TmK nd) (hm:1≤most):∀ v,v≤nd.length→LInv nd most (restK nd 0) (seedTo nd v) 0 (restK nd v)∧(seedTo nd v).lists=nd.map initT
 | 0,_=>⟨startL_inv hT hm,rfl⟩
 | v+1,hv=>by
  obtain ⟨a,b⟩:=seedTo_inv hf hT hm v (by omega);rw [restK_step (show v < nd.length by omega)] at a;rw [seedTo_succ];obtain ⟨c,d⟩:=feedTo_inv hf (show v < nd.length by omega) _ _ _ (Nat.le_refl _) a;exact ⟨c,d.trans b⟩
noncomputable def endL (nd:List NdI) (root most:Nat):LsS:=@Classical.epsilon LsS ⟨startL nd⟩ fun s=>∃ d,runL nd root most d (seedTo nd nd.length)=some s
theorem endL_eq {nd:List NdI} {root most d:Nat} {s:LsS} (h:runL nd root most d (seedTo nd nd.length)=some s):endL nd root most=s:=by
 obtain ⟨d',h'⟩:=@Classical.epsilon_spec_aux LsS ⟨startL nd⟩ (fun s=>∃ d,runL nd root most d (seedTo nd nd.length)=some s) ⟨s,d,h⟩;exact runL_uniq d' d _ _ _ h' h
theorem endL_run {nd:List NdI} {root most:Nat} (hf:FoK nd) (hT:TmK nd) (hm:1≤most):∃ d,runL nd root most d (seedTo nd nd.length)=some (endL nd root most):=by
 obtain ⟨h,-⟩:=seedTo_inv hf hT hm nd.length (Nat.le_refl _);rw [restK_end (Nat.le_refl _)] at h;obtain ⟨d,r,hd⟩:=runL_ex (root:=root) hf _ _ _ (Nat.le_refl _) (Nat.le_refl _) h;exact ⟨d,by rw [endL_eq hd]; exact hd⟩
noncomputable def trsV (r:Int) (nd:List NdI) (most:Nat):List Tr×Bool :=
 if r < 0∨most=0 then ([],true)
 else if (lstAt (endL nd r.toNat most).lists r.toNat).length < most∧(cntV (r,nd)=-1∨((lstAt (endL nd r.toNat most).lists r.toNat).length:Int) < cntV (r,nd)) then ([],false)
 else ((lstAt (endL nd r.toNat most).lists r.toNat).map CT.tr,true)
end Go.Proofs.YtfcihnpmeabacaaGreatDoor
namespace Go.Proofs.YtfcihnpmeabacaaGreatDoor
open Go.RowKit
def BoolP (w:World) (b:Bool) (e:Ending) (w':World):Prop:=e=.returned (.bool b)∧∃ q,w'=w.drewN q
theorem BoolP.below {w w':World} {b:Bool} {e:Ending} (h:BoolP w b e w'):e=.returned (.bool b)∧Below w.heap.size w w':=by
 obtain ⟨he,q,rfl⟩:=h;exact ⟨he,below_drewN (Below.refl _ _) q⟩
def AgreeN (xs ys:List Int) (k:Nat):Prop:=∀ j,j < k→xs.getD j 0=ys.getD j 0
theorem AgreeN.full {xs ys:List Int} {n:Nat} (h:AgreeN xs ys n) (hx:xs.length=n) (hy:ys.length=n):xs=ys:=by
 apply List.ext_getElem (by omega)
 intro i h1 h2;have:=h i (by omega)
 simpa [List.getD_eq_getElem?_getD,h1,h2] using this
set_option maxHeartbeats 1000000 in
theorem equal_c (A B:Option Addr) (n c m d:Nat) (xs ys:List Int) (w:World) (h1:Ints w A n c xs) (h2:Ints w B m d ys) (hn:n≤17592186044416) :
 Calls Tryz.prog 85 #[.slice A n c,.slice B m d] w (BoolP w (decide (xs=ys))):=by
 by_cases hnm:n=m
 ·subst hnm;have k0:((n:Int) != (n:Int))=false:=(by simp);go_enter Tryz.func85,Tryz.ntmps85;go_wp2_with fail
  go_loopw [13] (fun i wr=>∃ k:Nat,i=.int .i64 k∧k≤n∧AgreeN xs ys k∧∃ q,wr=w.drewN q) (fun i _=>n - (intOf i).toNat)
  case atStart=>exact ⟨0,rfl,Nat.zero_le _,fun j hj=>absurd hj (by omega),0,rfl⟩
  case round =>
   obtain ⟨k,rfl,hk,hag,q,rfl⟩:=hrel
   by_cases hlt:k < n
   ·obtain ⟨b1,o1,rfl,hb1,hx⟩:=h1.at_ hlt;obtain ⟨b2,o2,rfl,hb2,hy⟩:=h2.at_ hlt;have i0:(0:Int)≤(k:Int):=(by omega);have i1:(k:Int) < (n:Int):=(by omega);have H1:=Lib.hid h1.len;have H2:=Lib.hid h2.len;have HA:=Lib.hid hag
    by_cases he:xs.getD k 0=ys.getD k 0
    ·have hag':AgreeN xs ys (k+1):=fun j hj=>by
      rcases Nat.lt_or_ge j k with hj' | hj'
      ·exact HA.out j hj'
      ·obtain rfl:j=k:=(by omega);exact he
     have HA':=Lib.hid hag';rw [he] at hx;generalize ys.getD k 0=y at *;have e0:(y != y)=false:=(by simp);clear hag hag' he h1 h2;go_wp2_with fail
     go_quiet (fail)
     go_wp2_with fail
     go_roundw
     case rel=>exact ⟨k+1,by go_num,by omega,HA'.out,_,rfl⟩
     case measure=>simp [intOf]; omega
    ·have hne:xs≠ys:=fun e=>he (by rw [e])
     have HN:=Lib.hid hne;generalize ys.getD k 0=y at *;generalize xs.getD k 0=x at *;have e0:(x != y)=true:=(by simpa using he);clear hag he h1 h2 hne;go_wp2_with fail
     go_quiet (fail)
     go_wp2_with fail;go_ret;exact ⟨by simp [HN.out],q+nq,(World.drewN_drewN _ _ _)⟩
   ·have hkn:k=n:=(by omega);have hfin:xs=ys:=AgreeN.full (n:=n) (hkn ▸ hag) h1.len h2.len;have HF:=Lib.hid hfin;clear hfin h1 h2 hag hkn;go_wp2_with fail;go_ret;exact ⟨by simp [HF.out],_,rfl⟩
 ·have k0:((n:Int) != (m:Int))=true:=(by simp; omega);have hne:xs≠ys:=fun e=>hnm (by rw [← h1.len,← h2.len,e])
  have HN:=Lib.hid hne;clear hnm hne;go_enter Tryz.func85,Tryz.ntmps85;go_wp2_with fail;go_ret;exact ⟨by simp [HN.out],0,rfl⟩
end Go.Proofs.YtfcihnpmeabacaaGreatDoor
namespace Go.Proofs.YtfcihnpmeabacaaGreatDoor
open Go.RowKit
def PreE {α:Type} (xs ys:List α) (k:Nat):Prop:=∀ j,j < k→xs[j]?=ys[j]?
theorem PreE.zero {α:Type} (xs ys:List α):PreE xs ys 0:=fun j hj=>by omega
theorem PreE.full {α:Type} {xs ys:List α} {n:Nat} (h:PreE xs ys n) (hx:xs.length=n) (hy:ys.length=n):xs=ys:=by
 apply List.ext_getElem?
 intro i
 rcases Nat.lt_or_ge i n with hi | hi
 ·exact h i hi
 ·rw [List.getElem?_eq_none (by omega),List.getElem?_eq_none (by omega)]
theorem PreE.next {α:Type} {xs ys:List α} {k:Nat} {x:α} (h:PreE xs ys k) (h1:xs[k]?=some x) (h2:ys[k]?=some x):PreE xs ys (k+1):=fun j hj=>by
 rcases Nat.lt_or_ge j k with hj' | hj'
 ·exact h j hj'
 ·obtain rfl:j=k:=(by omega);rw [h1,h2]
def FoB (f:List NdI):Prop:=f.length≤17592186044416∧∀ x∈f,x.2.length≤17592186044416∧∀ p∈x.2,p.2.length≤17592186044416
def SmP (w:World) (P:Prop) (e:Ending) (w':World):Prop:=∃ b:Bool,e=.returned (.bool b)∧(b=true↔P)∧Below w.heap.size w w'
theorem equal_m (A B:Option Addr) (n c m d:Nat) (xs ys:List Int) (w:World) (h1:Ints w A n c xs) (h2:Ints w B m d ys) (hm:m≤17592186044416) :
 Calls Tryz.prog 85 #[.slice A n c,.slice B m d] w (BoolP w (decide (xs=ys))):=by
 by_cases hnm:n=m
 ·exact equal_c A B n c m d xs ys w h1 h2 (by omega)
 ·have hne:xs≠ys:=fun e=>hnm (by rw [← h1.1,← h2.1,e])
  have e0:((n:Int) != (m:Int))=true:=(by simp; omega);have HNE:=Lib.hid hne;clear h1 h2 hne hnm hm;go_enter Tryz.func85,Tryz.ntmps85;go_wp2_with fail;go_ret;exact ⟨by simp [HNE.out],0,rfl⟩
theorem sym_neq (ab bb:Bool) (an bn:Int) (w:World):(binOp .neq 69 (.agg #[.bool ab,.int .i64 an]) (.agg #[.bool bb,.int .i64 bn])).run Tryz.prog w=.ok (.bool (!decide ((ab,an)=(bb,bn)))) w:=by
 simp [go_sem]
 by_cases h1:ab=bb <;> by_cases h2:an=bn <;> simp [h1,h2]
set_option maxRecDepth 100000 in
set_option maxHeartbeats 8000000 in
theorem same_c (okA okB:Nat→Prop) (Aa Ab:Option Addr) (na ca nb cb:Nat) (ra rb:Int) (fa fb:List NdI) (w:World) (ha:Sl NdE okA w Aa na ca fa) (hb:Sl NdE okB w Ab nb cb fb) (hB:FoB fb) :
 Calls Tryz.prog 55 #[.agg #[.slice Aa na ca,.int .i64 ra],.agg #[.slice Ab nb cb,.int .i64 rb]] w (SmP w (ra=rb∧fa=fb)):=by
 have hla:=ha.len;have hlb:=hb.len;have hn:=hB.1;rw [hlb] at hn;have HA:=Lib.hid ha;have HB:=Lib.hid hb;have HFB:=Lib.hid hB;have HLN:=Lib.hid (And.intro hla hlb);clear ha hb hB hla hlb;have B0:=(Blk.new w 45 #[.slice Aa na ca,.int .i64 ra]).al (.cells #[.slice Ab nb cb,.int .i64 rb] 45);have B1:=Blk.newAt (w.alloc (.cells #[.slice Aa na ca,.int .i64 ra] 45)) 45 #[.slice Ab nb cb,.int .i64 rb] (w.heap.size+1) (by simp);have HBW:=Lib.hid (((Below.refl w.heap.size w).al (.cells #[.slice Aa na ca,.int .i64 ra] 45)).al (.cells #[.slice Ab nb cb,.int .i64 rb] 45));go_enter Tryz.func55,Tryz.ntmps55;go_upto_region 1 with fail;generalize (w.alloc (.cells #[.slice Aa na ca,.int .i64 ra] 45)).alloc (.cells #[.slice Ab nb cb,.int .i64 rb] 45)=W at *;have HB0:=Lib.hid B0;have HB1:=Lib.hid B1
 by_cases hr:ra=rb
 ·subst hr;have e0:(ra != ra)=false:=(by simp)
  by_cases hnm:na=nb
  ·subst hnm;have e1:((na:Int) != (na:Int))=false:=(by simp);have cB0:=B0.cell;have fB0:=B0.frozen;have lB0:=B0.lt;have cB1:=B1.cell;have fB1:=B1.frozen;have lB1:=B1.lt;go_wp2_with fail;clear cB0 fB0 lB0 cB1 fB1 lB1;clear B0 B1 e0 e1
   go_loopw [27] (fun q wr=>∃ i:Nat,q=.int .i64 (i:Int)∧i≤na∧Hid (PreE fa fb i∧Below W.heap.size W wr)) (fun q _=>na - (intOf q).toNat)
   case atStart=>exact ⟨0,rfl,Nat.zero_le _,Lib.hid ⟨PreE.zero _ _,Below.refl _ _⟩⟩
   case round =>
    obtain ⟨i,rfl,hi,HQ⟩:=hrel
    by_cases hin:i < na
    ·obtain ⟨b1,o1,⟨⟨xb,xn,xi,xj⟩,xA,xm,xc⟩,⟨⟨xb',xn',xi',xj'⟩,xp⟩,hAa,-,hb1,hx,⟨hx1,hx2⟩,hcx⟩:=HA.out.at_ hin;obtain ⟨b2,o2,⟨⟨yb,yn,yi,yj⟩,yA,ym,yc⟩,⟨⟨yb',yn',yi',yj'⟩,yp⟩,hAb,-,hb2,hy,⟨hy1,hy2⟩,hcy⟩:=HB.out.at_ hin;simp only at hx1 hx2 hy1 hy2;obtain ⟨rfl,rfl,rfl,rfl⟩:xb=xb'∧xn=xn'∧xi=xi'∧xj=xj':=(by simpa using hx1);obtain ⟨rfl,rfl,rfl,rfl⟩:yb=yb'∧yn=yn'∧yi=yi'∧yj=yj':=(by simpa using hy1);subst hAa hAb;have hbw:=HBW.out.via HQ.out.2;have BF0:=HB0.out.via HQ.out.2;have BF1:=HB1.out.via HQ.out.2;have c0:=(hbw.cell (p:=⟨b1,o1+i*NdE.k+0,none⟩) hb1).trans (hcx 0 _ rfl);have c1:=(hbw.cell (p:=⟨b1,o1+i*NdE.k+1,none⟩) hb1).trans (hcx 1 _ rfl);have c2:=(hbw.cell (p:=⟨b1,o1+i*NdE.k+2,none⟩) hb1).trans (hcx 2 _ rfl);have c3:=(hbw.cell (p:=⟨b1,o1+i*NdE.k+3,none⟩) hb1).trans (hcx 3 _ rfl);have c4:=(hbw.cell (p:=⟨b1,o1+i*NdE.k+4,none⟩) hb1).trans (hcx 4 _ rfl);have d0:=(hbw.cell (p:=⟨b2,o2+i*NdE.k+0,none⟩) hb2).trans (hcy 0 _ rfl);have d1:=(hbw.cell (p:=⟨b2,o2+i*NdE.k+1,none⟩) hb2).trans (hcy 1 _ rfl);have d2:=(hbw.cell (p:=⟨b2,o2+i*NdE.k+2,none⟩) hb2).trans (hcy 2 _ rfl);have d3:=(hbw.cell (p:=⟨b2,o2+i*NdE.k+3,none⟩) hb2).trans (hcy 3 _ rfl);have d4:=(hbw.cell (p:=⟨b2,o2+i*NdE.k+4,none⟩) hb2).trans (hcy 4 _ rfl);simp only [NdE,Nat.add_zero] at c0 c1 c2 c3 c4 d0 d1 d2 d3 d4;have i0:(0:Int)≤(i:Int):=(by omega);have i1:(i:Int) < (na:Int):=(by omega);have HX:=Lib.hid hx;have HY:=Lib.hid hy;have HX2:=Lib.hid (hx2.via hbw);have HY2:=Lib.hid (hy2.via hbw);have hxl:=hx2.len;have hyl:=hy2.len;have HFX:=Lib.hid (HFB.out.2 _ (List.mem_of_getElem? hy));have hxm:ym≤17592186044416:=(by have:=HFX.out.1; simp only at this; omega);have HXL:=Lib.hid (And.intro hxl hyl)
     have HNE:=Lib.hid (show ((xb,xn,xi,xj),xp)≠((yb,yn,yi,yj),yp)→fa≠fb from fun hne e2=>hne (by
      subst e2
      exact Option.some.inj (HX.out.symm.trans HY.out)))
     have HBWR:=Lib.hid hbw;have hb2w:b2 < wr.heap.size:=Nat.lt_of_lt_of_le hb2 hbw.size;clear hcx hcy hx hy hx2 hy2 hx1 hy1 hbw hb1 hb2 hxl hyl;have cBF0:=BF0.cell;have fBF0:=BF0.frozen;have lBF0:=BF0.lt;have cBF1:=BF1.cell;have fBF1:=BF1.frozen;have lBF1:=BF1.lt;go_upto_region 7 with fail;clear cBF0 fBF0 lBF0 cBF1 fBF1 lBF1;clear BF0 BF1 c0 c1 c2 c3 c4 d0 d1 d2 d3 d4;have HNX:=Lib.hid (show PreE fa fb i from HQ.out.1);have BX:=(Blk.new wr 102 #[.bool xb,.int .i64 xn,.int .i64 xi,.int .i64 xj,.slice xA xm xc]).al (.cells #[.bool yb,.int .i64 yn,.int .i64 yi,.int .i64 yj,.slice yA ym yc] 102);have BY:=Blk.newAt (wr.alloc (.cells #[.bool xb,.int .i64 xn,.int .i64 xi,.int .i64 xj,.slice xA xm xc] 102)) 102 #[.bool yb,.int .i64 yn,.int .i64 yi,.int .i64 yj,.slice yA ym yc] (wr.heap.size+1) (by simp);have hal:=((Below.refl wr.heap.size wr).al (.cells #[.bool xb,.int .i64 xn,.int .i64 xi,.int .i64 xj,.slice xA xm xc] 102)).al (.cells #[.bool yb,.int .i64 yn,.int .i64 yi,.int .i64 yj,.slice yA ym yc] 102);have HW8:=Lib.hid (HQ.out.2.via hal);have HX8:=Lib.hid (HX2.out.via hal);have HY8:=Lib.hid (HY2.out.via hal);clear hal HX2 HY2 HQ HBWR hb2w;generalize (wr.alloc (.cells #[.bool xb,.int .i64 xn,.int .i64 xi,.int .i64 xj,.slice xA xm xc] 102)).alloc (.cells #[.bool yb,.int .i64 yn,.int .i64 yi,.int .i64 yj,.slice yA ym yc] 102)=W8 at *;generalize wr.heap.size+1=by1 at *;generalize wr.heap.size=bx1 at *;have HBX:=Lib.hid BX;have HBY:=Lib.hid BY
     by_cases hs:(xb,xn)=(yb,yn)
     ·obtain ⟨rfl,rfl⟩:xb=yb∧xn=yn:=(by simpa using hs);clear hs
      by_cases hf:xi=yi
      ·subst hf
       by_cases ht:xj=yj
       ·subst ht
        by_cases hm:xm=ym
        ·subst hm;have e0:((xm:Int) != (xm:Int))=false:=(by simp);have e2:(xi != xi)=false:=(by simp);have e3:(xj != xj)=false:=(by simp);have cBX:=BX.cell;have fBX:=BX.frozen;have lBX:=BX.lt;have cBY:=BY.cell;have fBY:=BY.frozen;have lBY:=BY.lt;go_wp2_with fail;clear cBX fBX lBX cBY fBY lBY;clear BX BY e0 e2 e3
         go_loopw [68] (fun q wr=>∃ k:Nat,q=.int .i64 (k:Int)∧k≤xm∧Hid (PreE xp yp k∧Below W8.heap.size W8 wr)) (fun q _=>xm - (intOf q).toNat)
         case atStart=>exact ⟨0,rfl,Nat.zero_le _,Lib.hid ⟨PreE.zero _ _,Below.refl _ _⟩⟩
         case round =>
          obtain ⟨k,rfl,hk,HQ⟩:=hrel
          by_cases hkx:k < xm
          ·obtain ⟨b3,o3,⟨pr,KA,kn,kc⟩,⟨pr',ks⟩,hxA,-,hb3,hp,⟨hp1,hp2⟩,hcp⟩:=HX8.out.at_ hkx;obtain ⟨b4,o4,⟨qr,QA,qn,qc⟩,⟨qr',qs⟩,hyA,-,hb4,hq,⟨hq1,hq2⟩,hcq⟩:=HY8.out.at_ hkx;simp only at hp1 hp2 hq1 hq2;obtain rfl:pr=pr':=hp1;obtain rfl:qr=qr':=hq1;subst hxA hyA;have c0:=(HQ.out.2.cell (p:=⟨b3,o3+k*FpE.k+0,none⟩) hb3).trans (hcp 0 _ rfl);have c1:=(HQ.out.2.cell (p:=⟨b3,o3+k*FpE.k+1,none⟩) hb3).trans (hcp 1 _ rfl);have d0:=(HQ.out.2.cell (p:=⟨b4,o4+k*FpE.k+0,none⟩) hb4).trans (hcq 0 _ rfl);have d1:=(HQ.out.2.cell (p:=⟨b4,o4+k*FpE.k+1,none⟩) hb4).trans (hcq 1 _ rfl);simp only [FpE,Nat.add_zero] at c0 c1 d0 d1;have k0:(0:Int)≤(k:Int):=(by omega);have k1:(k:Int) < (xm:Int):=(by omega);have HP:=Lib.hid hp;have HQK:=Lib.hid hq;have hal:=(Below.refl wr.heap.size wr).al (.cells #[.int .i64 pr,.slice KA kn kc] 104);have HKX:=Lib.hid ((hp2.via HQ.out.2).via hal).intsIn;have HKY:=Lib.hid ((hq2.via HQ.out.2).via hal).intsIn
           have hkl:qn≤17592186044416:=by
            have h1:=HFX.out.2 _ (List.mem_of_getElem? hq);have h2:=hq2.len;simp only at h1 h2; omega
           have BP:=Blk.new wr 104 #[.int .i64 pr,.slice KA kn kc];have BY:=(HBY.out.via HQ.out.2).via hal;have HB9:=Lib.hid (HQ.out.2.via hal);have hb4w:b4 < wr.heap.size:=Nat.lt_of_lt_of_le hb4 HQ.out.2.size;have d0:=(hal.cell (p:=⟨b4,o4+k*2,none⟩) hb4w).trans d0;have d1:=(hal.cell (p:=⟨b4,o4+k*2+1,none⟩) hb4w).trans d1;have HPRE:=Lib.hid HQ.out.1
           have HNP:=Lib.hid (show (pr,ks)≠(qr,qs)→fa≠fb from fun hne=>HNE.out fun e4=>hne (by
            have h3:xp=yp:=congrArg Prod.snd e4;subst h3
            exact Option.some.inj (HP.out.symm.trans HQK.out)))
           clear hcp hcq hp hq hp2 hq2 hal HQ hb3 hb4;go_upto_region 12 with fail;generalize wr.alloc (.cells #[.int .i64 pr,.slice KA kn kc] 104)=W9 at *;generalize wr.heap.size=bp1 at *;clear c0 c1 hb4w
           by_cases hpq:pr=qr
           ·subst hpq;have e0:(pr != pr)=false:=(by simp);obtain ⟨bq,hbq⟩:∃ bq,bq=decide (ks=qs):=⟨_,rfl⟩;have HBQ:=Lib.hid hbq;have JE:=Lib.hid (show ∀ w',Below W9.heap.size W9 w'→Calls Tryz.prog 85 #[.slice KA kn kc,.slice QA qn qc] w' (fun e w''=>e=.returned (.bool bq)∧Below w'.heap.size w' w'') from fun w' hb=>(equal_m KA QA kn kc qn qc ks qs w' (HKX.out.via hb) (HKY.out.via hb) hkl).mono fun e w'' h=>by rw [HBQ.out]; exact h.below);clear hbq;have SOF:=Lib.hid (show ∀ w',Below W9.heap.size W9 w'→((∀ x,w'.cell? ⟨bp1,x,none⟩=#[.int .i64 pr,.slice KA kn kc][x]?)∧(∀ x,w'.cell? ⟨by1,x,none⟩=#[.bool xb,.int .i64 xn,.int .i64 xi,.int .i64 xj,.slice (some ⟨b4,o4,none⟩) xm yc][x]?)∧w'.cell? ⟨b4,o4+k*2,none⟩=some (.int .i64 pr)∧w'.cell? ⟨b4,o4+k*2+1,none⟩=some (.slice QA qn qc)∧Below W9.heap.size W9 w') from fun w' hb=>⟨(BP.via hb).cell,(BY.via hb).cell,(hb.cell (World.block_lt_of_cell? _ _ d0)).trans d0,(hb.cell (World.block_lt_of_cell? _ _ d1)).trans d1,hb⟩);have hb0:=(Below.refl W9.heap.size W9).drew;clear BP BY d0 d1
            go_region_held3 (fun w'=>(∀ x,w'.cell? ⟨bp1,x,none⟩=#[.int .i64 pr,.slice KA kn kc][x]?)∧(∀ x,w'.cell? ⟨by1,x,none⟩=#[.bool xb,.int .i64 xn,.int .i64 xi,.int .i64 xj,.slice (some ⟨b4,o4,none⟩) xm yc][x]?)∧w'.cell? ⟨b4,o4+k*2,none⟩=some (.int .i64 pr)∧w'.cell? ⟨b4,o4+k*2+1,none⟩=some (.slice QA qn qc)∧Below W9.heap.size W9 w') (exact SOF.out _ (by assumption)) (first
             | (go_at_call 85; (with_reducible refine (JE.out _ (by assumption)).mono ?_); rintro ee wk ⟨rfl,hbk⟩; have hbm:Below W9.heap.size W9 wk:=Below.via (by assumption) hbk))
            have HB10:=Lib.hid (HB9.out.via hbm);clear hb0 hbm hbk SOF JE;cases bq with
            | true =>
             go_wp2_with fail;have e6:ks=qs:=(by simpa using HBQ.out.symm);exact ⟨⟨k+1,by go_num,by omega,Lib.hid ⟨HPRE.out.next HP.out (by rw [e6]; exact HQK.out),HB10.out⟩⟩,by simp [intOf]; omega⟩
            | false =>
             go_wp2_with fail;go_ret
             exact ⟨false,rfl,⟨fun h=>(by cases h),fun e=>absurd (show fa=fb by simpa using e) (HNP.out fun e4=>by
              have h3:ks=qs:=congrArg Prod.snd e4;have h4:=HBQ.out;rw [h3] at h4
              simp at h4)⟩,HBW.out.via (HW8.out.via HB10.out)⟩
           ·have e0:(pr != qr)=true:=(by simpa using hpq);have cBP:=BP.cell;have fBP:=BP.frozen;have lBP:=BP.lt;have cBY:=BY.cell;have fBY:=BY.frozen;have lBY:=BY.lt
            go_quiet (fail)
            go_wp2_with fail;go_ret;exact ⟨false,rfl,⟨fun h=>(by cases h),fun e=>absurd (show fa=fb by simpa using e) (HNP.out fun e4=>hpq (congrArg Prod.fst e4))⟩,HBW.out.via (HW8.out.via (HB9.out.via (below_drewN (Below.refl _ _) nq)))⟩
          ·obtain rfl:xm=k:=(by omega);go_wp2_with fail;have e5:=HQ.out.1.full HXL.out.1 HXL.out.2;exact ⟨⟨i+1,by go_num,by omega,Lib.hid ⟨HNX.out.next HX.out (by rw [e5]; exact HY.out),HW8.out.via HQ.out.2⟩⟩,by simp [intOf]; omega⟩
        ·have e0:((xm:Int) != (ym:Int))=true:=(by simp; omega);have e2:(xi != xi)=false:=(by simp);have e3:(xj != xj)=false:=(by simp);have cBX:=BX.cell;have fBX:=BX.frozen;have lBX:=BX.lt;have cBY:=BY.cell;have fBY:=BY.frozen;have lBY:=BY.lt;go_wp2_with fail;go_ret;refine ⟨false,rfl,⟨fun h=>(by cases h),fun e=>absurd (show fa=fb by simpa using e) (HNE.out fun e4=>?_)⟩,HBW.out.via HW8.out⟩;have h1:=HXL.out.1;have h2:=HXL.out.2;have h3:xp=yp:=congrArg Prod.snd e4;rw [h3] at h1;omega
       ·have e3:(xj != yj)=true:=(by simpa using ht);have e2:(xi != xi)=false:=(by simp);have cBX:=BX.cell;have fBX:=BX.frozen;have lBX:=BX.lt;have cBY:=BY.cell;have fBY:=BY.frozen;have lBY:=BY.lt;go_wp2_with fail;go_ret;exact ⟨false,rfl,⟨fun h=>(by cases h),fun e=>absurd (show fa=fb by simpa using e) (HNE.out fun e4=>ht (congrArg (fun x:NdI=>x.1.2.2.2) e4))⟩,HBW.out.via HW8.out⟩
      ·have e2:(xi != yi)=true:=(by simpa using hf);have cBX:=BX.cell;have fBX:=BX.frozen;have lBX:=BX.lt;have cBY:=BY.cell;have fBY:=BY.frozen;have lBY:=BY.lt;go_wp2_with fail;go_ret;exact ⟨false,rfl,⟨fun h=>(by cases h),fun e=>absurd (show fa=fb by simpa using e) (HNE.out fun e4=>hf (congrArg (fun x:NdI=>x.1.2.2.1) e4))⟩,HBW.out.via HW8.out⟩
     ·have e1:=fun wx=>sym_neq xb yb xn yn wx
      simp only [hs,decide_false,Bool.not_false] at e1;have cBX:=BX.cell;have fBX:=BX.frozen;have lBX:=BX.lt;have cBY:=BY.cell;have fBY:=BY.frozen;have lBY:=BY.lt;go_wp2_with fail;go_ret;exact ⟨false,rfl,⟨fun h=>(by cases h),fun e=>absurd (show fa=fb by simpa using e) (HNE.out fun e4=>hs (congrArg (fun x:NdI=>(x.1.1,x.1.2.1)) e4))⟩,HBW.out.via HW8.out⟩
    ·obtain rfl:na=i:=(by omega);go_wp2_with fail;go_ret;exact ⟨true,rfl,⟨fun _=>by simpa using HQ.out.1.full HLN.out.1 HLN.out.2,fun _=>rfl⟩,HBW.out.via HQ.out.2⟩
  ·have e1:((na:Int) != (nb:Int))=true:=(by simp; omega);have cB0:=B0.cell;have fB0:=B0.frozen;have lB0:=B0.lt;have cB1:=B1.cell;have fB1:=B1.frozen;have lB1:=B1.lt;go_wp2_with fail;go_ret;refine ⟨false,rfl,⟨fun h=>(by cases h),fun e=>?_⟩,HBW.out⟩;have h1:=HLN.out.1;have h2:=HLN.out.2;have e2:fa=fb:=(by simpa using e);rw [e2] at h1;omega
 ·have e0:(ra != rb)=true:=(by simpa using hr);have cB0:=B0.cell;have fB0:=B0.frozen;have lB0:=B0.lt;have cB1:=B1.cell;have fB1:=B1.frozen;have lB1:=B1.lt;go_wp2_with fail;go_ret;exact ⟨false,rfl,⟨fun h=>(by cases h),fun e=>absurd e.1 hr⟩,HBW.out⟩
end Go.Proofs.YtfcihnpmeabacaaGreatDoor
