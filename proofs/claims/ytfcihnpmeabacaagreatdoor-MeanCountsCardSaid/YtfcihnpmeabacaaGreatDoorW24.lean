/- Texts TU, laid together. -/
import Derived.Test.YtfcihnpmeabacaaGreatDoorW1
import Derived.Test.YtfcihnpmeabacaaGreatDoorW23
namespace Go.Proofs.YtfcihnpmeabacaaGreatDoor
open Go.RowKit
theorem wt_info:(Tryz.prog.info? 145).map (fun i=>(i.zero,i.size,i.bytes))=some (some (.agg #[.int .i64 0,.int .i64 0,.int .i64 0,.int .i64 0,.int .i64 0,.int .i64 0,.pointer none]),7,56):=by kernel_rfl
theorem step_append_wt {ops:Array Oper} {o:Oper} {a:Act} {K:Act→World→Prop} {Q:Exit→Act→World→Prop} {F:Prop} (w:World) (hgd:o.guard=none) (s y:Operand)
 (ho:o.op=.call { callee:=.builtin .append,args:=#[s,y],argTypes:=#[134,134] })
 (ok:Nat→Prop) (base:Nat) (v:Value) (n:Nat) (l:List Cand) (hv:a.eval s=v) (hown:Own WtE 145 ok w base v n l)
 (b:Nat) (r:Cand) (x:Cand) (hy:a.eval y=.slice (some ⟨b,0,none⟩) 1 1) (hcell:Blk w b 145 (WtE.cells r).toArray) (hrel:WtE.rel (fun b=>ok b∧some b≠v.ownBlock) w r x)
 (h63:n+1≤2000000000000) (hbase:base≤w.heap.size)
 (h:∀ A' c' w',Own WtE 145 ok w' base (.slice A' (n+1) c') (n+1) (l++[x])→w.grownBy w' v.ownBlock→((Value.slice A' (n+1) c').ownBlock=v.ownBlock∨(Value.slice A' (n+1) c').ownBlock=some w.heap.size)→K (a.put o.dst (.slice A' (n+1) c')) w') :
 if Region.wanted o (yielded ops a.tmps)=true then Oper.wp Tryz.prog o a w K Q else F:=by
 obtain ⟨i,hi,hz⟩:=Option.map_eq_some_iff.1 wt_info;simp only [Prod.mk.injEq] at hz;refine step_append_E (E:=WtE) w hgd s y 134 145 ho i (.agg #[.int .i64 0,.int .i64 0,.int .i64 0,.int .i64 0,.int .i64 0,.int .i64 0,.pointer none]) 56 (by kernel_rfl) hi hz.1 hz.2.1 hz.2.2 rfl ok base v n l hv hown b r x hy (fun j u hu=>?_) hrel (by simp [maxLen]; omega) (by omega) hbase h;rw [hcell.cell j,List.getElem?_toArray]; exact hu
theorem Own.toSl3 {α ρ:Type} {E:Elem α ρ} {e:TypeId} {ok ok':Nat→Prop} {w:World} {base n:Nat} {l:List α} {A:Option Addr} {n' c:Nat} (h:Own E e ok w base (.slice A n' c) n l) (hm:∀ b,b < w.heap.size→ok b→ok' b) (hb:∀ b,(Value.slice A n' c).ownBlock=some b→ok' b):Sl E ok' w A n c l:=by
 obtain ⟨A',c',e',hc⟩:=h.form;obtain ⟨h1,raw,h3,h4,h5⟩:=h;cases e'
 refine ⟨h1,hc,raw,h3,fun hne=>?_,fun i r x hr hx=>E.mono (h5 i r x hr hx) fun b hb hk=>hm b hb hk.1⟩
 rcases h4.2 with ⟨h0,hn⟩ | ⟨g,cap,cur,hv,hbg,hh,hr⟩
 ·have:raw=[]:=List.eq_nil_of_length_eq_zero (by omega);subst this; exact absurd rfl hne
 ·cases hv
  refine ⟨g,0,rfl,hb g rfl,fun j u hu=>?_⟩;have:=h4.cells (g:=g) rfl j u hu
  rwa [Addr.add_lit] at this
theorem wGet_le (W:Wts) (k:WtK):(wGet W k).length≤wSum W:=by have:=wSum_del W k; omega
theorem LsM.waitRow {w0 w:World} {bl lb bs bw:Nat} {A:Option Addr} {n c:Nat} {root most:Int} {tg:Nat→Tg} {st:LsS} {qv:Value} {vs:Nat→Value} {F:WtK→Option Value} (h:LsM w0 bl lb bs bw A n c root most tg st qv vs F w) (k:WtK) :
 Own WtE 145 (fun _=>False) w w0.heap.size ((F k).getD (.slice none 0 0)) (wGet st.waits k).length (wGet st.waits k)∧∀ b,((F k).getD (.slice none 0 0)).ownBlock=some b→b≠bw:=by
 cases hf:F k with
 | none =>
  rw [(h.wno k).1 hf];exact ⟨Own.nil _ _,fun b hb=>by cases hb⟩
 | some V =>
  refine ⟨h.wrow k V hf,fun b hb e=>?_⟩;have:=h.wtg k V b hf hb;rw [e,h.fix.2.2.2] at this; cases this
structure LsX (w0:World) (A:Option Addr) (n c most base:Nat) (nd:List NdI):Prop where
 sl:Sl NdE (fun b=>b < w0.heap.size) w0 A n c nd
 fok:FoK nd
 fob:∀ x∈nd,x.2.length≤17592186044416
 n1:n≤1000000
 m1:most≤1000000
 big:base+4*(nd.length*most)≤100000000000
structure TkM (w0 w:World) (A:Option Addr) (n:Nat) (nd:List NdI) (cd:Cand) (b1 o1 b2 o2 pl pc pn kl kc:Nat) (KA:Option Addr) (ks:List Int):Prop where
 a:A=some ⟨b1,o1,none⟩
 lt:cd.1 < n∧cd.2.1 < pl∧pl≤17592186044416∧kl≤4
 c4:w.cell? ⟨b1,o1+cd.1*5+4,none⟩=some (.slice (some ⟨b2,o2,none⟩) pl pc)
 p0:w.cell? ⟨b2,o2+cd.2.1*2,none⟩=some (.int .i64 (pn:Int))
 p1:w.cell? ⟨b2,o2+cd.2.1*2+1,none⟩=some (.slice KA kl kc)
 kr:Sl InE (fun b=>b < w0.heap.size) w KA kl kc ks
 pk:packOf nd cd=((pn:Int),ks)
 kin:∀ k∈ks,0≤k∧k < (n:Int)
theorem LsX.len {w0:World} {A:Option Addr} {n c most base:Nat} {nd:List NdI} (h:LsX w0 A n c most base nd):nd.length=n:=h.sl.len
theorem LsX.pack {w0 w:World} {A:Option Addr} {n c most base:Nat} {nd:List NdI} (h:LsX w0 A n c most base nd) (hb:Below w0.heap.size w0 w) {cd:Cand} (hc:CdOk nd most cd) :
 ∃ b1 o1 b2 o2 pl pc pn kl kc KA ks,TkM w0 w A n nd cd b1 o1 b2 o2 pl pc pn kl kc KA ks:=by
 have hv:cd.1 < n:=(by have:=hc.1; rwa [h.len] at this);obtain ⟨b1,o1,⟨k1,PA,pl,pc⟩,⟨k2,ps⟩,rfl,-,-,hx,⟨-,hx2⟩,hcx⟩:=(h.sl.via hb).at_ hv;have hnx:(ndAt nd cd.1).2=ps:=(by unfold ndAt; rw [hx]; rfl);have hp:cd.2.1 < pl:=(by have h1:=hc.2.1; rw [hnx] at h1; have:=hx2.len; simp only at this; omega);obtain ⟨b2,o2,⟨pr,KA,kl,kc⟩,⟨pr',ks⟩,rfl,-,-,hq,⟨rfl,hq2⟩,hcq⟩:=hx2.at_ hp;have hpk:packOf nd cd=(pr,ks):=(by unfold packOf; rw [hnx,hq]; rfl);have hm:(pr,ks)∈(ndAt nd cd.1).2:=(by rw [hnx]; exact List.mem_of_getElem? hq);have hf:=h.fok.2 cd.1 _ hm;obtain ⟨pn,rfl⟩:∃ pn:Nat,pr=(pn:Int):=⟨pr.toNat,by have:=hf.2; simp only at this; omega⟩;refine ⟨b1,o1,b2,o2,pl,pc,pn,kl,kc,KA,ks,rfl,⟨hv,hp,?_,?_⟩,?_,?_,?_,hq2,hpk,fun k hk=>?_⟩
 ·have h1:=h.fob _ (List.mem_of_getElem? hx);have h2:=hx2.len;simp only at h1 h2; omega
 ·have h2:=hq2.len;have h3:=hf.1;simp only at h2 h3; omega
 ·exact hcx 4 _ rfl
 ·exact hcq 0 _ rfl
 ·exact hcq 1 _ rfl
 ·have h1:=h.fok.1 _ (List.mem_of_getElem? hx) ((pn:Int),ks) (List.mem_of_getElem? hq) k hk
  rwa [h.len] at h1
theorem TkM.via {w0 w w':World} {A:Option Addr} {n:Nat} {nd:List NdI} {cd:Cand} {b1 o1 b2 o2 pl pc pn kl kc:Nat} {KA:Option Addr} {ks:List Int} (h:TkM w0 w A n nd cd b1 o1 b2 o2 pl pc pn kl kc KA ks) (hb:Below w.heap.size w w'):TkM w0 w' A n nd cd b1 o1 b2 o2 pl pc pn kl kc KA ks :=
 ⟨h.a,h.lt,(hb.cell (World.block_lt_of_cell? _ _ h.c4)).trans h.c4,(hb.cell (World.block_lt_of_cell? _ _ h.p0)).trans h.p0,(hb.cell (World.block_lt_of_cell? _ _ h.p1)).trans h.p1,h.kr.via hb,h.pk,h.kin⟩
def collS (L:List CT):Sum WtK (List CT)→Sum WtK (List CT)
 | .inl w=>.inl w
 | .inr l=>.inr (L++l)
theorem collS_nil (x:Sum WtK (List CT)):collS [] x=x:=by cases x <;> rfl
theorem collS_step {L:List CT} {Ls:List (List CT)} {r:Rk} {i:Nat} {k:Int} {ks:List Int} {x:CT} (h:(lstAt Ls k.toNat)[r.get i]?=some x):collS L (coll Ls r i (k::ks))=collS (L++[x]) (coll Ls r (i+1) ks):=by
 conv=>lhs; unfold coll
 rw [h];simp only;cases coll Ls r (i+1) ks with
 | inl w=>rfl
 | inr l=>simp [collS]
theorem collS_miss {L:List CT} {Ls:List (List CT)} {r:Rk} {i:Nat} {k:Int} {ks:List Int} (h:(lstAt Ls k.toNat)[r.get i]?=none):collS L (coll Ls r i (k::ks))=.inl (k.toNat,r.get i):=by
 unfold coll;rw [h]; rfl
def cdCs (c:Cand) (p:Option Addr):Array Value:=#[.int .i64 (c.1:Int),.int .i64 (c.2.1:Int),.int .i64 (c.2.2.1:Int),.int .i64 (c.2.2.2.1:Int),.int .i64 (c.2.2.2.2.1:Int),.int .i64 (c.2.2.2.2.2:Int),.pointer p]
theorem rank_cell {w:World} {b:Nat} {c:Cand} {p:Option Addr} (h:Blk w b 145 (cdCs c p)) {i:Nat} (hi:i < 4):w.cell? ⟨b,2+i,none⟩=some (.int .i64 (c.2.2.get i:Int)):=by
 rw [h.cell]
 match i,hi with
 | 0,_=>rfl
 | 1,_=>rfl
 | 2,_=>rfl
 | 3,_=>rfl
structure TrI (w:World) (cd:Cand) (bp bt pn kl kc:Nat) (KA:Option Addr) (tg:Nat→Tg) (Ls:List (List CT)) (RES:Sum WtK (List CT)) (ks:List Int) (i:Nat) (L:List CT) (V:Value) (wr:World):Prop where
 bel:Below w.heap.size w wr
 bc:Blk wr w.heap.size 145 #[.int .i64 (cd.1:Int),.int .i64 (cd.2.1:Int),.int .i64 (cd.2.2.1:Int),.int .i64 (cd.2.2.2.1:Int),.int .i64 (cd.2.2.2.2.1:Int),.int .i64 (cd.2.2.2.2.2:Int),.pointer none]
 pk:Blk wr bp 104 #[.int .i64 (pn:Int),.slice KA kl kc]
 tr:Blk wr bt 141 #[.int .i64 (pn:Int),.int .i64 0,.int .i64 (1+szL L),V]
 own:Own PtE 138 (OkT tg) wr (bt+1) V i L
 res:collS L (coll Ls cd.2.2 i (ks.drop i))=RES
 wf:∀ x∈L,x.Wf∧x.size≤5000
 sz:bt+1≤wr.heap.size
theorem TrI.via {w wr w':World} {cd:Cand} {bp bt pn kl kc:Nat} {KA:Option Addr} {tg:Nat→Tg} {Ls:List (List CT)} {RES:Sum WtK (List CT)} {ks:List Int} {i:Nat} {L:List CT} {V:Value} (h:TrI w cd bp bt pn kl kc KA tg Ls RES ks i L V wr) (hb:Below wr.heap.size wr w'):TrI w cd bp bt pn kl kc KA tg Ls RES ks i L V w' :=
 ⟨h.bel.via hb,h.bc.via hb,h.pk.via hb,h.tr.via hb,h.own.via hb,h.res,h.wf,Nat.le_trans h.sz hb.size⟩
theorem TrI.push {w wr w1:World} {cd:Cand} {bp bt pn kl kc:Nat} {KA:Option Addr} {tg:Nat→Tg} {Ls:List (List CT)} {RES:Sum WtK (List CT)} {ks:List Int} {i:Nat} {L:List CT} {V V':Value} {x:CT} (h:TrI w cd bp bt pn kl kc KA tg Ls RES ks i L V wr) (hbp:w.heap.size < bp) (hbt:bp < bt) (hok:∀ b,OkT tg b→b < w.heap.size)
 (ho:Own PtE 138 (OkT tg) w1 (bt+1) V' (i+1) (L++[x])) (hg:wr.grownBy w1 V.ownBlock) (hx:x.Wf∧x.size≤5000) (hr:collS (L++[x]) (coll Ls cd.2.2 (i+1) (ks.drop (i+1)))=RES) :
 Blk (w1.setCell ⟨bt,3,none⟩ V') bt 141 #[.int .i64 (pn:Int),.int .i64 0,.int .i64 (1+szL L),V']∧Below w.heap.size w (w1.setCell ⟨bt,3,none⟩ V') ∧
  ∀ w3:World,Below (w1.setCell ⟨bt,3,none⟩ V').heap.size (w1.setCell ⟨bt,3,none⟩ V') w3→TrI w cd bp bt pn kl kc KA tg Ls RES ks (i+1) (L++[x]) V' (w3.setCell ⟨bt,2,none⟩ (.int .i64 (1+szL L+x.size))):=by
 have hne:∀ j,j≤bt→some j≠V.ownBlock:=fun j hj e=>by have:=(h.own.lt j e.symm).1; omega
 have hT:Blk (w1.setCell ⟨bt,3,none⟩ V') bt 141 #[.int .i64 (pn:Int),.int .i64 0,.int .i64 (1+szL L),V']:=by
  have:=(h.tr.grown hg (hne bt (Nat.le_refl _))).set_ 3 V'; simpa using this
 have hB:Below w.heap.size w (w1.setCell ⟨bt,3,none⟩ V'):=(h.bel.grown hg h.bel.size fun j hj=>by have:=(h.own.lt j hj).1; omega).setCell (p:=⟨bt,3,none⟩) (by show w.heap.size≤bt; omega) _;have hO:Own PtE 138 (OkT tg) (w1.setCell ⟨bt,3,none⟩ V') (bt+1) V' (i+1) (L++[x]):=ho.setCell (p:=⟨bt,3,none⟩) _ (fun b hb=>by have:=hok b hb; show b≠bt; omega) (by show bt < bt+1; omega);refine ⟨hT,hB,fun w3 hb=>⟨(hB.via hb).setCell (p:=⟨bt,2,none⟩) (by show w.heap.size≤bt; omega) _,?_,?_,?_,(hO.via hb).setCell (p:=⟨bt,2,none⟩) _ (fun b hb=>by have:=hok b hb; show b≠bt; omega) (by show bt < bt+1; omega),hr,fun y hy=>?_,?_⟩⟩
 ·exact ((((h.bc.grown hg (hne _ (by omega))).far (p:=⟨bt,3,none⟩) (by show w.heap.size≠bt; omega) _).via hb).far (p:=⟨bt,2,none⟩) (by show w.heap.size≠bt; omega) _)
 ·exact ((((h.pk.grown hg (hne _ (by omega))).far (p:=⟨bt,3,none⟩) (by show bp≠bt; omega) _).via hb).far (p:=⟨bt,2,none⟩) (by show bp≠bt; omega) _)
 ·have h2:=(hT.via hb).set_ 2 (.int .i64 (1+szL L+x.size));have e:1+szL (L++[x])=1+szL L+x.size:=(by rw [szL_append,szL_cons]; simp [szL]; omega);rw [e]; simpa using h2
 ·rcases List.mem_append.1 hy with hy | hy
  ·exact h.wf y hy
  ·rw [List.mem_singleton.1 hy]; exact hx
 ·have h1:=hb.size;have h2:=hg.size;have h3:=h.sz;simp at h1 ⊢; omega
def TryP (w0:World) (bl lb bs bw:Nat) (A:Option Addr) (n c:Nat) (root most:Int) (tg:Nat→Tg) (st st':LsS) (vs:Nat→Value) (w:World) (e:Ending) (w':World):Prop :=
 e=.returned (.tuple #[])∧∃ tg' qv' F',LsM w0 bl lb bs bw A n c root most tg' st' qv' vs F' w'∧(∀ b,b < w.heap.size→tg' b=tg b)∧Frq (TryS tg st.lists) w w'
set_option maxRecDepth 100000 in
set_option maxHeartbeats 8000000 in
theorem try_c (w0:World) (bl lb bs bw:Nat) (A:Option Addr) (n c:Nat) (root:Int) (most base:Nat) (nd:List NdI) (hx:LsX w0 A n c most base nd) (cd:Cand) (hand rem:Nat) (tg:Nat→Tg) (st:LsS) (qv:Value) (vs:Nat→Value) (F:WtK→Option Value) (w:World)
 (hM:LsM w0 bl lb bs bw A n c root (most:Int) tg st qv vs F w) (hc:CdOk nd most cd) (hi:LInv nd most base st (hand+1) rem) :
 Calls Tryz.prog 101 #[.pointer (ptA bl),cdVal cd none] w (TryP w0 bl lb bs bw A n c root (most:Int) tg st (tryL nd cd st) vs w):=by
 obtain ⟨b1,o1,b2,o2,pl,pc,pn,kl,kc,KA,ks,hP⟩:=hx.pack hM.bel hc;have hRes:collS [] (coll st.lists cd.2.2 0 ks)=coll st.lists cd.2.2 0 (packOf nd cd).2:=(by rw [collS_nil,hP.pk]);obtain ⟨RES,hR0⟩:∃ RES,RES=coll st.lists cd.2.2 0 (packOf nd cd).2:=⟨_,rfl⟩;rw [← hR0] at hRes;obtain ⟨Q,hQ⟩:∃ Q,Q=TryP w0 bl lb bs bw A n c root (most:Int) tg st (tryL nd cd st) vs w:=⟨_,rfl⟩;rw [← hQ];have HQQ:=Lib.hid hQ;have HR0:=Lib.hid hR0;have HX:=Lib.hid hx;have HC:=Lib.hid hc;have HI:=Lib.hid hi;have HRES:=Lib.hid hRes;have hsm:=hi.small hx.big;have HSM:=Lib.hid hsm;have hal:=(Below.refl w.heap.size w).al (.cells (cdCs cd none) 145);have BC:=Blk.new w 145 (cdCs cd none);have HB:=Lib.hid hal;have HP0:=Lib.hid hP;have HM0:=Lib.hid hM;clear hQ hR0 hx hc hi hRes hM hP hal hsm;unfold cdCs at BC HB;unfold cdVal;go_enter Tryz.func101,Tryz.ntmps101;go_upto_region 1 with fail;generalize w.alloc (.cells #[.int .i64 (cd.1:Int),.int .i64 (cd.2.1:Int),.int .i64 (cd.2.2.1:Int),.int .i64 (cd.2.2.2.1:Int),.int .i64 (cd.2.2.2.2.1:Int),.int .i64 (cd.2.2.2.2.2:Int),.pointer none] 145)=w1 at *;obtain ⟨rfl,⟨lt1,lt2,lt3,lt4⟩,-,-,-,-,-,-⟩:=HP0.out;have i0:(0:Int)≤(cd.1:Int):=(by omega);have i1:(cd.1:Int) < (n:Int):=(by omega);have j0:(0:Int)≤(cd.2.1:Int):=(by omega);have j1:(cd.2.1:Int) < (pl:Int):=(by omega);have hdr:=(Below.refl w1.heap.size w1).drew;have BC1:=Lib.hid (BC.via hdr);have HB1:=Lib.hid (HB.out.via hdr);clear hdr BC HB;have HP1:=HP0.out.via HB1.out;have hb0:=(HM0.out.via HB1.out).que.blk.cell 0;simp only [List.getElem?_toArray,List.getElem?_cons_zero] at hb0;have hHeld:=And.intro BC1.out.cell (And.intro hb0 (And.intro HP1.c4 (And.intro HP1.p0 HP1.p1)));clear HP1 hb0;refine wp_region_noPanic ?_;refine wp_region_N 15 (fun w'=>(∀ x,w'.cell? ⟨w.heap.size,x,none⟩=#[.int .i64 (cd.1:Int),.int .i64 (cd.2.1:Int),.int .i64 (cd.2.2.1:Int),.int .i64 (cd.2.2.2.1:Int),.int .i64 (cd.2.2.2.2.1:Int),.int .i64 (cd.2.2.2.2.2:Int),.pointer none][x]?)∧w'.cell? ⟨bl,0,none⟩=some (.slice (some ⟨b1,o1,none⟩) n c)∧w'.cell? ⟨b1,o1+cd.1*5+4,none⟩=some (.slice (some ⟨b2,o2,none⟩) pl pc)∧w'.cell? ⟨b2,o2+cd.2.1*2,none⟩=some (.int .i64 (pn:Int))∧w'.cell? ⟨b2,o2+cd.2.1*2+1,none⟩=some (.slice KA kl kc)) (by kernel_rfl) ?_;generalize w1.drew=w2 at *;refine tkN 0 10 ?_;refine tkN 1 11 ?_;refine tkN 2 12 ?_;refine tkN 3 13 ?_;refine tkN 4 14 ?_;refine tkN 5 15 ?_;refine tkN 6 16 ?_;refine tkN 7 17 ?_;refine tkN 8 18 ?_;refine tkN 9 19 ?_;refine tkN 10 20 ?_;refine tkN 11 21 ?_;refine tkN 12 22 ?_;refine tkN 13 23 ?_;clear hHeld;have hal:=(Below.refl w2.heap.size w2).al (.cells #[.int .i64 0,.slice none 0 0] 104);have HB2:=Lib.hid (HB1.out.via hal);have BC2:=Lib.hid (BC1.out.via hal);have BP2:=Blk.new w2 104 #[.int .i64 0,.slice none 0 0];have HBP:=Lib.hid (show w.heap.size < w2.heap.size from BC1.out.lt);clear hal HB1 BC1;have HP1:=HP0.out.via HB2.out;have hb0:=(HM0.out.via HB2.out).que.blk.cell 0;simp only [List.getElem?_toArray,List.getElem?_cons_zero] at hb0;have hHeld:=And.intro BC2.out.cell (And.intro hb0 (And.intro HP1.c4 (And.intro HP1.p0 HP1.p1)));clear HP1 hb0;refine wpAnyN.ready (rs:=[14]) (by kernel_rfl) (by simp) ?_;refine AllN.cons rfl (fun K hK=>?_) AllN.nil;go_simp;refine hK.out _ _ (fun _=>hHeld) ?_;clear hK K hHeld;try simp only [Act.put,List.setIfInBounds_toArray,List.set_cons_zero,List.set_cons_succ]
 generalize w2.alloc (.cells #[.int .i64 0,.slice none 0 0] 104)=w3 at *;generalize w2.heap.size=bp at *;refine wpAnyN.ready (rs:=[15]) (by kernel_rfl) (by simp) ?_;refine AllN.cons rfl (fun K hK=>?_) AllN.nil;have cBP2:=BP2.cell;have fBP2:=BP2.frozen;have lBP2:=BP2.lt;go_simp;refine hK.out _ _ (fun h=>absurd h (by decide)) ?_;clear hK K;clear cBP2 fBP2 lBP2;refine wpAnyN.done (by kernel_rfl) ?_ _;refine NoPanic.normal ?_
 have BP3:Blk ((w3.setCell ⟨bp,0,none⟩ (.int .i64 (pn:Int))).setCell ⟨bp,1,none⟩ (.slice KA kl kc)) bp 104 #[.int .i64 (pn:Int),.slice KA kl kc]:=by
  have:=(BP2.set_ 0 (.int .i64 (pn:Int))).set_ 1 (.slice KA kl kc); simpa using this
 have BC3:=Lib.hid ((BC2.out.far (p:=⟨bp,0,none⟩) (fun e=>by have:=HBP.out; simp only at e; omega) (.int .i64 (pn:Int))).far (p:=⟨bp,1,none⟩) (fun e=>by have:=HBP.out; simp only at e; omega) (.slice KA kl kc));have HB3:=Lib.hid ((HB2.out.setCell (p:=⟨bp,0,none⟩) (Nat.le_of_lt HBP.out) (.int .i64 (pn:Int))).setCell (p:=⟨bp,1,none⟩) (Nat.le_of_lt HBP.out) (.slice KA kl kc));clear BP2 BC2 HB2;generalize (w3.setCell ⟨bp,0,none⟩ (.int .i64 (pn:Int))).setCell ⟨bp,1,none⟩ (.slice KA kl kc)=w4 at *;have BT4:=Lib.hid (Blk.new w4 141 #[.int .i64 (pn:Int),.int .i64 0,.int .i64 1,.slice none 0 0]);have hal:=(Below.refl w4.heap.size w4).al (.cells #[.int .i64 (pn:Int),.int .i64 0,.int .i64 1,.slice none 0 0] 141);have HB4:=Lib.hid (HB3.out.via hal);have BC4:=Lib.hid (BC3.out.via hal);have BP4:=BP3.via hal;have HBT:=Lib.hid (show bp < w4.heap.size from BP3.lt);have HSZ4:=Lib.hid (show w4.heap.size+1≤(w4.alloc (.cells #[.int .i64 (pn:Int),.int .i64 0,.int .i64 1,.slice none 0 0] 141)).heap.size by simp);clear hal BC3 HB3;have cBP3:=BP3.cell;have fBP3:=BP3.frozen;have lBP3:=BP3.lt;have cBP4:=BP4.cell;have fBP4:=BP4.frozen;have lBP4:=BP4.lt;go_wp2_with fail;clear cBP3 fBP3 lBP3 cBP4 fBP4 lBP4;have HP4:=Lib.hid BP4;clear BP3 BP4;generalize w4.alloc (.cells #[.int .i64 (pn:Int),.int .i64 0,.int .i64 1,.slice none 0 0] 141)=w5 at *;generalize w4.heap.size=bt at *
 go_loopw [31] (fun q wr=>∃ (i:Nat) (L:List CT) (V:Value),q=.int .i64 (i:Int)∧i≤kl∧Hid (TrI w cd bp bt pn kl kc KA tg st.lists RES ks i L V wr)) (fun q _=>kl - (intOf q).toNat)
 case atStart =>
  exact ⟨0,[],_,rfl,Nat.zero_le _,Lib.hid ⟨HB4.out,BC4.out,HP4.out,BT4.out,Own.nil _ _,by rw [List.drop_zero]; exact HRES.out,fun x hx=>absurd hx List.not_mem_nil,HSZ4.out⟩⟩
 case round =>
  obtain ⟨i,L,V,rfl,hi,HQ⟩:=hrel;clear HB4 BC4 HP4 BT4 HSZ4 HRES;obtain ⟨VA,vc,rfl,hvc⟩:=HQ.out.own.form
  by_cases hik:i < kl
  ·have hMr:=HM0.out.via HQ.out.bel;obtain ⟨b3,o3,k0,k1,hKA,-,hb3,hkk,hkr,hck⟩:=(HP0.out.via HQ.out.bel).kr.at_ hik;obtain rfl:k0=k1:=hkr;have hkin:=HP0.out.kin k0 (List.mem_of_getElem? hkk);obtain ⟨kv,rfl⟩:∃ kv:Nat,k0=(kv:Int):=⟨k0.toNat,by omega⟩;subst hKA;have d0:=hck 0 _ rfl;simp only [InE,Nat.mul_one,Nat.add_zero] at d0;have hkv:kv < n:=(by omega);have i0':(0:Int)≤(i:Int):=(by omega);have i1':(i:Int) < (kl:Int):=(by omega);have i4':(i:Int) < 4:=(by omega);have v0:(0:Int)≤(kv:Int):=(by omega);have v1:(kv:Int) < (n:Int):=(by omega);obtain ⟨cs,hlb,hcs,hcv⟩:=hMr.lbk;have l0:=hlb.cell kv;rw [hcv kv hkv] at l0;obtain ⟨LA,lc,hvs,hlc⟩:=(hMr.lst kv hkv).form;rw [hvs] at l0;have g0:=hMr.que.blk.cell 3;have rc:=rank_cell (c:=cd) (p:=none) HQ.out.bc (i:=i) (by omega);simp only [List.getElem?_toArray,List.getElem?_cons_succ,List.getElem?_cons_zero] at g0;have HVS:=Lib.hid hvs;have HKK:=Lib.hid hkk;have HLB:=Lib.hid (And.intro hkv hkin);clear hMr hck hkk hkin hlb hcs hcv hvs hb3 cs;obtain ⟨rk,hrk⟩:∃ rk,rk=cd.2.2.get i:=⟨_,rfl⟩;have HRK:=Lib.hid hrk;rw [← hrk] at rc;clear hrk;obtain ⟨m,hm⟩:∃ m,m=(lstAt st.lists kv).length:=⟨_,rfl⟩;rw [← hm] at l0 hlc;have HMM:=Lib.hid hm;rw [← hm] at HVS;clear hm
   have HDR:=Lib.hid (show ks.drop i=(kv:Int)::ks.drop (i+1) by
    have h1:=List.getElem?_eq_some_iff.1 HKK.out
    rw [List.drop_eq_getElem_cons h1.1,h1.2])
   by_cases hrm:rk < m
   ·have r0:(0:Int)≤(rk:Int):=(by omega);have r1:(rk:Int) < (m:Int):=(by omega);go_upto_region 6 with fail
    go_quiet (fail)
    have HDQ:=below_drewN (Below.refl wr.heap.size wr) nq;have HQ6:=Lib.hid (HQ.out.via HDQ);have e1:=(HDQ.cell (World.block_lt_of_cell? _ _ rc)).trans rc;have e2:=(HDQ.cell (World.block_lt_of_cell? _ _ l0)).trans l0;have e3:=(HDQ.cell (World.block_lt_of_cell? _ _ g0)).trans g0;clear HDQ HQ rc l0 g0 d0;generalize wr.drewN nq=w6 at *;have hown:=(HM0.out.via HQ6.out.bel).lst kv HLB.out.1;rw [HVS.out,← HMM.out] at hown;obtain ⟨g6,rfl⟩:=hown.addrT (by omega);obtain ⟨p6,x6,hx6,ht6,hc6,-,-,-⟩:=hown.elt (q:=rk) hrm;have f0:=hc6 0 _ rfl;simp only [PtE,Nat.mul_one,Nat.add_zero] at f0;have HX6:=Lib.hid (And.intro hx6 (show PtR (OkT tg) w6 p6 x6 from PtR.mono ht6 fun b _ hb=>hb.1));clear hown hx6 ht6 hc6;go_upto_region 9 with fail
    go_still_tail 13,(by kernel_rfl)
    change wpList _ _ _ _ _ w6.drew
    have hdr:=(Below.refl w6.heap.size w6).drew;have HQ7:=Lib.hid (HQ6.out.via hdr);have HX7:=Lib.hid (And.intro HX6.out.1 (PtR.via HX6.out.2 hdr));clear hdr e1 e2 e3 f0 HQ6 HX6;generalize w6.drew=w7 at *;have hal:=(Below.refl w7.heap.size w7).al (.cells #[.pointer (some ⟨p6,0,none⟩)] 138);have HQ8:=Lib.hid (HQ7.out.via hal);have HX8:=Lib.hid (And.intro HX7.out.1 (PtR.via HX7.out.2 hal));have HOK:=Lib.hid (show ∀ b,OkT tg b→b < w.heap.size from fun b hb=>(HM0.out.rng b (by rw [show tg b=.tree from hb]; exact fun e=>by cases e)).2);have BT7:=HQ7.out.tr;clear hal;have hi4:i+1≤4:=(by omega);have cBT7:=BT7.cell;have fBT7:=BT7.frozen;have lBT7:=BT7.lt;go_upto_region 11 with (at_builtin; refine wpList_append_pt _ rfl (.tmp 83) (.tmp 85) rfl (OkT tg) (bt+1) (.slice VA i vc) i L rfl HQ8.out.own w7.heap.size p6 x6 rfl (Blk.new w7 138 #[.pointer (some ⟨p6,0,none⟩)]) (PtR.mono HX8.out.2 fun b _ hb=>⟨hb,fun e=>by have:=(HQ8.out.own.lt b e.symm).1; have:=HOK.out b hb; have:=HBP.out; have:=HBT.out; omega⟩) (by omega) HQ8.out.sz ?_; intro A' c' w9 ho hg hat; have hBT9:=HQ8.out.tr.grown hg (fun e=>by have:=(HQ8.out.own.lt bt e.symm).1; omega); have cB9:=hBT9.cell; have fB9:=hBT9.frozen; have lB9:=hBT9.lt)
    clear cBT7 fBT7 lBT7;clear cB9 fB9 lB9 hBT9 BT7;have hli:=(HI.out.lst kv).2 x6 (List.mem_of_getElem? HX8.out.1);have hres:=HQ8.out.res;rw [HDR.out,collS_step (x:=x6) (by rw [Int.toNat_natCast,← HRK.out]; exact HX8.out.1)] at hres;obtain ⟨hT10,hB10,hfin⟩:=HQ8.out.push HBP.out HBT.out HOK.out ho hg hli hres;have ht10:PtR (OkT tg) (w9.setCell ⟨bt,3,none⟩ (.slice A' (i+1) c')) p6 x6:=PtR.agr (PtR.agr HX8.out.2 (Agr.grown hg fun b hb e=>by have:=(HQ8.out.own.lt b e.symm).1; have:=HOK.out b hb; have:=HBP.out; have:=HBT.out; omega)) (Agr.setCell (p:=⟨bt,3,none⟩) _ fun b hb=>by have:=HOK.out b hb; have:=HBP.out; have:=HBT.out; show b≠bt; omega);have HFIN:=Lib.hid hfin
    have HL4:=Lib.hid (show szL L≤20000∧0≤szL L∧x6.size≤5000∧0≤x6.size from by
     have h1:=szL_le (m:=5000) fun t ht=>(HQ8.out.wf t ht).2
     have h2:=szL_nn fun t ht=>(HQ8.out.wf t ht).1
     have h3:=HQ8.out.own.len;have h4:=hli.1.pos;have h5:(5000:Int)*L.length≤5000*4:=(by omega)
     omega)
    clear hli hres hfin ho hg hat hB10 HQ7 HX7 HQ8 HX8;generalize w9.setCell ⟨bt,3,none⟩ (.slice A' (i+1) c')=w10 at *;obtain ⟨SA,sc,-,hBx,-⟩:=ht10.open;have HTT:=Lib.hid hT10;have chT10:=hT10.cell;have fhT10:=hT10.frozen;have lhT10:=hT10.lt;have chBx:=hBx.cell;have fhBx:=hBx.frozen;have lhBx:=hBx.lt
    go_still_tail 9,(by kernel_rfl)
    clear chT10 fhT10 lhT10 chBx fhBx lhBx;clear hT10 hBx ht10;change wpList _ _ _ _ _ w10.drew
    have hdr:=(Below.refl w10.heap.size w10).drew;have HFN:=Lib.hid (HFIN.out w10.drew hdr);have hT11:=HTT.out.via hdr;clear hdr HFIN HTT;generalize w10.drew=w11 at *;have hw1:IntKind.i64.wrap (1+szL L+x6.size)=1+szL L+x6.size:=IntWalk.i64_in _ (by have:=HL4.out; omega);have hw2:IntKind.i64.wrap ((i:Int)+1)=(i:Int)+1:=IntWalk.i64_in _ (by omega);have chT11:=hT11.cell;have fhT11:=hT11.frozen;have lhT11:=hT11.lt;go_wp2_with fail;exact ⟨⟨i+1,L++[x6],_,by go_num,by omega,HFN⟩,by simp [intOf]; omega⟩
   ·have r1:(m:Int)≤(rk:Int):=(by omega);go_upto_region 6 with fail
    go_quiet (fail)
    have HDQ:=below_drewN (Below.refl wr.heap.size wr) nq;have HQ6:=Lib.hid (HQ.out.via HDQ);have e1:=(HDQ.cell (World.block_lt_of_cell? _ _ rc)).trans rc;clear HDQ HQ rc l0 g0 d0;generalize wr.drewN nq=w6 at *;have hal:=(Below.refl w6.heap.size w6).al (.cells #[.int .i64 (kv:Int),.int .i64 (rk:Int)] 193);have HQ7:=Lib.hid (HQ6.out.via hal);have BW7:=Lib.hid (Blk.new w6 193 #[.int .i64 (kv:Int),.int .i64 (rk:Int)]);clear hal HQ6;go_upto_region 8 with fail;clear e1;generalize w6.alloc (.cells #[.int .i64 (kv:Int),.int .i64 (rk:Int)] 193)=w7 at *;generalize w6.heap.size=b7 at *;have hdr:=(Below.refl w7.heap.size w7).drew;have HQ8:=Lib.hid (HQ7.out.via hdr);have BW8:=Lib.hid (BW7.out.via hdr);clear hdr HQ7 BW7;have hb0:=(HM0.out.via HQ8.out.bel).que.blk.cell 5;simp only [List.getElem?_toArray,List.getElem?_cons_succ,List.getElem?_cons_zero] at hb0;have hHeld:=And.intro BW8.out.cell (And.intro hb0 HQ8.out.bc.cell);clear hb0;refine wp_region_noPanic ?_;refine wp_region_N 7 (fun w'=>(∀ x,w'.cell? ⟨b7,x,none⟩=#[.int .i64 (kv:Int),.int .i64 (rk:Int)][x]?)∧w'.cell? ⟨bl,5,none⟩=some (.map (some bw))∧(∀ x,w'.cell? ⟨w.heap.size,x,none⟩=#[.int .i64 (cd.1:Int),.int .i64 (cd.2.1:Int),.int .i64 (cd.2.2.1:Int),.int .i64 (cd.2.2.2.1:Int),.int .i64 (cd.2.2.2.2.1:Int),.int .i64 (cd.2.2.2.2.2:Int),.pointer none][x]?)) (by kernel_rfl) ?_;generalize w7.drew=w8 at *;refine tkN 0 55 ?_;refine tkN 1 56 ?_;refine tkN 2 57 ?_;refine tkN 3 58 ?_;refine tkN 4 59 ?_;refine tkN 5 61 ?_;clear hHeld;have hal:=(Below.refl w8.heap.size w8).al (.cells #[.int .i64 (cd.1:Int),.int .i64 (cd.2.1:Int),.int .i64 (cd.2.2.1:Int),.int .i64 (cd.2.2.2.1:Int),.int .i64 (cd.2.2.2.2.1:Int),.int .i64 (cd.2.2.2.2.2:Int),.pointer none] 145);have HQ9:=Lib.hid (HQ8.out.via hal);have BW9:=Lib.hid (BW8.out.via hal);have BN9:=Lib.hid (Blk.new w8 145 #[.int .i64 (cd.1:Int),.int .i64 (cd.2.1:Int),.int .i64 (cd.2.2.1:Int),.int .i64 (cd.2.2.2.1:Int),.int .i64 (cd.2.2.2.2.1:Int),.int .i64 (cd.2.2.2.2.2:Int),.pointer none]);have HW8:=Lib.hid (show w.heap.size < w8.heap.size from HQ8.out.bc.lt);clear hal HQ8 BW8;have hb0:=(HM0.out.via HQ9.out.bel).que.blk.cell 5;simp only [List.getElem?_toArray,List.getElem?_cons_succ,List.getElem?_cons_zero] at hb0;have hHeld:=And.intro BW9.out.cell (And.intro hb0 HQ9.out.bc.cell);clear hb0;refine wpAnyN.ready (rs:=[6]) (by kernel_rfl) (by simp) ?_;refine AllN.cons rfl (fun K hK=>?_) AllN.nil;go_simp;refine hK.out _ _ (fun _=>hHeld) ?_;clear hK K hHeld;try simp only [Act.put,List.setIfInBounds_toArray,List.set_cons_zero,List.set_cons_succ]
    generalize w8.alloc (.cells #[.int .i64 (cd.1:Int),.int .i64 (cd.2.1:Int),.int .i64 (cd.2.2.1:Int),.int .i64 (cd.2.2.2.1:Int),.int .i64 (cd.2.2.2.2.1:Int),.int .i64 (cd.2.2.2.2.2:Int),.pointer none] 145)=w9 at *;generalize w8.heap.size=b9 at *;obtain ⟨kl0,hkl⟩:=wk_key (kv,rk) (by have:=HX.out.n1; simp only; omega) (by have:=HC.out.2.2 i; have:=HX.out.m1; have:=HRK.out; simp only; omega);obtain ⟨w10,sti,v0,hrun,hv0,hg10,hz10,hst⟩:=(HM0.out.via HQ9.out.bel).wts.entryV wk_keyed Tryz.underlying133 wkVal_inj (kv,rk) hkl (z:=.slice none 0 0) (by kernel_rfl) (fun es clock he=>Nat.lt_of_le_of_lt (waits_room (HM0.out.via HQ9.out.bel).wts HM0.out.wno HI.out.wk es clock he) (by have:=HSM.out; simp [maxLen]; omega));have hrun':(Instr.mapEntry 133 (.map (some bw)) (.agg #[.int .i64 (kv:Int),.int .i64 (rk:Int)])).run Tryz.prog w9=.ok (.tuple #[v0,.int .i64 (sti:Int)]) w10:=hrun;obtain ⟨hwr,hwn⟩:=(HM0.out.via HQ9.out.bel).waitRow (kv,rk);rw [← hv0] at hwr hwn;obtain ⟨WA,wc,rfl,-⟩:=hwr.form;have HST:=Lib.hid hst;have HV0:=Lib.hid hv0;have HWN:=Lib.hid hwn
    have HWR:=Lib.hid (hwr.agr (Agr.grown hg10 (row:=some bw) fun b hb e=>by
     rcases hb with hb | hb
     ·exact hb
     ·exact hwn b hb.symm (Option.some.inj e)))
    have HG10:=Lib.hid hg10
    have HWLT:=Lib.hid (show bw < b9∧bw < w.heap.size from by
     have h1:=HM0.out.wts.lt;have:=HW8.out
     omega)
    have HBN:=Lib.hid (BN9.out.grown hg10 (fun e=>by have:=HWLT.out; have:=Option.some.inj e; omega));clear hrun hv0 hg10 hst hwr hwn hkl hz10;refine wpAnyN.ready (rs:=[7]) (by kernel_rfl) (by simp) ?_;refine AllN.cons rfl (fun K hK=>?_) AllN.nil;go_simp;refine hK.out _ _ (fun h=>absurd h (by decide)) ?_;clear hK K hrun';try simp only [Act.put,List.setIfInBounds_toArray,List.set_cons_zero,List.set_cons_succ]
    refine wpAnyN.free (i:=8) (d:=some 60) (v:=?_) rfl (by decide) (by kernel_rfl) (by kernel_rfl) (by kernel_rfl) rfl (fun _ _ _ h=>h) (Or.inl ⟨by rfl,?_⟩) (fun h=>absurd h (by decide)) ?_;rotate_left
    ·intro w hSw; go_simp; try with_reducible rfl
    simp only [Act.put];refine wpAnyN.free (i:=10) (d:=some 65) (v:=?_) rfl (by decide) (by kernel_rfl) (by kernel_rfl) (by kernel_rfl) rfl (fun _ _ _ h=>h) (Or.inl ⟨by rfl,?_⟩) (fun h=>absurd h (by decide)) ?_;rotate_left
    ·intro w hSw; go_simp; try with_reducible rfl
    simp only [Act.put];refine wpAnyN.ready (rs:=[9]) (by kernel_rfl) (by simp) ?_;refine AllN.cons rfl (fun K hK=>?_) AllN.nil;refine step_append_wt _ rfl (.tmp 60) (.tmp 62) rfl (fun _=>False) w0.heap.size (.slice WA (wGet st.waits (kv,rk)).length wc) (wGet st.waits (kv,rk)).length (wGet st.waits (kv,rk)) rfl HWR.out b9 cd cd rfl HBN.out rfl (by have:=wGet_le st.waits (kv,rk); have:=HSM.out; omega) (by have h1:=HM0.out.bel.size; have h2:=HQ9.out.bel.size; have h3:=HG10.out.size; omega) ?_;intro A' c' w11 ho hg hat;obtain ⟨w12,hrunE,hm,hg12,hz12⟩:=HST.out (.slice A' ((wGet st.waits (kv,rk)).length+1) c') w11 (hg.block bw (by have:=HWLT.out; have:=HBN.out.lt; omega) (fun e=>HWN.out bw e.symm rfl))
    have hone:∀ b,(Value.slice A' ((wGet st.waits (kv,rk)).length+1) c').ownBlock=some b→b≠bw:=fun b hb e=>by
     rcases hat with h1 | h1
     ·exact HWN.out b (h1.symm.trans hb) e
     ·rw [h1] at hb;have:=Option.some.inj hb;have:=HWLT.out;have:=HBN.out.lt;omega
    have HFR:=Lib.hid (show Frq (fun b=>b=bw∨some b=(Value.slice WA (wGet st.waits (kv,rk)).length wc).ownBlock) w w12 from
     ((((Frq.bel (HQ9.out.bel.mono (Nat.le_refl _))).trans2 (Frq.row (S:=fun b=>b=bw∨some b=(Value.slice WA (wGet st.waits (kv,rk)).length wc).ownBlock) HG10.out fun b e _=>Or.inl (Option.some.inj e).symm) fun b _ h=>h).trans2 (Frq.row (S:=fun b=>b=bw∨some b=(Value.slice WA (wGet st.waits (kv,rk)).length wc).ownBlock) hg fun b e _=>Or.inr e.symm) fun b _ h=>h).trans2 (Frq.row (S:=fun b=>b=bw∨some b=(Value.slice WA (wGet st.waits (kv,rk)).length wc).ownBlock) hg12 fun b e _=>Or.inl (Option.some.inj e).symm) fun b _ h=>h))
    have HO12:=Lib.hid (ho.agr (Agr.grown hg12 (row:=some bw) fun b hb e=>by
     rcases hb with hb | hb
     ·exact hb
     ·exact hone b hb.symm (Option.some.inj e)))
    have HAT:=Lib.hid (show (Value.slice A' ((wGet st.waits (kv,rk)).length+1) c').ownBlock=(Value.slice WA (wGet st.waits (kv,rk)).length wc).ownBlock∨∀ b,(Value.slice A' ((wGet st.waits (kv,rk)).length+1) c').ownBlock=some b→w.heap.size≤b from by
     rcases hat with h1 | h1
     ·exact Or.inl h1
     ·refine Or.inr fun b hb=>?_
      rw [h1] at hb;have:=Option.some.inj hb;have h2:=HQ9.out.bel.size;have h3:=HG10.out.size
      omega)
    have HMP:=Lib.hid hm;clear hm hg12 hz12 hone hat hg ho HST;refine hK.out _ _ (fun h=>absurd h (by decide)) ?_;clear hK K;try simp only [Act.put,List.setIfInBounds_toArray,List.set_cons_zero,List.set_cons_succ]
    refine wpAnyN.ready (rs:=[11]) (by kernel_rfl) (by simp) ?_;refine AllN.cons rfl (fun K hK=>?_) AllN.nil;go_simp;refine hK.out _ _ (fun h=>absurd h (by decide)) ?_;clear hK K hrunE;refine wpAnyN.done (by kernel_rfl) ?_ _;refine NoPanic.normal ?_;have hres:=HQ9.out.res;rw [HDR.out,collS_miss (by rw [Int.toNat_natCast,← HRK.out]; exact List.getElem?_eq_none_iff.2 (by rw [← HMM.out]; omega)),Int.toNat_natCast,← HRK.out] at hres;have HTL:=Lib.hid (show tryL nd cd st={ st with waits:=wAdd st.waits (kv,rk) cd } by unfold tryL; rw [← HR0.out,← hres]);obtain ⟨tg',hl1,hl2,hl3⟩:=HM0.out.waited (k:=(kv,rk)) (c0:=cd) HV0.out HFR.out (by rw [List.length_append,List.length_singleton]; exact HO12.out) HAT.out HMP.out (by have:=HMM.out; show (lstAt st.lists kv).length≤rk; omega);have HFN:=Lib.hid (And.intro hl1 (And.intro hl2 hl3));clear hl1 hl2 hl3 hres HFR HO12 HAT HMP HQ9;go_wp2_with fail;refine bodyPost_end (v:=.tuple #[]) (by simp [results,Tryz.results101,go_sem]) rfl ?_;rw [HQQ.out,HTL.out];exact ⟨rfl,tg',qv,_,HFN.out.1,HFN.out.2.1,HFN.out.2.2⟩
  ·obtain rfl:i=kl:=(by omega);have hks:ks.drop i=[]:=List.drop_eq_nil_of_le (by rw [HP0.out.kr.len]; exact Nat.le_refl _);have hres:=HQ.out.res;rw [hks] at hres;have hres2:RES=.inr L:=(by rw [← hres]; simp [coll,collS]);have hlen:=HQ.out.own.len
   have HTL:=Lib.hid (show tryL nd cd st={ st with q:=upQ (st.q++[(cd,.mk (pn:Int) 0 (1+szL L) L)]) st.q.length } by
    unfold tryL; rw [← HR0.out,hres2,HP0.out.pk])
   have hWf:(CT.mk (pn:Int) 0 (1+szL L) L).Wf:=.mk _ _ L (fun x hx=>(HQ.out.wf x hx).1) (by omega) (fun h=>by omega)
   have hSz:(CT.mk (pn:Int) 0 (1+szL L) L).size≤100000:=by
    show 1+szL L≤100000
    have h1:=szL_le (m:=5000) fun t ht=>(HQ.out.wf t ht).2
    have h5:(5000:Int)*L.length≤5000*4:=(by omega);omega
   have HWF:=Lib.hid (And.intro hWf hSz);have hlen':=hlen;clear hks hres hres2 hlen hWf hSz;have HZ:=Lib.hid (show w.heap.size < bp∧bp < bt∧bt < wr.heap.size from ⟨HBP.out,HBT.out,HQ.out.tr.lt⟩);have hnb:bp≠w.heap.size:=(by have:=HBP.out; omega);have BC:=HQ.out.bc
   have BC1:Blk (wr.setCell ⟨w.heap.size,6,none⟩ (.pointer (ptA bt))) w.heap.size 145 #[.int .i64 (cd.1:Int),.int .i64 (cd.2.1:Int),.int .i64 (cd.2.2.1:Int),.int .i64 (cd.2.2.2.1:Int),.int .i64 (cd.2.2.2.2.1:Int),.int .i64 (cd.2.2.2.2.2:Int),.pointer (ptA bt)]:=by
    have:=BC.set_ 6 (.pointer (ptA bt)); simpa using this
   have BP1:=HQ.out.pk.far (p:=⟨w.heap.size,6,none⟩) hnb (.pointer (ptA bt));have HB1:=Lib.hid (HQ.out.bel.setCell (p:=⟨w.heap.size,6,none⟩) (Nat.le_refl _) (.pointer (ptA bt)));have HT1:=Lib.hid (HQ.out.tr.far (p:=⟨w.heap.size,6,none⟩) (by show bt≠w.heap.size; have:=HZ.out; omega) (.pointer (ptA bt)));have HOK:=Lib.hid (show ∀ b,OkT tg b→b < w.heap.size from fun b hb=>(HM0.out.rng b (by rw [show tg b=.tree from hb]; exact fun e=>by cases e)).2);have HO1:=Lib.hid (HQ.out.own.setCell (p:=⟨w.heap.size,6,none⟩) (.pointer (ptA bt)) (fun b hb=>by have:=HOK.out b hb; show b≠w.heap.size; omega) (by have:=HZ.out; show w.heap.size < bt+1; omega));have hch:((pn:Int)==-2)=false:=(by simp);have cBC:=BC.cell;have fBC:=BC.frozen;have lBC:=BC.lt;have cBP1:=BP1.cell;have fBP1:=BP1.frozen;have lBP1:=BP1.lt;go_upto_region 16 with fail;clear cBC fBC lBC cBP1 fBP1 lBP1;clear BC BP1 hch;generalize wr.setCell ⟨w.heap.size,6,none⟩ (.pointer (ptA bt))=w1 at *;have cBC1:=BC1.cell;have fBC1:=BC1.frozen;have lBC1:=BC1.lt
   go_still_tail 6,(by kernel_rfl)
   clear cBC1 fBC1 lBC1;clear BC1;change wpList _ _ _ _ _ w1.drew
   have hdr:=(Below.refl w1.heap.size w1).drew;have HB2:=Lib.hid (HB1.out.via hdr);have HT2:=Lib.hid (HT1.out.via hdr);have HO2:=Lib.hid (HO1.out.via hdr);clear hdr HB1 HT1 HO1;generalize w1.drew=w2 at *
   classical
   obtain ⟨tg2,htg2⟩:∃ tg2:Nat→Tg,tg2=fun b=>if b=bt∨(Value.slice VA i vc).ownBlock=some b then Tg.tree else tg b:=⟨_,rfl⟩
   have hfree:∀ b,w.heap.size≤b→tg b=.free:=fun b hb=>Classical.byContradiction fun h=>absurd (HM0.out.rng b h).2 (by omega)
   have hnew:∀ b,(b=bt∨(Value.slice VA i vc).ownBlock=some b)→w.heap.size≤b∧b < w2.heap.size:=fun b hb=>by
    have h1:=HZ.out
    rcases hb with rfl | hb
    ·exact ⟨by omega,HT2.out.lt⟩
    ·have:=HO2.out.lt b hb;exact ⟨by omega,this.2⟩
   have hpos:∀ b,(b=bt∨(Value.slice VA i vc).ownBlock=some b)→tg2 b=.tree:=fun b hb=>by rw [htg2]; exact if_pos hb
   have hneg:∀ b,¬ (b=bt∨(Value.slice VA i vc).ownBlock=some b)→tg2 b=tg b:=fun b hb=>by rw [htg2]; exact if_neg hb
   have hT2:∀ b,tg b≠.free→tg2 b=tg b:=fun b hb=>hneg b fun e=>hb (hfree b (hnew b e).1)
   have hLo:∀ b,b < w.heap.size→tg2 b=tg b:=fun b hb=>hneg b fun e=>by have:=(hnew b e).1; omega
   have hM2:LsM w0 bl lb bs bw (some ⟨b1,o1,none⟩) n c root (most:Int) tg2 st qv vs F w2:=(HM0.out.via HB2.out).retag hT2 fun b hb=>by
    by_cases e:b=bt∨(Value.slice VA i vc).ownBlock=some b
    ·have h1:=hnew b e;have h2:=HM0.out.bel.size;omega
    ·rw [hneg b e] at hb;have h1:=HM0.out.rng b hb;have h2:=HB2.out.size;omega
   have hne:∀ b,tg2 b=.tree→some b≠qv.ownBlock∧b≠bl:=fun b hb=>by
    refine ⟨fun e=>?_,fun e=>?_⟩
    ·have:=hM2.qtg b e.symm;rw [hb] at this; cases this
    ·have:=hM2.fix.1;rw [← e,hb] at this; cases this
   have hsl:Sl PtE (fun b=>OkT tg2 b∧some b≠qv.ownBlock∧b≠bl) w2 VA i vc L:=HO2.out.toSl3 (fun b _ hk=>by
    have hk':tg b=.tree:=hk;have h2:tg2 b=.tree:=(hT2 b (by rw [hk']; exact fun e=>by cases e)).trans hk'
    exact ⟨h2,hne b h2⟩) fun b hb=>⟨hpos b (Or.inr hb),hne b (hpos b (Or.inr hb))⟩
   have htree:PtR (fun b=>OkT tg2 b∧some b≠qv.ownBlock∧b≠bl) w2 bt (.mk (pn:Int) 0 (1+szL L) L):=PtR.make ⟨hpos bt (Or.inl rfl),hne bt (hpos bt (Or.inl rfl))⟩ HT2.out hsl;have hpu:=push_c w0.heap.size bl (.slice (some ⟨b1,o1,none⟩) n c) (.int .i64 root) (.int .i64 (most:Int)) (.slice (some ⟨lb,0,none⟩) n n) (.map (some bs)) (.map (some bw)) (OkT tg2) st.q.length st.q qv cd _ bt w2 hM2.que (by have:=HSM.out; omega) hM2.size htree HWF.out.1 HWF.out.2 (fun b hb=>(hne b hb).2);simp only [cdVal] at hpu;have HPU:=Lib.hid hpu;have HM2:=Lib.hid hM2;have HLO:=Lib.hid hLo;clear hpu hM2 hLo hsl htree hne hT2 hpos hneg hnew hfree htg2;go_wp2_with fail;refine HPU.out.mono ?_;clear HPU;rintro e w3 hpp;obtain ⟨rfl,tg3,qv3,hm3,ht3,hf3⟩:=HM2.out.pushed hpp (by rw [upQ_len _ _ _ (Nat.le_refl _)]; simp);have HFN:=Lib.hid (And.intro hm3 (And.intro ht3 hf3));clear hpp hm3 ht3 hf3;go_wp2_with fail;refine bodyPost_end (v:=.tuple #[]) (by simp [results,Tryz.results101,go_sem]) rfl ?_;rw [HQQ.out,HTL.out];refine ⟨rfl,tg3,qv3,F,HFN.out.1,fun b hb=>(HFN.out.2.1 b (Nat.lt_of_lt_of_le hb HB2.out.size)).trans (HLO.out b hb),(Frq.bel HB2.out).trans2 HFN.out.2.2 fun b hb hs=>?_⟩;simp only [TryS] at hs ⊢
   rwa [HLO.out b hb] at hs
end Go.Proofs.YtfcihnpmeabacaaGreatDoor
