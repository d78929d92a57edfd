/- Texts TN, SU, TP, laid together. -/
import Derived.Test.YtfcihnpmeabacaaGreatDoorW1
import Derived.Test.YtfcihnpmeabacaaGreatDoorW20
import Derived.Test.YtfcihnpmeabacaaGreatDoorW5
namespace Go.Proofs.YtfcihnpmeabacaaGreatDoor
open Go.RowKit
theorem qe_info:(Tryz.prog.info? 145).map (fun i=>(i.zero,i.size,i.bytes))=some (some (.agg #[.int .i64 0,.int .i64 0,.int .i64 0,.int .i64 0,.int .i64 0,.int .i64 0,.pointer none]),7,56):=by kernel_rfl
theorem step_append_qe {ops:Array Oper} {o:Oper} {a:Act} {K:Act→World→Prop} {Q:Exit→Act→World→Prop} {F:Prop} (w:World) (hgd:o.guard=none) (s y:Operand)
 (ho:o.op=.call { callee:=.builtin .append,args:=#[s,y],argTypes:=#[135,135] })
 (ok:Nat→Prop) (base:Nat) (v:Value) (n:Nat) (l:List QE) (hv:a.eval s=v) (hown:Own QuE 145 ok w base v n l)
 (b:Nat) (r:(Cand×Nat)) (x:QE) (hy:a.eval y=.slice (some ⟨b,0,none⟩) 1 1) (hcell:Blk w b 145 (QuE.cells r).toArray) (hrel:QuE.rel (fun b=>ok b∧some b≠v.ownBlock) w r x)
 (h63:n+1≤2000000000000) (hbase:base≤w.heap.size)
 (h:∀ A' c' w',Own QuE 145 ok w' base (.slice A' (n+1) c') (n+1) (l++[x])→w.grownBy w' v.ownBlock→((Value.slice A' (n+1) c').ownBlock=v.ownBlock∨(Value.slice A' (n+1) c').ownBlock=some w.heap.size)→K (a.put o.dst (.slice A' (n+1) c')) w') :
 if Region.wanted o (yielded ops a.tmps)=true then Oper.wp Tryz.prog o a w K Q else F:=by
 obtain ⟨i,hi,hz⟩:=Option.map_eq_some_iff.1 qe_info;simp only [Prod.mk.injEq] at hz;refine step_append_E (E:=QuE) w hgd s y 135 145 ho i (.agg #[.int .i64 0,.int .i64 0,.int .i64 0,.int .i64 0,.int .i64 0,.int .i64 0,.pointer none]) 56 (by kernel_rfl) hi hz.1 hz.2.1 hz.2.2 rfl ok base v n l hv hown b r x hy (fun j u hu=>?_) hrel (by simp [maxLen]; omega) (by omega) hbase h;rw [hcell.cell j,List.getElem?_toArray]; exact hu
structure Frq (S:Nat→Prop) (w w':World):Prop where
 os:w'.os=w.os
 tape:w'.tape=w.tape
 output:w'.output=w.output
 size:w.heap.size≤w'.heap.size
 block:∀ b,b < w.heap.size→¬ S b→w'.heap[b]?=w.heap[b]?
section
variable {S:Nat→Prop} {w w' w'':World}
theorem Frq.refl (w:World):Frq S w w:=⟨rfl,rfl,rfl,Nat.le_refl _,fun _ _ _=>rfl⟩
theorem Frq.trans (h:Frq S w w') (k:Frq S w' w''):Frq S w w'' :=
 ⟨k.os.trans h.os,k.tape.trans h.tape,k.output.trans h.output,Nat.le_trans h.size k.size,fun b hb hs=>(k.block b (Nat.lt_of_lt_of_le hb h.size) hs).trans (h.block b hb hs)⟩
theorem Frq.trans2 {T:Nat→Prop} (h:Frq S w w') (k:Frq T w' w'') (hT:∀ b,b < w.heap.size→T b→S b):Frq S w w'' :=
 ⟨k.os.trans h.os,k.tape.trans h.tape,k.output.trans h.output,Nat.le_trans h.size k.size,fun b hb hs=>(k.block b (Nat.lt_of_lt_of_le hb h.size) (fun ht=>hs (hT b hb ht))).trans (h.block b hb hs)⟩
theorem Frq.bel (h:Below w.heap.size w w'):Frq S w w':=⟨h.os,h.tape,h.output,h.size,fun b hb _=>h.block b hb⟩
theorem Frq.row {row:Option Nat} (h:w.grownBy w' row) (hr:∀ b,row=some b→b < w.heap.size→S b):Frq S w w':=⟨h.os,h.tape,h.output,h.size,fun b hb hs=>h.block b hb fun e=>hs (hr b e.symm hb)⟩
theorem Frq.agr {ok:Nat→Prop} (h:Frq S w w') (hk:∀ b,ok b→¬ S b):Agr ok w w':=fun b hb hlt=>h.block b hlt (hk b hb)
theorem Frq.mono {T:Nat→Prop} (h:Frq S w w') (hT:∀ b,b < w.heap.size→S b→T b):Frq T w w':=⟨h.os,h.tape,h.output,h.size,fun b hb hs=>h.block b hb fun hx=>hs (hT b hb hx)⟩
end
structure QuV (base bl:Nat) (x0 x1 x2 x3 x4 x5:Value) (ok:Nat→Prop) (n:Nat) (q:List QE) (qv:Value) (w:World):Prop where
 own:Own QuE 145 ok w base qv n q
 blk:Blk w bl 137 #[x0,x1,x2,x3,x4,x5,qv]
 ne:qv.ownBlock≠some bl
 okq:QOk q
theorem Own.addrT {α ρ:Type} {E:Elem α ρ} {e:TypeId} {ok:Nat→Prop} {w:World} {base n c:Nat} {A:Option Addr} {l:List α} (h:Own E e ok w base (.slice A n c) n l) (hn:0 < n):∃ gb,A=some (⟨gb,0,none⟩:Addr):=by
 obtain ⟨-,raw,-,h3,-⟩:=h
 rcases h3.2 with ⟨h0,hn0⟩ | ⟨gb,cap,cur,hv,_⟩
 ·omega
 ·cases hv; exact ⟨gb,rfl⟩
def PuP (base bl:Nat) (x0 x1 x2 x3 x4 x5:Value) (ok:Nat→Prop) (n:Nat) (q:List QE) (qv:Value) (w:World) (e:Ending) (w':World):Prop :=
 ∃ g c,e=.returned (.tuple #[])∧QuV base bl x0 x1 x2 x3 x4 x5 ok n q (.slice (some ⟨g,0,none⟩) n c) w'∧(some g=qv.ownBlock∨w.heap.size≤g)∧Frq (fun b=>b=bl∨some b=qv.ownBlock) w w'
set_option maxRecDepth 100000 in
set_option maxHeartbeats 4000000 in
theorem qpush_c (base bl:Nat) (x0 x1 x2 x3 x4 x5:Value) (ok:Nat→Prop) (n:Nat) (q:List QE) (qv:Value) (c:Cand) (t:CT) (p:Nat) (w:World) (h:QuV base bl x0 x1 x2 x3 x4 x5 ok n q qv w) (hn:n+1≤1000000000000) (hb:base≤w.heap.size)
 (ht:PtR (fun b=>ok b∧some b≠qv.ownBlock∧b≠bl) w p t) (hw:t.Wf) (hs:t.size≤100000) (hok:∀ b,ok b→b≠bl) :
 Calls Tryz.prog 200 #[.pointer (some ⟨bl,6,none⟩),.iface 145 (cdVal c (ptA p))] w (PuP base bl x0 x1 x2 x3 x4 x5 ok (n+1) (q++[(c,t)]) qv w):=by
 have H:=Lib.hid h;have HT:=Lib.hid ht;have HB:=Lib.hid hb;have HOK:=Lib.hid hok
 have HQO:=Lib.hid (show QOk (q++[(c,t)]) from fun x hx=>by
  rcases List.mem_append.1 hx with hx | hx
  ·exact h.okq x hx
  ·rw [List.mem_singleton.1 hx]; exact ⟨hw,hs⟩)
 clear h ht hb hok hw hs;have hta:∀ (v:Value) (w:World),(Instr.typeAssert (.iface 145 v) 20 145 false).run Tryz.prog w=.ok v w:=fun _ _=>by kernel_rfl
 simp only [cdVal];go_enter Tryz.func200,Tryz.ntmps200;go_upto_region 0 with fail;have hdr:=(Below.refl w.heap.size w).drew;have hown:=Lib.hid (H.out.own.via hdr);have hblk:=Lib.hid (H.out.blk.via hdr);have HT2:=Lib.hid (PtR.via HT.out hdr);have HSZ:=Lib.hid hdr;have hHeld:=hblk.out.cell 6;have hfz:=hblk.out.frozen;clear hdr;refine wp_region_noPanic ?_;refine wp_region_N 7 (fun w'=>w'.cell? ⟨bl,6,none⟩=some qv) (by kernel_rfl) ?_;generalize w.drew=w2 at *;simp only [List.getElem?_toArray,List.getElem?_cons_succ,List.getElem?_cons_zero] at hHeld;refine frN 0 4 ?_;refine frN 1 5 ?_;refine frN 2 6 ?_;refine tkN 3 7 ?_;refine frN 4 8 ?_;refine frN 5 9 ?_;refine wpAnyN.ready (rs:=[6]) (by kernel_rfl) (by simp) ?_;refine AllN.cons rfl (fun K hK=>?_) AllN.nil;go_simp;have hal:=(Below.refl w2.heap.size w2).al (.cells #[.int .i64 (c.1:Int),.int .i64 (c.2.1:Int),.int .i64 (c.2.2.1:Int),.int .i64 (c.2.2.2.1:Int),.int .i64 (c.2.2.2.2.1:Int),.int .i64 (c.2.2.2.2.2:Int),.pointer (ptA p)] 145);have BN:=Blk.new w2 145 #[.int .i64 (c.1:Int),.int .i64 (c.2.1:Int),.int .i64 (c.2.2.1:Int),.int .i64 (c.2.2.2.1:Int),.int .i64 (c.2.2.2.2.1:Int),.int .i64 (c.2.2.2.2.2:Int),.pointer (ptA p)];have HO3:=Lib.hid (hown.out.via hal);have HB3:=Lib.hid (hblk.out.via hal);have HT3:=Lib.hid (PtR.via HT2.out hal);have HSZ3:=Lib.hid (HSZ.out.via hal);have h6:=HB3.out.cell 6;simp only [List.getElem?_toArray,List.getElem?_cons_succ,List.getElem?_cons_zero] at h6;refine hK.out _ _ (fun _=>h6) ?_;clear hK K hal hHeld hfz h6;try dsimp only [Act.put]
 generalize w2.alloc (.cells #[.int .i64 (c.1:Int),.int .i64 (c.2.1:Int),.int .i64 (c.2.2.1:Int),.int .i64 (c.2.2.2.1:Int),.int .i64 (c.2.2.2.2.1:Int),.int .i64 (c.2.2.2.2.2:Int),.pointer (ptA p)] 145)=w3 at *;generalize w2.heap.size=b3 at *;refine wpAnyN.ready (rs:=[7]) (by kernel_rfl) (by simp) ?_;refine AllN.cons rfl (fun K hK=>?_) AllN.nil;refine step_append_qe _ rfl (.tmp 7) (.tmp 10) rfl ok base qv n q rfl HO3.out b3 (c,p) (c,t) rfl BN ⟨rfl,PtR.mono HT3.out fun b _ hb=>⟨hb.1,hb.2.1⟩⟩ (by omega) (Nat.le_trans HB.out HSZ3.out.size) ?_;intro A4 c4 w4 ho4 hg4 hat4;refine hK.out _ _ (fun h=>absurd h (by decide)) ?_;clear hK K;obtain ⟨g4,rfl⟩:=ho4.addrT (by omega)
 have hga:some g4=qv.ownBlock∨g4=w3.heap.size:=by
  rcases hat4 with e | e
  ·exact Or.inl e
  ·exact Or.inr (Option.some.inj e)
 have hgb:g4≠bl:=by
  intro e
  rcases hga with h1 | h1
  ·exact H.out.ne (by rw [← h1,e])
  ·have:=HB3.out.lt; omega
 have HGA:=Lib.hid hga;have HGB:=Lib.hid hgb;have B4:=HB3.out.grown hg4 (fun e=>H.out.ne e.symm);have HB4:=Lib.hid B4;have HO4:=Lib.hid ho4;have HG4:=Lib.hid hg4;clear ho4 hg4 hat4 hga hgb BN;try simp only [Act.put,List.setIfInBounds_toArray]
 refine wpAnyN.ready (rs:=[8]) (by kernel_rfl) (by simp) ?_;refine AllN.cons rfl (fun K hK=>?_) AllN.nil;go_simp;refine hK.out _ _ (fun h=>absurd h (by decide)) ?_;clear hK K;try simp only [Act.put,List.setIfInBounds_toArray,List.set_cons_zero,List.set_cons_succ]
 refine wpAnyN.ready (rs:=[9]) (by kernel_rfl) (by simp) ?_;refine AllN.cons rfl (fun K hK=>?_) AllN.nil;have cB4:=B4.cell;have fB4:=B4.frozen;have lB4:=B4.lt;go_simp;refine hK.out _ _ (fun h=>absurd h (by decide)) ?_;clear hK K;clear cB4 fB4 lB4;refine wpAnyN.done (by kernel_rfl) ?_ _;refine NoPanic.normal ?_;go_wp2_with fail;refine bodyPost_end (v:=.tuple #[]) (by simp [results,Tryz.results200,go_sem]) rfl ⟨g4,c4,rfl,⟨?_,?_,?_,HQO.out⟩,?_,?_⟩
 ·refine HO4.out.agr (Agr.setCell (p:=⟨bl,6,none⟩) _ fun b hb=>?_)
  rcases hb with hb | hb
  ·exact HOK.out b hb
  ·intro e;have:b=g4:=(by simpa [Value.ownBlock] using hb);exact HGB.out (by rw [← this]; exact e)
 ·have:=B4.set_ 6 (.slice (some ⟨g4,0,none⟩) (n+1) c4)
  simpa using this
 ·exact fun e=>HGB.out (Option.some.inj e)
 ·rcases HGA.out with h1 | h1
  ·exact Or.inl h1
  ·exact Or.inr (by have:=HSZ3.out.size; omega)
 ·refine ((Frq.bel HSZ3.out).trans2 (Frq.row (S:=fun b=>some b=qv.ownBlock) HG4.out (fun b e _=>e.symm)) (fun b _ h=>Or.inr h)).trans2 (Frq.row (S:=fun b=>b=bl) (grownSetT w4 bl 6 _) (fun b e _=>(Option.some.inj e).symm)) (fun b _ h=>Or.inl h)
theorem QuV.toM {base bl n g c:Nat} {x0 x1 x2 x3 x4 x5:Value} {ok:Nat→Prop} {q:List QE} {w:World} (h:QuV base bl x0 x1 x2 x3 x4 x5 ok n q (.slice (some ⟨g,0,none⟩) n c) w):QuM base bl g c ok n q w :=
 ⟨h.own,by have:=h.blk.cell 6; simpa using this,fun e=>h.ne (by rw [e]; rfl),h.okq⟩
theorem QuM.toV {base bl n g c:Nat} {x0 x1 x2 x3 x4 x5:Value} {ok:Nat→Prop} {q:List QE} {w:World} (h:QuM base bl g c ok n q w) (hb:Blk w bl 137 #[x0,x1,x2,x3,x4,x5,.slice (some ⟨g,0,none⟩) n c]):QuV base bl x0 x1 x2 x3 x4 x5 ok n q (.slice (some ⟨g,0,none⟩) n c) w :=
 ⟨h.own,hb,fun e=>h.ne (Option.some.inj e).symm,h.okq⟩
theorem qlen_c (A:Option Addr) (n c:Nat) (w:World):Calls Tryz.prog 195 #[.slice A n c] w (fun e w'=>e=.returned (.int .i64 (n:Int))∧w=w'):=by
 go_enter Tryz.func195,Tryz.ntmps195;go_wp2_with fail;go_ret;exact ⟨rfl,rfl⟩
set_option maxRecDepth 100000 in
set_option maxHeartbeats 4000000 in
theorem push_c (base bl:Nat) (x0 x1 x2 x3 x4 x5:Value) (ok:Nat→Prop) (n:Nat) (q:List QE) (qv:Value) (c:Cand) (t:CT) (p:Nat) (w:World) (h:QuV base bl x0 x1 x2 x3 x4 x5 ok n q qv w) (hn:n+1≤1000000000000) (hb:base≤w.heap.size)
 (ht:PtR (fun b=>ok b∧some b≠qv.ownBlock∧b≠bl) w p t) (hw:t.Wf) (hs:t.size≤100000) (hok:∀ b,ok b→b≠bl) :
 Calls Tryz.prog 134 #[.iface 148 (.pointer (some ⟨bl,6,none⟩)),.iface 145 (cdVal c (ptA p))] w (PuP base bl x0 x1 x2 x3 x4 x5 ok (n+1) (upQ (q++[(c,t)]) n) qv w):=by
 have HP := Lib.hid (qpush_c base bl x0 x1 x2 x3 x4 x5 ok n q qv c t p w h hn hb ht hw hs hok);have hmp : ∀ (F : Nat) (w : World), (method (F + 1) 148 (.pointer (some ⟨bl, 6, none⟩)) "Push").run Tryz.prog w = .ok (200, .pointer (some ⟨bl, 6, none⟩)) w := fun F w => meth_push F
 have hlt:=h.blk.lt;clear h hb ht hw hs hok;go_enter Tryz.func134,Tryz.ntmps134;go_wp2_with fail;refine HP.out.mono ?_;clear HP hmp;rintro e w2 ⟨g,d,rfl,hV,hg,hF⟩;have HV:=Lib.hid hV;have HG:=Lib.hid hg;have HF:=Lib.hid hF;have hcl:=hV.toM.cell;have hml:=fun F=>meth_len hcl F
 have hw1:IntKind.i64.wrap (n:Int)=(n:Int):=IntWalk.i64_in _ (by omega);have HU:=Lib.hid (up_c base bl g d ok (n+1) (by omega) (q++[(c,t)]) n w2 hV.toM (by omega));clear hV hg hF;go_wp2_with fail;refine (qlen_c _ _ _ _).mono ?_;rintro e w3 ⟨rfl,rfl⟩;go_wp2_with fail;refine HU.out.mono ?_;rintro e w4 ⟨rfl,hM,hgr⟩;have HM:=Lib.hid hM;have HGR:=Lib.hid hgr;clear HU hml hcl hM hgr;go_wp2_with fail;refine bodyPost_end (v:=.tuple #[]) (by simp [results,Tryz.results134,go_sem]) rfl ⟨g,d,rfl,HM.out.toV (HV.out.blk.grown HGR.out (fun e=>HM.out.ne (Option.some.inj e))),HG.out,?_⟩;refine HF.out.trans2 (Frq.row (S:=fun b=>b=g) HGR.out (fun b e _=>(Option.some.inj e).symm)) fun b hb e=>?_
 rcases HG.out with h1 | h1
 ·exact Or.inr (by rw [e,h1])
 ·omega
def PoP (base bl:Nat) (x0 x1 x2 x3 x4 x5:Value) (ok:Nat→Prop) (n g d:Nat) (q:List QE) (x:QE) (w:World) (e:Ending) (w':World):Prop :=
 ∃ p,e=.returned (.iface 145 (cdVal x.1 (ptA p)))∧PtR (fun b=>ok b∧b≠g) w' p x.2∧QuV base bl x0 x1 x2 x3 x4 x5 ok n q (.slice (some ⟨g,0,none⟩) n d) w'∧Frq (fun b=>b=bl) w w'
set_option maxRecDepth 100000 in
set_option maxHeartbeats 4000000 in
theorem qpop_c (base bl:Nat) (x0 x1 x2 x3 x4 x5:Value) (ok:Nat→Prop) (n g d:Nat) (q:List QE) (x:QE) (w:World) (h:QuV base bl x0 x1 x2 x3 x4 x5 ok (n+1) (q++[x]) (.slice (some ⟨g,0,none⟩) (n+1) d) w) (hn:n+1≤1000000000000) (hd:n+1≤d) (hok:∀ b,ok b→b≠bl) :
 Calls Tryz.prog 199 #[.pointer (some ⟨bl,6,none⟩)] w (PoP base bl x0 x1 x2 x3 x4 x5 ok n g d q x w):=by
 have hql:q.length=n:=(by have:=h.own.len; simpa using this);obtain ⟨⟨r,p⟩,x',hx,⟨hr,ht⟩,hc,hbg,hgl,-⟩:=h.own.elt (q:=n) (by omega)
 obtain rfl:x'=x:=by
  rw [List.getElem?_append_right (by omega),hql,Nat.sub_self] at hx;exact (Option.some.inj hx).symm
 simp only at hr;subst hr;have d0:=hc 0 _ rfl;have d1:=hc 1 _ rfl;have d2:=hc 2 _ rfl;have d3:=hc 3 _ rfl;have d4:=hc 4 _ rfl;have d5:=hc 5 _ rfl;have d6:=hc 6 _ rfl;simp only [QuE,Nat.add_zero] at d0 d1 d2 d3 d4 d5 d6;have HT:=Lib.hid ht;have H:=Lib.hid h;have HOK:=Lib.hid hok;have B:=h.blk;have hw1:IntKind.i64.wrap (n:Int)=(n:Int):=IntWalk.i64_in _ (by omega);have hdi:n≤d:=(by omega);clear hc ht h hx hok;go_enter Tryz.func199,Tryz.ntmps199;have hal:=(Below.refl (w.setCell ⟨bl,6,none⟩ (.slice (some ⟨g,0,none⟩) n d)).heap.size (w.setCell ⟨bl,6,none⟩ (.slice (some ⟨g,0,none⟩) n d))).al (.cells #[.int .i64 (x'.1.1:Int),.int .i64 (x'.1.2.1:Int),.int .i64 (x'.1.2.2.1:Int),.int .i64 (x'.1.2.2.2.1:Int),.int .i64 (x'.1.2.2.2.2.1:Int),.int .i64 (x'.1.2.2.2.2.2:Int),.pointer (ptA p)] 145);have hgb:g≠bl:=fun e=>H.out.ne (by rw [← e]; rfl)
 have hag:Agr (fun b=>ok b∨some b=(Value.slice (some ⟨g,0,none⟩) n d).ownBlock) w (w.setCell ⟨bl,6,none⟩ (.slice (some ⟨g,0,none⟩) n d)):=Agr.setCell (p:=⟨bl,6,none⟩) _ (by
  intro b hb
  rcases hb with hb | hb
  ·exact HOK.out b hb
  ·intro e;have h1:b=g:=(by simpa [Value.ownBlock] using hb)
   exact hgb (by rw [← h1]; exact e))
 have hBs:Blk (w.setCell ⟨bl,6,none⟩ (.slice (some ⟨g,0,none⟩) n d)) bl 137 #[x0,x1,x2,x3,x4,x5,.slice (some ⟨g,0,none⟩) n d]:=by
  have:=B.set_ 6 (.slice (some ⟨g,0,none⟩) n d); simpa using this
 have hV:QuV base bl x0 x1 x2 x3 x4 x5 ok n q (.slice (some ⟨g,0,none⟩) n d) (w.setCell ⟨bl,6,none⟩ (.slice (some ⟨g,0,none⟩) n d)) :=
  ⟨(Own.popT H.out.own).agr hag,hBs,fun e=>hgb (Option.some.inj e),fun y hy=>H.out.okq y (List.mem_append_left _ hy)⟩
 have HV:=Lib.hid (show QuV base bl x0 x1 x2 x3 x4 x5 ok n q (.slice (some ⟨g,0,none⟩) n d) _ from ⟨hV.own.via hal,hV.blk.via hal,hV.ne,hV.okq⟩);have HTV:=Lib.hid (PtR.via (PtR.agr HT.out (Agr.setCell (p:=⟨bl,6,none⟩) (.slice (some ⟨g,0,none⟩) n d) fun b hb=>HOK.out b hb.1)) hal);have HF:=Lib.hid ((Frq.row (S:=fun b=>b=bl) (grownSetT w bl 6 (.slice (some ⟨g,0,none⟩) n d)) (fun b e _=>(Option.some.inj e).symm)).trans (Frq.bel hal));clear hV hal hag hBs;have cB:=B.cell;have fB:=B.frozen;have lB:=B.lt;go_wp2_with fail;go_ret;exact ⟨p,rfl,HTV.out,HV.out,HF.out⟩
noncomputable def popQ (q:List QE):List QE:=downQ (q.length - 1) (swapQ q 0 (q.length - 1)) 0
theorem downQ_len (m:Nat):∀ (k i:Nat) (q:List QE),m - i≤k→(downQ m q i).length=q.length
 | 0,i,q,h=>by rw [downQ_end (by omega)]
 | k+1,i,q,h=>by
  by_cases h1:m≤2*i+1
  ·rw [downQ_end h1]
  ·obtain ⟨j,hj⟩:∃ j,j=if 2*i+2 < m∧lessQ q (2*i+2) (2*i+1)=true then 2*i+2 else 2*i+1:=⟨_,rfl⟩
   have hij:i < j:=(by rw [hj]; split <;> omega);rw [downQ_step h1 hj]
   by_cases hl:lessQ q j i=true
   ·rw [if_pos hl,downQ_len m k j _ (by omega),swapQ_len]
   ·rw [if_neg hl]
theorem popQ_len (q:List QE):(popQ q).length=q.length:=by unfold popQ; rw [downQ_len _ _ _ _ (Nat.le_refl _),swapQ_len]
set_option maxRecDepth 100000 in
set_option maxHeartbeats 4000000 in
theorem pop_c (base bl:Nat) (x0 x1 x2 x3 x4 x5:Value) (ok:Nat→Prop) (n g d:Nat) (q:List QE) (w:World) (h:QuV base bl x0 x1 x2 x3 x4 x5 ok (n+1) q (.slice (some ⟨g,0,none⟩) (n+1) d) w) (hn:n+1≤1000000000000) (hd:n+1≤d) (hok:∀ b,ok b→b≠bl) :
 Calls Tryz.prog 68 #[.iface 148 (.pointer (some ⟨bl,6,none⟩))] w fun e w'=>∃ p x q',popQ q=q'++[x]∧e=.returned (.iface 145 (cdVal x.1 (ptA p)))∧PtR (fun b=>ok b∧b≠g) w' p x.2∧QuV base bl x0 x1 x2 x3 x4 x5 ok n q' (.slice (some ⟨g,0,none⟩) n d) w'∧Frq (fun b=>b=bl∨b=g) w w':=by
 have hql:q.length=n+1:=(by have:=h.own.len; simpa using this);have hpq:popQ q=downQ n (swapQ q 0 n) 0:=(by unfold popQ; rw [hql]; rfl)
 obtain ⟨q',x,hqx⟩:∃ q' x,popQ q=q'++[x]:=by
  rcases List.eq_nil_or_concat (popQ q) with e | ⟨q',x,e⟩
  ·have:=popQ_len q; rw [e] at this; simp at this; omega
  ·exact ⟨q',x,by rw [e]; simp⟩
 have hM:=h.toM;have H:=Lib.hid h;have HQX:=Lib.hid (And.intro hqx (And.intro hpq hql));have HOK:=Lib.hid hok;have HD:=Lib.hid hd;have hcl:=hM.cell;have hml:=fun F=>meth_len hcl F
 have hms:=fun F=>meth_swap hcl F
 have hmp : ∀ (F : Nat) (w : World), (method (F + 1) 148 (.pointer (some ⟨bl, 6, none⟩)) "Pop").run Tryz.prog w = .ok (199, .pointer (some ⟨bl, 6, none⟩)) w := fun F w => meth_pop F
 have hw1:IntKind.i64.wrap (n:Int)=(n:Int):=IntWalk.i64_in _ (by omega);have HSW:=Lib.hid (swap_c 145 ok base g (n+1) d 0 n q w h.own (by omega) (by omega));clear h hM hqx hpq hql hok hd;go_enter Tryz.func68,Tryz.ntmps68;go_wp2_with fail;refine (qlen_c _ _ _ _).mono ?_;rintro e w3 ⟨rfl,rfl⟩;go_wp2_with fail;refine HSW.out.mono ?_;clear HSW hms hml;rintro e w4 ⟨rfl,ho4,hg4⟩;have HM4:Hid (QuM base bl g d ok (n+1) (swapQ q 0 n) w4):=Lib.hid ⟨ho4,cellGrown hg4 (fun e=>H.out.toM.ne (Option.some.inj e)) hcl,H.out.toM.ne,fun y hy=>H.out.okq y (swapQ_mem y hy)⟩;have HB4:=Lib.hid (H.out.blk.grown hg4 (fun e=>H.out.toM.ne (Option.some.inj e)));have HG4:=Lib.hid hg4;clear ho4 hg4 hcl;have HDN:=Lib.hid (down_c base bl g d ok (n+1) n (by omega) (by omega) (swapQ q 0 n) 0 w4 HM4.out (Nat.zero_le _));go_wp2_with fail;refine HDN.out.mono ?_;clear HDN;rintro e w5 ⟨b,rfl,hM5,hg5⟩;have hqe:downQ n (swapQ q 0 n) 0=q'++[x]:=(by rw [← HQX.out.2.1]; exact HQX.out.1);rw [hqe] at hM5;have hB5:=HB4.out.grown hg5 (fun e=>HM4.out.ne (Option.some.inj e));have HPO:=Lib.hid (qpop_c base bl x0 x1 x2 x3 x4 x5 ok n g d q' x w5 (hM5.toV hB5) hn HD.out HOK.out);have HF5:=Lib.hid ((Frq.row (S:=fun b=>b=bl∨b=g) HG4.out (fun b e _=>Or.inr (Option.some.inj e).symm)).trans (Frq.row hg5 (fun b e _=>Or.inr (Option.some.inj e).symm)));clear hM5 hg5 hB5 hqe;go_wp2_with fail;refine HPO.out.mono ?_;rintro e w6 ⟨p,rfl,hp,hV,hF⟩;have HP6:=Lib.hid hp;have HV6:=Lib.hid hV;have HF6:=Lib.hid (HF5.out.trans (hF.mono fun b _ h=>Or.inl h));clear HPO hp hV hF;go_wp2_with fail;go_ret;exact ⟨p,x,q',HQX.out.1,rfl,HP6.out,HV6.out,HF6.out⟩
end Go.Proofs.YtfcihnpmeabacaaGreatDoor
namespace Go.Proofs.YtfcihnpmeabacaaGreatDoor
open Go.RowKit
abbrev CSt:=List Int×List Int
def kidsV (f:Nat→CSt→Bool×CSt):List Int→Int→CSt→Bool×Int×CSt
 | [],x,st=>(true,x,st)
 | k::ks,x,st=>if (f k.toNat st).1=true then kidsV f ks (min (x*(f k.toNat st).2.1.getD k.toNat 0) 1000000000) (f k.toNat st).2 else (false,x,(f k.toNat st).2)
def packsV (f:Nat→CSt→Bool×CSt) (v:Nat):List PkI→CSt→Bool×CSt
 | [],st=>(true,st)
 | p::ps,st=>if (kidsV f p.2 1 st).1=true then packsV f v ps ((kidsV f p.2 1 st).2.2.1.set v (min ((kidsV f p.2 1 st).2.2.1.getD v 0+(kidsV f p.2 1 st).2.1) 1000000000),(kidsV f p.2 1 st).2.2.2) else (false,(kidsV f p.2 1 st).2.2)
def ndAt (nd:List NdI) (v:Nat):NdI:=(nd[v]?).getD ((false,0,0,0),[])
def opn (nd:List NdI) (v:Nat) (st:CSt):CSt:=(if (ndAt nd v).1.1=true then st.1.set v 1 else st.1,st.2.set v 1)
def visV (nd:List NdI):Nat→Nat→CSt→Bool×CSt
 | 0,_,st=>(false,st)
 | d+1,v,st=>if 0 < st.2.getD v 0 then (decide (st.2.getD v 0=2),st) else
  if (packsV (visV nd d) v (ndAt nd v).2 (opn nd v st)).1=true then (true,((packsV (visV nd d) v (ndAt nd v).2 (opn nd v st)).2.1,(packsV (visV nd d) v (ndAt nd v).2 (opn nd v st)).2.2.set v 2)) else (false,(packsV (visV nd d) v (ndAt nd v).2 (opn nd v st)).2)
def zer (ss:List Int):Nat:=ss.countP fun s=>decide (¬ 0 < s)
structure CGood (n:Nat) (st:CSt):Prop where
 cl:st.1.length=n
 sl:st.2.length=n
 cb:∀ c∈st.1,0≤c∧c≤1000000000
theorem CGood.at_ {n:Nat} {st:CSt} (h:CGood n st) (v:Nat):0≤st.1.getD v 0∧st.1.getD v 0≤1000000000:=by
 rw [List.getD_eq_getElem?_getD];cases hv:st.1[v]? with
 | none=>simp
 | some c=>exact h.cb c (List.mem_of_getElem? hv)
theorem CGood.setC {n:Nat} {st:CSt} (h:CGood n st) (v:Nat) {c:Int} (h0:0≤c) (h1:c≤1000000000):CGood n (st.1.set v c,st.2) :=
 ⟨by simp [h.cl],h.sl,fun x hx=>by
  rcases List.mem_or_eq_of_mem_set hx with hx | rfl
  ·exact h.cb x hx
  ·exact ⟨h0,h1⟩⟩
theorem CGood.setS {n:Nat} {st:CSt} (h:CGood n st) (v:Nat) (c:Int):CGood n (st.1,st.2.set v c):=⟨h.cl,by simp [h.sl],h.cb⟩
theorem zer_set_le:∀ (ss:List Int) (v:Nat) (c:Int),0 < c→zer (ss.set v c)≤zer ss
 | [],v,c,h=>by simp [zer]
 | s::ss,0,c,h=>by
  have:¬ ¬ 0 < c:=(by omega);simp only [zer,List.set_cons_zero,List.countP_cons,decide_eq_true_eq,this,if_false];omega
 | s::ss,v+1,c,h=>by
  have:=zer_set_le ss v c h;simp only [zer,List.set_cons_succ,List.countP_cons] at this ⊢;omega
theorem zer_set_lt:∀ (ss:List Int) (v:Nat) (c:Int),0 < c→v < ss.length→¬ 0 < ss.getD v 0→zer (ss.set v c) < zer ss
 | [],v,c,h,hv,_=>by simp at hv
 | s::ss,0,c,h,_,hz=>by
  have:¬ ¬ 0 < c:=(by omega);have h2:¬ 0 < s:=(by simpa using hz);simp only [zer,List.set_cons_zero,List.countP_cons,decide_eq_true_eq,this,if_false,h2,not_false_eq_true,if_true];omega
 | s::ss,v+1,c,h,hv,hz=>by
  have:=zer_set_lt ss v c h (by simpa using hv) (by simpa [List.getD_eq_getElem?_getD] using hz);simp only [zer,List.set_cons_succ,List.countP_cons] at this ⊢;omega
def KeepsV (n:Nat) (f:Nat→CSt→Bool×CSt):Prop:=∀ k st,k < n→CGood n st→CGood n (f k st).2∧zer (f k st).2.2≤zer st.2
theorem mul_lim {x c:Int} (hx:0≤x∧x≤1000000000) (hc:0≤c∧c≤1000000000):0≤x*c∧x*c≤1000000000000000000:=by
 refine ⟨Int.mul_nonneg hx.1 hc.1,?_⟩;have h1:x*c≤1000000000*c:=Int.mul_le_mul_of_nonneg_right hx.2 hc.1;have h2:1000000000*c≤1000000000*1000000000:=Int.mul_le_mul_of_nonneg_left hc.2 (by omega);omega
theorem kidsV_good {n:Nat} {f:Nat→CSt→Bool×CSt} (hf:KeepsV n f):∀ (ks:List Int) (x:Int) (st:CSt),(∀ k∈ks,0≤k∧k < (n:Int))→0≤x∧x≤1000000000→CGood n st →
 CGood n (kidsV f ks x st).2.2∧zer (kidsV f ks x st).2.2.2≤zer st.2∧0≤(kidsV f ks x st).2.1∧(kidsV f ks x st).2.1≤1000000000
 | [],x,st,_,hx,h=>⟨h,Nat.le_refl _,hx.1,hx.2⟩
 | k::ks,x,st,hk,hx,h=>by
  have h1:=hk k (by simp);obtain ⟨g1,g2⟩:=hf k.toNat st (by omega) h;have hm:=mul_lim hx (g1.at_ k.toNat);unfold kidsV
  split
  ·obtain ⟨a,b,c,d⟩:=kidsV_good hf ks (min (x*(f k.toNat st).2.1.getD k.toNat 0) 1000000000) (f k.toNat st).2 (fun z hz=>hk z (by simp [hz])) (by omega) g1;exact ⟨a,Nat.le_trans b g2,c,d⟩
  ·exact ⟨g1,g2,hx.1,hx.2⟩
theorem packsV_good {n v:Nat} {f:Nat→CSt→Bool×CSt} (hf:KeepsV n f):∀ (ps:List PkI) (st:CSt),(∀ p∈ps,∀ k∈p.2,0≤k∧k < (n:Int))→CGood n st →
 CGood n (packsV f v ps st).2∧zer (packsV f v ps st).2.2≤zer st.2
 | [],st,_,h=>⟨h,Nat.le_refl _⟩
 | p::ps,st,hk,h=>by
  obtain ⟨g1,g2,g3,g4⟩:=kidsV_good hf p.2 1 st (hk p (by simp)) (by omega) h;have h5:=g1.at_ v;unfold packsV
  split
  ·obtain ⟨a,b⟩:=packsV_good (v:=v) hf ps _ (fun z hz=>hk z (by simp [hz])) (g1.setC v (c:=min ((kidsV f p.2 1 st).2.2.1.getD v 0+(kidsV f p.2 1 st).2.1) 1000000000) (by omega) (by omega));exact ⟨a,Nat.le_trans b g2⟩
  ·exact ⟨g1,g2⟩
def KidsIn (nd:List NdI):Prop:=∀ x∈nd,∀ p∈x.2,∀ k∈p.2,0≤k∧k < (nd.length:Int)
theorem KidsIn.at_ {nd:List NdI} (h:KidsIn nd) (v:Nat):∀ p∈(ndAt nd v).2,∀ k∈p.2,0≤k∧k < (nd.length:Int):=by
 unfold ndAt;cases hv:nd[v]? with
 | none=>simp
 | some x=>exact h x (List.mem_of_getElem? hv)
theorem CGood.opn {n v:Nat} {nd:List NdI} {st:CSt} (h:CGood n st):CGood n (opn nd v st):=by
 unfold Proofs.YtfcihnpmeabacaaGreatDoor.opn
 split
 ·exact (h.setC v (by omega) (by omega)).setS v 1
 ·exact h.setS v 1
theorem visV_keeps {nd:List NdI} (hk:KidsIn nd):∀ d,KeepsV nd.length (visV nd d)
 | 0,v,st,_,h=>⟨h,Nat.le_refl _⟩
 | d+1,v,st,hv,h=>by
  have hz:zer (opn nd v st).2≤zer st.2:=zer_set_le st.2 v 1 (by omega);obtain ⟨a,b⟩:=packsV_good (v:=v) (visV_keeps hk d) (ndAt nd v).2 (opn nd v st) (hk.at_ v) h.opn;unfold visV
  split
  ·exact ⟨h,Nat.le_refl _⟩
  ·split
   ·exact ⟨a.setS v 2,Nat.le_trans (zer_set_le _ v 2 (by omega)) (Nat.le_trans b hz)⟩
   ·exact ⟨a,Nat.le_trans b hz⟩
def cntV (f:FoI):Int:=if f.1 < 0 then 0 else
 if (visV f.2 (f.2.length+1) f.1.toNat (List.replicate f.2.length 0,List.replicate f.2.length 0)).1=true then (visV f.2 (f.2.length+1) f.1.toNat (List.replicate f.2.length 0,List.replicate f.2.length 0)).2.1.getD f.1.toNat 0 else -1
end Go.Proofs.YtfcihnpmeabacaaGreatDoor
namespace Go.Proofs.YtfcihnpmeabacaaGreatDoor
open Go.RowKit
abbrev WtK:=Nat×Nat
abbrev Wts:=List (WtK×List Cand)
def wGet:Wts→WtK→List Cand
 | [],_=>[]
 | p::W,k=>if p.1=k then p.2 else wGet W k
def wAdd:Wts→WtK→Cand→Wts
 | [],k,c=>[(k,[c])]
 | p::W,k,c=>if p.1=k then (k,p.2++[c])::W else p::wAdd W k c
def wDel:Wts→WtK→Wts
 | [],_=>[]
 | p::W,k=>if p.1=k then W else p::wDel W k
def wSum (W:Wts):Nat:=(W.map (·.2.length)).sum
theorem wSum_add:∀ (W:Wts) (k:WtK) (c:Cand),wSum (wAdd W k c)=wSum W+1
 | [],k,c=>rfl
 | p::W,k,c=>by
  have ih:=wSum_add W k c;unfold wAdd;unfold wSum at ih ⊢
  split
  ·simp; omega
  ·simp only [List.map_cons,List.sum_cons,ih]; omega
theorem wSum_del:∀ (W:Wts) (k:WtK),wSum (wDel W k)+(wGet W k).length=wSum W
 | [],k=>rfl
 | p::W,k=>by
  have ih:=wSum_del W k;unfold wDel wGet;unfold wSum at ih ⊢
  split
  ·simp; omega
  ·simp only [List.map_cons,List.sum_cons]; omega
theorem wGet_add:∀ (W:Wts) (k:WtK) (c:Cand) (j:WtK),wGet (wAdd W k c) j=if j=k then wGet W k++[c] else wGet W j
 | [],k,c,j=>by
  unfold wAdd;simp only [wGet]
  by_cases h:k=j
  ·rw [if_pos h,if_pos h.symm]; rfl
  ·rw [if_neg h,if_neg (Ne.symm h)]
 | p::W,k,c,j=>by
  have ih:=wGet_add W k c j;unfold wAdd
  by_cases h:p.1=k
  ·rw [if_pos h];simp only [wGet,if_pos h]
   by_cases hj:j=k
   ·rw [if_pos hj,if_pos hj.symm]
   ·rw [if_neg hj,if_neg (Ne.symm hj),if_neg (fun e=>hj (e.symm.trans h))]
  ·rw [if_neg h];simp only [wGet,if_neg h]
   by_cases hj:p.1=j
   ·rw [if_pos hj,if_neg (fun e=>h (hj.trans e)),if_pos hj]
   ·rw [if_neg hj,if_neg hj]; exact ih
theorem wMem_add {W:Wts} {k:WtK} {c:Cand}:∀ p∈wAdd W k c,∀ d∈p.2,d=c∨∃ q∈W,d∈q.2:=by
 induction W with
 | nil =>
  intro p hp d hd;simp only [wAdd,List.mem_singleton] at hp;subst hp;exact Or.inl (by simpa using hd)
 | cons a W ih =>
  intro p hp d hd;unfold wAdd at hp
  split at hp
  ·rcases List.mem_cons.1 hp with rfl | hp
   ·rcases List.mem_append.1 hd with hd | hd
    ·exact Or.inr ⟨a,List.mem_cons_self ..,hd⟩
    ·exact Or.inl (by simpa using hd)
   ·exact Or.inr ⟨p,List.mem_cons_of_mem _ hp,hd⟩
  ·rcases List.mem_cons.1 hp with rfl | hp
   ·exact Or.inr ⟨p,List.mem_cons_self ..,hd⟩
   ·rcases ih p hp d hd with h | ⟨q,hq,h⟩
    ·exact Or.inl h
    ·exact Or.inr ⟨q,List.mem_cons_of_mem _ hq,h⟩
theorem wMem_del {W:Wts} {k:WtK}:∀ p∈wDel W k,p∈W:=by
 induction W with
 | nil=>intro p hp; exact hp
 | cons a W ih =>
  intro p hp;unfold wDel at hp
  split at hp
  ·exact List.mem_cons_of_mem _ hp
  ·rcases List.mem_cons.1 hp with rfl | hp
   ·exact List.mem_cons_self ..
   ·exact List.mem_cons_of_mem _ (ih p hp)
theorem wGet_mem {W:Wts} {k:WtK} {d:Cand} (h:d∈wGet W k):∃ p∈W,d∈p.2:=by
 induction W with
 | nil=>exact absurd h List.not_mem_nil
 | cons a W ih =>
  unfold wGet at h
  split at h
  ·exact ⟨a,List.mem_cons_self ..,h⟩
  ·obtain ⟨p,hp,hd⟩:=ih h;exact ⟨p,List.mem_cons_of_mem _ hp,hd⟩
structure WOk (W:Wts):Prop where
 keys:(W.map (·.1)).Nodup
 rows:∀ p∈W,p.2≠[]
theorem wKey_add {W:Wts} {k:WtK} {c:Cand}:∀ j,j∈(wAdd W k c).map (·.1)↔j=k∨j∈W.map (·.1):=by
 induction W with
 | nil=>intro j; simp [wAdd]
 | cons p W ih =>
  intro j;unfold wAdd
  by_cases h:p.1=k
  ·rw [if_pos h]; simp [h]
  ·rw [if_neg h];rw [List.map_cons,List.mem_cons,ih,List.map_cons,List.mem_cons];constructor
   ·rintro (h1 | h1 | h1)
    ·exact Or.inr (Or.inl h1)
    ·exact Or.inl h1
    ·exact Or.inr (Or.inr h1)
   ·rintro (h1 | h1 | h1)
    ·exact Or.inr (Or.inl h1)
    ·exact Or.inl h1
    ·exact Or.inr (Or.inr h1)
theorem WOk.add:∀ {W:Wts},WOk W→∀ (k:WtK) (c:Cand),WOk (wAdd W k c)
 | [],_,k,c=>⟨by simp [wAdd],by simp [wAdd]⟩
 | p::W,h,k,c=>by
  have hk:=h.keys;rw [List.map_cons,List.nodup_cons] at hk;have ih:=WOk.add (W:=W) ⟨hk.2,fun q hq=>h.rows q (List.mem_cons_of_mem _ hq)⟩ k c;unfold wAdd
  by_cases e:p.1=k
  ·rw [if_pos e];refine ⟨by rw [List.map_cons,List.nodup_cons]; exact ⟨e ▸ hk.1,hk.2⟩,fun q hq=>?_⟩
   rcases List.mem_cons.1 hq with rfl | hq
   ·simp
   ·exact h.rows q (List.mem_cons_of_mem _ hq)
  ·rw [if_neg e]
   refine ⟨by
    rw [List.map_cons,List.nodup_cons];refine ⟨fun hm=>?_,ih.keys⟩
    rcases (wKey_add _).1 hm with h1 | h1
    ·exact e h1
    ·exact hk.1 h1,fun q hq=>?_⟩
   rcases List.mem_cons.1 hq with rfl | hq
   ·exact h.rows _ (List.mem_cons_self ..)
   ·exact ih.rows q hq
theorem wGet_none {W:Wts} {k:WtK} (h:k∉W.map (·.1)):wGet W k=[]:=by
 induction W with
 | nil=>rfl
 | cons p W ih =>
  rw [List.map_cons,List.mem_cons] at h;unfold wGet;rw [if_neg (fun e=>h (Or.inl e.symm))];exact ih fun hm=>h (Or.inr hm)
theorem wGet_del:∀ {W:Wts},WOk W→∀ (k j:WtK),wGet (wDel W k) j=if j=k then [] else wGet W j
 | [],_,k,j=>by simp [wDel,wGet]
 | p::W,h,k,j=>by
  have hk:=h.keys;rw [List.map_cons,List.nodup_cons] at hk;have ih:=wGet_del (W:=W) ⟨hk.2,fun q hq=>h.rows q (List.mem_cons_of_mem _ hq)⟩ k j;unfold wDel
  by_cases e:p.1=k
  ·rw [if_pos e]
   by_cases hj:j=k
   ·rw [if_pos hj,hj,← e]; exact wGet_none hk.1
   ·rw [if_neg hj]
    conv=>rhs; unfold wGet
    rw [if_neg (fun e2=>hj (e2.symm.trans e))]
  ·rw [if_neg e];unfold wGet
   by_cases hp:p.1=j
   ·rw [if_pos hp,if_pos hp,if_neg (fun e2=>e (hp.trans e2))]
   ·rw [if_neg hp,if_neg hp]; exact ih
theorem WOk.del {W:Wts} (h:WOk W) (k:WtK):WOk (wDel W k):=by
 have hs:∀ (W:Wts),(wDel W k).Sublist W:=by
  intro W
  induction W with
  | nil=>exact List.Sublist.slnil
  | cons p W ih =>
   unfold wDel
   split
   ·exact List.sublist_cons_self ..
   ·exact ih.cons_cons _
 exact ⟨(((hs W).map _).nodup) h.keys,fun p hp=>h.rows p (wMem_del p hp)⟩
theorem wGet_nil {W:Wts} (h:WOk W) (k:WtK):wGet W k=[]↔k∉W.map (·.1):=by
 refine ⟨fun e hm=>?_,wGet_none⟩
 induction W with
 | nil=>simp at hm
 | cons p W ih =>
  have hk:=h.keys;rw [List.map_cons,List.nodup_cons] at hk;unfold wGet at e
  by_cases e1:p.1=k
  ·rw [if_pos e1] at e; exact h.rows p (List.mem_cons_self ..) e
  ·rw [if_neg e1] at e;rw [List.map_cons,List.mem_cons] at hm
   rcases hm with hm | hm
   ·exact e1 hm.symm
   ·exact ih ⟨hk.2,fun q hq=>h.rows q (List.mem_cons_of_mem _ hq)⟩ e hm
structure LsS where
 lists:List (List CT)
 seen:List Cand
 waits:Wts
 q:List QE
abbrev lstAt (L:List (List CT)) (v:Nat):List CT:=L.getD v []
def packOf (nd:List NdI) (c:Cand):PkI:=((ndAt nd c.1).2[c.2.1]?).getD (0,[])
def coll (L:List (List CT)) (r:Rk):Nat→List Int→Sum WtK (List CT)
 | _,[]=>.inr []
 | i,k::ks=>match (lstAt L k.toNat)[r.get i]? with
  | none=>.inl (k.toNat,r.get i)
  | some x=>match coll L r (i+1) ks with
   | .inl w=>.inl w
   | .inr l=>.inr (x::l)
noncomputable def tryL (nd:List NdI) (c:Cand) (st:LsS):LsS:=match coll st.lists c.2.2 0 (packOf nd c).2 with
 | .inl k=>{ st with waits:=wAdd st.waits k c }
 | .inr ks=>{ st with q:=upQ (st.q++[(c,.mk (packOf nd c).1 0 (1+szL ks) ks)]) st.q.length }
noncomputable def firstL (nd:List NdI) (c:Cand) (st:LsS):LsS:=if c∈st.seen then st else tryL nd c { st with seen:=st.seen++[c] }
noncomputable def takeL (nd:List NdI) (most:Nat) (x:QE) (st:LsS):LsS :=
 if (lstAt st.lists x.1.1).length=most then st else
  (List.range (packOf nd x.1).2.length).foldl (fun s i=>firstL nd (x.1.1,x.1.2.1,Rk.inc x.1.2.2 i) s)
   ((wGet st.waits (x.1.1,(lstAt st.lists x.1.1).length)).foldl (fun s c=>tryL nd c s)
     { st with lists:=st.lists.set x.1.1 (lstAt st.lists x.1.1++[x.2]),waits:=wDel st.waits (x.1.1,(lstAt st.lists x.1.1).length) })
noncomputable def runL (nd:List NdI) (root most:Nat):Nat→LsS→Option LsS
 | 0,_=>none
 | d+1,st=>if st.q=[]∨most≤(lstAt st.lists root).length then some st else
  match (popQ st.q).getLast? with
  | none=>some st
  | some x=>if 5000 < x.2.size then some { st with q:=(popQ st.q).dropLast } else runL nd root most d (takeL nd most x { st with q:=(popQ st.q).dropLast })
theorem upQ_len:∀ (n:Nat) (q:List QE) (j:Nat),j≤n→(upQ q j).length=q.length
 | 0,q,j,h=>by obtain rfl:j=0:=by omega
               rw [upQ_zero]
 | n+1,q,j,h=>by
  by_cases h0:j=0
  ·rw [h0,upQ_zero]
  ·rw [upQ_step h0]
   split
   ·rw [upQ_len n _ _ (by omega),swapQ_len]
   ·rfl
theorem upQ_mem:∀ (n:Nat) (q:List QE) (j:Nat),j≤n→∀ x∈upQ q j,x∈q
 | 0,q,j,h=>by obtain rfl:j=0:=by omega
               rw [upQ_zero]; exact fun x hx=>hx
 | n+1,q,j,h=>by
  by_cases h0:j=0
  ·rw [h0,upQ_zero]; exact fun x hx=>hx
  ·rw [upQ_step h0]
   split
   ·exact fun x hx=>swapQ_mem x (upQ_mem n _ _ (by omega) x hx)
   ·exact fun x hx=>hx
theorem downQ_mem (m:Nat):∀ (k i:Nat) (q:List QE),m - i≤k→∀ x∈downQ m q i,x∈q
 | 0,i,q,h=>by rw [downQ_end (by omega)]; exact fun x hx=>hx
 | k+1,i,q,h=>by
  by_cases h1:m≤2*i+1
  ·rw [downQ_end h1]; exact fun x hx=>hx
  ·obtain ⟨j,hj⟩:∃ j,j=if 2*i+2 < m∧lessQ q (2*i+2) (2*i+1)=true then 2*i+2 else 2*i+1:=⟨_,rfl⟩
   have hij:i < j:=(by rw [hj]; split <;> omega);rw [downQ_step h1 hj]
   by_cases hl:lessQ q j i=true
   ·rw [if_pos hl]; exact fun x hx=>swapQ_mem x (downQ_mem m k j _ (by omega) x hx)
   ·rw [if_neg hl]; exact fun x hx=>hx
theorem popQ_mem {q:List QE}:∀ x∈popQ q,x∈q:=fun x hx=>swapQ_mem x (downQ_mem _ _ _ _ (Nat.le_refl _) x hx)
end Go.Proofs.YtfcihnpmeabacaaGreatDoor
