/- Texts TK, laid together. -/
import Derived.Test.YtfcihnpmeabacaaGreatDoorW18
import Derived.Test.YtfcihnpmeabacaaGreatDoorW4
import Derived.Test.YtfcihnpmeabacaaGreatDoorW5
namespace Go.Proofs.YtfcihnpmeabacaaGreatDoor
open Go.RowKit
theorem pt_info:(Tryz.prog.info? 138).map (fun i=>(i.zero,i.size,i.bytes))=some (some (.pointer none),1,8):=by kernel_rfl
theorem step_append_pt {ops:Array Oper} {o:Oper} {a:Act} {K:Act→World→Prop} {Q:Exit→Act→World→Prop} {F:Prop} (w:World) (hgd:o.guard=none) (s y:Operand)
 (ho:o.op=.call { callee:=.builtin .append,args:=#[s,y],argTypes:=#[139,139] })
 (ok:Nat→Prop) (base:Nat) (v:Value) (n:Nat) (l:List CT) (hv:a.eval s=v) (hown:Own PtE 138 ok w base v n l)
 (b:Nat) (r:Nat) (x:CT) (hy:a.eval y=.slice (some ⟨b,0,none⟩) 1 1) (hcell:Blk w b 138 (PtE.cells r).toArray) (hrel:PtE.rel (fun b=>ok b∧some b≠v.ownBlock) w r x)
 (h63:n+1≤1000000) (hbase:base≤w.heap.size)
 (h:∀ A' c' w',Own PtE 138 ok w' base (.slice A' (n+1) c') (n+1) (l++[x])→w.grownBy w' v.ownBlock→((Value.slice A' (n+1) c').ownBlock=v.ownBlock∨(Value.slice A' (n+1) c').ownBlock=some w.heap.size)→K (a.put o.dst (.slice A' (n+1) c')) w') :
 if Region.wanted o (yielded ops a.tmps)=true then Oper.wp Tryz.prog o a w K Q else F:=by
 obtain ⟨i,hi,hz⟩:=Option.map_eq_some_iff.1 pt_info;simp only [Prod.mk.injEq] at hz;refine step_append_E (E:=PtE) w hgd s y 139 138 ho i (.pointer none) 8 (by kernel_rfl) hi hz.1 hz.2.1 hz.2.2 rfl ok base v n l hv hown b r x hy (fun j u hu=>?_) hrel (by simp [maxLen]; omega) (by omega) hbase h;rw [hcell.cell j,List.getElem?_toArray]; exact hu
theorem wpList_append_pt {ops:Array Oper} {rest:List Oper} {o:Oper} {a:Act} {Q:Exit→Act→World→Prop} (w:World) (hgd:o.guard=none) (s y:Operand)
 (ho:o.op=.call { callee:=.builtin .append,args:=#[s,y],argTypes:=#[139,139] })
 (ok:Nat→Prop) (base:Nat) (v:Value) (n:Nat) (l:List CT) (hv:a.eval s=v) (hown:Own PtE 138 ok w base v n l)
 (b:Nat) (r:Nat) (x:CT) (hy:a.eval y=.slice (some ⟨b,0,none⟩) 1 1) (hcell:Blk w b 138 (PtE.cells r).toArray) (hrel:PtE.rel (fun b=>ok b∧some b≠v.ownBlock) w r x)
 (h63:n+1≤1000000) (hbase:base≤w.heap.size)
 (h:∀ A' c' w',Own PtE 138 ok w' base (.slice A' (n+1) c') (n+1) (l++[x])→w.grownBy w' v.ownBlock→((Value.slice A' (n+1) c').ownBlock=v.ownBlock∨(Value.slice A' (n+1) c').ownBlock=some w.heap.size)→wpList Tryz.prog ops Q rest (a.put o.dst (.slice A' (n+1) c')) w'):wpList Tryz.prog ops Q (o::rest) a w:=by
 obtain ⟨i,hi,hz⟩:=Option.map_eq_some_iff.1 pt_info;simp only [Prod.mk.injEq] at hz;refine wpList_append_E (E:=PtE) w hgd s y 139 138 ho i (.pointer none) 8 (by kernel_rfl) hi hz.1 hz.2.1 hz.2.2 rfl ok base v n l hv hown b r x hy (fun j u hu=>?_) hrel (by simp [maxLen]; omega) (by omega) hbase h;rw [hcell.cell j,List.getElem?_toArray]; exact hu
theorem ctree_info:∃ j,Tryz.prog.info? 141=some j∧j.size≠0:=by
 have h:(Tryz.prog.info? 141).map (fun i=>i.size)=some 4:=(by kernel_rfl);obtain ⟨i,hi,hz⟩:=Option.map_eq_some_iff.1 h;exact ⟨i,hi,by rw [hz]; omega⟩
theorem pt_same (w:World) (a:Addr):(binOp .eql 138 (.pointer (some a)) (.pointer (some a))).run Tryz.prog w=.ok (.bool true) w:=by
 obtain ⟨j,hj,hs⟩:=ctree_info;exact run_eql_ptr_same w a Tryz.underlying138 hj
theorem pt_other {w:World} {a b:Addr} (hne:a≠b) {ca cb:Array Value} {ta tb:TypeId} (ha:Blk w a.block ta ca) (hb:Blk w b.block tb cb):(binOp .eql 138 (.pointer (some a)) (.pointer (some b))).run Tryz.prog w=.ok (.bool false) w:=by
 obtain ⟨j,hj,hs⟩:=ctree_info;exact run_eql_ptr_other w Tryz.underlying138 hj hs hne ha hb
theorem Own.onePt {ok:Nat→Prop} {w:World} {base g b:Nat} {t:CT} (hB:Blk w g 138 #[.pointer (some ⟨b,0,none⟩)]) (hbase:base≤g) (h:PtR (fun q=>ok q∧some q≠some g) w b t):Own PtE 138 ok w base (.slice (some ⟨g,0,none⟩) 1 1) 1 [t] :=
 ⟨rfl,[b],rfl,⟨rfl,Or.inr ⟨g,1,#[.pointer (some ⟨b,0,none⟩)],rfl,hbase,hB,Nat.le_refl _,by simp [maxLen],rfl,rfl⟩⟩,fun i r x hr hx=>by
  cases i with
  | zero=>simp only [List.getElem?_cons_zero,Option.some.injEq] at hr hx; subst hr hx; exact h
  | succ i=>simp at hr⟩
theorem Own.popT {α ρ:Type} {E:Elem α ρ} {e:TypeId} {ok:Nat→Prop} {w:World} {base n:Nat} {l:List α} {A:Option Addr} {c:Nat} {x:α} (h:Own E e ok w base (.slice A (n+1) c) (n+1) (l++[x])):Own E e ok w base (.slice A n c) n l:=by
 obtain ⟨h1,raw,h3,h4,h5⟩:=h;have hl:l.length=n:=(by simp at h1; exact h1);have hob:(Value.slice A n c).ownBlock=(Value.slice A (n+1) c).ownBlock:=(by cases A <;> rfl);refine ⟨hl,raw.take n,by rw [List.length_take]; omega,⟨by rw [flat_len,List.length_take,h3,Nat.min_eq_left (by omega)],?_⟩,fun i r x' hr hx=>?_⟩
 ·rcases h4.2 with ⟨-,h0⟩ | ⟨g,cap,cur,hv,hbg,hh,hc1,hc2,hc3,hc4⟩
  ·omega
  ·cases hv
   refine Or.inr ⟨g,c,cur,rfl,hbg,hh,by omega,hc2,hc3,?_⟩;have e1:flat E raw=flat E (raw.take n)++flat E (raw.drop n):=(by unfold flat; rw [← List.flatMap_append,List.take_append_drop]);rw [e1] at hc4;have e2:(flat E (raw.take n)).length=n*E.k:=(by rw [flat_len,List.length_take,h3,Nat.min_eq_left (by omega)])
   have e3:cur.toList.take (n*E.k)=(cur.toList.take ((n+1)*E.k)).take (n*E.k):=by
    rw [List.take_take,Nat.min_eq_left (Nat.mul_le_mul_right _ (by omega))]
   rw [e3,hc4,← e2];exact List.take_left
 ·rw [hob]
  have hi:i < n:=by
   have:=(List.getElem?_eq_some_iff.1 hr).1;rw [List.length_take] at this; omega
  rw [List.getElem?_take_of_lt hi] at hr;exact h5 i r x' hr (by rw [List.getElem?_append_left (by omega)]; exact hx)
structure CpM (w0:World) (ok:Nat→Prop) (xv yv:Value) (X Y:List CT) (wr:World):Prop where
 bel:Below w0.heap.size w0 wr
 ox:Own PtE 138 (fun b=>ok b∧b < w0.heap.size) wr w0.heap.size xv X.length X.reverse
 oy:Own PtE 138 (fun b=>ok b∧b < w0.heap.size) wr w0.heap.size yv Y.length Y.reverse
 ne:∀ b,xv.ownBlock=some b→yv.ownBlock=some b→False
section
variable {w0 wr w':World} {ok:Nat→Prop} {xv yv:Value} {X Y:List CT}
theorem CpM.via (h:CpM w0 ok xv yv X Y wr) (hb:Below wr.heap.size wr w'):CpM w0 ok xv yv X Y w':=⟨h.bel.via hb,h.ox.via hb,h.oy.via hb,h.ne⟩
theorem CpM.swap (h:CpM w0 ok xv yv X Y wr):CpM w0 ok yv xv Y X wr:=⟨h.bel,h.oy,h.ox,fun b h1 h2=>h.ne b h2 h1⟩
theorem CpM.pushX {v':Value} {k:CT} (h:CpM w0 ok xv yv X Y wr) (ho:Own PtE 138 (fun b=>ok b∧b < w0.heap.size) w' w0.heap.size v' (X.length+1) (X.reverse++[k])) (hg:wr.grownBy w' xv.ownBlock) (hat:v'.ownBlock=xv.ownBlock∨v'.ownBlock=some wr.heap.size):CpM w0 ok v' yv (k::X) Y w':=by
 refine ⟨h.bel.grown hg h.bel.size (fun b e=>(h.ox.lt b e).1),by simpa using ho,h.oy.agr (Agr.grown hg fun b hb e=>?_),fun b h1 h2=>?_⟩
 ·rcases hb with hb | hb
  ·have:=(h.ox.lt b e.symm).1; have:=hb.2; omega
  ·exact h.ne b e.symm hb.symm
 ·rcases hat with e | e
  ·exact h.ne b (e ▸ h1) h2
  ·rw [e] at h1;have h3:=(h.oy.lt b h2).2;have:=Option.some.inj h1; omega
theorem below_agr {w0 w1 w2:World} {ok:Nat→Prop} (h:Below w0.heap.size w0 w1) (k:Below w0.heap.size w0 w2):Agr (fun b=>ok b∧b < w0.heap.size) w1 w2:=fun b hb _=>(k.block b hb.2).trans (h.block b hb.2).symm
theorem Own.top {base:Nat} {v:Value} {s:CT} {L:List CT} (h:Own PtE 138 ok wr base v (s::L).length (s::L).reverse) :
 ∃ g c b,v=.slice (some ⟨g,0,none⟩) (L.length+1) c∧L.length+1≤c∧base≤g∧wr.cell? ⟨g,L.length,none⟩=some (.pointer (some ⟨b,0,none⟩))∧PtR ok wr b s∧Own PtE 138 ok wr base (.slice (some ⟨g,0,none⟩) L.length c) L.length L.reverse:=by
 obtain ⟨A,c,hv,hc⟩:=h.form;rw [List.length_cons] at hv;subst hv
 obtain ⟨g,rfl⟩:∃ g,A=some (⟨g,0,none⟩:Addr):=by
  obtain ⟨-,raw,-,h3,-⟩:=h
  rcases h3.2 with ⟨h0,hn0⟩ | ⟨gb,cap,cur,hv,_⟩
  ·simp at hn0
  ·cases hv; exact ⟨gb,rfl⟩
 have hg:=(h.lt g rfl).1;have hS:=h.toSl (ok':=fun _=>True) (fun _ _ _=>trivial) (fun _ _=>trivial);obtain ⟨b1,o1,r,x,e,-,-,hx,-,hcl⟩:=hS.at_ (i:=L.length) (by simp);cases e
 have d0:=hcl 0 _ rfl;simp only [PtE,Nat.mul_one,Nat.zero_add,Nat.add_zero] at d0;rw [List.reverse_cons] at h hx;obtain ⟨h1,raw,h3,h4,h5⟩:=h;have hrl:L.length < raw.length:=(by rw [h3]; simp);have hr:=List.getElem?_eq_getElem hrl;have hx2:(L.reverse++[s])[L.length]?=some s:=(by rw [List.getElem?_append_right (by simp)]; simp);have hrel:=h5 L.length raw[L.length] s hr hx2
 have hcell:=h4.cells (g:=g) rfl L.length (.pointer (some ⟨raw[L.length],0,none⟩)) (by
  have hf:∀ (l:List Nat) (i:Nat) (hi:i < l.length),(flat PtE l)[i]?=some (.pointer (some ⟨l[i],0,none⟩)):=by
   intro l
   induction l with
   | nil=>intro i hi; simp at hi
   | cons a l ih =>
    intro i hi;cases i with
    | zero=>rfl
    | succ i=>simpa [flat,PtE,ptCells] using ih i (by simpa using hi)
  exact hf raw L.length hrl)
 rw [Addr.add_lit] at hcell;simp only [Nat.zero_add] at hcell;refine ⟨g,c,raw[L.length],rfl,hc,hg,hcell,PtR.mono hrel (fun b _ hb=>hb.1),?_⟩;have hl2:(s::L).length=L.length+1:=rfl;exact Own.popT (x:=s) ⟨by simp,raw,by rw [h3,hl2],by rw [← hl2]; exact h4,h5⟩
end
set_option maxRecDepth 100000 in
set_option maxHeartbeats 8000000 in
theorem compare_r (r:Int) (ok:Nat→Prop) (a b:Nat) (x y:CT) (w:World) (ha:PtR ok w a x) (hb:PtR ok w b y) (wx:x.Wf) (wy:y.Wf) (sx:x.size≤100000) (sy:y.size≤100000) (hr1:x.size=y.size→CmpR [x] [y] r) (hr2:x.size≠y.size→r=if x.size < y.size then -1 else 1) :
 Calls Tryz.prog 198 #[.pointer (some ⟨a,0,none⟩),.pointer (some ⟨b,0,none⟩)] w (fun e w'=>e=.returned (.int .i64 r)∧Below w.heap.size w w'):=by
 obtain ⟨A1,c1,-,hBa,-⟩:=ha.open;obtain ⟨A2,c2,-,hBb,-⟩:=hb.open;have HA:=Lib.hid ha;have HB:=Lib.hid hb;have HWX:=Lib.hid wx;have HWY:=Lib.hid wy;have HBA:=Lib.hid hBa;have HBB:=Lib.hid hBb;clear ha hb wx wy;go_enter Tryz.func198,Tryz.ntmps198
 by_cases hsz:x.size=y.size
 ·have e1:(x.size != y.size)=false:=(by simpa using hsz);have chBa:=hBa.cell;have fhBa:=hBa.frozen;have lhBa:=hBa.lt;have chBb:=hBb.cell;have fhBb:=hBb.frozen;have lhBb:=hBb.lt;go_upto_region 1 with fail
  go_quiet (fail)
  clear chBa fhBa lhBa chBb fhBb lhBb;clear hBa hBb;have HDW:=Lib.hid (below_drewN (Below.refl w.heap.size w) nq);generalize w.drewN nq=W1 at *;go_upto_region 4 with fail;have hal:=((Below.refl W1.heap.size W1).al (.cells #[.pointer (some ⟨a,0,none⟩)] 138)).al (.cells #[.pointer (some ⟨b,0,none⟩)] 138);have G1:=(Blk.new W1 138 #[.pointer (some ⟨a,0,none⟩)]).al (.cells #[.pointer (some ⟨b,0,none⟩)] 138);have G2:=Blk.newAt (W1.alloc (.cells #[.pointer (some ⟨a,0,none⟩)] 138)) 138 #[.pointer (some ⟨b,0,none⟩)] (W1.heap.size+1) (by simp);have hz1:=HDW.out.size
  have HC0:Hid (CpM w ok (.slice (some ⟨W1.heap.size,0,none⟩) 1 1) (.slice (some ⟨W1.heap.size+1,0,none⟩) 1 1) [x] [y] ((W1.alloc (.cells #[.pointer (some ⟨a,0,none⟩)] 138)).alloc (.cells #[.pointer (some ⟨b,0,none⟩)] 138))):=Lib.hid
   ⟨HDW.out.via hal,Own.onePt G1 hz1 (PtR.mono (((HA.out.mono (ok':=fun q=>ok q∧q < w.heap.size) fun q hq h=>⟨h,hq⟩).via HDW.out).via hal) fun q _ hq=>⟨hq,fun e=>by have:=Option.some.inj e; have:=hq.2; omega⟩),
    Own.onePt G2 (by omega) (PtR.mono (((HB.out.mono (ok':=fun q=>ok q∧q < w.heap.size) fun q hq h=>⟨h,hq⟩).via HDW.out).via hal) fun q _ hq=>⟨hq,fun e=>by have:=Option.some.inj e; have:=hq.2; omega⟩),
    fun q h1 h2=>by simp only [Value.ownBlock,Option.some.injEq] at h1 h2; omega⟩
  have HR:=Lib.hid (hr1 hsz);clear hal G1 G2;generalize (W1.alloc (.cells #[.pointer (some ⟨a,0,none⟩)] 138)).alloc (.cells #[.pointer (some ⟨b,0,none⟩)] 138)=W2 at *;have HSX:=Lib.hid (And.intro sx sy);clear hsz e1 hz1 HDW HA HB HBA HBB sx sy hr1 hr2
  go_loopg [5,6] 200001 (fun gk xv yv wr=>∃ (X Y:List CT),Hid (CpM w ok xv yv X Y wr)∧Hid (CmpR X Y r)∧Hid ((∀ z∈X,z.Wf)∧(∀ z∈Y,z.Wf)∧szL X≤100000∧szL Y≤100000)∧(szL X).toNat < gk)
  case atStart=>exact ⟨[x],[y],HC0,HR,Lib.hid ⟨fun z hz=>by rw [List.mem_singleton.1 hz]; exact HWX.out,fun z hz=>by rw [List.mem_singleton.1 hz]; exact HWY.out,by simp [szL]; exact HSX.out.1,by simp [szL]; exact HSX.out.2⟩,by have:=HSX.out.1; simp [szL]; omega⟩
  case round =>
   obtain ⟨X,Y,HC,HCR,HWF,hgk⟩:=hrel
   rcases X with _ | ⟨s,X⟩
   ·obtain ⟨A1,c1,rfl,-⟩:=HC.out.ox.form;have hr:r=0:=(by have:=HCR.out; cases this <;> rfl);subst hr;simp only [List.length_nil];go_wp2_with fail;go_ret;exact ⟨rfl,HC.out.bel⟩
   ·rcases Y with _ | ⟨t,Y⟩
    ·obtain ⟨A1,c1,rfl,-⟩:=HC.out.ox.form;obtain ⟨A2,c2,rfl,-⟩:=HC.out.oy.form;have hr:r=0:=(by have:=HCR.out; cases this <;> rfl);subst hr;simp only [List.length_nil,List.length_cons];have j1:(0:Int) < ((X.length+1:Nat):Int):=(by omega);go_wp2_with fail;go_ret;exact ⟨rfl,HC.out.bel⟩
    ·obtain ⟨g1,c1,p,rfl,hc1,hg1,hx,hps,hox⟩:=HC.out.ox.top;obtain ⟨g2,c2,q,rfl,hc2,hg2,hy,hpt,hoy⟩:=HC.out.oy.top;have hXY:=HWF.out;have hlx:=szL_nn (l:=s::X) hXY.1;have hly:=szL_nn (l:=t::Y) hXY.2.1;rw [List.length_cons] at hlx hly;have hsp:=(hXY.1 s (List.mem_cons_self ..)).pos;have hsc:=szL_cons s X;have hx0:0≤szL X:=(by have:=szL_nn (l:=X) fun z hz=>hXY.1 z (List.mem_cons_of_mem _ hz); omega);have HCX:Hid (CpM w ok (.slice (some ⟨g1,0,none⟩) X.length c1) (.slice (some ⟨g2,0,none⟩) Y.length c2) X Y wr):=Lib.hid ⟨HC.out.bel,hox,hoy,fun b h1 h2=>HC.out.ne b h1 h2⟩;have HPS:=Lib.hid hps;have HPT:=Lib.hid hpt;obtain ⟨n1,hn1⟩:∃ n,n=X.length:=⟨_,rfl⟩;obtain ⟨n2,hn2⟩:∃ n,n=Y.length:=⟨_,rfl⟩;have HN:=Lib.hid (And.intro hn1 hn2);have hb1:n1≤100000:=(by omega);have hb2:n2≤100000:=(by omega);rw [← hn1] at hx hc1;rw [← hn2] at hy hc2;simp only [← hn1,← hn2] at HCX ⊢;have hw1:IntKind.i64.wrap (n1:Int)=(n1:Int):=IntWalk.i64_in _ (by omega);have hw2:IntKind.i64.wrap (n2:Int)=(n2:Int):=IntWalk.i64_in _ (by omega);have HSZ:=Lib.hid (And.intro hsp (And.intro hsc (And.intro hx0 hgk)));clear hps hpt hox hoy hn1 hn2 hlx hly hXY hsp hsc hgk hx0;go_upto_region 5 with fail
     go_quiet (fail)
     have HD1:=Lib.hid (below_drewN (Below.refl wr.heap.size wr) nq);clear hx hy;replace HCX:=Lib.hid (HCX.out.via HD1.out);replace HPS:=Lib.hid (HPS.out.via HD1.out);replace HPT:=Lib.hid (HPT.out.via HD1.out);generalize wr.drewN nq=W3 at *;go_upto_region 6 with fail
     go_quiet (fail)
     have HD2:=Lib.hid (below_drewN (Below.refl W3.heap.size W3) nq);replace HCX:=Lib.hid (HCX.out.via HD2.out);replace HPS:=Lib.hid (HPS.out.via HD2.out);replace HPT:=Lib.hid (HPT.out.via HD2.out);generalize W3.drewN nq=W4 at *;clear HD1 HD2 HC
     by_cases hpq:p=q
     ·subst hpq;obtain rfl:=HPS.out.det HPT.out;have he:=pt_same W4 ⟨p,0,none⟩;go_wp2_with fail
      go_roundg ((szL X).toNat+1)
      case measure=>have:=HSZ.out; omega
      case rel =>
       have hXY:=HWF.out;have hsz:=HSZ.out;exact ⟨X,Y,HCX,Lib.hid (CmpR.pass (hXY.1 s (List.mem_cons_self ..)) HCR.out),Lib.hid ⟨fun z hz=>hXY.1 z (List.mem_cons_of_mem _ hz),fun z hz=>hXY.2.1 z (List.mem_cons_of_mem _ hz),by omega,by have:=hXY.2.2.2; rw [szL_cons] at this; omega⟩,by omega⟩
     ·obtain ⟨SA,sc,-,hBp,-⟩:=HPS.out.open;obtain ⟨TA,tc,-,hBq,-⟩:=HPT.out.open;have he:=pt_other (w:=W4) (a:=⟨p,0,none⟩) (b:=⟨q,0,none⟩) (fun e=>hpq (Addr.mk.inj e).1) hBp hBq;have HBP:=Lib.hid hBp;have HBQ:=Lib.hid hBq;clear hpq hBp hBq;go_upto_region 8 with fail;clear he;have BP:=HBP.out;have BQ:=HBQ.out
      by_cases hrr:s.rule=t.rule
      ·have e2:(s.rule != t.rule)=false:=(by simpa using hrr);have cBP:=BP.cell;have fBP:=BP.frozen;have lBP:=BP.lt;have cBQ:=BQ.cell;have fBQ:=BQ.frozen;have lBQ:=BQ.lt
       go_quiet (fail)
       clear cBP fBP lBP cBQ fBQ lBQ;clear BP BQ;have HD5:=Lib.hid (below_drewN (Below.refl W4.heap.size W4) nq);replace HCX:=Lib.hid (HCX.out.via HD5.out);replace HBP:=Lib.hid (HBP.out.via HD5.out);replace HBQ:=Lib.hid (HBQ.out.via HD5.out);replace HPS:=Lib.hid (HPS.out.via HD5.out);replace HPT:=Lib.hid (HPT.out.via HD5.out);generalize W4.drewN nq=W5 at *;clear HD5;have hXY:=HWF.out;have hm4:s.kids.length≤4:=(hXY.1 s (List.mem_cons_self ..)).len;have hm5:t.kids.length≤4:=(hXY.2.1 t (List.mem_cons_self ..)).len;have HRR:=Lib.hid hrr;have BP:=HBP.out;obtain ⟨m,hm⟩:∃ m,m=s.kids.length:=⟨_,rfl⟩;obtain ⟨l,hl⟩:∃ l,l=t.kids.length:=⟨_,rfl⟩;rw [← hm] at hm4;rw [← hl] at hm5;have HML:=Lib.hid (And.intro hm hl);rw [← hm] at BP HBP;rw [← hl] at HBQ;have hw3:IntKind.i64.wrap ((m:Int) - 1)=(m:Int) - 1:=IntWalk.i64_in _ (by omega);clear hrr e2 hm hl hXY;have cBP:=BP.cell;have fBP:=BP.frozen;have lBP:=BP.lt;go_upto_region 11 with fail;clear cBP fBP lBP;clear BP hw3;have HPA:=Lib.hid (And.intro HPS.out HPT.out);have HB5:=Lib.hid HCX.out.bel
       go_loopw [5,9] (fun xv iv wz=>∃ (k:Nat),iv=.int .i64 ((k:Int) - 1)∧k≤m∧Hid (CpM w ok xv (.slice (some ⟨g2,0,none⟩) n2 c2) (s.kids.drop k++X) Y wz)) (fun _ iv _=>(intOf iv+1).toNat)
       case atStart=>exact ⟨m,rfl,Nat.le_refl _,Lib.hid (by rw [HML.out.1,List.drop_length,List.nil_append]; exact HCX.out)⟩
       case round =>
        obtain ⟨k,rfl,hkm,HCK⟩:=hrel
        rcases k with _ | j
        ·have hz:((0:Nat):Int) - 1=-1:=rfl;rw [hz];simp only [List.drop_zero] at HCK;have hag:=below_agr (ok:=ok) HB5.out HCK.out.bel;obtain ⟨TA',tc',-,hBt,-⟩:=(HPA.out.2.agr hag).open;rw [← HML.out.2] at hBt;obtain ⟨XA,xc,rfl,-⟩:=HCK.out.ox.form;have hw4:IntKind.i64.wrap ((l:Int) - 1)=(l:Int) - 1:=IntWalk.i64_in _ (by omega);clear hag;have chBt:=hBt.cell;have fhBt:=hBt.frozen;have lhBt:=hBt.lt;go_upto_region 15 with fail;clear chBt fhBt lhBt;clear hBt hw4;have HCJ:=Lib.hid HCK.out;generalize (s.kids++X).length=nn at *
         go_loopw [6,10] (fun yv iv wz=>∃ (k:Nat),iv=.int .i64 ((k:Int) - 1)∧k≤l∧Hid (CpM w ok (.slice XA nn xc) yv (s.kids++X) (t.kids.drop k++Y) wz)) (fun _ iv _=>(intOf iv+1).toNat)
         case atStart=>exact ⟨l,rfl,Nat.le_refl _,Lib.hid (by rw [HML.out.2,List.drop_length,List.nil_append]; exact HCJ.out)⟩
         case round =>
          obtain ⟨k,rfl,hkm,HCK⟩:=hrel
          rcases k with _ | j
          ·have hz:((0:Nat):Int) - 1=-1:=rfl;rw [hz];simp only [List.drop_zero] at HCK;go_wp2_with fail;have hsz:=HSZ.out;have hXY:=HWF.out;have hs1:=(hXY.1 s (List.mem_cons_self ..)).size_eq;have ht1:=(hXY.2.1 t (List.mem_cons_self ..)).size_eq;have hsa:=szL_append s.kids X;have hta:=szL_append t.kids Y;have htc:=szL_cons t Y;have hs1':s.size=1+szL s.kids:=hs1;have ht1':t.size=1+szL t.kids:=ht1
           have hnn:0≤szL (s.kids++X):=by
            have:=szL_nn (l:=s.kids) (hXY.1 s (List.mem_cons_self ..)).kids;omega
           go_roundg ((szL (s.kids++X)).toNat+1)
           case measure=>omega
           case rel =>
            refine ⟨s.kids++X,t.kids++Y,HCK,Lib.hid ?_,Lib.hid ⟨fun z hz=>?_,fun z hz=>?_,by omega,by omega⟩,by omega⟩
            ·have h:=HCR.out;cases h with
             | diff _ _ _ _ h=>exact absurd HRR.out h
             | same _ _ _ _ _ _ h2=>exact h2
            ·rcases List.mem_append.1 hz with hz | hz
             ·exact (hXY.1 s (List.mem_cons_self ..)).kids z hz
             ·exact hXY.1 z (List.mem_cons_of_mem _ hz)
            ·rcases List.mem_append.1 hz with hz | hz
             ·exact (hXY.2.1 t (List.mem_cons_self ..)).kids z hz
             ·exact hXY.2.1 z (List.mem_cons_of_mem _ hz)
          ·have hz:((j+1:Nat):Int) - 1=(j:Int):=(by omega);rw [hz];have hag:=below_agr (ok:=ok) HB5.out HCK.out.bel;obtain ⟨TA',tc',-,hBs,hSs⟩:=(HPA.out.2.agr hag).open;rw [← HML.out.2] at hBs hSs;obtain ⟨kb,ko,kp,kd,hSA,-,-,hkd,hkr,hkc⟩:=hSs.at_ (i:=j) (by omega);have d0:=hkc 0 _ rfl;simp only [PtE,Nat.mul_one,Nat.add_zero] at d0;subst hSA;have hcle:=hSs.le;have i0:(0:Int)≤(j:Int):=(by omega);have i1:(j:Int) < (l:Int):=(by omega);have hwj:IntKind.i64.wrap ((j:Int) - 1)=(j:Int) - 1:=IntWalk.i64_in _ (by omega);obtain ⟨YA,yc,rfl,-⟩:=HCK.out.oy.form
           have hlen:(t.kids.drop (j+1)++Y).length≤100004:=by
            have:=HN.out.2;rw [List.length_append,List.length_drop]; have:=HML.out.2; omega
           have HKR:=Lib.hid hkr;have HKD:=Lib.hid hkd;have HLN:=Lib.hid hlen;clear hag hSs hkc hkr hkd hlen;have hal:=(Below.refl wr.heap.size wr).al (.cells #[.pointer (some ⟨kp,0,none⟩)] 138);have HCA:=Lib.hid (HCK.out.via hal);have HKA:=Lib.hid (PtR.via HKR.out hal);clear hal;have chBs:=hBs.cell;have fhBs:=hBs.frozen;have lhBs:=hBs.lt;go_wp2_with (at_builtin; refine wpList_append_pt _ rfl (.tmp 114) (.tmp 122) rfl (fun b=>ok b∧b < w.heap.size) w.heap.size (.slice YA (t.kids.drop (j+1)++Y).length yc) (t.kids.drop (j+1)++Y).length (t.kids.drop (j+1)++Y).reverse rfl HCA.out.oy wr.heap.size kp kd rfl (Blk.new wr 138 #[.pointer (some ⟨kp,0,none⟩)]) (PtR.mono HKA.out fun b _ hb=>⟨hb,fun e=>by have:=(HCA.out.oy.lt b e.symm).1; have:=hb.2; omega⟩) (by have:=HLN.out; omega) HCA.out.bel.size ?_; intro A' c' w' ho hg hat);clear d0;refine ⟨⟨j,rfl,by omega,Lib.hid ?_⟩,by simp only [intOf]; omega⟩;have hp:=(HCA.out.swap.pushX ho hg hat).swap;have hjl:j < t.kids.length:=(by rw [← HML.out.2]; omega)
           have he:t.kids.drop j++Y=kd::(t.kids.drop (j+1)++Y):=by
            rw [List.drop_eq_getElem_cons hjl,List.cons_append]
            congr 1
            have:=HKD.out;rw [List.getElem?_eq_getElem hjl] at this;exact Option.some.inj this
           have hl2:(t.kids.drop (j+1)++Y).length=t.kids.length - (j+1)+Y.length:=(by simp);rw [hl2] at hp;rw [he]; exact hp
        ·have hz:((j+1:Nat):Int) - 1=(j:Int):=(by omega);rw [hz];have hag:=below_agr (ok:=ok) HB5.out HCK.out.bel;obtain ⟨SA',sc',-,hBs,hSs⟩:=(HPA.out.1.agr hag).open;rw [← HML.out.1] at hBs hSs;obtain ⟨kb,ko,kp,kd,hSA,-,-,hkd,hkr,hkc⟩:=hSs.at_ (i:=j) (by omega);have d0:=hkc 0 _ rfl;simp only [PtE,Nat.mul_one,Nat.add_zero] at d0;subst hSA;have hcle:=hSs.le;have i0:(0:Int)≤(j:Int):=(by omega);have i1:(j:Int) < (m:Int):=(by omega);have hwj:IntKind.i64.wrap ((j:Int) - 1)=(j:Int) - 1:=IntWalk.i64_in _ (by omega);obtain ⟨XA,xc,rfl,-⟩:=HCK.out.ox.form
         have hlen:(s.kids.drop (j+1)++X).length≤100004:=by
          have:=HN.out.1;rw [List.length_append,List.length_drop]; have:=HML.out.1; omega
         have HKR:=Lib.hid hkr;have HKD:=Lib.hid hkd;have HLN:=Lib.hid hlen;clear hag hSs hkc hkr hkd hlen;have hal:=(Below.refl wr.heap.size wr).al (.cells #[.pointer (some ⟨kp,0,none⟩)] 138);have HCA:=Lib.hid (HCK.out.via hal);have HKA:=Lib.hid (PtR.via HKR.out hal);clear hal;have chBs:=hBs.cell;have fhBs:=hBs.frozen;have lhBs:=hBs.lt;go_wp2_with (at_builtin; refine wpList_append_pt _ rfl (.tmp 94) (.tmp 102) rfl (fun b=>ok b∧b < w.heap.size) w.heap.size (.slice XA (s.kids.drop (j+1)++X).length xc) (s.kids.drop (j+1)++X).length (s.kids.drop (j+1)++X).reverse rfl HCA.out.ox wr.heap.size kp kd rfl (Blk.new wr 138 #[.pointer (some ⟨kp,0,none⟩)]) (PtR.mono HKA.out fun b _ hb=>⟨hb,fun e=>by have:=(HCA.out.ox.lt b e.symm).1; have:=hb.2; omega⟩) (by have:=HLN.out; omega) HCA.out.bel.size ?_; intro A' c' w' ho hg hat);clear d0;refine ⟨⟨j,rfl,by omega,Lib.hid ?_⟩,by simp only [intOf]; omega⟩;have hp:=HCA.out.pushX ho hg hat;have hjl:j < s.kids.length:=(by rw [← HML.out.1]; omega)
         have he:s.kids.drop j++X=kd::(s.kids.drop (j+1)++X):=by
          rw [List.drop_eq_getElem_cons hjl,List.cons_append]
          congr 1
          have:=HKD.out;rw [List.getElem?_eq_getElem hjl] at this;exact Option.some.inj this
         have hl2:(s.kids.drop (j+1)++X).length=s.kids.length - (j+1)+X.length:=(by simp);rw [hl2] at hp;rw [he]; exact hp
      ·have e2:(s.rule != t.rule)=true:=(by simpa using hrr)
       have hr:r=if s.rule < t.rule then -1 else 1:=by
        have h:=HCR.out;cases h with
        | diff _ _ _ _ h=>rfl
        | same _ _ _ _ _ h _=>exact absurd h hrr
       have hci:cmpI s.rule t.rule=r:=by
        rw [hr]; unfold cmpI
        by_cases h:s.rule < t.rule
        ·rw [if_pos h,if_pos h]
        ·rw [if_neg h,if_neg h,if_pos (by omega)]
       have HCI:=Lib.hid hci;clear hrr hr hci;have cBP:=BP.cell;have fBP:=BP.frozen;have lBP:=BP.lt;have cBQ:=BQ.cell;have fBQ:=BQ.frozen;have lBQ:=BQ.lt
       go_quiet (fail)
       clear cBP fBP lBP cBQ fBQ lBQ;clear BP BQ;have HD5:=Lib.hid (below_drewN (Below.refl W4.heap.size W4) nq);have BP:=HBP.out.via HD5.out;have BQ:=HBQ.out.via HD5.out;have HBL:=Lib.hid (HCX.out.bel.via HD5.out);generalize W4.drewN nq=W5 at *;clear HD5;go_upto_region 9 with fail;have cBP:=BP.cell;have fBP:=BP.frozen;have lBP:=BP.lt;have cBQ:=BQ.cell;have fBQ:=BQ.frozen;have lBQ:=BQ.lt
       go_still_tail 8,(by kernel_rfl)
       clear cBP fBP lBP cBQ fBQ lBQ;have HBM:=Lib.hid (HBL.out.via (Below.refl W5.heap.size W5).drew);change wpList _ _ _ _ _ W5.drew
       generalize W5.drew=W6 at *;clear BP BQ;go_wp2_with fail;refine (cmp_c s.rule t.rule W6).mono ?_;rintro e w' ⟨rfl,rfl⟩;rw [HCI.out];go_wp2_with fail;go_ret;exact ⟨rfl,HBM.out⟩
 ·have e1:(x.size != y.size)=true:=(by simpa using hsz)
  have hci:cmpI x.size y.size=r:=by
   rw [hr2 hsz]; unfold cmpI
   by_cases h:x.size < y.size
   ·rw [if_pos h,if_pos h]
   ·rw [if_neg h,if_neg h,if_pos (by omega)]
  have HCI:=Lib.hid hci;clear hci hr1 hr2 hsz;have chBa:=hBa.cell;have fhBa:=hBa.frozen;have lhBa:=hBa.lt;have chBb:=hBb.cell;have fhBb:=hBb.frozen;have lhBb:=hBb.lt;go_upto_region 1 with fail
  go_quiet (fail)
  clear chBa fhBa lhBa chBb fhBb lhBb;clear hBa hBb;have HDW:=Lib.hid (below_drewN (Below.refl w.heap.size w) nq);have BP:=HBA.out.via HDW.out;have BQ:=HBB.out.via HDW.out;generalize w.drewN nq=W1 at *;go_upto_region 2 with fail;have cBP:=BP.cell;have fBP:=BP.frozen;have lBP:=BP.lt;have cBQ:=BQ.cell;have fBQ:=BQ.frozen;have lBQ:=BQ.lt
  go_still_tail 8,(by kernel_rfl)
  clear cBP fBP lBP cBQ fBQ lBQ;have HBM:=Lib.hid (HDW.out.via (Below.refl W1.heap.size W1).drew);change wpList _ _ _ _ _ W1.drew
  generalize W1.drew=W2 at *;clear BP BQ;go_wp2_with fail;refine (cmp_c x.size y.size W2).mono ?_;rintro e w' ⟨rfl,rfl⟩;rw [HCI.out];go_wp2_with fail;go_ret;exact ⟨rfl,HBM.out⟩
theorem compare_c (ok:Nat→Prop) (a b:Nat) (x y:CT) (w:World) (ha:PtR ok w a x) (hb:PtR ok w b y) (wx:x.Wf) (wy:y.Wf) (sx:x.size≤100000) (sy:y.size≤100000) :
 Calls Tryz.prog 198 #[.pointer (some ⟨a,0,none⟩),.pointer (some ⟨b,0,none⟩)] w (fun e w'=>e=.returned (.int .i64 (cmpT x y))∧Below w.heap.size w w') :=
 compare_r (cmpT x y) ok a b x y w ha hb wx wy sx sy (fun h=>cmpT_spec wx h) (fun h=>by unfold cmpT; rw [if_neg h])
end Go.Proofs.YtfcihnpmeabacaaGreatDoor
