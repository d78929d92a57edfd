/- Texts SD, laid together. -/
import Derived.Test.YtfcihnpmeabacaaGreatDoorW1
import Derived.Test.YtfcihnpmeabacaaGreatDoorW31
import Derived.Laws.EntriesVeiled
namespace Go.Proofs.YtfcihnpmeabacaaGreatDoor
open Go.RowKit
theorem sp_info:(Tryz.prog.info? 71).map (fun i=>(i.zero,i.size,i.bytes))=some (some (.agg #[.bool false,.int .i64 0,.int .i64 0,.int .i64 0]),4,32):=by kernel_rfl
theorem wy_info:(Tryz.prog.info? 84).map (fun i=>(i.zero,i.size,i.bytes))=some (some (.agg #[.int .i64 0,.slice none 0 0]),2,32):=by kernel_rfl
theorem step_append_wy {ops:Array Oper} {o:Oper} {a:Act} {K:Act→World→Prop} {Q:Exit→Act→World→Prop} {F:Prop} (w:World) (hgd:o.guard=none) (s y:Operand)
 (ho:o.op=.call { callee:=.builtin .append,args:=#[s,y],argTypes:=#[79,79] })
 (ok:Nat→Prop) (base:Nat) (v:Value) (n:Nat) (l:List (Nat×List Ky)) (hv:a.eval s=v) (hown:Own PkE 84 ok w base v n l)
 (b:Nat) (r:(Nat×SlV)) (x:(Nat×List Ky)) (hy:a.eval y=.slice (some ⟨b,0,none⟩) 1 1) (hcell:Blk w b 84 (PkE.cells r).toArray) (hrel:PkE.rel (fun b=>ok b∧some b≠v.ownBlock) w r x)
 (h63:n+1≤1000000) (hbase:base≤w.heap.size)
 (h:∀ A' c' w',Own PkE 84 ok w' base (.slice A' (n+1) c') (n+1) (l++[x])→w.grownBy w' v.ownBlock→((Value.slice A' (n+1) c').ownBlock=v.ownBlock∨(Value.slice A' (n+1) c').ownBlock=some w.heap.size)→K (a.put o.dst (.slice A' (n+1) c')) w') :
 if Region.wanted o (yielded ops a.tmps)=true then Oper.wp Tryz.prog o a w K Q else F:=by
 obtain ⟨i,hi,hz⟩:=Option.map_eq_some_iff.1 wy_info;simp only [Prod.mk.injEq] at hz;refine step_append_E (E:=PkE) w hgd s y 79 84 ho i (.agg #[.int .i64 0,.slice none 0 0]) 32 (by kernel_rfl) hi hz.1 hz.2.1 hz.2.2 rfl ok base v n l hv hown b r x hy (fun j u hu=>?_) hrel (by simp [maxLen]; omega) (by omega) hbase h;rw [hcell.cell j,List.getElem?_toArray]; exact hu
set_option maxHeartbeats 400000 in
theorem cloneSp_c (ok:Nat→Prop) (A:Option Addr) (n c:Nat) (xs:List Ky) (w:World) (h:Sl KyE ok w A n c xs) (hn:n≤1000000) :
 Calls Tryz.prog 66 #[.slice A n c] w (CloneP KyE 71 w n xs):=by
 have he:=fun wx=>Lib.run_eql_slice_nil (P:=Tryz.prog) wx 82 71 A n c 0 0 Tryz.underlying82
 rcases A with _ | ad
 ·have hn0:n=0:=by
   rcases Nat.eq_zero_or_pos n with h0 | h0
   ·exact h0
   ·obtain ⟨b,off,r,x,e,_⟩:=h.at_ h0; cases e
  subst hn0;obtain rfl:xs=[]:=List.eq_nil_of_length_eq_zero h.len;clear h;go_enter Tryz.func66,Tryz.ntmps66
  go_wp2
  go_ret;exact ⟨_,_,rfl,Own.nil _ _,Below.refl _ _⟩
 ·have H:=Lib.hid (h.mono (ok':=fun b=>b < w.heap.size) fun b hb _=>hb);clear h;obtain ⟨i,hi,hz⟩:=Option.map_eq_some_iff.1 sp_info;simp only [Prod.mk.injEq] at hz;obtain ⟨z1,z2,z3⟩:=hz;have HI:=Lib.hid (And.intro hi (And.intro z1 (And.intro z2 z3)));clear hi z1 z2 z3;go_enter Tryz.func66,Tryz.ntmps66;go_wp2_with (at_builtin; refine wpList_append_manyE (E:=KyE) _ rfl (.tmp 5) (.tmp 6) 82 71 rfl i _ 32 (by kernel_rfl) HI.out.1 HI.out.2.1 HI.out.2.2.1 HI.out.2.2.2 rfl (fun b=>b < w.heap.size) w.heap.size (.slice (some ⟨w.heap.size,0,none⟩) 0 0) 0 [] rfl (Own.empty _ w) (some ad) n c xs rfl ((H.out.al _).mono fun b _ hb=>⟨hb,by simp [Value.ownBlock]; omega⟩) (by simp [maxLen]; omega) (by omega) (by simp) ?_; intro Av1 cv1 w1 hown1 hg1 hat1);go_ret;exact ⟨Av1,cv1,by simp,by simpa using hown1,((Below.refl _ _).alloc (Nat.le_refl _) _).grown hg1 (by simp) (by simp [Value.ownBlock])⟩
theorem step_append_spW {ops:Array Oper} {o:Oper} {a:Act} {K:Act→World→Prop} {Q:Exit→Act→World→Prop} {F:Prop} (w:World) (hw:Region.wanted o (yielded ops a.tmps)=true) (s y:Operand)
 (ho:o.op=.call { callee:=.builtin .append,args:=#[s,y],argTypes:=#[82,82] })
 (ok:Nat→Prop) (base:Nat) (v:Value) (n:Nat) (l:List Ky) (hv:a.eval s=v) (hown:Own KyE 71 ok w base v n l)
 (b:Nat) (r:Ky) (x:Ky) (hy:a.eval y=.slice (some ⟨b,0,none⟩) 1 1) (hcell:Blk w b 71 (KyE.cells r).toArray) (hrel:KyE.rel (fun b=>ok b∧some b≠v.ownBlock) w r x)
 (h63:n+1≤1000000) (hbase:base≤w.heap.size)
 (h:∀ A' c' w',Own KyE 71 ok w' base (.slice A' (n+1) c') (n+1) (l++[x])→w.grownBy w' v.ownBlock→((Value.slice A' (n+1) c').ownBlock=v.ownBlock∨(Value.slice A' (n+1) c').ownBlock=some w.heap.size)→K (a.put o.dst (.slice A' (n+1) c')) w') :
 if Region.wanted o (yielded ops a.tmps)=true then Oper.wp Tryz.prog o a w K Q else F:=by
 rw [if_pos hw];obtain ⟨i,hi,hz⟩:=Option.map_eq_some_iff.1 sp_info;simp only [Prod.mk.injEq] at hz;refine wp_append_E (E:=KyE) w s y 82 71 ho i _ 32 (by kernel_rfl) hi hz.1 hz.2.1 hz.2.2 rfl ok base v n l hv hown b r x hy (fun j u hu=>?_) hrel (by simp [maxLen]; omega) (by omega) hbase h;rw [hcell.cell j,List.getElem?_toArray]; exact hu
def wfrom (D:Ky→Bool) (s:Sy) (l:List Sy) (i j p:Nat):List (List Ky):=(List.range (j+1 - p)).flatMap fun q=>if (D (s,i,p+q)&&someF D l (p+q) j)=true then (waysF D l (p+q) j).map ((s,i,p+q)::·) else []
theorem wfrom_start (D:Ky→Bool) (s:Sy) (l:List Sy) (i j:Nat):wfrom D s l i j i=waysF D (s::l) i j:=rfl
theorem wfrom_step {D:Ky→Bool} {s:Sy} {l:List Sy} {i j p:Nat} (h:p≤j):wfrom D s l i j p=(if (D (s,i,p)&&someF D l p j)=true then (waysF D l p j).map ((s,i,p)::·) else [])++wfrom D s l i j (p+1):=by
 unfold wfrom;rw [show j+1 - p=(j+1 - (p+1))+1 by omega,List.range_succ_eq_map,List.flatMap_cons,List.flatMap_map]
 congr 1
 refine congrArg (fun f=>List.flatMap f (List.range (j+1 - (p+1)))) (funext fun q=>?_);rw [show p+q.succ=p+1+q by omega]
theorem wfrom_end {D:Ky→Bool} {s:Sy} {l:List Sy} {i j p:Nat} (h:j < p):wfrom D s l i j p=[]:=by
 unfold wfrom;rw [show j+1 - p=0 by omega];rfl
structure WyM (W0 w:World) (fid br bx bo bn bmo bp bf:Nat) (rcs:Array Value) (k:Ky) (rn most bs:Nat) (base:Nat) (v:Value) (out:List (Nat×List Ky)):Prop where
 bel:Below W0.heap.size W0 w
 rb:Blk w br 74 rcs
 xb:Blk w bx 71 (kyC k)
 nb:Blk w bn 3 #[.int .i64 (rn:Int)]
 mb:Blk w bmo 3 #[.int .i64 (most:Int)]
 pb:Blk w bp 33 #[.pointer (some ⟨bs,0,none⟩)]
 fb:Blk w bf 128 #[.func (.func fid) #[] #[.pointer (some ⟨br,0,none⟩),.pointer (some ⟨bx,0,none⟩),.pointer (some ⟨bo,0,none⟩),.pointer (some ⟨bn,0,none⟩),.pointer (some ⟨bmo,0,none⟩),.pointer (some ⟨bp,0,none⟩),.pointer (some ⟨bf,0,none⟩)]]
 outb:Blk w bo 79 #[v]
 own:Own PkE 84 (fun b=>base≤b) w base v out.length out
 ne:br≠bo∧bx≠bo∧bn≠bo∧bmo≠bo∧bp≠bo∧bf≠bo
 lt:bo < base
 nr:some br≠v.ownBlock∧some bx≠v.ownBlock∧some bn≠v.ownBlock∧some bmo≠v.ownBlock∧some bp≠v.ownBlock∧some bf≠v.ownBlock∧some bo≠v.ownBlock
 ge:W0.heap.size≤bo∧W0.heap.size≤base∧base≤w.heap.size
section
variable {W0 w w':World} {fid br bx bo bn bmo bp bf:Nat} {rcs:Array Value} {k:Ky} {rn most bs base:Nat} {v v':Value} {out:List (Nat×List Ky)} {x:Nat×List Ky}
theorem WyM.via (h:WyM W0 w fid br bx bo bn bmo bp bf rcs k rn most bs base v out) (hb:Below w.heap.size w w'):WyM W0 w' fid br bx bo bn bmo bp bf rcs k rn most bs base v out :=
 ⟨h.bel.via hb,h.rb.via hb,h.xb.via hb,h.nb.via hb,h.mb.via hb,h.pb.via hb,h.fb.via hb,h.outb.via hb,h.own.via hb,h.ne,h.lt,h.nr,h.ge.1,h.ge.2.1,Nat.le_trans h.ge.2.2 hb.size⟩
theorem WyM.push (h:WyM W0 w fid br bx bo bn bmo bp bf rcs k rn most bs base v out) (ho:Own PkE 84 (fun b=>base≤b) w' base v' (out.length+1) (out++[x])) (hg:w.grownBy w' v.ownBlock) (hat:v'.ownBlock=v.ownBlock∨v'.ownBlock=some w.heap.size):WyM W0 (w'.setCell ⟨bo,0,none⟩ v') fid br bx bo bn bmo bp bf rcs k rn most bs base v' (out++[x]):=by
 have hl:=h.lt;have hr:=h.nr
 have hn:∀ b,b < w.heap.size→some b≠v.ownBlock→some b≠v'.ownBlock:=fun b hb h1 h2=>by
  rcases hat with e | e
  ·exact h1 (h2.trans e)
  ·rw [e] at h2; have:=Option.some.inj h2; omega
 have hf:∀ b,b≠bo→b≠(⟨bo,0,none⟩:Addr).block:=fun b hb=>hb
 refine ⟨(h.bel.grown hg (Nat.le_trans h.ge.2.1 h.ge.2.2) (fun b e=>by have:=(h.own.lt b e).1; have:=h.ge; omega)).setCell (by simpa using h.ge.1) _,(h.rb.grown hg hr.1).far (hf _ h.ne.1) _,(h.xb.grown hg hr.2.1).far (hf _ h.ne.2.1) _,(h.nb.grown hg hr.2.2.1).far (hf _ h.ne.2.2.1) _,(h.mb.grown hg hr.2.2.2.1).far (hf _ h.ne.2.2.2.1) _,(h.pb.grown hg hr.2.2.2.2.1).far (hf _ h.ne.2.2.2.2.1) _,(h.fb.grown hg hr.2.2.2.2.2.1).far (hf _ h.ne.2.2.2.2.2) _,?_,?_,h.ne,h.lt,⟨hn _ h.rb.lt hr.1,hn _ h.xb.lt hr.2.1,hn _ h.nb.lt hr.2.2.1,hn _ h.mb.lt hr.2.2.2.1,hn _ h.pb.lt hr.2.2.2.2.1,hn _ h.fb.lt hr.2.2.2.2.2.1,hn _ h.outb.lt hr.2.2.2.2.2.2⟩,h.ge.1,h.ge.2.1,?_⟩
 ·have:=(h.outb.grown hg hr.2.2.2.2.2.2).set_ 0 v'; simpa using this
 ·have:=ho.setCell (p:=⟨bo,0,none⟩) v' (fun b hb=>by show b≠bo; omega) (by show bo < base; exact hl)
  simpa using this
 ·have:=hg.size; have:=h.ge.2.2; simp; omega
end
def WyP (W0 w:World) (fid br bx bo bn bmo bp bf:Nat) (rcs:Array Value) (k:Ky) (rn most bs base:Nat) (v:Value) (out ws:List (Nat×List Ky)) (e:Ending) (w':World):Prop :=
 ∃ b v' out',e=.returned (.bool b)∧b=decide (out.length+ws.length≤most)∧(b=true→out'=out++ws)∧WyM W0 w' fid br bx bo bn bmo bp bf rcs k rn most bs base v' out'∧Agr (fun b=>b≠bo∧some b≠v.ownBlock) w w'∧w.heap.size≤w'.heap.size∧(v'.ownBlock=v.ownBlock∨∀ b,v'.ownBlock=some b→w.heap.size≤b)
set_option maxRecDepth 100000 in
set_option maxHeartbeats 8000000 in
theorem wy1_n (W0:World) (fid:Nat) (hfid:Hid (fid=65)) (he:∀ (args:Array Value) (w:World),(callFunc fid args).run Tryz.prog w=.ok (.enter fid args) w)
 (br bx bo bn bmo bp bf:Nat) (left:Nat) (rA:Option Addr) (rln rlc:Nat) (k:Ky) (rn most bs bm base:Nat) (g:Gr) (Ag:Option Addr) (ng cg:Nat) (A:Option Addr) (n c:Nat) (S:Ky→Bool) (ok:Nat→Prop) (rhs:List Sy) (hR:SpR W0 g Ag ng cg A n c bs bm S) (hrs:Sl SyE ok W0 rA rln rlc rhs) (hro:∀ t∈rhs,t.2≤1000) (hr4:rhs.length≤4) (hk:k.2.2≤100) :
 ∀ (l:List Sy) (w:World) (kk i:Nat) (KA:Option Addr) (kn kc:Nat) (ks:List Ky) (v:Value) (out:List (Nat×List Ky)),rhs.drop kk=l→kk≤rhs.length→i≤k.2.2+1→Sl KyE (fun b=>b≠bo∧some b≠v.ownBlock) w KA kn kc ks →
 out.length+(waysF S l i k.2.2).length≤1000000→ks.length+l.length≤100→out.length≤most→WyM W0 w fid br bx bo bn bmo bp bf #[.int .i64 (left:Int),.slice rA rln rlc] k rn most bs base v out →
 Calls Tryz.prog fid #[.int .i64 (kk:Int),.int .i64 (i:Int),.slice KA kn kc,.pointer (some ⟨br,0,none⟩),.pointer (some ⟨bx,0,none⟩),.pointer (some ⟨bo,0,none⟩),.pointer (some ⟨bn,0,none⟩),.pointer (some ⟨bmo,0,none⟩),.pointer (some ⟨bp,0,none⟩),.pointer (some ⟨bf,0,none⟩)] w
  (WyP W0 w fid br bx bo bn bmo bp bf #[.int .i64 (left:Int),.slice rA rln rlc] k rn most bs base v out ((waysF S l i k.2.2).map fun p=>(rn,ks++p))):=by
 have HSR:=Lib.hid hR;have HRS:=Lib.hid hrs;have HRO:=Lib.hid hro;have HRL:=Lib.hid hrs.len;clear hR hrs hro;intro l
 induction l with
 | nil =>
  intro w kk i KA kn kc ks v out hd hkl hi hks hlen hkn hom hM
  have HKK:=Lib.hid (show kk=rln by
   have h1:=HRL.out;have h2:(rhs.drop kk).length=0:=(by rw [hd]; rfl)
   rw [List.length_drop] at h2; omega)
  have e0:((kk:Int)==(rln:Int))=true:=(by simp [HKK.out]);have hknl:=hks.len;have HM:=Lib.hid hM;have HK:=Lib.hid hks;have BR:=hM.rb;have BX:=hM.xb;simp only [kyC] at BX;clear hd hks hM
  conv=>arg 2; rw [hfid.out]
  go_enter Tryz.func65,Tryz.ntmps65
  by_cases hik:i=k.2.2
  ·have e1:((i:Int)==(k.2.2:Int))=true:=(by simp [hik]);have cBR:=BR.cell;have fBR:=BR.frozen;have lBR:=BR.lt;have cBX:=BX.cell;have fBX:=BX.frozen;have lBX:=BX.lt;go_upto_region 3 with fail;clear cBR fBR lBR cBX fBX lBX;have HX:=Lib.hid BX;clear BX BR;have hdr:=(Below.refl w.heap.size w).drew;have HM1:=Lib.hid (HM.out.via hdr);have hHeld:(∀ x,w.drew.cell? ⟨bo,x,none⟩=#[v][x]?)∧(∀ x,w.drew.cell? ⟨bn,x,none⟩=#[.int .i64 (rn:Int)][x]?):=⟨HM1.out.outb.cell,HM1.out.nb.cell⟩;refine wp_region_L 7 (fun w'=>(∀ x,w'.cell? ⟨bo,x,none⟩=#[v][x]?)∧(∀ x,w'.cell? ⟨bn,x,none⟩=#[.int .i64 (rn:Int)][x]?)) (by kernel_rfl) ?_;refine tkL 0 25 ?_;refine tkL 1 26 ?_;refine tkL 2 27 ?_;refine wpAnyL.ready (rs:=[3]) (by kernel_rfl) (by simp) ?_;refine AllL.cons rfl (fun K hK=>?_) AllL.nil;go_simp
   go_at_call 66
   refine (cloneSp_c (fun b=>b≠bo∧some b≠v.ownBlock) KA kn kc ks w.drew (HK.out.via hdr) (by simp at hkn; omega)).mono ?_;rintro e w1 ⟨KB,kd,rfl,hoc,hb1⟩;have HM2:=Lib.hid (HM1.out.via hb1);dsimp only;go_wp2_with fail;refine hK.out _ _ (fun _=>⟨HM2.out.outb.cell,HM2.out.nb.cell⟩) ?_;clear hK K;try simp only [Act.put,List.setIfInBounds_toArray,List.set_cons_zero,List.set_cons_succ]
   have hHeld2:(∀ x,w1.cell? ⟨bo,x,none⟩=#[v][x]?)∧(∀ x,w1.cell? ⟨bn,x,none⟩=#[.int .i64 (rn:Int)][x]?):=⟨HM2.out.outb.cell,HM2.out.nb.cell⟩;refine tkL 4 29 ?_;refine wpAnyL.ready (rs:=[5]) (by kernel_rfl) (by simp) ?_;refine AllL.cons rfl (fun K hK=>?_) AllL.nil;go_simp;have hal:=(Below.refl w1.heap.size w1).al (.cells #[.int .i64 (rn:Int),.slice KB kn kd] 84);have HM3:=Lib.hid (HM2.out.via hal);refine hK.out _ _ (fun _=>⟨HM3.out.outb.cell,HM3.out.nb.cell⟩) ?_;clear hK K;try simp only [Act.put,List.setIfInBounds_toArray,List.set_cons_zero,List.set_cons_succ]
   refine wpAnyL.ready (rs:=[6]) (by kernel_rfl) (by simp) ?_;refine AllL.cons rfl (fun K hK=>?_) AllL.nil;have hge:=HM.out.ge.2.2;have hown:=HM.out.own;have hsk:=(own_ky (ok':=fun b=>w.heap.size≤b) hoc).toSl (ok':=fun b=>w.heap.size≤b) (fun b _ hb=>hb) (fun b hb=>by simpa using hb);refine step_append_wy _ rfl (.tmp 25) (.tmp 30) rfl (fun b=>base≤b) base v out.length out rfl HM3.out.own w1.heap.size (rn,KB,kn,kd) (rn,ks) rfl (Blk.new w1 84 #[.int .i64 (rn:Int),.slice KB kn kd]) ⟨rfl,(hsk.via hal).mono fun b _ hb=>⟨by omega,fun e=>by have:=(hown.lt b e.symm).2; omega⟩⟩ (by simp [waysF,hik] at hlen; omega) HM3.out.ge.2.2 ?_;intro Av1 cv1 w2 ho1 hg1 hat1;have B2g:=HM3.out.outb.grown hg1 HM3.out.nr.2.2.2.2.2.2;have BIg:=HM3.out.nb.grown hg1 HM3.out.nr.2.2.1;refine hK.out _ _ (fun _=>⟨B2g.cell,BIg.cell⟩) ?_;clear hK K;try dsimp only [Act.put]
   refine wpAnyL.ready (rs:=[7]) (by kernel_rfl) (by simp) ?_;refine AllL.cons rfl (fun K hK=>?_) AllL.nil;have c2g:=B2g.cell;have f2g:=B2g.frozen;have l2g:=B2g.lt;go_simp;refine hK.out _ _ (fun h=>absurd rfl h) ?_;clear hK K;refine wpAnyL.done (by kernel_rfl) ?_ _;have HPU:=Lib.hid (HM3.out.push ho1 hg1 hat1);have hz1:w.heap.size≤w1.heap.size:=(by have:=hb1.size; simpa using this);have HAG:=Lib.hid (((Agr.below (ok:=fun b=>b≠bo∧some b≠v.ownBlock) ((hdr.via hb1).via hal)).trans (Agr.grown hg1 fun b hb=>hb.2)).trans (Agr.setCell (p:=⟨bo,0,none⟩) (.slice Av1 (out.length+1) cv1) fun b hb=>hb.1));have HSZ:=Lib.hid (show w.heap.size≤(w2.setCell ⟨bo,0,none⟩ (.slice Av1 (out.length+1) cv1)).heap.size by have:=hg1.size; simp at this ⊢; omega);have HOB:=Lib.hid (show (Value.slice Av1 (out.length+1) cv1).ownBlock=v.ownBlock∨∀ b,(Value.slice Av1 (out.length+1) cv1).ownBlock=some b→w.heap.size≤b from hat1.imp id fun h b e=>by rw [h] at e; cases e; simp; omega);clear ho1 hg1 hat1 B2g BIg c2g f2g l2g hHeld hHeld2 hal hdr HM1 HM2 HM3 hoc hb1 hsk hown hz1;have BO:=HPU.out.outb;have BMO:=HPU.out.mb;generalize w2.setCell ⟨bo,0,none⟩ (.slice Av1 (out.length+1) cv1)=w3 at *;have HE:=Lib.hid (show (waysF S [] i k.2.2).map (fun p=>(rn,ks++p))=[(rn,ks)] by simp [waysF,hik]);have HE2:=Lib.hid (show (waysF S [] k.2.2 k.2.2).map (fun p=>(rn,ks++p))=[(rn,ks)] by simp [waysF])
   by_cases ho1:out.length+1≤most
   ·have o1:((out.length+1:Nat):Int)≤(most:Int):=(by omega);have o2:(out.length:Int)+1≤(most:Int):=(by omega);have cBO:=BO.cell;have fBO:=BO.frozen;have lBO:=BO.lt;have cBMO:=BMO.cell;have fBMO:=BMO.frozen;have lBMO:=BMO.lt;go_wp2_with fail;refine bodyPost_end (v:=.bool true) (by simp [results,Tryz.results65]) rfl ?_
    first | rw [HE.out] | rw [HE2.out]
    exact ⟨true,.slice Av1 (out.length+1) cv1,out++[(rn,ks)],rfl,by simp; omega,fun _=>rfl,HPU.out,HAG.out,HSZ.out,HOB.out⟩
   ·have o1:¬ ((out.length+1:Nat):Int)≤(most:Int):=(by omega);have o2:¬ (out.length:Int)+1≤(most:Int):=(by omega);have cBO:=BO.cell;have fBO:=BO.frozen;have lBO:=BO.lt;have cBMO:=BMO.cell;have fBMO:=BMO.frozen;have lBMO:=BMO.lt;go_wp2_with fail;refine bodyPost_end (v:=.bool false) (by simp [results,Tryz.results65]) rfl ?_
    first | rw [HE.out] | rw [HE2.out]
    exact ⟨false,.slice Av1 (out.length+1) cv1,out++[(rn,ks)],rfl,by simp; omega,fun h=>(by cases h),HPU.out,HAG.out,HSZ.out,HOB.out⟩
  ·have e1:((i:Int)==(k.2.2:Int))=false:=(by simp; omega);have BO:=HM.out.outb;have BMO:=HM.out.mb;obtain ⟨oA,oc,rfl,hoc⟩:=HM.out.own.form;have o1:(out.length:Int)≤(most:Int):=(by omega);have cBR:=BR.cell;have fBR:=BR.frozen;have lBR:=BR.lt;have cBX:=BX.cell;have fBX:=BX.frozen;have lBX:=BX.lt;have cBO:=BO.cell;have fBO:=BO.frozen;have lBO:=BO.lt;have cBMO:=BMO.cell;have fBMO:=BMO.frozen;have lBMO:=BMO.lt;go_wp2_with fail;refine bodyPost_end (v:=.bool true) (by simp [results,Tryz.results65]) rfl ⟨true,_,out,rfl,by simp [waysF,hik,hom],fun _=>by simp [waysF,hik],HM.out,Agr.refl,Nat.le_refl _,Or.inl rfl⟩
 | cons s l ih =>
  intro w kk i KA kn kc ks v out hd hkl hi hks hlen hkn hom hM
  have hkr:kk < rhs.length:=by
   rcases Nat.lt_or_ge kk rhs.length with h | h
   ·exact h
   ·rw [List.drop_eq_nil_of_le h] at hd; cases hd
  have hsk:rhs[kk]?=some s:=by
   have h1:(rhs.drop kk)[0]?=some s:=(by rw [hd]; rfl)
   rwa [List.getElem?_drop,Nat.add_zero] at h1
  have hd2:rhs.drop (kk+1)=l:=by
   have h1:=congrArg List.tail hd;rw [List.tail_drop] at h1
   simpa using h1
  have hll:l.length≤3:=by
   have h1:=congrArg List.length hd;rw [List.length_drop,List.length_cons] at h1; omega
  have e0:((kk:Int)==(rln:Int))=false:=(by have:=HRL.out; simp; omega);have HM:=Lib.hid hM;have HK:=Lib.hid hks;have HIH:=Lib.hid ih;have HD2:=Lib.hid hd2;have HSK:=Lib.hid hsk;have HLE:=Lib.hid hlen;have hknl:=hks.len;have BR:=hM.rb;clear hd hks hM ih hlen hsk hd2
  conv=>arg 2; rw [hfid.out]
  go_enter Tryz.func65,Tryz.ntmps65;have cBR:=BR.cell;have fBR:=BR.frozen;have lBR:=BR.lt;go_wp2_with fail;clear cBR fBR lBR;clear BR
  go_loopw [14] (fun q wr=>∃ (p:Nat) (v':Value) (dn:List (List Ky)),q=.int .i64 (p:Int)∧i≤p∧p≤k.2.2+1∧Hid (WyM W0 wr fid br bx bo bn bmo bp bf #[.int .i64 (left:Int),.slice rA rln rlc] k rn most bs base v' (out++dn.map fun p=>(rn,ks++p))∧dn++wfrom S s l i k.2.2 p=waysF S (s::l) i k.2.2∧out.length+dn.length≤most∧Agr (fun b=>b≠bo∧some b≠v.ownBlock) w wr∧w.heap.size≤wr.heap.size∧(v'.ownBlock=v.ownBlock∨∀ b,v'.ownBlock=some b→w.heap.size≤b))) (fun q _=>k.2.2+1 - (intOf q).toNat)
  case atStart=>exact ⟨i,v,[],rfl,Nat.le_refl _,hi,Lib.hid ⟨by simpa using HM.out,by rw [List.nil_append,wfrom_start],by simpa using hom,Agr.refl,Nat.le_refl _,Or.inl rfl⟩⟩
  case round =>
   obtain ⟨p,v',dn,rfl,hip,hpj,HR⟩:=hrel;have BX:=HR.out.1.xb;simp only [kyC] at BX
   by_cases hp:p≤k.2.2
   ·have i1:(p:Int)≤(k.2.2:Int):=(by omega);have hkr2:kk < rln:=(by have:=HRL.out; omega);obtain ⟨b2,o2,s1,s2,hrA,-,hb2,hs1,hss,hc2⟩:=HRS.out.at_ hkr2;have hs12:s1=s2:=hss;subst hs12;obtain rfl:s=s1:=(by rw [HSK.out] at hs1; exact Option.some.inj hs1);subst hrA;have d0:=(HR.out.1.bel.cell (p:=⟨b2,o2+kk*SyE.k+0,none⟩) hb2).trans (hc2 0 _ rfl);have d1:=(HR.out.1.bel.cell (p:=⟨b2,o2+kk*SyE.k+1,none⟩) hb2).trans (hc2 1 _ rfl);simp only [SyE,Nat.add_zero] at d0 d1;have i2:(0:Int)≤(kk:Int):=(by omega);have i3:(kk:Int) < (rln:Int):=(by omega);have hs1k:=HRO.out s (List.mem_of_getElem? HSK.out);obtain ⟨kl,hkl⟩:=span_k s i p hs1k (by omega) (by omega);have HKEY:=Lib.hid hkl;have BR:=HR.out.1.rb;have hal:=(Below.refl wr.heap.size wr).al (.cells #[.bool s.1,.int .i64 (s.2:Int),.int .i64 (i:Int),.int .i64 (p:Int)] 71);have HM9:=Lib.hid (HR.out.1.via hal);have HBQ:=Lib.hid (Blk.new wr 71 #[.bool s.1,.int .i64 (s.2:Int),.int .i64 (i:Int),.int .i64 (p:Int)]);have HRR:=Lib.hid HR.out.2;have HAL:=Lib.hid hal;have HRX:=Lib.hid (show ∀ b,v'.ownBlock=some b→b < wr.heap.size from fun b e=>(HR.out.1.own.lt b e).2);have HBOW:=Lib.hid (show bo < wr.heap.size from HR.out.1.outb.lt);clear hc2 hs1 hkl hal HR;have cBX:=BX.cell;have fBX:=BX.frozen;have lBX:=BX.lt;have cBR:=BR.cell;have fBR:=BR.frozen;have lBR:=BR.lt;go_upto_region 9 with fail;clear cBX fBX lBX cBR fBR lBR;clear BX BR d0 d1;generalize hW9:wr.alloc (.cells #[.bool s.1,.int .i64 (s.2:Int),.int .i64 (i:Int),.int .i64 (p:Int)] 71)=W9 at *;clear hW9;have HSR9:=Lib.hid (HSR.out.via HM9.out.bel);have HRS9:=Lib.hid (HRS.out.via HM9.out.bel);have SO:=Lib.hid (show ∀ w',Below W9.heap.size W9 w'→((∀ x,w'.cell? ⟨bp,x,none⟩=#[.pointer (some ⟨bs,0,none⟩)][x]?)∧(∀ x,w'.cell? ⟨bs,x,none⟩=#[.int .i64 (g.terms:Int),.int .i64 (g.nons:Int),.int .i64 (g.start:Int),.slice Ag ng cg,.slice A n c,.map (some bm)][x]?)∧(∀ x,w'.cell? ⟨wr.heap.size,x,none⟩=#[.bool s.1,.int .i64 (s.2:Int),.int .i64 (i:Int),.int .i64 (p:Int)][x]?)∧(Instr.lookup 65 (.map (some bm)) (.agg #[.bool s.1,.int .i64 (s.2:Int),.int .i64 (i:Int),.int .i64 (p:Int)]) false).run Tryz.prog w'=.ok (.bool (S (s,i,p))) w'∧(∀ x,w'.cell? ⟨br,x,none⟩=#[.int .i64 (left:Int),.slice (some ⟨b2,o2,none⟩) rln rlc][x]?)∧(∀ x,w'.cell? ⟨bx,x,none⟩=#[.bool k.1.1,.int .i64 (k.1.2:Int),.int .i64 (k.2.1:Int),.int .i64 (k.2.2:Int)][x]?)∧(∀ x,w'.cell? ⟨bf,x,none⟩=#[.func (.func fid) #[] #[.pointer (some ⟨br,0,none⟩),.pointer (some ⟨bx,0,none⟩),.pointer (some ⟨bo,0,none⟩),.pointer (some ⟨bn,0,none⟩),.pointer (some ⟨bmo,0,none⟩),.pointer (some ⟨bp,0,none⟩),.pointer (some ⟨bf,0,none⟩)]][x]?)) from fun w' hb=>⟨(HM9.out.pb.via hb).cell,(HSR9.out.blk.via hb).cell,(HBQ.out.via hb).cell,spm_look (HSR9.out.map.via hb) (s,i,p) HKEY.out,(HM9.out.rb.via hb).cell,(HM9.out.xb.via hb).cell,(HM9.out.fb.via hb).cell⟩);have hb0:=(Below.refl W9.heap.size W9).drew;have hHeld:=SO.out _ hb0;cases hS:S (s,i,p) with
    | false =>
     rw [hS] at hHeld;have HSS:=Lib.hid hS;clear hS SO;refine wp_region_noPanic ?_;refine wp_region_held_drew (S:=fun w'=>(∀ x,w'.cell? ⟨bp,x,none⟩=#[.pointer (some ⟨bs,0,none⟩)][x]?)∧(∀ x,w'.cell? ⟨bs,x,none⟩=#[.int .i64 (g.terms:Int),.int .i64 (g.nons:Int),.int .i64 (g.start:Int),.slice Ag ng cg,.slice A n c,.map (some bm)][x]?)∧(∀ x,w'.cell? ⟨wr.heap.size,x,none⟩=#[.bool s.1,.int .i64 (s.2:Int),.int .i64 (i:Int),.int .i64 (p:Int)][x]?)∧(Instr.lookup 65 (.map (some bm)) (.agg #[.bool s.1,.int .i64 (s.2:Int),.int .i64 (i:Int),.int .i64 (p:Int)]) false).run Tryz.prog w'=.ok (.bool false) w'∧(∀ x,w'.cell? ⟨br,x,none⟩=#[.int .i64 (left:Int),.slice (some ⟨b2,o2,none⟩) rln rlc][x]?)∧(∀ x,w'.cell? ⟨bx,x,none⟩=#[.bool k.1.1,.int .i64 (k.1.2:Int),.int .i64 (k.2.1:Int),.int .i64 (k.2.2:Int)][x]?)∧(∀ x,w'.cell? ⟨bf,x,none⟩=#[.func (.func fid) #[] #[.pointer (some ⟨br,0,none⟩),.pointer (some ⟨bx,0,none⟩),.pointer (some ⟨bo,0,none⟩),.pointer (some ⟨bn,0,none⟩),.pointer (some ⟨bmo,0,none⟩),.pointer (some ⟨bp,0,none⟩),.pointer (some ⟨bf,0,none⟩)]][x]?)) (by kernel_rfl) hHeld (fun hHeld=>?_);refine tkH 0 51 ?_;refine tkH 1 52 ?_;refine tkH 2 53 ?_;refine tkH 3 54 ?_;refine tkH 4 55 ?_;refine tkH 5 56 ?_;refine tkH 6 57 ?_;refine skH 7 58 ?_;refine skH 8 59 ?_;refine skH 9 60 ?_;refine skH 10 61 ?_;refine skH 11 62 ?_;refine skH 12 63 ?_;refine skH 13 64 ?_;refine skH 14 65 ?_;refine skH 15 66 ?_;refine skH 16 67 ?_;refine tkH 17 68 ?_;refine tkH 18 69 ?_;refine skH 19 70 ?_;refine skH 20 71 ?_;refine skH 21 72 ?_;refine skH 22 73 ?_;refine skH 23 74 ?_;refine skH 24 75 ?_;refine skH 25 76 ?_;refine skH 26 77 ?_;refine skH 27 78 ?_;refine skH 28 79 ?_;refine skH 29 80 ?_;refine tkH 30 81 ?_;refine wpAnyH_done (by kernel_rfl) ?_ _;refine NoPanic.normal ?_;have HM10:=Lib.hid (HM9.out.via hb0);have HB10:=Lib.hid hb0;clear hHeld hb0;have HFB:=Lib.hid (show (S (s,i,p)&&someF S l p k.2.2)=false by rw [HSS.out,Bool.false_and]);go_wp2_with fail;refine ⟨⟨p+1,v',dn,by go_num,by omega,by omega,Lib.hid ⟨HM10.out,?_,HRR.out.2.1,HRR.out.2.2.1.trans ((Agr.below HAL.out).trans (Agr.below HB10.out)),Nat.le_trans HRR.out.2.2.2.1 (Nat.le_trans HAL.out.size HB10.out.size),HRR.out.2.2.2.2⟩⟩,by simp [intOf]; omega⟩;have h1:=HRR.out.1;rw [wfrom_step hp,HFB.out] at h1
     simpa using h1
    | true =>
     rw [hS] at SO hHeld;have HSS:=Lib.hid hS;clear hS;have k1:IntKind.i64.wrap ((kk:Int)+1)=(kk:Int)+1:=IntWalk.i64_in _ (by omega);have k2:(kk:Int)+1≤(rln:Int):=(by omega);have hrlc:=HRS.out.le;have hrl4:rln≤4:=(by have:=HRL.out; omega);have k3:(kk:Int)+1≤(rlc:Int):=(by omega);have k4:(0:Int)≤(kk:Int)+1:=(by omega);have HTL:=Lib.hid (HRS9.out.tailK (l:=kk+1) (by omega));rw [HD2.out] at HTL
     by_cases hdd:rlc=kk+1
     ·subst hdd
      have HTT:=Lib.hid (show Sl SyE ok W9 (some ⟨b2,o2,none⟩) 0 0 l from by
       have:=HTL.out;rw [if_pos rfl,show rln - (kk+1)=0 by omega,Nat.sub_self] at this
       exact this)
      clear HTL;have JS:=Lib.hid (show ∀ w',Below W9.heap.size W9 w'→Calls Tryz.prog 31 #[.pointer (some ⟨bs,0,none⟩),.slice (some ⟨b2,o2,none⟩) 0 0,.int .i64 (p:Int),.int .i64 (k.2.2:Int)] w' (SomeP w' (someF S l p k.2.2)) from fun w' hb=>some_n ok g Ag ng cg A n c bs bm S k.2.2 hk l w' (some ⟨b2,o2,none⟩) 0 0 p (HSR9.out.via hb) (HTT.out.via hb) (fun t ht=>HRO.out t (by rw [← HD2.out] at ht; exact List.mem_of_mem_drop ht)) (by omega) (by omega));cases hf:someF S l p k.2.2 with
      | false =>
       rw [hf] at JS;have HFF:=Lib.hid hf;clear hf;refine wp_region_noPanic ?_;refine wp_region_held_drew (S:=fun w'=>(∀ x,w'.cell? ⟨bp,x,none⟩=#[.pointer (some ⟨bs,0,none⟩)][x]?)∧(∀ x,w'.cell? ⟨bs,x,none⟩=#[.int .i64 (g.terms:Int),.int .i64 (g.nons:Int),.int .i64 (g.start:Int),.slice Ag ng cg,.slice A n c,.map (some bm)][x]?)∧(∀ x,w'.cell? ⟨wr.heap.size,x,none⟩=#[.bool s.1,.int .i64 (s.2:Int),.int .i64 (i:Int),.int .i64 (p:Int)][x]?)∧(Instr.lookup 65 (.map (some bm)) (.agg #[.bool s.1,.int .i64 (s.2:Int),.int .i64 (i:Int),.int .i64 (p:Int)]) false).run Tryz.prog w'=.ok (.bool true) w'∧(∀ x,w'.cell? ⟨br,x,none⟩=#[.int .i64 (left:Int),.slice (some ⟨b2,o2,none⟩) rln (kk+1)][x]?)∧(∀ x,w'.cell? ⟨bx,x,none⟩=#[.bool k.1.1,.int .i64 (k.1.2:Int),.int .i64 (k.2.1:Int),.int .i64 (k.2.2:Int)][x]?)∧(∀ x,w'.cell? ⟨bf,x,none⟩=#[.func (.func fid) #[] #[.pointer (some ⟨br,0,none⟩),.pointer (some ⟨bx,0,none⟩),.pointer (some ⟨bo,0,none⟩),.pointer (some ⟨bn,0,none⟩),.pointer (some ⟨bmo,0,none⟩),.pointer (some ⟨bp,0,none⟩),.pointer (some ⟨bf,0,none⟩)]][x]?)) (by kernel_rfl) hHeld (fun hHeld=>?_);refine tkH 0 51 ?_;refine tkH 1 52 ?_;refine tkH 2 53 ?_;refine tkH 3 54 ?_;refine tkH 4 55 ?_;refine tkH 5 56 ?_;refine tkH 6 57 ?_;refine tkH 7 58 ?_;refine tkH 8 59 ?_;refine tkH 9 60 ?_;refine tkH 10 61 ?_;refine tkH 11 62 ?_;refine tkH 12 63 ?_;refine tkH 13 64 ?_;refine tkH 14 65 ?_;refine tkH 15 66 ?_;refine wpAnyH_ready (rs:=[16]) (by kernel_rfl) (by simp) ?_;refine AllReadyH.cons rfl (fun K hK=>?_) AllReadyH.nil;go_simp
       go_at_call 31
       refine (JS.out _ hb0).mono ?_;rintro e w1 ⟨rfl,hb1⟩;have hb1':=hb0.via hb1;dsimp only;go_wp2_with fail;refine hK.out _ _ (SO.out _ hb1') (fun hHeld2=>?_);clear hK K;try simp only [Act.put,List.setIfInBounds_toArray,List.set_cons_zero,List.set_cons_succ]
       refine tkH 17 68 ?_;refine tkH 18 69 ?_;refine skH 19 70 ?_;refine skH 20 71 ?_;refine skH 21 72 ?_;refine skH 22 73 ?_;refine skH 23 74 ?_;refine skH 24 75 ?_;refine skH 25 76 ?_;refine skH 26 77 ?_;refine skH 27 78 ?_;refine skH 28 79 ?_;refine skH 29 80 ?_;refine tkH 30 81 ?_;refine wpAnyH_done (by kernel_rfl) ?_ _;refine NoPanic.normal ?_;have HM10:=Lib.hid (HM9.out.via hb1');have HB10:=Lib.hid hb1';clear hHeld hHeld2 hb0 hb1 hb1' SO JS;have HFB:=Lib.hid (show (S (s,i,p)&&someF S l p k.2.2)=false by rw [HFF.out,Bool.and_false]);go_wp2_with fail;refine ⟨⟨p+1,v',dn,by go_num,by omega,by omega,Lib.hid ⟨HM10.out,?_,HRR.out.2.1,HRR.out.2.2.1.trans ((Agr.below HAL.out).trans (Agr.below HB10.out)),Nat.le_trans HRR.out.2.2.2.1 (Nat.le_trans HAL.out.size HB10.out.size),HRR.out.2.2.2.2⟩⟩,by simp [intOf]; omega⟩;have h1:=HRR.out.1;rw [wfrom_step hp,HFB.out] at h1
       simpa using h1
      | true =>
       rw [hf] at JS;have HFF:=Lib.hid hf;clear hf;refine wp_region_noPanic ?_;refine wp_region_held_drew (S:=fun w'=>(∀ x,w'.cell? ⟨bp,x,none⟩=#[.pointer (some ⟨bs,0,none⟩)][x]?)∧(∀ x,w'.cell? ⟨bs,x,none⟩=#[.int .i64 (g.terms:Int),.int .i64 (g.nons:Int),.int .i64 (g.start:Int),.slice Ag ng cg,.slice A n c,.map (some bm)][x]?)∧(∀ x,w'.cell? ⟨wr.heap.size,x,none⟩=#[.bool s.1,.int .i64 (s.2:Int),.int .i64 (i:Int),.int .i64 (p:Int)][x]?)∧(Instr.lookup 65 (.map (some bm)) (.agg #[.bool s.1,.int .i64 (s.2:Int),.int .i64 (i:Int),.int .i64 (p:Int)]) false).run Tryz.prog w'=.ok (.bool true) w'∧(∀ x,w'.cell? ⟨br,x,none⟩=#[.int .i64 (left:Int),.slice (some ⟨b2,o2,none⟩) rln (kk+1)][x]?)∧(∀ x,w'.cell? ⟨bx,x,none⟩=#[.bool k.1.1,.int .i64 (k.1.2:Int),.int .i64 (k.2.1:Int),.int .i64 (k.2.2:Int)][x]?)∧(∀ x,w'.cell? ⟨bf,x,none⟩=#[.func (.func fid) #[] #[.pointer (some ⟨br,0,none⟩),.pointer (some ⟨bx,0,none⟩),.pointer (some ⟨bo,0,none⟩),.pointer (some ⟨bn,0,none⟩),.pointer (some ⟨bmo,0,none⟩),.pointer (some ⟨bp,0,none⟩),.pointer (some ⟨bf,0,none⟩)]][x]?)) (by kernel_rfl) hHeld (fun hHeld=>?_);refine tkH 0 51 ?_;refine tkH 1 52 ?_;refine tkH 2 53 ?_;refine tkH 3 54 ?_;refine tkH 4 55 ?_;refine tkH 5 56 ?_;refine tkH 6 57 ?_;refine tkH 7 58 ?_;refine tkH 8 59 ?_;refine tkH 9 60 ?_;refine tkH 10 61 ?_;refine tkH 11 62 ?_;refine tkH 12 63 ?_;refine tkH 13 64 ?_;refine tkH 14 65 ?_;refine tkH 15 66 ?_;refine wpAnyH_ready (rs:=[16]) (by kernel_rfl) (by simp) ?_;refine AllReadyH.cons rfl (fun K hK=>?_) AllReadyH.nil;go_simp
       go_at_call 31
       refine (JS.out _ hb0).mono ?_;rintro e w1 ⟨rfl,hb1⟩;have hb1':=hb0.via hb1;dsimp only;go_wp2_with fail;refine hK.out _ _ (SO.out _ hb1') (fun hHeld2=>?_);clear hK K;try simp only [Act.put,List.setIfInBounds_toArray,List.set_cons_zero,List.set_cons_succ]
       refine tkH 17 68 ?_;refine tkH 18 69 ?_;refine tkH 19 70 ?_;refine tkH 20 71 ?_;refine tkH 21 72 ?_;refine tkH 22 73 ?_;refine tkH 23 74 ?_;refine tkH 25 76 ?_;have HKR:=Lib.hid (((HK.out.agr HRR.out.2.2.1).via HAL.out).via hb1');clear hb1 JS;have HW1:=Lib.hid (Nat.le_trans HAL.out.size hb1'.size);refine wpAnyH_ready (rs:=[24,26]) (by kernel_rfl) (by simp) ?_;refine AllReadyH.cons rfl (fun K hK=>?_) (AllReadyH.cons rfl (fun K hK=>?_) AllReadyH.nil)
       ·go_simp
        go_at_call 66
        refine (cloneSp_c (fun b=>b≠bo∧some b≠v.ownBlock) KA kn kc ks w1 HKR.out (by simp at hkn; omega)).mono ?_;rintro e w2 ⟨KB,kd,rfl,hoc,hb2⟩;have hb2':=hb1'.via hb2;dsimp only;go_wp2_with fail;refine hK.out _ _ (SO.out _ hb2') (fun hHeld3=>?_);clear hK K;try simp only [Act.put,List.setIfInBounds_toArray,List.set_cons_zero,List.set_cons_succ]
        refine wpAnyH_ready (rs:=[26]) (by kernel_rfl) (by simp) ?_;refine AllReadyH.cons rfl (fun K hK=>?_) AllReadyH.nil;go_simp;have hal:=(Below.refl w2.heap.size w2).al (.cells #[.bool s.1,.int .i64 (s.2:Int),.int .i64 (i:Int),.int .i64 (p:Int)] 71);refine hK.out _ _ (SO.out _ (hb2'.via hal)) (fun hHeld4=>?_);clear hK K;try simp only [Act.put,List.setIfInBounds_toArray,List.set_cons_zero,List.set_cons_succ]
        have HOC:=Lib.hid (hoc.via hal);have HBW:=Lib.hid (hb2'.via hal);have BKY:=Lib.hid (Blk.new w2 71 #[.bool s.1,.int .i64 (s.2:Int),.int .i64 (i:Int),.int .i64 (p:Int)]);have HZ3:=Lib.hid (show w1.heap.size≤(w2.alloc (.cells #[.bool s.1,.int .i64 (s.2:Int),.int .i64 (i:Int),.int .i64 (p:Int)] 71)).heap.size from Nat.le_trans hb2.size hal.size);have HB3:=Lib.hid (show w1.heap.size≤w1.heap.size from Nat.le_refl _);clear hoc hb2 hal hb2';refine wpAnyH_ready (rs:=[27]) (by kernel_rfl) (by simp) ?_;refine AllReadyH.cons rfl (fun K hK=>?_) AllReadyH.nil;refine step_append_spW _ (by rfl) (.tmp 75) (.tmp 77) rfl (fun _=>True) w1.heap.size (.slice KB kn kd) kn ks rfl (own_ky HOC.out) w2.heap.size (s,i,p) (s,i,p) rfl BKY.out rfl (by simp at hkn; omega) HZ3.out ?_;intro Ak ck w4 ho4 hg4 hat4;have HB4:=Lib.hid (HBW.out.grown hg4 HBW.out.size (fun b e=>Nat.le_trans (Nat.le_trans hb1'.size HB3.out) (HOC.out.lt b e).1));refine hK.out _ _ (SO.out _ HB4.out) (fun hHeld5=>?_);clear hK K;try dsimp only [Act.put]
        refine wpAnyH_ready (rs:=[28]) (by kernel_rfl) (by simp) ?_;refine AllReadyH.cons rfl (fun K hK=>?_) AllReadyH.nil
        have HSK4:=Lib.hid ((own_ky (ok':=fun b=>wr.heap.size≤b) ho4).toSl (ok':=fun b=>b≠bo∧some b≠v'.ownBlock) (fun b _ hb=>⟨by have:=HBOW.out; omega,fun e=>by have:=HRX.out b e.symm; omega⟩) (fun b hb=>by
         have hb2:=Nat.le_trans HW1.out (Nat.le_trans HB3.out hb)
         exact ⟨by have:=HBOW.out; omega,fun e=>by have:=HRX.out b e.symm; omega⟩))
        clear ho4 hg4 hat4;go_simp;have hcast:(kk:Int)+1=((kk+1:Nat):Int):=(by omega);rw [hcast];clear hcast;refine (HIH.out w4 (kk+1) p Ak (kn+1) ck (ks++[(s,i,p)]) v' (out++dn.map fun p=>(rn,ks++p)) HD2.out (by omega) (by omega) HSK4.out ?_ (by simp at hkn ⊢; omega) (by have:=HRR.out.2.1; simp; omega) (HM9.out.via HB4.out)).mono ?_
        ·have h1:=HLE.out;have h2:=HRR.out.1;rw [wfrom_step hp,HSS.out,HFF.out] at h2;rw [← h2] at h1;simp only [Bool.and_self,if_true,List.length_append,List.length_map] at h1 ⊢;omega
        rintro e w5 ⟨b,v5,out5,rfl,hb5,ho5,hM5,hag5,hz5,hob5⟩;have HSR5:=Lib.hid (HSR.out.via hM5.bel);have HBQ5:=Lib.hid (show Blk w5 wr.heap.size 71 #[.bool s.1,.int .i64 (s.2:Int),.int .i64 (i:Int),.int .i64 (p:Int)] from (hag5 wr.heap.size ⟨by have:=HBOW.out; omega,fun e=>by have:=HRX.out _ e.symm; omega⟩ (HBQ.out.via HB4.out).lt).trans (HBQ.out.via HB4.out));have hHeld6:(∀ x,w5.cell? ⟨bp,x,none⟩=#[.pointer (some ⟨bs,0,none⟩)][x]?)∧(∀ x,w5.cell? ⟨bs,x,none⟩=#[.int .i64 (g.terms:Int),.int .i64 (g.nons:Int),.int .i64 (g.start:Int),.slice Ag ng cg,.slice A n c,.map (some bm)][x]?)∧(∀ x,w5.cell? ⟨wr.heap.size,x,none⟩=#[.bool s.1,.int .i64 (s.2:Int),.int .i64 (i:Int),.int .i64 (p:Int)][x]?)∧(Instr.lookup 65 (.map (some bm)) (.agg #[.bool s.1,.int .i64 (s.2:Int),.int .i64 (i:Int),.int .i64 (p:Int)]) false).run Tryz.prog w5=.ok (.bool true) w5∧(∀ x,w5.cell? ⟨br,x,none⟩=#[.int .i64 (left:Int),.slice (some ⟨b2,o2,none⟩) rln (kk+1)][x]?)∧(∀ x,w5.cell? ⟨bx,x,none⟩=#[.bool k.1.1,.int .i64 (k.1.2:Int),.int .i64 (k.2.1:Int),.int .i64 (k.2.2:Int)][x]?)∧(∀ x,w5.cell? ⟨bf,x,none⟩=#[.func (.func fid) #[] #[.pointer (some ⟨br,0,none⟩),.pointer (some ⟨bx,0,none⟩),.pointer (some ⟨bo,0,none⟩),.pointer (some ⟨bn,0,none⟩),.pointer (some ⟨bmo,0,none⟩),.pointer (some ⟨bp,0,none⟩),.pointer (some ⟨bf,0,none⟩)]][x]?):=⟨hM5.pb.cell,HSR5.out.blk.cell,HBQ5.out.cell,by rw [← HSS.out]; exact spm_look HSR5.out.map (s,i,p) HKEY.out,hM5.rb.cell,hM5.xb.cell,hM5.fb.cell⟩;have HM5:=Lib.hid hM5;have HAG5:=Lib.hid hag5;have HZ5:=Lib.hid (Nat.le_trans HRR.out.2.2.2.1 (Nat.le_trans HAL.out.size (Nat.le_trans HB4.out.size hz5)));have HOB5:=Lib.hid hob5;have HO5:=Lib.hid ho5;have HD5:=Lib.hid hb5
        have HWS:=Lib.hid (show waysF S (s::l) i k.2.2=dn++((waysF S l p k.2.2).map ((s,i,p)::·)++wfrom S s l i k.2.2 (p+1)) by
         have h2:=HRR.out.1;rw [wfrom_step hp,HSS.out,HFF.out] at h2
         simpa using h2.symm)
        have HAGF:=Lib.hid (show Agr (fun b=>b≠bo∧some b≠v.ownBlock) w w5 from by
         intro b hb hlt;have h0:=HRR.out.2.2.2.1
         have hne:some b≠v'.ownBlock:=fun e=>by
          rcases HRR.out.2.2.2.2 with h | h
          ·exact hb.2 (e.trans h)
          ·have:=h b e.symm; omega
         have h1:=HRR.out.2.2.1 b hb hlt;have h2:=(HAL.out.via HB4.out).block b (Nat.lt_of_lt_of_le hlt h0);have h3:=HAG5.out b ⟨hb.1,hne⟩ (Nat.lt_of_lt_of_le hlt (Nat.le_trans h0 (HAL.out.via HB4.out).size))
         exact h3.trans (h2.trans h1))
        have HOBF:=Lib.hid (show v5.ownBlock=v.ownBlock∨∀ b,v5.ownBlock=some b→w.heap.size≤b from by
         rcases HOB5.out with h | h
         ·rw [h]; exact HRR.out.2.2.2.2
         ·exact Or.inr fun b e=>Nat.le_trans HRR.out.2.2.2.1 (Nat.le_trans (HAL.out.via HB4.out).size (h b e)))
        clear hM5 hag5 hz5 hob5 hb5 ho5;dsimp only;cases b with
        | true =>
         go_wp2_with fail;refine hK.out _ _ hHeld6 (fun hHeld7=>?_);clear hK K;try simp only [Act.put,List.setIfInBounds_toArray,List.set_cons_zero,List.set_cons_succ]
         refine tkH 29 80 ?_;refine tkH 30 81 ?_;refine wpAnyH_done (by kernel_rfl) ?_ _;refine NoPanic.normal ?_;clear hHeld hHeld2 hHeld3 hHeld4 hHeld5 hHeld6 hHeld7 SO hb1';go_wp2_with fail;refine ⟨⟨p+1,v5,dn++(waysF S l p k.2.2).map ((s,i,p)::·),by go_num,by omega,by omega,Lib.hid ⟨?_,by rw [HWS.out,List.append_assoc],?_,HAGF.out,HZ5.out,HOBF.out⟩⟩,by simp [intOf]; omega⟩
         ·have h:=HM5.out;rw [HO5.out (by trivial)] at h
          simpa [List.map_append,List.append_assoc,Function.comp_def] using h
         ·have h1:=HD5.out;simp at h1;simp only [List.length_append,List.length_map];omega
        | false =>
         go_wp2_with fail;refine hK.out _ _ hHeld6 (fun hHeld7=>?_);clear hK K;try simp only [Act.put,List.setIfInBounds_toArray,List.set_cons_zero,List.set_cons_succ]
         refine tkH 29 80 ?_;refine tkH 30 81 ?_;refine wpAnyH_done (by kernel_rfl) ?_ _;refine NoPanic.normal ?_;clear hHeld hHeld2 hHeld3 hHeld4 hHeld5 hHeld6 hHeld7 SO hb1';go_wp2_with fail;refine bodyPost_end (v:=.bool false) (by simp [results,Tryz.results65]) rfl ⟨false,v5,out5,rfl,?_,fun h=>(by cases h),HM5.out,HAGF.out,HZ5.out,HOBF.out⟩;have h1:=HD5.out;rw [HWS.out];simp at h1 ⊢;omega
       ·go_simp;have hal:=(Below.refl w1.heap.size w1).al (.cells #[.bool s.1,.int .i64 (s.2:Int),.int .i64 (i:Int),.int .i64 (p:Int)] 71);have hal':=hb1'.via hal;refine hK.out _ _ (SO.out _ hal') (fun hHeld3=>?_);clear hK K;try simp only [Act.put,List.setIfInBounds_toArray,List.set_cons_zero,List.set_cons_succ]
        have bky:=Blk.new w1 71 #[.bool s.1,.int .i64 (s.2:Int),.int .i64 (i:Int),.int .i64 (p:Int)];have HKR2:=Lib.hid (HKR.out.via hal);refine wpAnyH_ready (rs:=[24]) (by kernel_rfl) (by simp) ?_;refine AllReadyH.cons rfl (fun K hK=>?_) AllReadyH.nil;go_simp
        go_at_call 66
        refine (cloneSp_c (fun b=>b≠bo∧some b≠v.ownBlock) KA kn kc ks _ HKR2.out (by simp at hkn; omega)).mono ?_;rintro e w2 ⟨KB,kd,rfl,hoc,hb2⟩;have hb2':=hal'.via hb2;dsimp only;go_wp2_with fail;refine hK.out _ _ (SO.out _ hb2') (fun hHeld4=>?_);clear hK K;try simp only [Act.put,List.setIfInBounds_toArray,List.set_cons_zero,List.set_cons_succ]
        have HOC:=Lib.hid hoc;have HBW:=Lib.hid hb2';have BKY:=Lib.hid (bky.via hb2);have HZ3:=Lib.hid hb2.size;have HB3:=Lib.hid hal.size;clear hoc hb2 hal hal' hb2' bky;refine wpAnyH_ready (rs:=[27]) (by kernel_rfl) (by simp) ?_;refine AllReadyH.cons rfl (fun K hK=>?_) AllReadyH.nil;refine step_append_spW _ (by rfl) (.tmp 75) (.tmp 77) rfl (fun _=>True) (w1.alloc (.cells #[.bool s.1,.int .i64 (s.2:Int),.int .i64 (i:Int),.int .i64 (p:Int)] 71)).heap.size (.slice KB kn kd) kn ks rfl (own_ky HOC.out) w1.heap.size (s,i,p) (s,i,p) rfl BKY.out rfl (by simp at hkn; omega) HZ3.out ?_;intro Ak ck w4 ho4 hg4 hat4;have HB4:=Lib.hid (HBW.out.grown hg4 HBW.out.size (fun b e=>Nat.le_trans (Nat.le_trans hb1'.size HB3.out) (HOC.out.lt b e).1));refine hK.out _ _ (SO.out _ HB4.out) (fun hHeld5=>?_);clear hK K;try dsimp only [Act.put]
        refine wpAnyH_ready (rs:=[28]) (by kernel_rfl) (by simp) ?_;refine AllReadyH.cons rfl (fun K hK=>?_) AllReadyH.nil
        have HSK4:=Lib.hid ((own_ky (ok':=fun b=>wr.heap.size≤b) ho4).toSl (ok':=fun b=>b≠bo∧some b≠v'.ownBlock) (fun b _ hb=>⟨by have:=HBOW.out; omega,fun e=>by have:=HRX.out b e.symm; omega⟩) (fun b hb=>by
         have hb2:=Nat.le_trans HW1.out (Nat.le_trans HB3.out hb)
         exact ⟨by have:=HBOW.out; omega,fun e=>by have:=HRX.out b e.symm; omega⟩))
        clear ho4 hg4 hat4;go_simp;have hcast:(kk:Int)+1=((kk+1:Nat):Int):=(by omega);rw [hcast];clear hcast;refine (HIH.out w4 (kk+1) p Ak (kn+1) ck (ks++[(s,i,p)]) v' (out++dn.map fun p=>(rn,ks++p)) HD2.out (by omega) (by omega) HSK4.out ?_ (by simp at hkn ⊢; omega) (by have:=HRR.out.2.1; simp; omega) (HM9.out.via HB4.out)).mono ?_
        ·have h1:=HLE.out;have h2:=HRR.out.1;rw [wfrom_step hp,HSS.out,HFF.out] at h2;rw [← h2] at h1;simp only [Bool.and_self,if_true,List.length_append,List.length_map] at h1 ⊢;omega
        rintro e w5 ⟨b,v5,out5,rfl,hb5,ho5,hM5,hag5,hz5,hob5⟩;have HSR5:=Lib.hid (HSR.out.via hM5.bel);have HBQ5:=Lib.hid (show Blk w5 wr.heap.size 71 #[.bool s.1,.int .i64 (s.2:Int),.int .i64 (i:Int),.int .i64 (p:Int)] from (hag5 wr.heap.size ⟨by have:=HBOW.out; omega,fun e=>by have:=HRX.out _ e.symm; omega⟩ (HBQ.out.via HB4.out).lt).trans (HBQ.out.via HB4.out));have hHeld6:(∀ x,w5.cell? ⟨bp,x,none⟩=#[.pointer (some ⟨bs,0,none⟩)][x]?)∧(∀ x,w5.cell? ⟨bs,x,none⟩=#[.int .i64 (g.terms:Int),.int .i64 (g.nons:Int),.int .i64 (g.start:Int),.slice Ag ng cg,.slice A n c,.map (some bm)][x]?)∧(∀ x,w5.cell? ⟨wr.heap.size,x,none⟩=#[.bool s.1,.int .i64 (s.2:Int),.int .i64 (i:Int),.int .i64 (p:Int)][x]?)∧(Instr.lookup 65 (.map (some bm)) (.agg #[.bool s.1,.int .i64 (s.2:Int),.int .i64 (i:Int),.int .i64 (p:Int)]) false).run Tryz.prog w5=.ok (.bool true) w5∧(∀ x,w5.cell? ⟨br,x,none⟩=#[.int .i64 (left:Int),.slice (some ⟨b2,o2,none⟩) rln (kk+1)][x]?)∧(∀ x,w5.cell? ⟨bx,x,none⟩=#[.bool k.1.1,.int .i64 (k.1.2:Int),.int .i64 (k.2.1:Int),.int .i64 (k.2.2:Int)][x]?)∧(∀ x,w5.cell? ⟨bf,x,none⟩=#[.func (.func fid) #[] #[.pointer (some ⟨br,0,none⟩),.pointer (some ⟨bx,0,none⟩),.pointer (some ⟨bo,0,none⟩),.pointer (some ⟨bn,0,none⟩),.pointer (some ⟨bmo,0,none⟩),.pointer (some ⟨bp,0,none⟩),.pointer (some ⟨bf,0,none⟩)]][x]?):=⟨hM5.pb.cell,HSR5.out.blk.cell,HBQ5.out.cell,by rw [← HSS.out]; exact spm_look HSR5.out.map (s,i,p) HKEY.out,hM5.rb.cell,hM5.xb.cell,hM5.fb.cell⟩;have HM5:=Lib.hid hM5;have HAG5:=Lib.hid hag5;have HZ5:=Lib.hid (Nat.le_trans HRR.out.2.2.2.1 (Nat.le_trans HAL.out.size (Nat.le_trans HB4.out.size hz5)));have HOB5:=Lib.hid hob5;have HO5:=Lib.hid ho5;have HD5:=Lib.hid hb5
        have HWS:=Lib.hid (show waysF S (s::l) i k.2.2=dn++((waysF S l p k.2.2).map ((s,i,p)::·)++wfrom S s l i k.2.2 (p+1)) by
         have h2:=HRR.out.1;rw [wfrom_step hp,HSS.out,HFF.out] at h2
         simpa using h2.symm)
        have HAGF:=Lib.hid (show Agr (fun b=>b≠bo∧some b≠v.ownBlock) w w5 from by
         intro b hb hlt;have h0:=HRR.out.2.2.2.1
         have hne:some b≠v'.ownBlock:=fun e=>by
          rcases HRR.out.2.2.2.2 with h | h
          ·exact hb.2 (e.trans h)
          ·have:=h b e.symm; omega
         have h1:=HRR.out.2.2.1 b hb hlt;have h2:=(HAL.out.via HB4.out).block b (Nat.lt_of_lt_of_le hlt h0);have h3:=HAG5.out b ⟨hb.1,hne⟩ (Nat.lt_of_lt_of_le hlt (Nat.le_trans h0 (HAL.out.via HB4.out).size))
         exact h3.trans (h2.trans h1))
        have HOBF:=Lib.hid (show v5.ownBlock=v.ownBlock∨∀ b,v5.ownBlock=some b→w.heap.size≤b from by
         rcases HOB5.out with h | h
         ·rw [h]; exact HRR.out.2.2.2.2
         ·exact Or.inr fun b e=>Nat.le_trans HRR.out.2.2.2.1 (Nat.le_trans (HAL.out.via HB4.out).size (h b e)))
        clear hM5 hag5 hz5 hob5 hb5 ho5;dsimp only;cases b with
        | true =>
         go_wp2_with fail;refine hK.out _ _ hHeld6 (fun hHeld7=>?_);clear hK K;try simp only [Act.put,List.setIfInBounds_toArray,List.set_cons_zero,List.set_cons_succ]
         refine tkH 29 80 ?_;refine tkH 30 81 ?_;refine wpAnyH_done (by kernel_rfl) ?_ _;refine NoPanic.normal ?_;clear hHeld hHeld2 hHeld3 hHeld4 hHeld5 hHeld6 hHeld7 SO hb1';go_wp2_with fail;refine ⟨⟨p+1,v5,dn++(waysF S l p k.2.2).map ((s,i,p)::·),by go_num,by omega,by omega,Lib.hid ⟨?_,by rw [HWS.out,List.append_assoc],?_,HAGF.out,HZ5.out,HOBF.out⟩⟩,by simp [intOf]; omega⟩
         ·have h:=HM5.out;rw [HO5.out (by trivial)] at h
          simpa [List.map_append,List.append_assoc,Function.comp_def] using h
         ·have h1:=HD5.out;simp at h1;simp only [List.length_append,List.length_map];omega
        | false =>
         go_wp2_with fail;refine hK.out _ _ hHeld6 (fun hHeld7=>?_);clear hK K;try simp only [Act.put,List.setIfInBounds_toArray,List.set_cons_zero,List.set_cons_succ]
         refine tkH 29 80 ?_;refine tkH 30 81 ?_;refine wpAnyH_done (by kernel_rfl) ?_ _;refine NoPanic.normal ?_;clear hHeld hHeld2 hHeld3 hHeld4 hHeld5 hHeld6 hHeld7 SO hb1';go_wp2_with fail;refine bodyPost_end (v:=.bool false) (by simp [results,Tryz.results65]) rfl ⟨false,v5,out5,rfl,?_,fun h=>(by cases h),HM5.out,HAGF.out,HZ5.out,HOBF.out⟩;have h1:=HD5.out;rw [HWS.out];simp at h1 ⊢;omega
     ·have HTT:=Lib.hid (show Sl SyE ok W9 (some ⟨b2,o2+(kk+1)*2,none⟩) (rln - (kk+1)) (rlc - (kk+1)) l from by
       have:=HTL.out;rw [if_neg hdd] at this
       simpa [SyE,Addr.add] using this)
      clear HTL;have JS:=Lib.hid (show ∀ w',Below W9.heap.size W9 w'→Calls Tryz.prog 31 #[.pointer (some ⟨bs,0,none⟩),.slice (some ⟨b2,o2+(kk+1)*2,none⟩) (rln - (kk+1)) (rlc - (kk+1)),.int .i64 (p:Int),.int .i64 (k.2.2:Int)] w' (SomeP w' (someF S l p k.2.2)) from fun w' hb=>some_n ok g Ag ng cg A n c bs bm S k.2.2 hk l w' (some ⟨b2,o2+(kk+1)*2,none⟩) (rln - (kk+1)) (rlc - (kk+1)) p (HSR9.out.via hb) (HTT.out.via hb) (fun t ht=>HRO.out t (by rw [← HD2.out] at ht; exact List.mem_of_mem_drop ht)) (by omega) (by omega));cases hf:someF S l p k.2.2 with
      | false =>
       rw [hf] at JS;have HFF:=Lib.hid hf;clear hf;refine wp_region_noPanic ?_;refine wp_region_held_drew (S:=fun w'=>(∀ x,w'.cell? ⟨bp,x,none⟩=#[.pointer (some ⟨bs,0,none⟩)][x]?)∧(∀ x,w'.cell? ⟨bs,x,none⟩=#[.int .i64 (g.terms:Int),.int .i64 (g.nons:Int),.int .i64 (g.start:Int),.slice Ag ng cg,.slice A n c,.map (some bm)][x]?)∧(∀ x,w'.cell? ⟨wr.heap.size,x,none⟩=#[.bool s.1,.int .i64 (s.2:Int),.int .i64 (i:Int),.int .i64 (p:Int)][x]?)∧(Instr.lookup 65 (.map (some bm)) (.agg #[.bool s.1,.int .i64 (s.2:Int),.int .i64 (i:Int),.int .i64 (p:Int)]) false).run Tryz.prog w'=.ok (.bool true) w'∧(∀ x,w'.cell? ⟨br,x,none⟩=#[.int .i64 (left:Int),.slice (some ⟨b2,o2,none⟩) rln rlc][x]?)∧(∀ x,w'.cell? ⟨bx,x,none⟩=#[.bool k.1.1,.int .i64 (k.1.2:Int),.int .i64 (k.2.1:Int),.int .i64 (k.2.2:Int)][x]?)∧(∀ x,w'.cell? ⟨bf,x,none⟩=#[.func (.func fid) #[] #[.pointer (some ⟨br,0,none⟩),.pointer (some ⟨bx,0,none⟩),.pointer (some ⟨bo,0,none⟩),.pointer (some ⟨bn,0,none⟩),.pointer (some ⟨bmo,0,none⟩),.pointer (some ⟨bp,0,none⟩),.pointer (some ⟨bf,0,none⟩)]][x]?)) (by kernel_rfl) hHeld (fun hHeld=>?_);refine tkH 0 51 ?_;refine tkH 1 52 ?_;refine tkH 2 53 ?_;refine tkH 3 54 ?_;refine tkH 4 55 ?_;refine tkH 5 56 ?_;refine tkH 6 57 ?_;refine tkH 7 58 ?_;refine tkH 8 59 ?_;refine tkH 9 60 ?_;refine tkH 10 61 ?_;refine tkH 11 62 ?_;refine tkH 12 63 ?_;refine tkH 13 64 ?_;refine tkH 14 65 ?_;refine tkH 15 66 ?_;refine wpAnyH_ready (rs:=[16]) (by kernel_rfl) (by simp) ?_;refine AllReadyH.cons rfl (fun K hK=>?_) AllReadyH.nil;go_simp
       go_at_call 31
       refine (JS.out _ hb0).mono ?_;rintro e w1 ⟨rfl,hb1⟩;have hb1':=hb0.via hb1;dsimp only;go_wp2_with fail;refine hK.out _ _ (SO.out _ hb1') (fun hHeld2=>?_);clear hK K;try simp only [Act.put,List.setIfInBounds_toArray,List.set_cons_zero,List.set_cons_succ]
       refine tkH 17 68 ?_;refine tkH 18 69 ?_;refine skH 19 70 ?_;refine skH 20 71 ?_;refine skH 21 72 ?_;refine skH 22 73 ?_;refine skH 23 74 ?_;refine skH 24 75 ?_;refine skH 25 76 ?_;refine skH 26 77 ?_;refine skH 27 78 ?_;refine skH 28 79 ?_;refine skH 29 80 ?_;refine tkH 30 81 ?_;refine wpAnyH_done (by kernel_rfl) ?_ _;refine NoPanic.normal ?_;have HM10:=Lib.hid (HM9.out.via hb1');have HB10:=Lib.hid hb1';clear hHeld hHeld2 hb0 hb1 hb1' SO JS;have HFB:=Lib.hid (show (S (s,i,p)&&someF S l p k.2.2)=false by rw [HFF.out,Bool.and_false]);go_wp2_with fail;refine ⟨⟨p+1,v',dn,by go_num,by omega,by omega,Lib.hid ⟨HM10.out,?_,HRR.out.2.1,HRR.out.2.2.1.trans ((Agr.below HAL.out).trans (Agr.below HB10.out)),Nat.le_trans HRR.out.2.2.2.1 (Nat.le_trans HAL.out.size HB10.out.size),HRR.out.2.2.2.2⟩⟩,by simp [intOf]; omega⟩;have h1:=HRR.out.1;rw [wfrom_step hp,HFB.out] at h1
       simpa using h1
      | true =>
       rw [hf] at JS;have HFF:=Lib.hid hf;clear hf;refine wp_region_noPanic ?_;refine wp_region_held_drew (S:=fun w'=>(∀ x,w'.cell? ⟨bp,x,none⟩=#[.pointer (some ⟨bs,0,none⟩)][x]?)∧(∀ x,w'.cell? ⟨bs,x,none⟩=#[.int .i64 (g.terms:Int),.int .i64 (g.nons:Int),.int .i64 (g.start:Int),.slice Ag ng cg,.slice A n c,.map (some bm)][x]?)∧(∀ x,w'.cell? ⟨wr.heap.size,x,none⟩=#[.bool s.1,.int .i64 (s.2:Int),.int .i64 (i:Int),.int .i64 (p:Int)][x]?)∧(Instr.lookup 65 (.map (some bm)) (.agg #[.bool s.1,.int .i64 (s.2:Int),.int .i64 (i:Int),.int .i64 (p:Int)]) false).run Tryz.prog w'=.ok (.bool true) w'∧(∀ x,w'.cell? ⟨br,x,none⟩=#[.int .i64 (left:Int),.slice (some ⟨b2,o2,none⟩) rln rlc][x]?)∧(∀ x,w'.cell? ⟨bx,x,none⟩=#[.bool k.1.1,.int .i64 (k.1.2:Int),.int .i64 (k.2.1:Int),.int .i64 (k.2.2:Int)][x]?)∧(∀ x,w'.cell? ⟨bf,x,none⟩=#[.func (.func fid) #[] #[.pointer (some ⟨br,0,none⟩),.pointer (some ⟨bx,0,none⟩),.pointer (some ⟨bo,0,none⟩),.pointer (some ⟨bn,0,none⟩),.pointer (some ⟨bmo,0,none⟩),.pointer (some ⟨bp,0,none⟩),.pointer (some ⟨bf,0,none⟩)]][x]?)) (by kernel_rfl) hHeld (fun hHeld=>?_);refine tkH 0 51 ?_;refine tkH 1 52 ?_;refine tkH 2 53 ?_;refine tkH 3 54 ?_;refine tkH 4 55 ?_;refine tkH 5 56 ?_;refine tkH 6 57 ?_;refine tkH 7 58 ?_;refine tkH 8 59 ?_;refine tkH 9 60 ?_;refine tkH 10 61 ?_;refine tkH 11 62 ?_;refine tkH 12 63 ?_;refine tkH 13 64 ?_;refine tkH 14 65 ?_;refine tkH 15 66 ?_;refine wpAnyH_ready (rs:=[16]) (by kernel_rfl) (by simp) ?_;refine AllReadyH.cons rfl (fun K hK=>?_) AllReadyH.nil;go_simp
       go_at_call 31
       refine (JS.out _ hb0).mono ?_;rintro e w1 ⟨rfl,hb1⟩;have hb1':=hb0.via hb1;dsimp only;go_wp2_with fail;refine hK.out _ _ (SO.out _ hb1') (fun hHeld2=>?_);clear hK K;try simp only [Act.put,List.setIfInBounds_toArray,List.set_cons_zero,List.set_cons_succ]
       refine tkH 17 68 ?_;refine tkH 18 69 ?_;refine tkH 19 70 ?_;refine tkH 20 71 ?_;refine tkH 21 72 ?_;refine tkH 22 73 ?_;refine tkH 23 74 ?_;refine tkH 25 76 ?_;have HKR:=Lib.hid (((HK.out.agr HRR.out.2.2.1).via HAL.out).via hb1');clear hb1 JS;have HW1:=Lib.hid (Nat.le_trans HAL.out.size hb1'.size);refine wpAnyH_ready (rs:=[24,26]) (by kernel_rfl) (by simp) ?_;refine AllReadyH.cons rfl (fun K hK=>?_) (AllReadyH.cons rfl (fun K hK=>?_) AllReadyH.nil)
       ·go_simp
        go_at_call 66
        refine (cloneSp_c (fun b=>b≠bo∧some b≠v.ownBlock) KA kn kc ks w1 HKR.out (by simp at hkn; omega)).mono ?_;rintro e w2 ⟨KB,kd,rfl,hoc,hb2⟩;have hb2':=hb1'.via hb2;dsimp only;go_wp2_with fail;refine hK.out _ _ (SO.out _ hb2') (fun hHeld3=>?_);clear hK K;try simp only [Act.put,List.setIfInBounds_toArray,List.set_cons_zero,List.set_cons_succ]
        refine wpAnyH_ready (rs:=[26]) (by kernel_rfl) (by simp) ?_;refine AllReadyH.cons rfl (fun K hK=>?_) AllReadyH.nil;go_simp;have hal:=(Below.refl w2.heap.size w2).al (.cells #[.bool s.1,.int .i64 (s.2:Int),.int .i64 (i:Int),.int .i64 (p:Int)] 71);refine hK.out _ _ (SO.out _ (hb2'.via hal)) (fun hHeld4=>?_);clear hK K;try simp only [Act.put,List.setIfInBounds_toArray,List.set_cons_zero,List.set_cons_succ]
        have HOC:=Lib.hid (hoc.via hal);have HBW:=Lib.hid (hb2'.via hal);have BKY:=Lib.hid (Blk.new w2 71 #[.bool s.1,.int .i64 (s.2:Int),.int .i64 (i:Int),.int .i64 (p:Int)]);have HZ3:=Lib.hid (show w1.heap.size≤(w2.alloc (.cells #[.bool s.1,.int .i64 (s.2:Int),.int .i64 (i:Int),.int .i64 (p:Int)] 71)).heap.size from Nat.le_trans hb2.size hal.size);have HB3:=Lib.hid (show w1.heap.size≤w1.heap.size from Nat.le_refl _);clear hoc hb2 hal hb2';refine wpAnyH_ready (rs:=[27]) (by kernel_rfl) (by simp) ?_;refine AllReadyH.cons rfl (fun K hK=>?_) AllReadyH.nil;refine step_append_spW _ (by rfl) (.tmp 75) (.tmp 77) rfl (fun _=>True) w1.heap.size (.slice KB kn kd) kn ks rfl (own_ky HOC.out) w2.heap.size (s,i,p) (s,i,p) rfl BKY.out rfl (by simp at hkn; omega) HZ3.out ?_;intro Ak ck w4 ho4 hg4 hat4;have HB4:=Lib.hid (HBW.out.grown hg4 HBW.out.size (fun b e=>Nat.le_trans (Nat.le_trans hb1'.size HB3.out) (HOC.out.lt b e).1));refine hK.out _ _ (SO.out _ HB4.out) (fun hHeld5=>?_);clear hK K;try dsimp only [Act.put]
        refine wpAnyH_ready (rs:=[28]) (by kernel_rfl) (by simp) ?_;refine AllReadyH.cons rfl (fun K hK=>?_) AllReadyH.nil
        have HSK4:=Lib.hid ((own_ky (ok':=fun b=>wr.heap.size≤b) ho4).toSl (ok':=fun b=>b≠bo∧some b≠v'.ownBlock) (fun b _ hb=>⟨by have:=HBOW.out; omega,fun e=>by have:=HRX.out b e.symm; omega⟩) (fun b hb=>by
         have hb2:=Nat.le_trans HW1.out (Nat.le_trans HB3.out hb)
         exact ⟨by have:=HBOW.out; omega,fun e=>by have:=HRX.out b e.symm; omega⟩))
        clear ho4 hg4 hat4;go_simp;have hcast:(kk:Int)+1=((kk+1:Nat):Int):=(by omega);rw [hcast];clear hcast;refine (HIH.out w4 (kk+1) p Ak (kn+1) ck (ks++[(s,i,p)]) v' (out++dn.map fun p=>(rn,ks++p)) HD2.out (by omega) (by omega) HSK4.out ?_ (by simp at hkn ⊢; omega) (by have:=HRR.out.2.1; simp; omega) (HM9.out.via HB4.out)).mono ?_
        ·have h1:=HLE.out;have h2:=HRR.out.1;rw [wfrom_step hp,HSS.out,HFF.out] at h2;rw [← h2] at h1;simp only [Bool.and_self,if_true,List.length_append,List.length_map] at h1 ⊢;omega
        rintro e w5 ⟨b,v5,out5,rfl,hb5,ho5,hM5,hag5,hz5,hob5⟩;have HSR5:=Lib.hid (HSR.out.via hM5.bel);have HBQ5:=Lib.hid (show Blk w5 wr.heap.size 71 #[.bool s.1,.int .i64 (s.2:Int),.int .i64 (i:Int),.int .i64 (p:Int)] from (hag5 wr.heap.size ⟨by have:=HBOW.out; omega,fun e=>by have:=HRX.out _ e.symm; omega⟩ (HBQ.out.via HB4.out).lt).trans (HBQ.out.via HB4.out));have hHeld6:(∀ x,w5.cell? ⟨bp,x,none⟩=#[.pointer (some ⟨bs,0,none⟩)][x]?)∧(∀ x,w5.cell? ⟨bs,x,none⟩=#[.int .i64 (g.terms:Int),.int .i64 (g.nons:Int),.int .i64 (g.start:Int),.slice Ag ng cg,.slice A n c,.map (some bm)][x]?)∧(∀ x,w5.cell? ⟨wr.heap.size,x,none⟩=#[.bool s.1,.int .i64 (s.2:Int),.int .i64 (i:Int),.int .i64 (p:Int)][x]?)∧(Instr.lookup 65 (.map (some bm)) (.agg #[.bool s.1,.int .i64 (s.2:Int),.int .i64 (i:Int),.int .i64 (p:Int)]) false).run Tryz.prog w5=.ok (.bool true) w5∧(∀ x,w5.cell? ⟨br,x,none⟩=#[.int .i64 (left:Int),.slice (some ⟨b2,o2,none⟩) rln rlc][x]?)∧(∀ x,w5.cell? ⟨bx,x,none⟩=#[.bool k.1.1,.int .i64 (k.1.2:Int),.int .i64 (k.2.1:Int),.int .i64 (k.2.2:Int)][x]?)∧(∀ x,w5.cell? ⟨bf,x,none⟩=#[.func (.func fid) #[] #[.pointer (some ⟨br,0,none⟩),.pointer (some ⟨bx,0,none⟩),.pointer (some ⟨bo,0,none⟩),.pointer (some ⟨bn,0,none⟩),.pointer (some ⟨bmo,0,none⟩),.pointer (some ⟨bp,0,none⟩),.pointer (some ⟨bf,0,none⟩)]][x]?):=⟨hM5.pb.cell,HSR5.out.blk.cell,HBQ5.out.cell,by rw [← HSS.out]; exact spm_look HSR5.out.map (s,i,p) HKEY.out,hM5.rb.cell,hM5.xb.cell,hM5.fb.cell⟩;have HM5:=Lib.hid hM5;have HAG5:=Lib.hid hag5;have HZ5:=Lib.hid (Nat.le_trans HRR.out.2.2.2.1 (Nat.le_trans HAL.out.size (Nat.le_trans HB4.out.size hz5)));have HOB5:=Lib.hid hob5;have HO5:=Lib.hid ho5;have HD5:=Lib.hid hb5
        have HWS:=Lib.hid (show waysF S (s::l) i k.2.2=dn++((waysF S l p k.2.2).map ((s,i,p)::·)++wfrom S s l i k.2.2 (p+1)) by
         have h2:=HRR.out.1;rw [wfrom_step hp,HSS.out,HFF.out] at h2
         simpa using h2.symm)
        have HAGF:=Lib.hid (show Agr (fun b=>b≠bo∧some b≠v.ownBlock) w w5 from by
         intro b hb hlt;have h0:=HRR.out.2.2.2.1
         have hne:some b≠v'.ownBlock:=fun e=>by
          rcases HRR.out.2.2.2.2 with h | h
          ·exact hb.2 (e.trans h)
          ·have:=h b e.symm; omega
         have h1:=HRR.out.2.2.1 b hb hlt;have h2:=(HAL.out.via HB4.out).block b (Nat.lt_of_lt_of_le hlt h0);have h3:=HAG5.out b ⟨hb.1,hne⟩ (Nat.lt_of_lt_of_le hlt (Nat.le_trans h0 (HAL.out.via HB4.out).size))
         exact h3.trans (h2.trans h1))
        have HOBF:=Lib.hid (show v5.ownBlock=v.ownBlock∨∀ b,v5.ownBlock=some b→w.heap.size≤b from by
         rcases HOB5.out with h | h
         ·rw [h]; exact HRR.out.2.2.2.2
         ·exact Or.inr fun b e=>Nat.le_trans HRR.out.2.2.2.1 (Nat.le_trans (HAL.out.via HB4.out).size (h b e)))
        clear hM5 hag5 hz5 hob5 hb5 ho5;dsimp only;cases b with
        | true =>
         go_wp2_with fail;refine hK.out _ _ hHeld6 (fun hHeld7=>?_);clear hK K;try simp only [Act.put,List.setIfInBounds_toArray,List.set_cons_zero,List.set_cons_succ]
         refine tkH 29 80 ?_;refine tkH 30 81 ?_;refine wpAnyH_done (by kernel_rfl) ?_ _;refine NoPanic.normal ?_;clear hHeld hHeld2 hHeld3 hHeld4 hHeld5 hHeld6 hHeld7 SO hb1';go_wp2_with fail;refine ⟨⟨p+1,v5,dn++(waysF S l p k.2.2).map ((s,i,p)::·),by go_num,by omega,by omega,Lib.hid ⟨?_,by rw [HWS.out,List.append_assoc],?_,HAGF.out,HZ5.out,HOBF.out⟩⟩,by simp [intOf]; omega⟩
         ·have h:=HM5.out;rw [HO5.out (by trivial)] at h
          simpa [List.map_append,List.append_assoc,Function.comp_def] using h
         ·have h1:=HD5.out;simp at h1;simp only [List.length_append,List.length_map];omega
        | false =>
         go_wp2_with fail;refine hK.out _ _ hHeld6 (fun hHeld7=>?_);clear hK K;try simp only [Act.put,List.setIfInBounds_toArray,List.set_cons_zero,List.set_cons_succ]
         refine tkH 29 80 ?_;refine tkH 30 81 ?_;refine wpAnyH_done (by kernel_rfl) ?_ _;refine NoPanic.normal ?_;clear hHeld hHeld2 hHeld3 hHeld4 hHeld5 hHeld6 hHeld7 SO hb1';go_wp2_with fail;refine bodyPost_end (v:=.bool false) (by simp [results,Tryz.results65]) rfl ⟨false,v5,out5,rfl,?_,fun h=>(by cases h),HM5.out,HAGF.out,HZ5.out,HOBF.out⟩;have h1:=HD5.out;rw [HWS.out];simp at h1 ⊢;omega
       ·go_simp;have hal:=(Below.refl w1.heap.size w1).al (.cells #[.bool s.1,.int .i64 (s.2:Int),.int .i64 (i:Int),.int .i64 (p:Int)] 71);have hal':=hb1'.via hal;refine hK.out _ _ (SO.out _ hal') (fun hHeld3=>?_);clear hK K;try simp only [Act.put,List.setIfInBounds_toArray,List.set_cons_zero,List.set_cons_succ]
        have bky:=Blk.new w1 71 #[.bool s.1,.int .i64 (s.2:Int),.int .i64 (i:Int),.int .i64 (p:Int)];have HKR2:=Lib.hid (HKR.out.via hal);refine wpAnyH_ready (rs:=[24]) (by kernel_rfl) (by simp) ?_;refine AllReadyH.cons rfl (fun K hK=>?_) AllReadyH.nil;go_simp
        go_at_call 66
        refine (cloneSp_c (fun b=>b≠bo∧some b≠v.ownBlock) KA kn kc ks _ HKR2.out (by simp at hkn; omega)).mono ?_;rintro e w2 ⟨KB,kd,rfl,hoc,hb2⟩;have hb2':=hal'.via hb2;dsimp only;go_wp2_with fail;refine hK.out _ _ (SO.out _ hb2') (fun hHeld4=>?_);clear hK K;try simp only [Act.put,List.setIfInBounds_toArray,List.set_cons_zero,List.set_cons_succ]
        have HOC:=Lib.hid hoc;have HBW:=Lib.hid hb2';have BKY:=Lib.hid (bky.via hb2);have HZ3:=Lib.hid hb2.size;have HB3:=Lib.hid hal.size;clear hoc hb2 hal hal' hb2' bky;refine wpAnyH_ready (rs:=[27]) (by kernel_rfl) (by simp) ?_;refine AllReadyH.cons rfl (fun K hK=>?_) AllReadyH.nil;refine step_append_spW _ (by rfl) (.tmp 75) (.tmp 77) rfl (fun _=>True) (w1.alloc (.cells #[.bool s.1,.int .i64 (s.2:Int),.int .i64 (i:Int),.int .i64 (p:Int)] 71)).heap.size (.slice KB kn kd) kn ks rfl (own_ky HOC.out) w1.heap.size (s,i,p) (s,i,p) rfl BKY.out rfl (by simp at hkn; omega) HZ3.out ?_;intro Ak ck w4 ho4 hg4 hat4;have HB4:=Lib.hid (HBW.out.grown hg4 HBW.out.size (fun b e=>Nat.le_trans (Nat.le_trans hb1'.size HB3.out) (HOC.out.lt b e).1));refine hK.out _ _ (SO.out _ HB4.out) (fun hHeld5=>?_);clear hK K;try dsimp only [Act.put]
        refine wpAnyH_ready (rs:=[28]) (by kernel_rfl) (by simp) ?_;refine AllReadyH.cons rfl (fun K hK=>?_) AllReadyH.nil
        have HSK4:=Lib.hid ((own_ky (ok':=fun b=>wr.heap.size≤b) ho4).toSl (ok':=fun b=>b≠bo∧some b≠v'.ownBlock) (fun b _ hb=>⟨by have:=HBOW.out; omega,fun e=>by have:=HRX.out b e.symm; omega⟩) (fun b hb=>by
         have hb2:=Nat.le_trans HW1.out (Nat.le_trans HB3.out hb)
         exact ⟨by have:=HBOW.out; omega,fun e=>by have:=HRX.out b e.symm; omega⟩))
        clear ho4 hg4 hat4;go_simp;have hcast:(kk:Int)+1=((kk+1:Nat):Int):=(by omega);rw [hcast];clear hcast;refine (HIH.out w4 (kk+1) p Ak (kn+1) ck (ks++[(s,i,p)]) v' (out++dn.map fun p=>(rn,ks++p)) HD2.out (by omega) (by omega) HSK4.out ?_ (by simp at hkn ⊢; omega) (by have:=HRR.out.2.1; simp; omega) (HM9.out.via HB4.out)).mono ?_
        ·have h1:=HLE.out;have h2:=HRR.out.1;rw [wfrom_step hp,HSS.out,HFF.out] at h2;rw [← h2] at h1;simp only [Bool.and_self,if_true,List.length_append,List.length_map] at h1 ⊢;omega
        rintro e w5 ⟨b,v5,out5,rfl,hb5,ho5,hM5,hag5,hz5,hob5⟩;have HSR5:=Lib.hid (HSR.out.via hM5.bel);have HBQ5:=Lib.hid (show Blk w5 wr.heap.size 71 #[.bool s.1,.int .i64 (s.2:Int),.int .i64 (i:Int),.int .i64 (p:Int)] from (hag5 wr.heap.size ⟨by have:=HBOW.out; omega,fun e=>by have:=HRX.out _ e.symm; omega⟩ (HBQ.out.via HB4.out).lt).trans (HBQ.out.via HB4.out));have hHeld6:(∀ x,w5.cell? ⟨bp,x,none⟩=#[.pointer (some ⟨bs,0,none⟩)][x]?)∧(∀ x,w5.cell? ⟨bs,x,none⟩=#[.int .i64 (g.terms:Int),.int .i64 (g.nons:Int),.int .i64 (g.start:Int),.slice Ag ng cg,.slice A n c,.map (some bm)][x]?)∧(∀ x,w5.cell? ⟨wr.heap.size,x,none⟩=#[.bool s.1,.int .i64 (s.2:Int),.int .i64 (i:Int),.int .i64 (p:Int)][x]?)∧(Instr.lookup 65 (.map (some bm)) (.agg #[.bool s.1,.int .i64 (s.2:Int),.int .i64 (i:Int),.int .i64 (p:Int)]) false).run Tryz.prog w5=.ok (.bool true) w5∧(∀ x,w5.cell? ⟨br,x,none⟩=#[.int .i64 (left:Int),.slice (some ⟨b2,o2,none⟩) rln rlc][x]?)∧(∀ x,w5.cell? ⟨bx,x,none⟩=#[.bool k.1.1,.int .i64 (k.1.2:Int),.int .i64 (k.2.1:Int),.int .i64 (k.2.2:Int)][x]?)∧(∀ x,w5.cell? ⟨bf,x,none⟩=#[.func (.func fid) #[] #[.pointer (some ⟨br,0,none⟩),.pointer (some ⟨bx,0,none⟩),.pointer (some ⟨bo,0,none⟩),.pointer (some ⟨bn,0,none⟩),.pointer (some ⟨bmo,0,none⟩),.pointer (some ⟨bp,0,none⟩),.pointer (some ⟨bf,0,none⟩)]][x]?):=⟨hM5.pb.cell,HSR5.out.blk.cell,HBQ5.out.cell,by rw [← HSS.out]; exact spm_look HSR5.out.map (s,i,p) HKEY.out,hM5.rb.cell,hM5.xb.cell,hM5.fb.cell⟩;have HM5:=Lib.hid hM5;have HAG5:=Lib.hid hag5;have HZ5:=Lib.hid (Nat.le_trans HRR.out.2.2.2.1 (Nat.le_trans HAL.out.size (Nat.le_trans HB4.out.size hz5)));have HOB5:=Lib.hid hob5;have HO5:=Lib.hid ho5;have HD5:=Lib.hid hb5
        have HWS:=Lib.hid (show waysF S (s::l) i k.2.2=dn++((waysF S l p k.2.2).map ((s,i,p)::·)++wfrom S s l i k.2.2 (p+1)) by
         have h2:=HRR.out.1;rw [wfrom_step hp,HSS.out,HFF.out] at h2
         simpa using h2.symm)
        have HAGF:=Lib.hid (show Agr (fun b=>b≠bo∧some b≠v.ownBlock) w w5 from by
         intro b hb hlt;have h0:=HRR.out.2.2.2.1
         have hne:some b≠v'.ownBlock:=fun e=>by
          rcases HRR.out.2.2.2.2 with h | h
          ·exact hb.2 (e.trans h)
          ·have:=h b e.symm; omega
         have h1:=HRR.out.2.2.1 b hb hlt;have h2:=(HAL.out.via HB4.out).block b (Nat.lt_of_lt_of_le hlt h0);have h3:=HAG5.out b ⟨hb.1,hne⟩ (Nat.lt_of_lt_of_le hlt (Nat.le_trans h0 (HAL.out.via HB4.out).size))
         exact h3.trans (h2.trans h1))
        have HOBF:=Lib.hid (show v5.ownBlock=v.ownBlock∨∀ b,v5.ownBlock=some b→w.heap.size≤b from by
         rcases HOB5.out with h | h
         ·rw [h]; exact HRR.out.2.2.2.2
         ·exact Or.inr fun b e=>Nat.le_trans HRR.out.2.2.2.1 (Nat.le_trans (HAL.out.via HB4.out).size (h b e)))
        clear hM5 hag5 hz5 hob5 hb5 ho5;dsimp only;cases b with
        | true =>
         go_wp2_with fail;refine hK.out _ _ hHeld6 (fun hHeld7=>?_);clear hK K;try simp only [Act.put,List.setIfInBounds_toArray,List.set_cons_zero,List.set_cons_succ]
         refine tkH 29 80 ?_;refine tkH 30 81 ?_;refine wpAnyH_done (by kernel_rfl) ?_ _;refine NoPanic.normal ?_;clear hHeld hHeld2 hHeld3 hHeld4 hHeld5 hHeld6 hHeld7 SO hb1';go_wp2_with fail;refine ⟨⟨p+1,v5,dn++(waysF S l p k.2.2).map ((s,i,p)::·),by go_num,by omega,by omega,Lib.hid ⟨?_,by rw [HWS.out,List.append_assoc],?_,HAGF.out,HZ5.out,HOBF.out⟩⟩,by simp [intOf]; omega⟩
         ·have h:=HM5.out;rw [HO5.out (by trivial)] at h
          simpa [List.map_append,List.append_assoc,Function.comp_def] using h
         ·have h1:=HD5.out;simp at h1;simp only [List.length_append,List.length_map];omega
        | false =>
         go_wp2_with fail;refine hK.out _ _ hHeld6 (fun hHeld7=>?_);clear hK K;try simp only [Act.put,List.setIfInBounds_toArray,List.set_cons_zero,List.set_cons_succ]
         refine tkH 29 80 ?_;refine tkH 30 81 ?_;refine wpAnyH_done (by kernel_rfl) ?_ _;refine NoPanic.normal ?_;clear hHeld hHeld2 hHeld3 hHeld4 hHeld5 hHeld6 hHeld7 SO hb1';go_wp2_with fail;refine bodyPost_end (v:=.bool false) (by simp [results,Tryz.results65]) rfl ⟨false,v5,out5,rfl,?_,fun h=>(by cases h),HM5.out,HAGF.out,HZ5.out,HOBF.out⟩;have h1:=HD5.out;rw [HWS.out];simp at h1 ⊢;omega
   ·have i1:¬ (p:Int)≤(k.2.2:Int):=(by omega);have HWS:=Lib.hid (show waysF S (s::l) i k.2.2=dn by rw [← HR.out.2.1,wfrom_end (by omega),List.append_nil]);have cBX:=BX.cell;have fBX:=BX.frozen;have lBX:=BX.lt;go_wp2_with fail;refine bodyPost_end (v:=.bool true) (by simp [results,Tryz.results65]) rfl ?_;rw [HWS.out];exact ⟨true,v',_,rfl,by have:=HR.out.2.2.1; simp; omega,fun _=>rfl,HR.out.1,HR.out.2.2.2⟩
end Go.Proofs.YtfcihnpmeabacaaGreatDoor
