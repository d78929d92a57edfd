/- Texts BH, laid together. -/
import Derived.Test.YtfcihnpmeabacaaGreatDoorW1
import Derived.Test.YtfcihnpmeabacaaGreatDoorW6
import Derived.Test.YtfcihnpmeabacaaGreatDoorW4
import Derived.Test.YtfcihnpmeabacaaGreatDoorW8
import Derived.Laws.EntriesVeiled
namespace Go.Proofs.YtfcihnpmeabacaaGreatDoor
open Go.RowKit
set_option maxHeartbeats 400000 in
theorem cloneKy_c (ok:Nat→Prop) (A:Option Addr) (n c:Nat) (xs:List Ky) (w:World) (h:Sl KyE ok w A n c xs) (hn:n≤1000000) :
 Calls Tryz.prog 130 #[.slice A n c] w (CloneP KyE 173 w n xs):=by
 have he:=fun wx=>Lib.run_eql_slice_nil (P:=Tryz.prog) wx 175 173 A n c 0 0 Tryz.underlying175
 rcases A with _ | ad
 ·have hn0:n=0:=by
   rcases Nat.eq_zero_or_pos n with h0 | h0
   ·exact h0
   ·obtain ⟨b,off,r,x,e,_⟩:=h.at_ h0; cases e
  subst hn0;obtain rfl:xs=[]:=List.eq_nil_of_length_eq_zero h.len;clear h;go_enter Tryz.func130,Tryz.ntmps130
  go_wp2
  go_ret;exact ⟨_,_,rfl,Own.nil _ _,Below.refl _ _⟩
 ·have H:=Lib.hid (h.mono (ok':=fun b=>b < w.heap.size) fun b hb _=>hb);clear h;obtain ⟨i,hi,hz⟩:=Option.map_eq_some_iff.1 ky_info;simp only [Prod.mk.injEq] at hz;obtain ⟨z1,z2,z3⟩:=hz;have HI:=Lib.hid (And.intro hi (And.intro z1 (And.intro z2 z3)));clear hi z1 z2 z3;go_enter Tryz.func130,Tryz.ntmps130;go_wp2_with (at_builtin; refine wpList_append_manyE (E:=KyE) _ rfl (.tmp 5) (.tmp 6) 175 173 rfl i _ 32 (by kernel_rfl) HI.out.1 HI.out.2.1 HI.out.2.2.1 HI.out.2.2.2 rfl (fun b=>b < w.heap.size) w.heap.size (.slice (some ⟨w.heap.size,0,none⟩) 0 0) 0 [] rfl (Own.empty _ w) (some ad) n c xs rfl ((H.out.al _).mono fun b _ hb=>⟨hb,by simp [Value.ownBlock]; omega⟩) (by simp [maxLen]; omega) (by omega) (by simp) ?_; intro Av1 cv1 w1 hown1 hg1 hat1);go_ret;exact ⟨Av1,cv1,by simp,by simpa using hown1,((Below.refl _ _).alloc (Nat.le_refl _) _).grown hg1 (by simp) (by simp [Value.ownBlock])⟩
def kyC (x:Ky):Array Value:=#[.bool x.1.1,.int .i64 (x.1.2:Int),.int .i64 (x.2.1:Int),.int .i64 (x.2.2:Int)]
structure PkM (W0 w:World) (fid bk bo bi bw be bf:Nat) (k:Ky) (rn:Nat) (A:Option Addr) (n c ob oo N oc:Nat) (base:Nat) (v:Value) (out:List (Nat×List Ky)):Prop where
 bel:Below W0.heap.size W0 w
 kb:Blk w bk 173 (kyC k)
 ib:Blk w bi 3 #[.int .i64 (rn:Int)]
 wb:Blk w bw 25 #[.slice A n c]
 eb:Blk w be 123 #[.slice (some ⟨ob,oo,none⟩) N oc]
 fb:Blk w bf 217 #[.func (.func fid) #[] #[.pointer (some ⟨bk,0,none⟩),.pointer (some ⟨bo,0,none⟩),.pointer (some ⟨bi,0,none⟩),.pointer (some ⟨bw,0,none⟩),.pointer (some ⟨be,0,none⟩),.pointer (some ⟨bf,0,none⟩)]]
 outb:Blk w bo 177 #[v]
 own:Own PkE 180 (fun b=>base≤b) w base v out.length out
 ne:bk≠bo∧bi≠bo∧bw≠bo∧be≠bo∧bf≠bo
 lt:bo < base
 nr:some bk≠v.ownBlock∧some bi≠v.ownBlock∧some bw≠v.ownBlock∧some be≠v.ownBlock∧some bf≠v.ownBlock∧some bo≠v.ownBlock
 ge:W0.heap.size≤bo∧W0.heap.size≤base∧base≤w.heap.size
section
variable {W0 w w':World} {fid bk bo bi bw be bf:Nat} {k:Ky} {rn:Nat} {A:Option Addr} {n c ob oo N oc base:Nat} {v v':Value} {out:List (Nat×List Ky)} {x:Nat×List Ky}
theorem PkM.via (h:PkM W0 w fid bk bo bi bw be bf k rn A n c ob oo N oc base v out) (hb:Below w.heap.size w w'):PkM W0 w' fid bk bo bi bw be bf k rn A n c ob oo N oc base v out :=
 ⟨h.bel.via hb,h.kb.via hb,h.ib.via hb,h.wb.via hb,h.eb.via hb,h.fb.via hb,h.outb.via hb,h.own.via hb,h.ne,h.lt,h.nr,h.ge.1,h.ge.2.1,Nat.le_trans h.ge.2.2 hb.size⟩
theorem PkM.push (h:PkM W0 w fid bk bo bi bw be bf k rn A n c ob oo N oc base v out) (ho:Own PkE 180 (fun b=>base≤b) w' base v' (out.length+1) (out++[x])) (hg:w.grownBy w' v.ownBlock) (hat:v'.ownBlock=v.ownBlock∨v'.ownBlock=some w.heap.size):PkM W0 (w'.setCell ⟨bo,0,none⟩ v') fid bk bo bi bw be bf k rn A n c ob oo N oc base v' (out++[x]):=by
 have hl:=h.lt;have hr:=h.nr
 have hn:∀ b,b < w.heap.size→some b≠v.ownBlock→some b≠v'.ownBlock:=fun b hb h1 h2=>by
  rcases hat with e | e
  ·exact h1 (h2.trans e)
  ·rw [e] at h2; have:=Option.some.inj h2; omega
 refine ⟨(h.bel.grown hg (Nat.le_trans h.ge.2.1 h.ge.2.2) (fun b e=>by have:=(h.own.lt b e).1; have:=h.ge; omega)).setCell (by simpa using h.ge.1) _,(h.kb.grown hg hr.1).far (by simpa using h.ne.1) _,(h.ib.grown hg hr.2.1).far (by simpa using h.ne.2.1) _,(h.wb.grown hg hr.2.2.1).far (by simpa using h.ne.2.2.1) _,
  (h.eb.grown hg hr.2.2.2.1).far (by simpa using h.ne.2.2.2.1) _,(h.fb.grown hg hr.2.2.2.2.1).far (by simpa using h.ne.2.2.2.2) _,?_,?_,h.ne,h.lt,⟨hn _ h.kb.lt hr.1,hn _ h.ib.lt hr.2.1,hn _ h.wb.lt hr.2.2.1,hn _ h.eb.lt hr.2.2.2.1,hn _ h.fb.lt hr.2.2.2.2.1,hn _ h.outb.lt hr.2.2.2.2.2⟩,h.ge.1,h.ge.2.1,?_⟩
 ·have:=(h.outb.grown hg hr.2.2.2.2.2).set_ 0 v'; simpa using this
 ·have:=ho.setCell (p:=⟨bo,0,none⟩) v' (fun b hb=>by show b≠bo; omega) (by show bo < base; exact hl)
  simpa using this
 ·have:=hg.size; have:=h.ge.2.2; simp; omega
end
def PkP (W0 w:World) (fid bk bo bi bw be bf:Nat) (k:Ky) (rn:Nat) (A:Option Addr) (n c ob oo N oc base:Nat) (v:Value) (out:List (Nat×List Ky)) (e:Ending) (w':World):Prop :=
 (∃ u,e=.returned u)∧∃ v',PkM W0 w' fid bk bo bi bw be bf k rn A n c ob oo N oc base v' out∧Agr (fun b=>b≠bo∧some b≠v.ownBlock) w w'∧w.heap.size≤w'.heap.size∧(v'.ownBlock=v.ownBlock∨∀ b,v'.ownBlock=some b→w.heap.size≤b)
theorem bit_of0 (x n:Nat) (h:x < 8192):∃ (Q R:Nat),(x:Int) / 2 ^ n=(Q:Int)∧bits .and .u32 (Q:Int) 1=(R:Int)∧((R:Int)==0)=!x.testBit n:=by
 refine ⟨x / 2 ^ n,(x / 2 ^ n) &&& 1,by simp,?_,?_⟩
 ·have h1:x / 2 ^ n≤x:=Nat.div_le_self _ _;exact u32_and_nat _ 1 (by omega) (by omega)
 ·rw [Nat.and_one_is_mod,Nat.testBit_eq_decide_div_mod_eq];generalize x / 2 ^ n=y
  by_cases h:y % 2=1
  ·rw [h]; rfl
  ·have h0:y % 2=0:=(by omega);rw [h0]; rfl
theorem Sl.tailK {α ρ:Type} {E:Elem α ρ} {ok:Nat→Prop} {w:World} {A:Option Addr} {n c:Nat} {xs:List α} (h:Sl E ok w A n c xs) {l:Nat} (hl:l≤n):Sl E ok w (if c=l then A else Option.map (fun x=>x.add (l*E.k)) A) (n - l) (c - l) (xs.drop l):=by
 obtain ⟨h1,h2,raw,h3,h4,h5⟩:=h;refine ⟨by rw [List.length_drop,h1],by omega,raw.drop l,by rw [List.length_drop,h3],fun hne=>?_,fun i r x hr hx=>?_⟩
 ·have hln:l < n:=by
   rcases Nat.lt_or_ge l n with hh | hh
   ·exact hh
   ·exfalso; apply hne; rw [List.drop_eq_nil_of_le (by omega)]; rfl
  have hsplit:flat E raw=flat E (raw.take l)++flat E (raw.drop l):=by
   unfold flat;rw [← List.flatMap_append,List.take_append_drop]
  have hlen:(flat E (raw.take l)).length=l*E.k:=(by rw [flat_len,List.length_take,Nat.min_eq_left (by omega)])
  obtain ⟨b,off,e,hb,hc⟩:=h4 (fun e=>by
   rw [hsplit] at e
   exact hne (List.append_eq_nil_iff.1 e).2)
  rw [if_neg (by omega),e];refine ⟨b,off+l*E.k,?_,hb,fun j u hu=>?_⟩
  ·simp only [Option.map_some];unfold Addr.add
   split
   ·rename_i h0; simp [h0]
   ·rfl
  ·have:=hc (l*E.k+j) u (by rw [hsplit,List.getElem?_append_right (by omega),hlen,Nat.add_sub_cancel_left]; exact hu);rw [← Nat.add_assoc] at this; exact this
 ·rw [List.getElem?_drop] at hr hx;exact h5 (l+i) r x hr hx
theorem own_ky {e:TypeId} {ok ok':Nat→Prop} {w:World} {base n:Nat} {v:Value} {l:List Ky} (h:Own KyE e ok w base v n l):Own KyE e ok' w base v n l:=by
 obtain ⟨h1,raw,h3,h4,h5⟩:=h;exact ⟨h1,raw,h3,h4,fun i r x hr hx=>h5 i r x hr hx⟩
set_option maxRecDepth 100000 in
set_option maxHeartbeats 8000000 in
theorem pk1_n (W0:World) (fid:Nat) (hfid:Hid (fid=129)) (he:∀ (args:Array Value) (w:World),(callFunc fid args).run Tryz.prog w=.ok (.enter fid args) w)
 (bk bo bi bw be bf:Nat) (k:Ky) (rn:Nat) (A:Option Addr) (n c ob oo N oc:Nat) (rb ro rc:Nat→Nat) (xs:List Int) (E:EnS) (base:Nat) (hx:Ints W0 A n c xs) (hE:EnV W0 ob oo N n rb ro rc E) (hT:TabW W0) (hsup:SupE n E) (hn:n≤12) (hk:k.2.2≤n) :
 ∀ (l:List Sy) (w:World) (B:Option Addr) (m d i:Nat) (KA:Option Addr) (kn kc:Nat) (ks:List Ky) (v:Value) (out:List (Nat×List Ky)),(∀ s∈l,s.1=false→s.2 < N)→i≤n→Sl SyE (fun b=>b < W0.heap.size) W0 B m d l→Sl KyE (fun b=>b≠bo∧some b≠v.ownBlock) w KA kn kc ks →
 out.length+(waysF (dOf xs E) l i k.2.2).length≤1000000→ks.length+l.length≤100→PkM W0 w fid bk bo bi bw be bf k rn A n c ob oo N oc base v out →
 Calls Tryz.prog fid #[.slice B m d,.int .i64 (i:Int),.slice KA kn kc,.pointer (some ⟨bk,0,none⟩),.pointer (some ⟨bo,0,none⟩),.pointer (some ⟨bi,0,none⟩),.pointer (some ⟨bw,0,none⟩),.pointer (some ⟨be,0,none⟩),.pointer (some ⟨bf,0,none⟩)] w
  (PkP W0 w fid bk bo bi bw be bf k rn A n c ob oo N oc base v (out++(waysF (dOf xs E) l i k.2.2).map fun p=>(rn,ks++p))):=by
 intro l
 induction l with
 | nil =>
  intro w B m d i KA kn kc ks v out hs hi hl hks hlen hkl hM;obtain rfl:m=0:=hl.len.symm;have hknl:=hks.len;have HM:=Lib.hid hM;have HK:=Lib.hid hks;have BK:=hM.kb;have BI:=hM.ib;have BO:=hM.outb;simp only [kyC] at BK;clear hl hks hM
  conv=>arg 2; rw [hfid.out]
  go_enter Tryz.func129,Tryz.ntmps129
  by_cases hik:i=k.2.2
  ·have e1:((i:Int)==(k.2.2:Int))=true:=(by simp [hik]);have cBK:=BK.cell;have fBK:=BK.frozen;have lBK:=BK.lt;go_upto_region 2 with fail;clear cBK fBK lBK;have hdr:=(Below.refl w.heap.size w).drew;have HM1:=Lib.hid (HM.out.via hdr);have hHeld:(∀ x,w.drew.cell? ⟨bo,x,none⟩=#[v][x]?)∧(∀ x,w.drew.cell? ⟨bi,x,none⟩=#[.int .i64 (rn:Int)][x]?):=⟨HM1.out.outb.cell,HM1.out.ib.cell⟩;refine wp_region_L 7 (fun w'=>(∀ x,w'.cell? ⟨bo,x,none⟩=#[v][x]?)∧(∀ x,w'.cell? ⟨bi,x,none⟩=#[.int .i64 (rn:Int)][x]?)) (by kernel_rfl) ?_;refine tkL 0 21 ?_;refine tkL 1 22 ?_;refine tkL 2 23 ?_;refine wpAnyL.ready (rs:=[3]) (by kernel_rfl) (by simp) ?_;refine AllL.cons rfl (fun K hK=>?_) AllL.nil;go_simp
   go_at_call 130
   refine (cloneKy_c (fun b=>b≠bo∧some b≠v.ownBlock) KA kn kc ks w.drew (HK.out.via hdr) (by simp at hkl; omega)).mono ?_;rintro e w1 ⟨KB,kd,rfl,hoc,hb1⟩;have HM2:=Lib.hid (HM1.out.via hb1);dsimp only;go_wp2_with fail;refine hK.out _ _ (fun _=>⟨HM2.out.outb.cell,HM2.out.ib.cell⟩) ?_;clear hK K;try simp only [Act.put,List.setIfInBounds_toArray,List.set_cons_zero,List.set_cons_succ]
   have hHeld2:(∀ x,w1.cell? ⟨bo,x,none⟩=#[v][x]?)∧(∀ x,w1.cell? ⟨bi,x,none⟩=#[.int .i64 (rn:Int)][x]?):=⟨HM2.out.outb.cell,HM2.out.ib.cell⟩;refine tkL 4 25 ?_;refine wpAnyL.ready (rs:=[5]) (by kernel_rfl) (by simp) ?_;refine AllL.cons rfl (fun K hK=>?_) AllL.nil;go_simp;have hal:=(Below.refl w1.heap.size w1).al (.cells #[.int .i64 (rn:Int),.slice KB kn kd] 180);have HM3:=Lib.hid (HM2.out.via hal);refine hK.out _ _ (fun _=>⟨HM3.out.outb.cell,HM3.out.ib.cell⟩) ?_;clear hK K;try simp only [Act.put,List.setIfInBounds_toArray,List.set_cons_zero,List.set_cons_succ]
   refine wpAnyL.ready (rs:=[6]) (by kernel_rfl) (by simp) ?_;refine AllL.cons rfl (fun K hK=>?_) AllL.nil;have hge:=HM.out.ge.2.2;have hown:=HM.out.own;have hsk:=(own_ky (ok':=fun b=>w.heap.size≤b) hoc).toSl (ok':=fun b=>w.heap.size≤b) (fun b _ hb=>hb) (fun b hb=>by simpa using hb);refine step_append_pk _ rfl (.tmp 21) (.tmp 26) rfl (fun b=>base≤b) base v out.length out rfl HM3.out.own w1.heap.size (rn,KB,kn,kd) (rn,ks) rfl (Blk.new w1 180 #[.int .i64 (rn:Int),.slice KB kn kd]) ⟨rfl,(hsk.via hal).mono fun b _ hb=>⟨by omega,fun e=>by have:=(hown.lt b e.symm).2; omega⟩⟩ (by simp [waysF,hik] at hlen; omega) HM3.out.ge.2.2 ?_;intro Av1 cv1 w2 ho1 hg1 hat1;have B2g:=HM3.out.outb.grown hg1 HM3.out.nr.2.2.2.2.2;have BIg:=HM3.out.ib.grown hg1 HM3.out.nr.2.1;refine hK.out _ _ (fun _=>⟨B2g.cell,BIg.cell⟩) ?_;clear hK K;try dsimp only [Act.put]
   refine wpAnyL.ready (rs:=[7]) (by kernel_rfl) (by simp) ?_;refine AllL.cons rfl (fun K hK=>?_) AllL.nil;have c2g:=B2g.cell;have f2g:=B2g.frozen;have l2g:=B2g.lt;go_simp;refine hK.out _ _ (fun h=>absurd rfl h) ?_;clear hK K;refine wpAnyL.done (by kernel_rfl) ?_ _;have HPU:=Lib.hid (HM3.out.push ho1 hg1 hat1);have hz1:w.heap.size≤w1.heap.size:=(by have:=hb1.size; simpa using this);have HAG:=Lib.hid (((Agr.below (ok:=fun b=>b≠bo∧some b≠v.ownBlock) ((hdr.via hb1).via hal)).trans (Agr.grown hg1 fun b hb=>hb.2)).trans (Agr.setCell (p:=⟨bo,0,none⟩) (.slice Av1 (out.length+1) cv1) fun b hb=>hb.1));have HSZ:=Lib.hid (show w.heap.size≤(w2.setCell ⟨bo,0,none⟩ (.slice Av1 (out.length+1) cv1)).heap.size by have:=hg1.size; simp at this ⊢; omega);have HOB:=Lib.hid (show (Value.slice Av1 (out.length+1) cv1).ownBlock=v.ownBlock∨∀ b,(Value.slice Av1 (out.length+1) cv1).ownBlock=some b→w.heap.size≤b from hat1.imp id fun h b e=>by rw [h] at e; cases e; simp; omega);clear ho1 hg1 hat1 B2g BIg c2g f2g l2g hHeld hHeld2 hal hdr HM1 HM2 HM3 hoc hb1 hsk hown hz1;go_wp2_with fail;refine bodyPost_end (v:=.tuple #[]) (by simp [results,Tryz.results129]) rfl ⟨⟨_,rfl⟩,.slice Av1 (out.length+1) cv1,?_,HAG.out,HSZ.out,HOB.out⟩;have e:out++(waysF (dOf xs E) [] i k.2.2).map (fun p=>(rn,ks++p))=out++[(rn,ks)]:=(by simp [waysF,hik]);rw [e];exact HPU.out
  ·have e1:((i:Int)==(k.2.2:Int))=false:=(by simp; omega);have cBK:=BK.cell;have fBK:=BK.frozen;have lBK:=BK.lt;go_wp2_with fail;refine bodyPost_end (v:=.tuple #[]) (by simp [results,Tryz.results129]) rfl ⟨⟨_,rfl⟩,v,?_,Agr.refl,Nat.le_refl _,Or.inl rfl⟩;simp only [waysF,if_neg hik,List.map_nil,List.append_nil];exact HM.out
 | cons s l ih =>
  intro w B m d i KA kn kc ks v out hs hi hl hks hlen hkl hM;have HML:=Lib.hid (show m=l.length+1 by rw [← hl.len]; rfl);have hm1:0 < m:=(by have:=HML.out; omega);have hm100:m≤1000:=(by have:=HML.out; simp at hkl; omega);have hxl:=hx.len;subst hxl;have hbE:∀ a p,E a p < 2 ^ (xs.length+1):=fun a p=>lt_of_bits fun j hj=>(hsup a p j hj).2
  have p13:=pow13 hn;obtain ⟨y,hy⟩:∃ y,y=reachM xs E (s::l) i:=⟨_,rfl⟩;have hyl:y < 8192:=(by have:=reachM_lt hbE hi (s::l); rw [← hy] at this; omega);have hyb:y.testBit k.2.2=someF (dOf xs E) (s::l) i k.2.2:=(by rw [hy]; exact reach_iff hsup (by omega) (s::l) hi _);obtain ⟨Q,R,q1,q2,q3⟩:=bit_of0 y k.2.2 hyl;rw [hyb] at q3;have HM:=Lib.hid hM;have HK:=Lib.hid hks;have HL:=Lib.hid hl;have HIH:=Lib.hid ih;have HS:=Lib.hid hs;have HY:=Lib.hid hy;have HLE:=Lib.hid hlen;have BK:=hM.kb;have BW:=hM.wb;have BE:=hM.eb;simp only [kyC] at BK;have SO:=Lib.hid (show ∀ w',Below w.heap.size w w'→((∀ x,w'.cell? ⟨bw,x,none⟩=#[.slice A xs.length c][x]?)∧(∀ x,w'.cell? ⟨be,x,none⟩=#[.slice (some ⟨ob,oo,none⟩) N oc][x]?)∧(∀ x,w'.cell? ⟨bk,x,none⟩=#[.bool k.1.1,.int .i64 (k.1.2:Int),.int .i64 (k.2.1:Int),.int .i64 (k.2.2:Int)][x]?)∧Below w.heap.size w w') from fun w' hb=>⟨(BW.via hb).cell,(BE.via hb).cell,(BK.via hb).cell,hb⟩)
  have HN:=Lib.hid (show ∀ w',Below w.heap.size w w'→Calls Tryz.prog 99 #[.slice A xs.length c,.slice (some ⟨ob,oo,none⟩) N oc,.slice B m d,.int .i64 (i:Int)] w' (ReachP w' y) from fun w' hb=>by
   rw [HY.out]
   exact reach_v (fun b=>b < W0.heap.size) A xs.length c ob oo N oc rb ro rc E B m d i xs (s::l) w' (hx.via (HM.out.bel.via hb)) (hE.via (HM.out.bel.via hb)) (HL.out.via (HM.out.bel.via hb)) HS.out hi hn hm100 hbE (hT.via (HM.out.bel.via hb)))
  have e0:((m:Int)==0)=false:=(by simp; omega);have j0:(0:Int)≤(k.2.2:Int):=(by omega);clear hl hks hM ih hs hy hlen hyb
  conv=>arg 2; rw [hfid.out]
  go_enter Tryz.func129,Tryz.ntmps129;go_upto_region 3 with fail;clear e0;have hb0:=(Below.refl w.heap.size w).drew;clear BK BW BE
  go_region_held3 (fun w'=>(∀ x,w'.cell? ⟨bw,x,none⟩=#[.slice A xs.length c][x]?)∧(∀ x,w'.cell? ⟨be,x,none⟩=#[.slice (some ⟨ob,oo,none⟩) N oc][x]?)∧(∀ x,w'.cell? ⟨bk,x,none⟩=#[.bool k.1.1,.int .i64 (k.1.2:Int),.int .i64 (k.2.1:Int),.int .i64 (k.2.2:Int)][x]?)∧Below w.heap.size w w') (exact SO.out _ (by assumption)) (first
   | (go_at_call 99; (with_reducible refine (HN.out _ (by assumption)).mono ?_); rintro ee wn ⟨rfl,hbn⟩; have hbm:Below w.heap.size w wn:=Below.via (by assumption) hbn))
  have HMn:=Lib.hid (HM.out.via hbm);have HBM:=Lib.hid hbm;clear hbn hb0 hbm;cases hsf:someF (dOf xs E) (s::l) i k.2.2 with
  | false =>
   have HSF:=Lib.hid hsf;clear hsf q3;go_wp2_with fail;refine bodyPost_end (v:=.tuple #[]) (by simp [results,Tryz.results129]) rfl ⟨⟨_,rfl⟩,v,?_,Agr.below HBM.out,HBM.out.size,Or.inl rfl⟩;rw [ways_nil HSF.out,List.map_nil,List.append_nil];exact HMn.out
  | true =>
   clear hsf q1 q2 q3;obtain ⟨y1,hy1⟩:∃ y1,y1=reachM xs E [s] i:=⟨_,rfl⟩;have hy1l:y1 < 8192:=(by have:=reachM_lt hbE hi [s]; rw [← hy1] at this; omega)
   have HY1B:=Lib.hid (show ∀ p,y1.testBit p=dOf xs E (s,i,p) from fun p=>by
    rw [hy1,reach_iff hsup (by omega) [s] hi p]
    exact Bool.eq_iff_iff.2 ⟨fun h=>by
     obtain ⟨q,h1,h2,h3,h4⟩:=some_iff.1 h;simp only [someF,decide_eq_true_eq] at h4
     subst h4; exact h3,fun h=>some_iff.2 ⟨p,(dOf_le hsup h).1,Nat.le_refl _,h,by simp [someF]⟩⟩)
   have HL1:=Lib.hid (HL.out.take (k:=1) (by omega));have HY1:=Lib.hid hy1;have hmd:=HL.out.le;have hb1:=(Below.refl wn.heap.size wn).drew;have BW:=HMn.out.wb;have BE:=HMn.out.eb;have SO1:=Lib.hid (show ∀ w',Below wn.heap.size wn w'→((∀ x,w'.cell? ⟨bw,x,none⟩=#[.slice A xs.length c][x]?)∧(∀ x,w'.cell? ⟨be,x,none⟩=#[.slice (some ⟨ob,oo,none⟩) N oc][x]?)∧Below wn.heap.size wn w') from fun w' hb=>⟨(BW.via hb).cell,(BE.via hb).cell,hb⟩)
   have HN1:=Lib.hid (show ∀ w',Below wn.heap.size wn w'→Calls Tryz.prog 99 #[.slice A xs.length c,.slice (some ⟨ob,oo,none⟩) N oc,.slice B 1 d,.int .i64 (i:Int)] w' (ReachP w' y1) from fun w' hb=>by
    rw [HY1.out]
    exact reach_v (fun b=>b < W0.heap.size) A xs.length c ob oo N oc rb ro rc E B 1 d i xs [s] w' (hx.via (HMn.out.bel.via hb)) (hE.via (HMn.out.bel.via hb)) (HL1.out.via (HMn.out.bel.via hb)) (fun t ht hf=>HS.out t (by simp at ht; simp [ht]) hf) hi hn (by omega) hbE (hT.via (HMn.out.bel.via hb)))
   clear BW BE hy1;go_upto_region 4 with fail;have hd1:(1:Int)≤(d:Int):=(by omega)
   go_region_held3 (fun w'=>(∀ x,w'.cell? ⟨bw,x,none⟩=#[.slice A xs.length c][x]?)∧(∀ x,w'.cell? ⟨be,x,none⟩=#[.slice (some ⟨ob,oo,none⟩) N oc][x]?)∧Below wn.heap.size wn w') (exact SO1.out _ (by assumption)) (first
    | (go_at_call 99; (with_reducible refine (HN1.out _ (by assumption)).mono ?_); rintro ee wz ⟨rfl,hbn⟩; have hbm:Below wn.heap.size wn wz:=Below.via (by assumption) hbn))
   have HMz:=Lib.hid (HMn.out.via hbm);have HAz:=Lib.hid ((Agr.below (ok:=fun b=>b≠bo∧some b≠v.ownBlock) HBM.out).trans (Agr.below hbm));have HZz:=Lib.hid (Nat.le_trans HBM.out.size hbm.size);clear hbn hb1 hbm HMn HN1 SO1 HN SO HBM;go_wp2_with fail
   go_loopw [12] (fun a wr=>∃ (z:Nat) (v':Value) (dn:List (List Ky)),a=.int .u32 z∧z < 8192∧Hid (PkM W0 wr fid bk bo bi bw be bf k rn A xs.length c ob oo N oc base v' (out++dn.map fun p=>(rn,ks++p))∧dn++(bitsL z).flatMap (fun p=>if p≤k.2.2 then (waysF (dOf xs E) l p k.2.2).map ((s,i,p)::·) else [])=waysF (dOf xs E) (s::l) i k.2.2∧(∀ p,z.testBit p=true→dOf xs E (s,i,p)=true)∧Agr (fun b=>b≠bo∧some b≠v.ownBlock) w wr∧w.heap.size≤wr.heap.size∧(v'.ownBlock=v.ownBlock∨∀ b,v'.ownBlock=some b→w.heap.size≤b))) (fun a _=>(intOf a).toNat)
   case atStart =>
    refine ⟨y1,v,[],rfl,hy1l,Lib.hid ⟨by simpa using HMz.out,?_,fun p hp=>by rw [← HY1B.out]; exact hp,HAz.out,HZz.out,Or.inl rfl⟩⟩;rw [List.nil_append];exact ways_bits HY1B.out (fun p h=>(dOf_le hsup h).1) (by omega) (by omega)
   case round =>
    obtain ⟨z,v',dn,rfl,hz,HR⟩:=hrel;clear HMz HAz HZz
    by_cases hz0:z=0
    ·have e0:((z:Int)==0)=true:=(by simp [hz0]);have HZ0:=Lib.hid hz0;clear hz0;go_wp2_with fail;refine bodyPost_end (v:=.tuple #[]) (by simp [results,Tryz.results129]) rfl ⟨⟨_,rfl⟩,v',?_,HR.out.2.2.2.1,HR.out.2.2.2.2.1,HR.out.2.2.2.2.2⟩;have h2:=HR.out.2.1;rw [HZ0.out,bitsL_zero] at h2;simp only [List.flatMap_nil,List.append_nil] at h2;rw [← h2];exact HR.out.1
    ·have e0:((z:Int)==0)=false:=(by simp; omega);obtain ⟨p,hp,hp32,hlow,hbit⟩:=low_bit hz0 (by omega);have hbl:=bitsL_step hz0 (by omega);rw [← hp] at hbl;have hDp:=HR.out.2.2.1 p ((hbit p).2 (Or.inl rfl));have hpn:=dOf_le hsup hDp;simp only at hpn;have a1:IntKind.u32.wrap ((z:Int) - 1)=((z - 1:Nat):Int):=(by rw [IntKind.wrap_u32']; omega);have a1':((z:Int) - 1) % 4294967296=((z - 1:Nat):Int):=(by omega);have a2:bits .and .u32 (z:Int) ((z - 1:Nat):Int)=((z &&& (z - 1):Nat):Int):=u32_and_nat _ _ (by omega) (by omega);obtain ⟨z2,hz2⟩:∃ z2,z2=z &&& (z - 1):=⟨_,rfl⟩;rw [← hz2] at hlow hbit hbl a2;have HBL:=Lib.hid hbl;have HBT:=Lib.hid (show ∀ q,z2.testBit q=true→dOf xs E (s,i,q)=true from fun q hq=>HR.out.2.2.1 q ((hbit q).2 (Or.inr hq)));have HZ2:=Lib.hid hz2;clear hbl hbit hDp hz2;have BK:=HR.out.1.kb;simp only [kyC] at BK;go_wp2_with fail;refine (tz_c z (by omega) wr (hT.via HR.out.1.bel)).mono ?_;rintro e wt ⟨rfl,hwt⟩;have hwt:=hwt.symm;subst hwt;rw [← hp];clear hp;have p0:(0:Int)≤(p:Int):=(by omega)
     by_cases hpj:p≤k.2.2
     ·have e1:(p:Int)≤(k.2.2:Int):=(by omega);have cBK:=BK.cell;have fBK:=BK.frozen;have lBK:=BK.lt;go_upto_region 9 with fail;clear cBK fBK lBK;obtain ⟨b2,o2,s1,s2,rfl,hob2,hb2,hs1,hs2,hc2⟩:=HL.out.at_ hm1;have hs12:s1=s2:=hs2;obtain rfl:s=s2:=(by simpa using hs1);subst hs12;have d0:=(HR.out.1.bel.cell (p:=⟨b2,o2+0*SyE.k+0,none⟩) hb2).trans (hc2 0 _ rfl);have d1:=(HR.out.1.bel.cell (p:=⟨b2,o2+0*SyE.k+1,none⟩) hb2).trans (hc2 1 _ rfl);simp only [SyE,Nat.zero_mul,Nat.add_zero] at d0 d1;have HTL:=Lib.hid (HL.out.tailK (l:=1) (by omega));have hbr:=(Below.refl wr.heap.size wr).drew;have BF:=HR.out.1.fb;have SO:=Lib.hid (show ∀ w',Below wr.heap.size wr w'→((∀ x,w'.cell? ⟨bf,x,none⟩=#[.func (.func fid) #[] #[.pointer (some ⟨bk,0,none⟩),.pointer (some ⟨bo,0,none⟩),.pointer (some ⟨bi,0,none⟩),.pointer (some ⟨bw,0,none⟩),.pointer (some ⟨be,0,none⟩),.pointer (some ⟨bf,0,none⟩)]][x]?)∧w'.cell? ⟨b2,o2,none⟩=some (.bool s1.1)∧w'.cell? ⟨b2,o2+1,none⟩=some (.int .i64 (s1.2:Int))) from fun w' hb=>⟨(BF.via hb).cell,(hb.cell (World.block_lt_of_cell? _ _ d0)).trans d0,(hb.cell (World.block_lt_of_cell? _ _ d1)).trans d1⟩);have HD0:=Lib.hid (hc2 0 _ rfl);have HD1:=Lib.hid (hc2 1 _ rfl);have HD2:=Lib.hid hb2;have HKN:=Lib.hid (show ks.length=kn from HK.out.len)
      have HLN:=Lib.hid (show (out++dn.map fun p=>(rn,ks++p)).length+(waysF (dOf xs E) l p k.2.2).length≤1000000 by
       have h1:=HLE.out;have h2:=HR.out.2.1;rw [HBL.out,List.flatMap_cons,if_pos hpj] at h2;rw [← h2] at h1;simp only [List.length_append,List.length_map] at h1 ⊢
       omega)
      have HKR:=Lib.hid ((HK.out.agr HR.out.2.2.2.1).via hbr);have hkn:kn≤1000000:=(by have:=HKN.out; simp at hkl; omega);clear hc2 hs1 hs2 hb2 hob2 BF d0 d1 e0 e1;have hHeld:=SO.out _ hbr;have m0:(0:Int) < (m:Int):=(by omega);have m1:(1:Int)≤(m:Int):=(by omega);have hmd2:=HL.out.le
      by_cases hdd:d=1
      ·subst hdd
       have HTT:=Lib.hid (show Sl SyE (fun b=>b < W0.heap.size) W0 (some ⟨b2,o2,none⟩) 0 0 l from by
        have:=HTL.out;rw [show m - 1=0 by omega] at this
        simpa using this)
       clear HTL;refine wp_region_noPanic ?_;refine wp_region_held_drew (S:=fun w'=>(∀ x,w'.cell? ⟨bf,x,none⟩=#[.func (.func fid) #[] #[.pointer (some ⟨bk,0,none⟩),.pointer (some ⟨bo,0,none⟩),.pointer (some ⟨bi,0,none⟩),.pointer (some ⟨bw,0,none⟩),.pointer (some ⟨be,0,none⟩),.pointer (some ⟨bf,0,none⟩)]][x]?)∧w'.cell? ⟨b2,o2,none⟩=some (.bool s1.1)∧w'.cell? ⟨b2,o2+1,none⟩=some (.int .i64 (s1.2:Int))) (by kernel_rfl) hHeld (fun hHeld=>?_);refine tkH 0 56 ?_;refine tkH 1 57 ?_;refine tkH 2 58 ?_;refine tkH 3 59 ?_;refine tkH 4 60 ?_;refine tkH 6 62 ?_;refine tkH 7 63 ?_;refine tkH 8 64 ?_;refine tkH 9 65 ?_;refine tkH 10 66 ?_;refine tkH 11 67 ?_;refine wpAnyH_ready (rs:=[5,12]) (by kernel_rfl) (by simp) ?_;refine AllReadyH.cons rfl (fun K hK=>?_) (AllReadyH.cons rfl (fun K hK=>?_) AllReadyH.nil)
       ·go_simp
        go_at_call 130
        refine (cloneKy_c (fun b=>b≠bo∧some b≠v.ownBlock) KA kn kc ks wr.drew HKR.out hkn).mono ?_;rintro e w1 ⟨KB,kd,rfl,hoc,hb1⟩;have hb1':=hbr.via hb1;dsimp only;go_wp2_with fail;refine hK.out _ _ (SO.out _ hb1') (fun hHeld2=>?_);clear hK K;try simp only [Act.put,List.setIfInBounds_toArray,List.set_cons_zero,List.set_cons_succ]
        refine wpAnyH_ready (rs:=[12]) (by kernel_rfl) (by simp) ?_;refine AllReadyH.cons rfl (fun K hK=>?_) AllReadyH.nil;go_simp;have hal:=(Below.refl w1.heap.size w1).al (.cells #[.bool s1.1,.int .i64 (s1.2:Int),.int .i64 (i:Int),.int .i64 (p:Int)] 173);refine hK.out _ _ (SO.out _ (hb1'.via hal)) (fun hHeld3=>?_);clear hK K;try simp only [Act.put,List.setIfInBounds_toArray,List.set_cons_zero,List.set_cons_succ]
        have HOC:=Lib.hid (hoc.via hal);have HBW:=Lib.hid (hb1'.via hal);have BKY:=Lib.hid (Blk.new w1 173 #[.bool s1.1,.int .i64 (s1.2:Int),.int .i64 (i:Int),.int .i64 (p:Int)]);have HZ3:=Lib.hid (show wr.drew.heap.size≤(w1.alloc (.cells #[.bool s1.1,.int .i64 (s1.2:Int),.int .i64 (i:Int),.int .i64 (p:Int)] 173)).heap.size from Nat.le_trans hb1.size hal.size);have HW3:=Lib.hid (show wr.heap.size≤wr.drew.heap.size by simp);clear hoc hb1 hal hb1';refine wpAnyH_ready (rs:=[13]) (by kernel_rfl) (by simp) ?_;refine AllReadyH.cons rfl (fun K hK=>?_) AllReadyH.nil;have hkn1:kn+1≤1000000:=(by have:=HKN.out; simp at hkl; omega);refine step_append_ky _ rfl (.tmp 61) (.tmp 68) rfl (fun _=>True) wr.drew.heap.size (.slice KB kn kd) kn ks rfl (own_ky HOC.out) w1.heap.size (s1,i,p) (s1,i,p) rfl BKY.out rfl hkn1 HZ3.out ?_;intro Ak ck w4 ho4 hg4 hat4;have HB4:=Lib.hid (HBW.out.grown hg4 HBW.out.size (fun b e=>Nat.le_trans HW3.out (HOC.out.lt b e).1));refine hK.out _ _ (SO.out _ HB4.out) (fun hHeld4=>?_);clear hK K;try dsimp only [Act.put]
        refine wpAnyH_ready (rs:=[14]) (by kernel_rfl) (by simp) ?_;refine AllReadyH.cons rfl (fun K hK=>?_) AllReadyH.nil
        have HSK:=Lib.hid ((own_ky (ok':=fun b=>wr.heap.size≤b) ho4).toSl (ok':=fun b=>b≠bo∧some b≠v'.ownBlock) (fun b _ hb=>⟨by have h1:=HR.out.1.lt; have h2:=HR.out.1.ge; omega,fun e=>by have:=(HR.out.1.own.lt b e.symm).2; omega⟩) (fun b hb=>by
         have hb2:=Nat.le_trans HW3.out hb
         exact ⟨by have h1:=HR.out.1.lt; have h2:=HR.out.1.ge; omega,fun e=>by have:=(HR.out.1.own.lt b e.symm).2; omega⟩))
        clear ho4 hg4 hat4;go_simp;refine (HIH.out w4 (some ⟨b2,o2,none⟩) 0 0 p Ak (kn+1) ck (ks++[(s1,i,p)]) v' (out++dn.map fun p=>(rn,ks++p)) (fun t ht=>HS.out t (by simp [ht])) hpn.2 HTT.out HSK.out HLN.out (by simp at hkl ⊢; omega) (HR.out.1.via HB4.out)).mono ?_;rintro e w5 ⟨⟨u,rfl⟩,v5,hM5,hag5,hz5,hob5⟩;dsimp only;go_wp2_with fail;refine hK.out _ _ ⟨hM5.fb.cell,(hM5.bel.cell HD2.out).trans HD0.out,(hM5.bel.cell HD2.out).trans HD1.out⟩ (fun hHeld5=>?_);clear hK K;try simp only [Act.put,List.setIfInBounds_toArray,List.set_cons_zero,List.set_cons_succ]
        refine wpAnyH_done (by kernel_rfl) ?_ _;refine NoPanic.normal ?_;have HM5:=Lib.hid hM5;have HAG5:=Lib.hid hag5;have HZ5:=Lib.hid (Nat.le_trans HR.out.2.2.2.2.1 (Nat.le_trans HB4.out.size hz5));have HOB5:=Lib.hid hob5;clear hM5 hag5 hz5 hob5 hHeld hHeld2 hHeld3 hHeld4 hHeld5 SO;go_wp2_with fail;refine ⟨⟨z2,v5,dn++(waysF (dOf xs E) l p k.2.2).map ((s1,i,p)::·),rfl,by omega,Lib.hid ⟨?_,?_,HBT.out,?_,HZ5.out,?_⟩⟩,by simp [intOf]; omega⟩
        ·have h:=HM5.out
         simpa [List.map_append,List.append_assoc,Function.comp_def] using h
        ·have h2:=HR.out.2.1;rw [HBL.out,List.flatMap_cons,if_pos hpj] at h2;rw [List.append_assoc]; exact h2
        ·intro b hb hlt
         have hne:some b≠v'.ownBlock:=fun e=>by
          rcases HR.out.2.2.2.2.2 with h | h
          ·exact hb.2 (e.trans h)
          ·have:=h b e.symm; omega
         have h1:=HR.out.2.2.2.1 b hb hlt;have h2:=HB4.out.block b (Nat.lt_of_lt_of_le hlt HR.out.2.2.2.2.1);have h3:=HAG5.out b ⟨hb.1,hne⟩ (Nat.lt_of_lt_of_le hlt (Nat.le_trans HR.out.2.2.2.2.1 HB4.out.size));exact h3.trans (h2.trans h1)
        ·rcases HOB5.out with h | h
         ·rw [h]; exact HR.out.2.2.2.2.2
         ·exact Or.inr fun b e=>Nat.le_trans HR.out.2.2.2.2.1 (Nat.le_trans HB4.out.size (h b e))
       ·go_simp;have hal:=hbr.via ((Below.refl wr.drew.heap.size wr.drew).al (.cells #[.bool s1.1,.int .i64 (s1.2:Int),.int .i64 (i:Int),.int .i64 (p:Int)] 173));refine hK.out _ _ (SO.out _ hal) (fun hHeld2=>?_);clear hK K;try simp only [Act.put,List.setIfInBounds_toArray,List.set_cons_zero,List.set_cons_succ]
        have bky:=Blk.new wr.drew 173 #[.bool s1.1,.int .i64 (s1.2:Int),.int .i64 (i:Int),.int .i64 (p:Int)];have HKR2:=Lib.hid (HKR.out.al (.cells #[.bool s1.1,.int .i64 (s1.2:Int),.int .i64 (i:Int),.int .i64 (p:Int)] 173));refine wpAnyH_ready (rs:=[5]) (by kernel_rfl) (by simp) ?_;refine AllReadyH.cons rfl (fun K hK=>?_) AllReadyH.nil;go_simp
        go_at_call 130
        refine (cloneKy_c (fun b=>b≠bo∧some b≠v.ownBlock) KA kn kc ks _ HKR2.out hkn).mono ?_;rintro e w1 ⟨KB,kd,rfl,hoc,hb1⟩;have hb1':=hal.via hb1;dsimp only;go_wp2_with fail;refine hK.out _ _ (SO.out _ hb1') (fun hHeld3=>?_);clear hK K;try simp only [Act.put,List.setIfInBounds_toArray,List.set_cons_zero,List.set_cons_succ]
        have HOC:=Lib.hid hoc;have HBW:=Lib.hid hb1';have BKY:=Lib.hid (bky.via hb1);have HZ3:=Lib.hid hb1.size;have HW3:=Lib.hid hal.size;clear hoc hb1 hal hb1' bky;refine wpAnyH_ready (rs:=[13]) (by kernel_rfl) (by simp) ?_;refine AllReadyH.cons rfl (fun K hK=>?_) AllReadyH.nil;have hkn1:kn+1≤1000000:=(by have:=HKN.out; simp at hkl; omega);refine step_append_ky _ rfl (.tmp 61) (.tmp 68) rfl (fun _=>True) (wr.drew.alloc (.cells #[.bool s1.1,.int .i64 (s1.2:Int),.int .i64 (i:Int),.int .i64 (p:Int)] 173)).heap.size (.slice KB kn kd) kn ks rfl (own_ky HOC.out) wr.drew.heap.size (s1,i,p) (s1,i,p) rfl BKY.out rfl hkn1 HZ3.out ?_;intro Ak ck w4 ho4 hg4 hat4;have HB4:=Lib.hid (HBW.out.grown hg4 HBW.out.size (fun b e=>Nat.le_trans HW3.out (HOC.out.lt b e).1));refine hK.out _ _ (SO.out _ HB4.out) (fun hHeld4=>?_);clear hK K;try dsimp only [Act.put]
        refine wpAnyH_ready (rs:=[14]) (by kernel_rfl) (by simp) ?_;refine AllReadyH.cons rfl (fun K hK=>?_) AllReadyH.nil
        have HSK:=Lib.hid ((own_ky (ok':=fun b=>wr.heap.size≤b) ho4).toSl (ok':=fun b=>b≠bo∧some b≠v'.ownBlock) (fun b _ hb=>⟨by have h1:=HR.out.1.lt; have h2:=HR.out.1.ge; omega,fun e=>by have:=(HR.out.1.own.lt b e.symm).2; omega⟩) (fun b hb=>by
         have hb2:=Nat.le_trans HW3.out hb
         exact ⟨by have h1:=HR.out.1.lt; have h2:=HR.out.1.ge; omega,fun e=>by have:=(HR.out.1.own.lt b e.symm).2; omega⟩))
        clear ho4 hg4 hat4;go_simp;refine (HIH.out w4 (some ⟨b2,o2,none⟩) 0 0 p Ak (kn+1) ck (ks++[(s1,i,p)]) v' (out++dn.map fun p=>(rn,ks++p)) (fun t ht=>HS.out t (by simp [ht])) hpn.2 HTT.out HSK.out HLN.out (by simp at hkl ⊢; omega) (HR.out.1.via HB4.out)).mono ?_;rintro e w5 ⟨⟨u,rfl⟩,v5,hM5,hag5,hz5,hob5⟩;dsimp only;go_wp2_with fail;refine hK.out _ _ ⟨hM5.fb.cell,(hM5.bel.cell HD2.out).trans HD0.out,(hM5.bel.cell HD2.out).trans HD1.out⟩ (fun hHeld5=>?_);clear hK K;try simp only [Act.put,List.setIfInBounds_toArray,List.set_cons_zero,List.set_cons_succ]
        refine wpAnyH_done (by kernel_rfl) ?_ _;refine NoPanic.normal ?_;have HM5:=Lib.hid hM5;have HAG5:=Lib.hid hag5;have HZ5:=Lib.hid (Nat.le_trans HR.out.2.2.2.2.1 (Nat.le_trans HB4.out.size hz5));have HOB5:=Lib.hid hob5;clear hM5 hag5 hz5 hob5 hHeld hHeld2 hHeld3 hHeld4 hHeld5 SO;go_wp2_with fail;refine ⟨⟨z2,v5,dn++(waysF (dOf xs E) l p k.2.2).map ((s1,i,p)::·),rfl,by omega,Lib.hid ⟨?_,?_,HBT.out,?_,HZ5.out,?_⟩⟩,by simp [intOf]; omega⟩
        ·have h:=HM5.out
         simpa [List.map_append,List.append_assoc,Function.comp_def] using h
        ·have h2:=HR.out.2.1;rw [HBL.out,List.flatMap_cons,if_pos hpj] at h2;rw [List.append_assoc]; exact h2
        ·intro b hb hlt
         have hne:some b≠v'.ownBlock:=fun e=>by
          rcases HR.out.2.2.2.2.2 with h | h
          ·exact hb.2 (e.trans h)
          ·have:=h b e.symm; omega
         have h1:=HR.out.2.2.2.1 b hb hlt;have h2:=HB4.out.block b (Nat.lt_of_lt_of_le hlt HR.out.2.2.2.2.1);have h3:=HAG5.out b ⟨hb.1,hne⟩ (Nat.lt_of_lt_of_le hlt (Nat.le_trans HR.out.2.2.2.2.1 HB4.out.size));exact h3.trans (h2.trans h1)
        ·rcases HOB5.out with h | h
         ·rw [h]; exact HR.out.2.2.2.2.2
         ·exact Or.inr fun b e=>Nat.le_trans HR.out.2.2.2.2.1 (Nat.le_trans HB4.out.size (h b e))
      ·have HTT:=Lib.hid (show Sl SyE (fun b=>b < W0.heap.size) W0 (some ⟨b2,o2+2,none⟩) (m - 1) (d - 1) l from by
        have:=HTL.out;rw [if_neg hdd] at this
        simpa [SyE,Addr.add] using this)
       clear HTL;refine wp_region_noPanic ?_;refine wp_region_held_drew (S:=fun w'=>(∀ x,w'.cell? ⟨bf,x,none⟩=#[.func (.func fid) #[] #[.pointer (some ⟨bk,0,none⟩),.pointer (some ⟨bo,0,none⟩),.pointer (some ⟨bi,0,none⟩),.pointer (some ⟨bw,0,none⟩),.pointer (some ⟨be,0,none⟩),.pointer (some ⟨bf,0,none⟩)]][x]?)∧w'.cell? ⟨b2,o2,none⟩=some (.bool s1.1)∧w'.cell? ⟨b2,o2+1,none⟩=some (.int .i64 (s1.2:Int))) (by kernel_rfl) hHeld (fun hHeld=>?_);refine tkH 0 56 ?_;refine tkH 1 57 ?_;refine tkH 2 58 ?_;refine tkH 3 59 ?_;refine tkH 4 60 ?_;refine tkH 6 62 ?_;refine tkH 7 63 ?_;refine tkH 8 64 ?_;refine tkH 9 65 ?_;refine tkH 10 66 ?_;refine tkH 11 67 ?_;refine wpAnyH_ready (rs:=[5,12]) (by kernel_rfl) (by simp) ?_;refine AllReadyH.cons rfl (fun K hK=>?_) (AllReadyH.cons rfl (fun K hK=>?_) AllReadyH.nil)
       ·go_simp
        go_at_call 130
        refine (cloneKy_c (fun b=>b≠bo∧some b≠v.ownBlock) KA kn kc ks wr.drew HKR.out hkn).mono ?_;rintro e w1 ⟨KB,kd,rfl,hoc,hb1⟩;have hb1':=hbr.via hb1;dsimp only;go_wp2_with fail;refine hK.out _ _ (SO.out _ hb1') (fun hHeld2=>?_);clear hK K;try simp only [Act.put,List.setIfInBounds_toArray,List.set_cons_zero,List.set_cons_succ]
        refine wpAnyH_ready (rs:=[12]) (by kernel_rfl) (by simp) ?_;refine AllReadyH.cons rfl (fun K hK=>?_) AllReadyH.nil;go_simp;have hal:=(Below.refl w1.heap.size w1).al (.cells #[.bool s1.1,.int .i64 (s1.2:Int),.int .i64 (i:Int),.int .i64 (p:Int)] 173);refine hK.out _ _ (SO.out _ (hb1'.via hal)) (fun hHeld3=>?_);clear hK K;try simp only [Act.put,List.setIfInBounds_toArray,List.set_cons_zero,List.set_cons_succ]
        have HOC:=Lib.hid (hoc.via hal);have HBW:=Lib.hid (hb1'.via hal);have BKY:=Lib.hid (Blk.new w1 173 #[.bool s1.1,.int .i64 (s1.2:Int),.int .i64 (i:Int),.int .i64 (p:Int)]);have HZ3:=Lib.hid (show wr.drew.heap.size≤(w1.alloc (.cells #[.bool s1.1,.int .i64 (s1.2:Int),.int .i64 (i:Int),.int .i64 (p:Int)] 173)).heap.size from Nat.le_trans hb1.size hal.size);have HW3:=Lib.hid (show wr.heap.size≤wr.drew.heap.size by simp);clear hoc hb1 hal hb1';refine wpAnyH_ready (rs:=[13]) (by kernel_rfl) (by simp) ?_;refine AllReadyH.cons rfl (fun K hK=>?_) AllReadyH.nil;have hkn1:kn+1≤1000000:=(by have:=HKN.out; simp at hkl; omega);refine step_append_ky _ rfl (.tmp 61) (.tmp 68) rfl (fun _=>True) wr.drew.heap.size (.slice KB kn kd) kn ks rfl (own_ky HOC.out) w1.heap.size (s1,i,p) (s1,i,p) rfl BKY.out rfl hkn1 HZ3.out ?_;intro Ak ck w4 ho4 hg4 hat4;have HB4:=Lib.hid (HBW.out.grown hg4 HBW.out.size (fun b e=>Nat.le_trans HW3.out (HOC.out.lt b e).1));refine hK.out _ _ (SO.out _ HB4.out) (fun hHeld4=>?_);clear hK K;try dsimp only [Act.put]
        refine wpAnyH_ready (rs:=[14]) (by kernel_rfl) (by simp) ?_;refine AllReadyH.cons rfl (fun K hK=>?_) AllReadyH.nil
        have HSK:=Lib.hid ((own_ky (ok':=fun b=>wr.heap.size≤b) ho4).toSl (ok':=fun b=>b≠bo∧some b≠v'.ownBlock) (fun b _ hb=>⟨by have h1:=HR.out.1.lt; have h2:=HR.out.1.ge; omega,fun e=>by have:=(HR.out.1.own.lt b e.symm).2; omega⟩) (fun b hb=>by
         have hb2:=Nat.le_trans HW3.out hb
         exact ⟨by have h1:=HR.out.1.lt; have h2:=HR.out.1.ge; omega,fun e=>by have:=(HR.out.1.own.lt b e.symm).2; omega⟩))
        clear ho4 hg4 hat4;go_simp;refine (HIH.out w4 (some ⟨b2,o2+2,none⟩) (m - 1) (d - 1) p Ak (kn+1) ck (ks++[(s1,i,p)]) v' (out++dn.map fun p=>(rn,ks++p)) (fun t ht=>HS.out t (by simp [ht])) hpn.2 HTT.out HSK.out HLN.out (by simp at hkl ⊢; omega) (HR.out.1.via HB4.out)).mono ?_;rintro e w5 ⟨⟨u,rfl⟩,v5,hM5,hag5,hz5,hob5⟩;dsimp only;go_wp2_with fail;refine hK.out _ _ ⟨hM5.fb.cell,(hM5.bel.cell HD2.out).trans HD0.out,(hM5.bel.cell HD2.out).trans HD1.out⟩ (fun hHeld5=>?_);clear hK K;try simp only [Act.put,List.setIfInBounds_toArray,List.set_cons_zero,List.set_cons_succ]
        refine wpAnyH_done (by kernel_rfl) ?_ _;refine NoPanic.normal ?_;have HM5:=Lib.hid hM5;have HAG5:=Lib.hid hag5;have HZ5:=Lib.hid (Nat.le_trans HR.out.2.2.2.2.1 (Nat.le_trans HB4.out.size hz5));have HOB5:=Lib.hid hob5;clear hM5 hag5 hz5 hob5 hHeld hHeld2 hHeld3 hHeld4 hHeld5 SO;go_wp2_with fail;refine ⟨⟨z2,v5,dn++(waysF (dOf xs E) l p k.2.2).map ((s1,i,p)::·),rfl,by omega,Lib.hid ⟨?_,?_,HBT.out,?_,HZ5.out,?_⟩⟩,by simp [intOf]; omega⟩
        ·have h:=HM5.out
         simpa [List.map_append,List.append_assoc,Function.comp_def] using h
        ·have h2:=HR.out.2.1;rw [HBL.out,List.flatMap_cons,if_pos hpj] at h2;rw [List.append_assoc]; exact h2
        ·intro b hb hlt
         have hne:some b≠v'.ownBlock:=fun e=>by
          rcases HR.out.2.2.2.2.2 with h | h
          ·exact hb.2 (e.trans h)
          ·have:=h b e.symm; omega
         have h1:=HR.out.2.2.2.1 b hb hlt;have h2:=HB4.out.block b (Nat.lt_of_lt_of_le hlt HR.out.2.2.2.2.1);have h3:=HAG5.out b ⟨hb.1,hne⟩ (Nat.lt_of_lt_of_le hlt (Nat.le_trans HR.out.2.2.2.2.1 HB4.out.size));exact h3.trans (h2.trans h1)
        ·rcases HOB5.out with h | h
         ·rw [h]; exact HR.out.2.2.2.2.2
         ·exact Or.inr fun b e=>Nat.le_trans HR.out.2.2.2.2.1 (Nat.le_trans HB4.out.size (h b e))
       ·go_simp;have hal:=hbr.via ((Below.refl wr.drew.heap.size wr.drew).al (.cells #[.bool s1.1,.int .i64 (s1.2:Int),.int .i64 (i:Int),.int .i64 (p:Int)] 173));refine hK.out _ _ (SO.out _ hal) (fun hHeld2=>?_);clear hK K;try simp only [Act.put,List.setIfInBounds_toArray,List.set_cons_zero,List.set_cons_succ]
        have bky:=Blk.new wr.drew 173 #[.bool s1.1,.int .i64 (s1.2:Int),.int .i64 (i:Int),.int .i64 (p:Int)];have HKR2:=Lib.hid (HKR.out.al (.cells #[.bool s1.1,.int .i64 (s1.2:Int),.int .i64 (i:Int),.int .i64 (p:Int)] 173));refine wpAnyH_ready (rs:=[5]) (by kernel_rfl) (by simp) ?_;refine AllReadyH.cons rfl (fun K hK=>?_) AllReadyH.nil;go_simp
        go_at_call 130
        refine (cloneKy_c (fun b=>b≠bo∧some b≠v.ownBlock) KA kn kc ks _ HKR2.out hkn).mono ?_;rintro e w1 ⟨KB,kd,rfl,hoc,hb1⟩;have hb1':=hal.via hb1;dsimp only;go_wp2_with fail;refine hK.out _ _ (SO.out _ hb1') (fun hHeld3=>?_);clear hK K;try simp only [Act.put,List.setIfInBounds_toArray,List.set_cons_zero,List.set_cons_succ]
        have HOC:=Lib.hid hoc;have HBW:=Lib.hid hb1';have BKY:=Lib.hid (bky.via hb1);have HZ3:=Lib.hid hb1.size;have HW3:=Lib.hid hal.size;clear hoc hb1 hal hb1' bky;refine wpAnyH_ready (rs:=[13]) (by kernel_rfl) (by simp) ?_;refine AllReadyH.cons rfl (fun K hK=>?_) AllReadyH.nil;have hkn1:kn+1≤1000000:=(by have:=HKN.out; simp at hkl; omega);refine step_append_ky _ rfl (.tmp 61) (.tmp 68) rfl (fun _=>True) (wr.drew.alloc (.cells #[.bool s1.1,.int .i64 (s1.2:Int),.int .i64 (i:Int),.int .i64 (p:Int)] 173)).heap.size (.slice KB kn kd) kn ks rfl (own_ky HOC.out) wr.drew.heap.size (s1,i,p) (s1,i,p) rfl BKY.out rfl hkn1 HZ3.out ?_;intro Ak ck w4 ho4 hg4 hat4;have HB4:=Lib.hid (HBW.out.grown hg4 HBW.out.size (fun b e=>Nat.le_trans HW3.out (HOC.out.lt b e).1));refine hK.out _ _ (SO.out _ HB4.out) (fun hHeld4=>?_);clear hK K;try dsimp only [Act.put]
        refine wpAnyH_ready (rs:=[14]) (by kernel_rfl) (by simp) ?_;refine AllReadyH.cons rfl (fun K hK=>?_) AllReadyH.nil
        have HSK:=Lib.hid ((own_ky (ok':=fun b=>wr.heap.size≤b) ho4).toSl (ok':=fun b=>b≠bo∧some b≠v'.ownBlock) (fun b _ hb=>⟨by have h1:=HR.out.1.lt; have h2:=HR.out.1.ge; omega,fun e=>by have:=(HR.out.1.own.lt b e.symm).2; omega⟩) (fun b hb=>by
         have hb2:=Nat.le_trans HW3.out hb
         exact ⟨by have h1:=HR.out.1.lt; have h2:=HR.out.1.ge; omega,fun e=>by have:=(HR.out.1.own.lt b e.symm).2; omega⟩))
        clear ho4 hg4 hat4;go_simp;refine (HIH.out w4 (some ⟨b2,o2+2,none⟩) (m - 1) (d - 1) p Ak (kn+1) ck (ks++[(s1,i,p)]) v' (out++dn.map fun p=>(rn,ks++p)) (fun t ht=>HS.out t (by simp [ht])) hpn.2 HTT.out HSK.out HLN.out (by simp at hkl ⊢; omega) (HR.out.1.via HB4.out)).mono ?_;rintro e w5 ⟨⟨u,rfl⟩,v5,hM5,hag5,hz5,hob5⟩;dsimp only;go_wp2_with fail;refine hK.out _ _ ⟨hM5.fb.cell,(hM5.bel.cell HD2.out).trans HD0.out,(hM5.bel.cell HD2.out).trans HD1.out⟩ (fun hHeld5=>?_);clear hK K;try simp only [Act.put,List.setIfInBounds_toArray,List.set_cons_zero,List.set_cons_succ]
        refine wpAnyH_done (by kernel_rfl) ?_ _;refine NoPanic.normal ?_;have HM5:=Lib.hid hM5;have HAG5:=Lib.hid hag5;have HZ5:=Lib.hid (Nat.le_trans HR.out.2.2.2.2.1 (Nat.le_trans HB4.out.size hz5));have HOB5:=Lib.hid hob5;clear hM5 hag5 hz5 hob5 hHeld hHeld2 hHeld3 hHeld4 hHeld5 SO;go_wp2_with fail;refine ⟨⟨z2,v5,dn++(waysF (dOf xs E) l p k.2.2).map ((s1,i,p)::·),rfl,by omega,Lib.hid ⟨?_,?_,HBT.out,?_,HZ5.out,?_⟩⟩,by simp [intOf]; omega⟩
        ·have h:=HM5.out
         simpa [List.map_append,List.append_assoc,Function.comp_def] using h
        ·have h2:=HR.out.2.1;rw [HBL.out,List.flatMap_cons,if_pos hpj] at h2;rw [List.append_assoc]; exact h2
        ·intro b hb hlt
         have hne:some b≠v'.ownBlock:=fun e=>by
          rcases HR.out.2.2.2.2.2 with h | h
          ·exact hb.2 (e.trans h)
          ·have:=h b e.symm; omega
         have h1:=HR.out.2.2.2.1 b hb hlt;have h2:=HB4.out.block b (Nat.lt_of_lt_of_le hlt HR.out.2.2.2.2.1);have h3:=HAG5.out b ⟨hb.1,hne⟩ (Nat.lt_of_lt_of_le hlt (Nat.le_trans HR.out.2.2.2.2.1 HB4.out.size));exact h3.trans (h2.trans h1)
        ·rcases HOB5.out with h | h
         ·rw [h]; exact HR.out.2.2.2.2.2
         ·exact Or.inr fun b e=>Nat.le_trans HR.out.2.2.2.2.1 (Nat.le_trans HB4.out.size (h b e))
     ·have e1:¬ (p:Int)≤(k.2.2:Int):=(by omega);have cBK:=BK.cell;have fBK:=BK.frozen;have lBK:=BK.lt;go_wp2_with fail;refine ⟨⟨z2,v',dn,rfl,by omega,Lib.hid ⟨HR.out.1,?_,HBT.out,HR.out.2.2.2⟩⟩,by simp [intOf]; omega⟩;have h2:=HR.out.2.1;rw [HBL.out,List.flatMap_cons,if_neg hpj,List.nil_append] at h2;exact h2
end Go.Proofs.YtfcihnpmeabacaaGreatDoor
