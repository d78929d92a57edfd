/- Texts BV, laid together. -/
import Derived.Test.YtfcihnpmeabacaaGreatDoorW12
namespace Go.Proofs.YtfcihnpmeabacaaGreatDoor
open Go.RowKit
theorem in_info:(Tryz.prog.info? 3).map (fun i=>(i.zero,i.size,i.bytes))=some (some (.int .i64 0),1,8):=by kernel_rfl
theorem step_append_in {ops:Array Oper} {o:Oper} {a:Act} {K:Act→World→Prop} {Q:Exit→Act→World→Prop} {F:Prop} (w:World) (hgd:o.guard=none) (s y:Operand)
 (ho:o.op=.call { callee:=.builtin .append,args:=#[s,y],argTypes:=#[25,25] })
 (ok:Nat→Prop) (base:Nat) (v:Value) (n:Nat) (l:List Int) (hv:a.eval s=v) (hown:Own InE 3 ok w base v n l)
 (b:Nat) (r:Int) (x:Int) (hy:a.eval y=.slice (some ⟨b,0,none⟩) 1 1) (hcell:Blk w b 3 (InE.cells r).toArray) (hrel:InE.rel (fun b=>ok b∧some b≠v.ownBlock) w r x)
 (h63:n+1≤1000000) (hbase:base≤w.heap.size)
 (h:∀ A' c' w',Own InE 3 ok w' base (.slice A' (n+1) c') (n+1) (l++[x])→w.grownBy w' v.ownBlock→((Value.slice A' (n+1) c').ownBlock=v.ownBlock∨(Value.slice A' (n+1) c').ownBlock=some w.heap.size)→K (a.put o.dst (.slice A' (n+1) c')) w') :
 if Region.wanted o (yielded ops a.tmps)=true then Oper.wp Tryz.prog o a w K Q else F:=by
 obtain ⟨i,hi,hz⟩:=Option.map_eq_some_iff.1 in_info;simp only [Prod.mk.injEq] at hz;refine step_append_E (E:=InE) w hgd s y 25 3 ho i (.int .i64 0) 8 (by kernel_rfl) hi hz.1 hz.2.1 hz.2.2 rfl ok base v n l hv hown b r x hy (fun j u hu=>?_) hrel (by simp [maxLen]; omega) (by omega) hbase h;rw [hcell.cell j,List.getElem?_toArray]; exact hu
def numF (L:List Ky) (m:Nat) (k:Ky):Option Value:=if idxK L k < m then some (.int .i64 (idxK L k:Int)) else none
theorem numF_zero (L:List Ky) (k:Ky):numF L 0 k=none:=by simp [numF]
theorem idxK_at {L:List Ky} (hn:L.Nodup) {m:Nat} {k:Ky} (h:L[m]?=some k):idxK L k=m:=by
 obtain ⟨hm,he⟩:=List.getElem?_eq_some_iff.1 h;have h1:=idxK_get (List.mem_of_getElem? h);have hi:=(List.getElem?_eq_some_iff.1 h1).1
 have h2:L[idxK L k]=L[m]:=by
  rw [he]; exact (List.getElem?_eq_some_iff.1 h1).2
 exact (List.getElem_inj hn).1 h2
theorem numF_next {L:List Ky} (hn:L.Nodup) {m:Nat} {k:Ky} (h:L[m]?=some k) (z:Ky):numF L (m+1) z=if z=k then some (.int .i64 (m:Int)) else numF L m z:=by
 have hk:=idxK_at hn h
 by_cases e:z=k
 ·subst e; simp [numF,hk]
 ·rw [if_neg e]
  have hne:idxK L z≠m:=fun e2=>by
   have hm:=(List.getElem?_eq_some_iff.1 h).1;have hz:z∈L:=List.idxOf_lt_length_iff.1 (show L.idxOf z < L.length by unfold idxK at e2; omega);have:=idxK_get hz;rw [e2,h] at this;exact e (Option.some.inj this).symm
  unfold numF
  by_cases hlt:idxK L z < m
  ·rw [if_pos hlt,if_pos (by omega)]
  ·rw [if_neg hlt,if_neg (by omega)]
theorem numF_all {L:List Ky} {k:Ky} (h:k∈L):numF L L.length k=some (.int .i64 (idxK L k:Int)):=by
 unfold numF; rw [if_pos (idxK_lt h)]
theorem numF_look {L:List Ky} {b:Nat} {w:World} (h:MapK Tryz.prog 173 kyVal w b (numF L L.length)) {k:Ky} (hk:k∈L) {kl:Lit} (hkey:keyOf Tryz.prog 173 (kyVal k)=some kl) :
 (Instr.lookup 183 (.map (some b)) (kyVal k) false).run Tryz.prog w=.ok (.int .i64 (idxK L k:Int)) w:=by
 have:=h.look false key_keyed Tryz.underlying183 (z:=.int .i64 0) (by kernel_rfl) k hkey;rw [this,numF_all hk];rfl
theorem row_look {F:Ky→Option Value} {b:Nat} {w:World} (h:MapK Tryz.prog 173 kyVal w b F) {k:Ky} {V:Value} (hk:F k=some V) {kl:Lit} (hkey:keyOf Tryz.prog 173 (kyVal k)=some kl) :
 (Instr.lookup 174 (.map (some b)) (kyVal k) false).run Tryz.prog w=.ok V w:=by
 have:=h.look false key_keyed Tryz.underlying174 (z:=.slice none 0 0) (by kernel_rfl) k hkey;rw [this,hk];rfl
structure GwM {α ρ:Type} (Y:Elem α ρ) (te tb:TypeId) (cs:Value→Array Value) (W:World) (b:Nat) (v:Value) (l:List α) (wr:World):Prop where
 bel:Below b W wr
 blk:Blk wr b tb (cs v)
 own:Own Y te (fun x=>b < x) wr (b+1) v l.length l
section
variable {α ρ:Type} {Y:Elem α ρ} {te tb:TypeId} {cs:Value→Array Value} {W wr w':World} {b:Nat} {v v':Value} {l:List α} {x:α}
theorem GwM.lt (h:GwM Y te tb cs W b v l wr):b < wr.heap.size:=h.blk.lt
theorem GwM.via (h:GwM Y te tb cs W b v l wr) (hb:Below wr.heap.size wr w'):GwM Y te tb cs W b v l w':=⟨h.bel.trans (hb.mono (Nat.le_of_lt h.lt)),h.blk.via hb,h.own.via hb⟩
theorem GwM.over (h:GwM Y te tb cs W b v l wr) {c:Nat} (hc:wr.heap.size≤c) (hb:Below c wr w'):GwM Y te tb cs W b v l w':=h.via (hb.mono hc)
theorem GwM.push (h:GwM Y te tb cs W b v l wr) (ho:Own Y te (fun x=>b < x) w' (b+1) v' (l.length+1) (l++[x])) (hg:wr.grownBy w' v.ownBlock) {o:Nat} (hcs:(cs v).setIfInBounds o v'=cs v'):GwM Y te tb cs W b v' (l++[x]) (w'.setCell ⟨b,o,none⟩ v'):=by
 have hr:some b≠v.ownBlock:=fun e=>by have:=(h.own.lt b e.symm).1; omega
 refine ⟨(h.bel.grown hg (Nat.le_of_lt h.lt) (fun j e=>by have:=(h.own.lt j e).1; omega)).setCell (Nat.le_refl _) _,?_,?_⟩
 ·have:=(h.blk.grown hg hr).set_ o v';rw [hcs] at this; exact this
 ·have:=ho.setCell (p:=⟨b,o,none⟩) v' (fun y hy=>by show y≠b; omega) (by show b < b+1; omega)
  simpa using this
theorem GwM.start {n:Nat} (W:World) (o:Array Value) (hb:W.heap.size=n) (hcs:o=cs (.slice none 0 0)):GwM Y te tb cs W n (.slice none 0 0) [] (W.alloc (.cells o tb)):=by
 subst hb; subst hcs;exact ⟨(Below.refl _ _).al _,Blk.new W tb _,Own.nil _ _⟩
end
def rowI (L:List Ky) (p:Nat×List Ky):PkI:=((p.1:Int),intsN (p.2.map (idxK L)))
theorem ndI_eq (D:Ky→Bool) (R:List Ru) (L:List Ky) (k:Ky):ndI (ndF D R L k)=((k.1.1,(k.1.2:Int),(k.2.1:Int),(k.2.2:Int)),(packsF D R k).map (rowI L)):=by
 simp [ndI,ndF,rowI,List.map_map,Function.comp_def]
theorem rows_so {D:Ky→Bool} {R:List Ru} {root:Ky} {L:List Ky} (h:IsNds D R root L) {k:Ky} (hk:k∈L):SoP ((packsF D R k).map (rowI L)):=by
 have hs:=packs_sorted (D:=D) (idx:=idxK L) (P:=fun q=>q∈L) (fun a b ha hb hab=>idxK_mono h.sorted ha hb hab) (R:=R) (k:=k) (fun p hp q hq=>(h.mem q).2 (.kid ((h.mem k).1 hk) hp hq));intro i j x y hij hx hy;rw [List.getElem?_map] at hx hy;obtain ⟨p,hp,rfl⟩:=Option.map_eq_some_iff.1 hx;obtain ⟨q,hq,rfl⟩:=Option.map_eq_some_iff.1 hy;rw [List.pairwise_map] at hs;obtain ⟨hi,ei⟩:=List.getElem?_eq_some_iff.1 hp;obtain ⟨hj,ej⟩:=List.getElem?_eq_some_iff.1 hq;have h1:=List.pairwise_iff_getElem.1 hs i j hi hj hij;rw [ei,ej] at h1;simp only [pkL] at h1;rw [pkCmp_key];have h2:=cmpL_anti ((q.1:Int)::intsN (q.2.map (idxK L))) ((p.1:Int)::intsN (p.2.map (idxK L)));simp only [rowI];omega
end Go.Proofs.YtfcihnpmeabacaaGreatDoor
