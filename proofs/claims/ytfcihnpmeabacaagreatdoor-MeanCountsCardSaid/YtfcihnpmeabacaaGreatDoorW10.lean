/- Texts MF, BK, BJ, laid together. -/
import Derived.Test.YtfcihnpmeabacaaGreatDoorW1
import Derived.Test.YtfcihnpmeabacaaGreatDoorW6
import Derived.Test.YtfcihnpmeabacaaGreatDoorW9
import Derived.Maps.Keyed
import Derived.Maps.OwnOps
import Derived.DeepKeys4
namespace Go.Proofs.YtfcihnpmeabacaaGreatDoor
open Go.RowKit
open Go.MapKept
open Go.ChangeMaps (setBlock heap_setBlock_same heap_setBlock_other)
open Go.WideElems (Fit rd rg rd_key rd_mk other_key)
theorem nodup_le:∀ (N:Nat) (m:List Nat),m.Nodup→(∀ c∈m,c < N)→m.length≤N
 | 0,m,_,h=>by
  cases m with
  | nil=>simp
  | cons c m=>exact absurd (h c (List.mem_cons_self ..)) (by omega)
 | N+1,m,hn,h=>by
  have h1:=nodup_le N (m.erase N) (hn.erase N) fun c hc=>by
   have h2:=(hn.mem_erase_iff).1 hc;have:=h c h2.2;have:=h2.1;omega
  have h3:=List.length_erase (a:=N) (l:=m)
  split at h3 <;> omega
def anyElem (_:Value):Option (DataW Unit×List MemPlace):=some (.lit (.bool true),[])
def MapK {κ:Type} (P:Program) (k:TypeId) (kk:κ→Value) (w:World) (b:Nat) (f:κ→Option Value):Prop :=
 ∃ es clock,w.heap[b]?=some (.map es clock)∧Fit P k anyElem es clock∧(∀ x∈es.toList,∃ y,x.key=kk y)∧∀ y v,f y=some v↔∃ x∈es.toList,x.key=kk y∧x.val=v
section
variable {κ:Type} {P:Program} {k:TypeId} {kk:κ→Value} {w w':World} {b:Nat} {f:κ→Option Value}
theorem MapK.made (w:World) (P:Program) (k:TypeId) (kk:κ→Value):MapK P k kk (w.alloc (.map #[] 0)) w.heap.size (fun _=>none) :=
 ⟨#[],0,(MapKept.heap_alloc w _).1,⟨by simp,stamped_empty 0,by simp⟩,by simp,by simp⟩
theorem MapK.lt (h:MapK P k kk w b f):b < w.heap.size:=by
 obtain ⟨es,clock,hb,_⟩:=h;exact (Array.getElem?_eq_some_iff.1 hb).1
theorem MapK.agr_ (h:MapK P k kk w b f) (e:w'.heap[b]?=w.heap[b]?):MapK P k kk w' b f:=by
 obtain ⟨es,clock,hb,r⟩:=h;exact ⟨es,clock,e.trans hb,r⟩
theorem MapK.via (h:MapK P k kk w b f) (hb:Below w.heap.size w w'):MapK P k kk w' b f:=h.agr_ (hb.block b h.lt)
theorem MapK.al (h:MapK P k kk w b f) (o:Obj):MapK P k kk (w.alloc o) b f:=h.agr_ (Below.heap_alloc w o b h.lt)
theorem MapK.dr (h:MapK P k kk w b f):MapK P k kk w.drew b f:=h
theorem MapK.far (h:MapK P k kk w b f) {p:Addr} (hp:b≠p.block) (u:Value):MapK P k kk (w.setCell p u) b f:=h.agr_ (Below.heap_setCell w p u b hp)
theorem MapK.grown {row:Option Nat} (h:MapK P k kk w b f) (hb:w.grownBy w' row) (hg:some b≠row):MapK P k kk w' b f:=h.agr_ (hb.block b h.lt hg)
theorem MapK.ext {g:κ→Option Value} (h:MapK P k kk w b f) (e:∀ y,f y=g y):MapK P k kk w b g:=by
 rw [← funext e]; exact h
variable {t e:TypeId}
theorem MapK.look (h:MapK P k kk w b f) (c:Bool) (K:Maps.Keyed P k) (ht:P.underlying t=some (.map k e)) {z:Value} (hz:(zeroValue e).run P w=.ok z w) (y:κ) {kl:Lit} (hkey:keyOf P k (kk y)=some kl) :
 (Instr.lookup t (.map (some b)) (kk y) c).run P w=.ok (if c then .tuple #[(f y).getD z,.bool (f y).isSome] else (f y).getD z) w:=by
 obtain ⟨es,clock,hb,F,hk,hf⟩:=h
 rcases Maps.fit_look c K ht hz hb F hkey with ⟨hrun,hno,_⟩ | ⟨e0,y0,hm,he,hrun,_⟩
 ·have:f y=none:=by
   cases hy:f y with
   | none=>rfl
   | some v=>obtain ⟨x,hx,h1,_⟩:=(hf y v).1 hy; exact absurd h1 (hno x hx)
  rw [hrun,this]; cases c <;> rfl
 ·have:f y=some e0.val:=(hf y e0.val).2 ⟨e0,hm,he,rfl⟩;rw [hrun,this]; cases c <;> rfl
theorem MapK.store [DecidableEq κ] (h:MapK P k kk w b f) (K:Maps.Keyed P k) (ht:P.underlying t=some (.map k e)) (hinj:∀ x y,kk x=kk y→x=y) (y:κ) (val:Value) {kl:Lit} (hkey:keyOf P k (kk y)=some kl)
 (hroom:∀ es clock,w.heap[b]?=some (.map es clock)→es.size < maxLen) :
 ∃ w',(Instr.mapUpdate t (.map (some b)) (kk y) val).run P w=.ok () w'∧MapK P k kk w' b (fun x=>if x=y then some val else f x)∧w.grownBy w' (some b)∧w'.heap.size=w.heap.size:=by
 obtain ⟨es,clock,hb,F,hk,hf⟩:=h;obtain ⟨es',clock',hrun,F',_,_,_,hw⟩:=Maps.fit_store (R':=anyElem) K ht hb F (hroom _ _ hb) (fun _ _ _ _ hz=>hz) hkey (rfl:anyElem val=_);refine ⟨_,hrun,⟨es',clock',heap_setBlock_same hb _,F',?_,?_⟩,⟨rfl,rfl,rfl,by simp [setBlock],fun i _ hi=>heap_setBlock_other hb _ (fun e=>hi (by rw [e]))⟩,by simp [setBlock]⟩
 ·intro x hx
  rcases hw x hx with ⟨h1,_⟩ | ⟨h1,_⟩
  ·exact hk x h1
  ·exact ⟨y,h1⟩
 ·-- who stands in the new array: by the very run
  have all:(∀ x∈es.toList,x.key≠kk y→x∈es'.toList)∧∃ x∈es'.toList,x.key=kk y∧x.val=val:=by
   rcases K.find w hkey es.toList F.keys with ⟨h1,h2⟩ | ⟨j,e0,h1,h2,h3⟩
   ·have hr2:(Instr.mapUpdate t (.map (some b)) (kk y) val).run P w=.ok () (setBlock w b (.map (es.push ⟨kk y,val,clock⟩) (clock+1))):=by
     simp [Instr.mapUpdate,run_underlying ht,MapKept.run_getObj_map hb,K.check w false hkey,h1,MapKept.run_setObj_map _ hb,Result.andThen,setBlock]
    rw [hrun] at hr2;have hw2:setBlock w b (.map es' clock')=setBlock w b (.map (es.push ⟨kk y,val,clock⟩) (clock+1)):=(by injection hr2);have e1:=heap_setBlock_same hb (.map es' clock');rw [hw2,heap_setBlock_same hb] at e1;simp only [Option.some.injEq,Obj.map.injEq] at e1;rw [← e1.1];exact ⟨fun x hx _=>by simp [hx],⟨⟨kk y,val,clock⟩,by simp,rfl,rfl⟩⟩
   ·have hj:es[j]?=some e0:=(by simpa using h2)
    have hr2:(Instr.mapUpdate t (.map (some b)) (kk y) val).run P w=.ok () (setBlock w b (.map (es.modify j (fun e'=>{ e' with key:=kk y,val:=val })) clock)):=by
     simp [Instr.mapUpdate,run_underlying ht,MapKept.run_getObj_map hb,K.check w false hkey,h1,hj,h3,K.stays w hkey,MapKept.run_setObj_map _ hb,Result.andThen,setBlock]
    rw [hrun] at hr2;have hw2:setBlock w b (.map es' clock')=setBlock w b (.map (es.modify j (fun e'=>{ e' with key:=kk y,val:=val })) clock):=(by injection hr2);have e1:=heap_setBlock_same hb (.map es' clock');rw [hw2,heap_setBlock_same hb] at e1;simp only [Option.some.injEq,Obj.map.injEq] at e1;rw [← e1.1];have hlist:(es.modify j (fun e'=>{ e' with key:=kk y,val:=val })).toList=es.toList.set j { e0 with key:=kk y,val:=val }:=(by rw [Array.toList_modify,ChangeMaps.modify_eq_set _ _ _ _ h2]);rw [hlist];have hjl:j < es.toList.length:=(List.getElem?_eq_some_iff.1 h2).1;refine ⟨fun x hx hne=>?_,_,List.mem_iff_getElem?.2 ⟨j,by rw [List.getElem?_set_self hjl]⟩,rfl,rfl⟩;obtain ⟨i,hi⟩:=List.mem_iff_getElem?.1 hx
    have hij:j≠i:=fun e'=>by
     subst e';rw [h2] at hi;exact hne (by rw [← Option.some.inj hi]; exact h3)
    exact List.mem_iff_getElem?.2 ⟨i,by rw [List.getElem?_set_ne hij]; exact hi⟩
  intro z v
  by_cases hzy:z=y
  ·subst hzy;simp only [if_true,Option.some.injEq];constructor
   ·rintro rfl; exact all.2
   ·rintro ⟨x,hx,h1,h2⟩
    rcases hw x hx with ⟨_,h3⟩ | ⟨_,h3⟩
    ·exact absurd h1 h3
    ·exact h3.symm.trans h2
  ·simp only [if_neg hzy];have hne:kk z≠kk y:=fun e1=>hzy (hinj _ _ e1)
   rw [hf z v];constructor
   ·rintro ⟨x,hx,h1,h2⟩; exact ⟨x,all.1 x hx (by rw [h1]; exact hne),h1,h2⟩
   ·rintro ⟨x,hx,h1,h2⟩
    rcases hw x hx with ⟨h3,_⟩ | ⟨h3,_⟩
    ·exact ⟨x,h3,h1,h2⟩
    ·exact absurd (h1.symm.trans h3) hne
theorem MapK.room (h:MapK P k kk w b f) (code:κ→Nat) (N:Nat) (hc:∀ y,f y≠none→code y < N) (hi:∀ x y,f x≠none→f y≠none→code x=code y→x=y) :
 ∀ es clock,w.heap[b]?=some (.map es clock)→es.size≤N:=by
 obtain ⟨es0,clock0,hb,F,hk,hf⟩:=h;intro es clock hb';rw [hb] at hb';cases hb'
 have hn:es0.toList.Pairwise (fun x y=>x.key≠y.key):=((stamped_iff es0 clock0).1 F.stamped).2.2
 have key:∀ l:List MapEntry,(∀ x∈l,x∈es0.toList)→l.Pairwise (fun x y=>x.key≠y.key)→∃ m:List Nat,m.length=l.length∧m.Nodup∧∀ c∈m,∃ y,c=code y∧f y≠none∧∃ x∈l,x.key=kk y:=by
  intro l
  induction l with
  | nil=>intro _ _; exact ⟨[],rfl,List.nodup_nil,by simp⟩
  | cons x l ih =>
   intro h1 h2;obtain ⟨m,h3,h4,h5⟩:=ih (fun y hy=>h1 y (List.mem_cons_of_mem _ hy)) (List.pairwise_cons.1 h2).2;obtain ⟨y,hy⟩:=hk x (h1 x (List.mem_cons_self ..));have hfy:f y=some x.val:=(hf y x.val).2 ⟨x,h1 x (List.mem_cons_self ..),hy,rfl⟩;refine ⟨code y::m,by simp [h3],List.nodup_cons.2 ⟨fun hm=>?_,h4⟩,fun c hc=>?_⟩
   ·obtain ⟨y',e1,h6,x',hx',hy'⟩:=h5 _ hm;have:=hi y y' (by simp [hfy]) h6 e1;subst this;exact (List.pairwise_cons.1 h2).1 x' hx' (hy.trans hy'.symm)
   ·rcases List.mem_cons.1 hc with rfl | hc
    ·exact ⟨y,rfl,by simp [hfy],x,List.mem_cons_self ..,hy⟩
    ·obtain ⟨y',e1,h6,x',hx',hy'⟩:=h5 c hc;exact ⟨y',e1,h6,x',List.mem_cons_of_mem _ hx',hy'⟩
 obtain ⟨m,h3,h4,h5⟩:=key es0.toList (fun _ h=>h) hn
 have:m.length≤N:=by
  refine nodup_le N m h4 fun c hc'=>?_
  obtain ⟨y,rfl,h6,_⟩:=h5 c hc';exact hc y h6
 simpa [h3] using this
end
end Go.Proofs.YtfcihnpmeabacaaGreatDoor
namespace Go.Proofs.YtfcihnpmeabacaaGreatDoor
open Go.RowKit
theorem sum_le_card (L:List Nat) (f:Nat→Nat) (B:Nat) (h:∀ q∈L,f q≤B):(L.map f).sum≤L.length*B:=by
 induction L with
 | nil=>simp
 | cons q L ih =>
  have h1:=h q (by simp);have h2:=ih fun q' hq=>h q' (by simp [hq])
  simp only [List.map_cons,List.sum_cons,List.length_cons,Nat.add_mul,Nat.one_mul];omega
theorem flatMap_len {α:Type} (L:List Nat) (f:Nat→List α) (B:Nat) (h:∀ q∈L,(f q).length≤B):(L.flatMap f).length≤L.length*B:=by
 rw [List.length_flatMap];exact sum_le_card L _ B h
section
variable {D:Ky→Bool}
theorem ways_len:∀ {l:List Sy} {i j:Nat},j≤12→(waysF D l i j).length≤13 ^ l.length:=by
 intro l
 induction l with
 | nil=>intro i j _; simp only [waysF]; split <;> simp
 | cons s l ih =>
  intro i j hj;rw [waysF];refine Nat.le_trans (flatMap_len _ _ (13 ^ l.length) fun q _=>?_) ?_
  ·split
   ·rw [List.length_map]; exact ih hj
   ·simp
  ·rw [List.length_range,List.length_cons,Nat.pow_succ,Nat.mul_comm];exact Nat.mul_le_mul_left _ (by omega)
theorem packN_len {R:List Ru} {k:Ky} {n:Nat} (hR:∀ u∈R,u.2.length≤4) (hk:k.2.2≤12):(packN D R k n).length≤28561:=by
 unfold packN;cases hu:R[n]? with
 | none=>simp
 | some u =>
  simp only
  split
  ·rw [List.length_map];refine Nat.le_trans (ways_len hk) ?_;have h1:=hR u (List.mem_of_getElem? hu);exact Nat.le_trans (Nat.pow_le_pow_right (by omega) h1) (by decide)
  ·simp
theorem packT_len {R:List Ru} {k:Ky} (m:Nat) (hR:∀ u∈R,u.2.length≤4) (hk:k.2.2≤12):(packT D R k m).length≤m*28561:=by
 unfold packT;have:=flatMap_len (List.range m) (packN D R k) 28561 fun n _=>packN_len hR hk
 rwa [List.length_range] at this
theorem packs_len {R:List Ru} {k:Ky} (hR:∀ u∈R,u.2.length≤4) (hc:R.length≤32) (hk:k.2.2≤12):(packsF D R k).length≤913952:=by
 have:=packT_len (D:=D) (k:=k) R.length hR hk;unfold packsF; omega
end
def addK (L:List Ky) (q:Ky):List Ky:=if q∈L then L else L++[q]
def addKs (L:List Ky) (qs:List Ky):List Ky:=qs.foldl addK L
theorem addKs_snoc (L qs:List Ky) (q:Ky):addKs L (qs++[q])=addK (addKs L qs) q:=by simp [addKs]
theorem addKs_app (L qs qs':List Ky):addKs L (qs++qs')=addKs (addKs L qs) qs':=by simp [addKs]
theorem addK_mem {L:List Ky} {q k:Ky}:k∈addK L q↔k∈L∨k=q:=by
 unfold addK
 split
 ·constructor
  ·exact Or.inl
  ·rintro (h | rfl) <;> assumption
 ·simp
theorem addK_nodup {L:List Ky} {q:Ky} (h:L.Nodup):(addK L q).Nodup:=by
 unfold addK
 split
 ·exact h
 ·rename_i hq
  rw [List.nodup_append];refine ⟨h,by simp,fun a ha b hb e=>?_⟩;simp at hb;subst hb; subst e; exact hq ha
theorem addK_pre {L:List Ky} {q:Ky}:L <+: addK L q:=by
 unfold addK; split
 ·exact List.prefix_refl _
 ·exact List.prefix_append _ _
theorem addKs_mem {qs:List Ky}:∀ {L:List Ky} {k:Ky},k∈addKs L qs↔k∈L∨k∈qs:=by
 induction qs with
 | nil=>intro L k; simp [addKs]
 | cons q qs ih =>
  intro L k;show k∈addKs (addK L q) qs↔_
  rw [ih,addK_mem]; simp [or_assoc]
theorem addKs_nodup {qs:List Ky}:∀ {L:List Ky},L.Nodup→(addKs L qs).Nodup:=by
 induction qs with
 | nil=>intro L h; exact h
 | cons q qs ih=>intro L h; exact ih (addK_nodup h)
theorem addKs_pre {qs:List Ky}:∀ {L:List Ky},L <+: addKs L qs:=by
 induction qs with
 | nil=>intro L; exact List.prefix_refl _
 | cons q qs ih=>intro L; exact addK_pre.trans ih
section
variable {D:Ky→Bool} {R:List Ru} {root:Ky}
def kidsF (D:Ky→Bool) (R:List Ru) (k:Ky):List Ky:=(packsF D R k).flatMap (·.2)
structure Wk (D:Ky→Bool) (R:List Ru) (root:Ky) (L:List Ky) (i:Nat):Prop where
 nodup:L.Nodup
 rin:root∈L
 snd:∀ k∈L,RchK D R root k
 cls:∀ m k,m < i→L[m]?=some k→∀ q∈kidsF D R k,q∈L
 le:i≤L.length
theorem Wk.start (D:Ky→Bool) (R:List Ru) (root:Ky):Wk D R root [root] 0 :=
 ⟨by simp,by simp,fun k h=>by simp at h; subst h; exact .root,fun m k h=>by omega,by simp⟩
theorem RchK.kids {k q:Ky} (h:RchK D R root k) (hq:q∈kidsF D R k):RchK D R root q:=by
 obtain ⟨p,hp,hq⟩:=List.mem_flatMap.1 hq;exact .kid h hp hq
theorem Wk.next {L:List Ky} {i:Nat} {k:Ky} (h:Wk D R root L i) (hk:L[i]?=some k):Wk D R root (addKs L (kidsF D R k)) (i+1):=by
 have hi:=(List.getElem?_eq_some_iff.1 hk).1;have hp:L <+: addKs L (kidsF D R k):=addKs_pre;have hle:=hp.length_le;refine ⟨addKs_nodup h.nodup,addKs_mem.2 (Or.inl h.rin),fun q hq=>?_,fun m k' hm hk' q hq=>addKs_mem.2 ?_,by omega⟩
 ·rcases addKs_mem.1 hq with hq | hq
  ·exact h.snd q hq
  ·exact (h.snd k (List.mem_of_getElem? hk)).kids hq
 ·have e:(addKs L (kidsF D R k))[m]?=L[m]?:=by
   obtain ⟨t,ht⟩:=hp;rw [← ht,List.getElem?_append_left (by omega)]
  rw [e] at hk'
  by_cases em:m=i
  ·subst em; rw [hk] at hk'; cases hk'; exact Or.inr hq
  ·exact Or.inl (h.cls m k' (by omega) hk' q hq)
theorem Wk.done {L:List Ky} (h:Wk D R root L L.length) (k:Ky):k∈L↔RchK D R root k:=by
 refine ⟨h.snd k,fun hr=>?_⟩
 induction hr with
 | root=>exact h.rin
 | kid _ hp hq ih =>
  obtain ⟨m,hm⟩:=List.mem_iff_getElem?.1 ih;exact h.cls m _ (List.getElem?_eq_some_iff.1 hm).1 hm _ (List.mem_flatMap.2 ⟨_,hp,hq⟩)
theorem Wk.nds {L L':List Ky} (h:Wk D R root L L.length) (hp:L'.Perm L) (hs:L'.Pairwise fun a b=>kyN a≤kyN b) (hok:∀ k∈L,k.Ok):IsNds D R root L':=by
 refine ⟨?_,fun k=>by rw [hp.mem_iff,h.done]⟩;have hn:L'.Nodup:=hp.nodup_iff.2 h.nodup;rw [List.nodup_iff_pairwise_ne] at hn;refine (hs.and hn).imp_of_mem fun {a b} ha hb hab=>?_
 have:=hab.2;have h2:kyN a≠kyN b:=fun e=>hab.2 (kyN_inj (hok a (hp.mem_iff.1 ha)) (hok b (hp.mem_iff.1 hb)) e)
 have h1:=hab.1;omega
def cntP (D:Ky→Bool) (R:List Ru) (L:List Ky) (i:Nat):Nat:=((L.take i).map fun k=>(packsF D R k).length).sum
theorem cntP_next {L:List Ky} {i:Nat} {k:Ky} (hk:L[i]?=some k):cntP D R L (i+1)=cntP D R L i+(packsF D R k).length:=by
 unfold cntP;rw [List.take_add_one,hk];simp
theorem cntP_pre {L L':List Ky} {i:Nat} (hp:L <+: L') (hi:i≤L.length):cntP D R L' i=cntP D R L i:=by
 obtain ⟨t,rfl⟩:=hp;unfold cntP;rw [List.take_append_of_le_length hi]
theorem cntP_all (L:List Ky):cntP D R L L.length=totP D R L:=by simp [cntP,totP]
theorem sum_sub {f:Ky→Nat}:∀ {L L':List Ky},L.Nodup→(∀ k∈L,k∈L')→(L.map f).sum≤(L'.map f).sum:=by
 intro L
 induction L with
 | nil=>intro L' _ _; simp
 | cons k L ih =>
  intro L' hn hs;have hk:=hs k (by simp);have hn':=List.nodup_cons.1 hn
  have h1:=ih (L':=L'.erase k) hn'.2 fun q hq=>by
   have hne:q≠k:=fun e=>hn'.1 (e ▸ hq)
   exact (List.mem_erase_of_ne hne).2 (hs q (by simp [hq]))
  have h2:(L'.map f).sum=f k+((L'.erase k).map f).sum:=by
   have:=((List.perm_cons_erase hk).map f).sum_nat
   simpa using this
  simp only [List.map_cons,List.sum_cons];omega
theorem Wk.cnt_le {L L':List Ky} {i m:Nat} (h:Wk D R root L i) (hL:IsNds D R root L'):cntP D R L m≤totP D R L':=by
 unfold cntP totP;exact sum_sub (h.nodup.sublist (List.take_sublist _ _)) fun k hk=>(hL.mem k).2 (h.snd k (List.mem_of_mem_take hk))
def KyOk (g:Gr) (n:Nat) (k:Ky):Prop:=g.okSy k.1∧k.2.1≤k.2.2∧k.2.2≤n
theorem KyOk.ok {g:Gr} {n:Nat} {k:Ky} (h:KyOk g n k) (hg:g.Ok) (hn:n≤12):k.Ok:=by
 obtain ⟨h1,h2,h3⟩:=h;refine ⟨by omega,by omega,?_⟩;unfold Gr.okSy at h1;have:=hg.terms; have:=hg.nons
 split at h1 <;> omega
theorem kids_ok {g:Gr} {n:Nat} {k q:Ky} (hg:g.Ok) (hD:∀ k,D k=true→k.2.1≤k.2.2∧k.2.2≤n) (hq:q∈kidsF D g.rules k):KyOk g n q∧D q=true:=by
 obtain ⟨p,hp,hq⟩:=List.mem_flatMap.1 hq;obtain ⟨-,u,hu,-,hw⟩:=packs_mem hp;obtain ⟨h1,-,-,-,h5⟩:=hw.mem q hq;exact ⟨⟨(hg.right u (List.mem_of_getElem? hu)).2 _ h5,hD q h1⟩,h1⟩
theorem RchK.ok {g:Gr} {n:Nat} {k:Ky} (hg:g.Ok) (hD:∀ k,D k=true→k.2.1≤k.2.2∧k.2.2≤n) (hr:KyOk g n root) (h:RchK D g.rules root k):KyOk g n k:=by
 cases h with
 | root=>exact hr
 | kid _ hp hq=>exact (kids_ok (k:=_) hg hD (List.mem_flatMap.2 ⟨_,hp,hq⟩)).1
def kyC2 (k:Ky):Nat:=(k.2.1*13+k.2.2)*20+(if k.1.1 then k.1.2 else 10+k.1.2)
theorem kyC2_lt {g:Gr} {n:Nat} {k:Ky} (h:KyOk g n k) (hg:g.Ok) (hn:n≤12):kyC2 k < 3400:=by
 obtain ⟨h1,h2,h3⟩:=h;unfold Gr.okSy at h1;have:=hg.terms; have:=hg.nons
 unfold kyC2
 split at h1
 ·rename_i e; rw [if_pos e]; omega
 ·rename_i e; rw [if_neg e]; omega
theorem kyC2_inj {g:Gr} {n:Nat} {a b:Ky} (ha:KyOk g n a) (hb:KyOk g n b) (hg:g.Ok) (hn:n≤12) (h:kyC2 a=kyC2 b):a=b:=by
 obtain ⟨⟨ab,an⟩,ai,aj⟩:=a;obtain ⟨⟨bb,bn⟩,bi,bj⟩:=b;obtain ⟨h1,h2,h3⟩:=ha;obtain ⟨k1,k2,k3⟩:=hb;have:=hg.terms; have:=hg.nons
 simp only [Gr.okSy] at h1 k1;simp only at h2 h3 k2 k3;simp only [kyC2] at h;cases ab <;> cases bb <;> simp only [Bool.false_eq_true,if_false,if_true] at h h1 k1 <;> simp only [Prod.mk.injEq,true_and,false_and,Bool.false_eq_true,Bool.true_eq_false] <;> omega
theorem nodup_len {g:Gr} {n:Nat} {L:List Ky} (hn:L.Nodup) (hk:∀ k∈L,KyOk g n k) (hg:g.Ok) (h12:n≤12):L.length≤3400:=by
 have h1:(L.map kyC2).Nodup:=by
  rw [List.nodup_iff_pairwise_ne] at hn ⊢;rw [List.pairwise_map];exact hn.imp_of_mem fun {a b} ha hb hab e=>hab (kyC2_inj (hk a ha) (hk b hb) hg h12 e)
 have h2:=nodup_le 3400 _ h1 fun c hc=>by
  obtain ⟨k,hk',rfl⟩:=List.mem_map.1 hc;exact kyC2_lt (hk k hk') hg h12
 simpa using h2
theorem addKs_len {g:Gr} {n:Nat} {L:List Ky} {k:Ky} (hD:∀ k,D k=true→k.2.1≤k.2.2∧k.2.2≤n) (hg:g.Ok) (h12:n≤12) (hn:L.Nodup) (hk:∀ q∈L,KyOk g n q) (qs:List Ky) (hq:∀ q∈qs,q∈kidsF D g.rules k):(addKs L qs).length≤3400∧∀ q∈addKs L qs,KyOk g n q:=by
 have h1:∀ q∈addKs L qs,KyOk g n q:=fun q h=>by
  rcases addKs_mem.1 h with h | h
  ·exact hk q h
  ·exact (kids_ok hg hD (hq q h)).1
 exact ⟨nodup_len (addKs_nodup hn) h1 hg h12,h1⟩
theorem kids_take {R:List Ru} {k:Ky} {m:Nat} {q:Ky} (h:q∈((packsF D R k).take m).flatMap (·.2)):q∈kidsF D R k:=by
 obtain ⟨p,hp,hq⟩:=List.mem_flatMap.1 h;exact List.mem_flatMap.2 ⟨p,List.mem_of_mem_take hp,hq⟩
theorem kids_next {R:List Ru} {k:Ky} {m:Nat} {p:Nat×List Ky} (h:(packsF D R k)[m]?=some p):((packsF D R k).take (m+1)).flatMap (·.2)=((packsF D R k).take m).flatMap (·.2)++p.2:=by
 rw [List.take_add_one,h]; simp
end
end Go.Proofs.YtfcihnpmeabacaaGreatDoor
namespace Go.Proofs.YtfcihnpmeabacaaGreatDoor
open Go.RowKit
set_option maxRecDepth 100000 in
theorem enters_pk:∀ (args:Array Value) (w:World),(callFunc 129 args).run Tryz.prog w=.ok (.enter 129 args) w :=
 enters_c (c:=_) (fn:=Tryz.f129) rfl (by kernel_rfl) rfl
theorem Own.lower {α ρ:Type} {E:Elem α ρ} {e:TypeId} {ok:Nat→Prop} {w:World} {B B' n:Nat} {v:Value} {l:List α} (h:Own E e ok w B v n l) (hb:B'≤B):Own E e ok w B' v n l:=by
 obtain ⟨h1,raw,h3,h4,h5⟩:=h;refine ⟨h1,raw,h3,⟨h4.1,?_⟩,h5⟩
 rcases h4.2 with h0 | ⟨g,cap,cur,hv,hg,hr⟩
 ·exact Or.inl h0
 ·exact Or.inr ⟨g,cap,cur,hv,Nat.le_trans hb hg,hr⟩
structure PkB (W0 w:World) (bk bo bw be:Nat) (k:Ky) (A:Option Addr) (n c ob oo N oc:Nat) (base:Nat) (v:Value) (out:List (Nat×List Ky)):Prop where
 bel:Below W0.heap.size W0 w
 kb:Blk w bk 173 (kyC k)
 wb:Blk w bw 25 #[.slice A n c]
 eb:Blk w be 123 #[.slice (some ⟨ob,oo,none⟩) N oc]
 outb:Blk w bo 177 #[v]
 own:Own PkE 180 (fun b=>base≤b) w base v out.length out
 ne:bk≠bo∧bw≠bo∧be≠bo
 lt:bo < base
 nr:some bk≠v.ownBlock∧some bw≠v.ownBlock∧some be≠v.ownBlock∧some bo≠v.ownBlock
 ge:W0.heap.size≤bo∧W0.heap.size≤base∧base≤w.heap.size
section
variable {W0 w w':World} {fid bk bo bi bw be bf:Nat} {k:Ky} {rn:Nat} {A:Option Addr} {n c ob oo N oc base:Nat} {v v':Value} {out:List (Nat×List Ky)}
theorem PkB.via (h:PkB W0 w bk bo bw be k A n c ob oo N oc base v out) (hb:Below w.heap.size w w'):PkB W0 w' bk bo bw be k A n c ob oo N oc base v out :=
 ⟨h.bel.via hb,h.kb.via hb,h.wb.via hb,h.eb.via hb,h.outb.via hb,h.own.via hb,h.ne,h.lt,h.nr,h.ge.1,h.ge.2.1,Nat.le_trans h.ge.2.2 hb.size⟩
theorem PkB.toM (h:PkB W0 w bk bo bw be k A n c ob oo N oc base v out) (hi:Blk w bi 3 #[.int .i64 (rn:Int)]) (hf:Blk w bf 217 #[.func (.func fid) #[] #[.pointer (some ⟨bk,0,none⟩),.pointer (some ⟨bo,0,none⟩),.pointer (some ⟨bi,0,none⟩),.pointer (some ⟨bw,0,none⟩),.pointer (some ⟨be,0,none⟩),.pointer (some ⟨bf,0,none⟩)]])
 (n1:bi≠bo) (n2:bf≠bo) (n3:some bi≠v.ownBlock) (n4:some bf≠v.ownBlock):PkM W0 w fid bk bo bi bw be bf k rn A n c ob oo N oc base v out :=
 ⟨h.bel,h.kb,hi,h.wb,h.eb,hf,h.outb,h.own,⟨h.ne.1,n1,h.ne.2.1,h.ne.2.2,n2⟩,h.lt,⟨h.nr.1,n3,h.nr.2.1,h.nr.2.2.1,n4,h.nr.2.2.2⟩,h.ge⟩
theorem PkM.toB (h:PkM W0 w fid bk bo bi bw be bf k rn A n c ob oo N oc base v out):PkB W0 w bk bo bw be k A n c ob oo N oc base v out :=
 ⟨h.bel,h.kb,h.wb,h.eb,h.outb,h.own,⟨h.ne.1,h.ne.2.2.1,h.ne.2.2.2.1⟩,h.lt,⟨h.nr.1,h.nr.2.2.1,h.nr.2.2.2.1,h.nr.2.2.2.2.2⟩,h.ge⟩
end
def PacksP (w:World) (ps:List (Nat×List Ky)) (e:Ending) (w':World):Prop :=
 ∃ A c,e=.returned (.slice A ps.length c)∧Own PkE 180 (fun b=>w.heap.size≤b) w' w.heap.size (.slice A ps.length c) ps.length ps∧Below w.heap.size w w'
set_option maxRecDepth 100000 in
set_option maxHeartbeats 4000000 in
theorem packs_c (ok:Nat→Prop) (g:Gr) (Ag:Option Addr) (ng cg:Nat) (A:Option Addr) (n c ob oo N oc:Nat) (rb ro rc:Nat→Nat) (xs:List Int) (E:EnS) (k:Ky) (w:World) (hg:g.Ok) (hN:g.nons=N) (hl:Sl RuE ok w Ag ng cg g.rules) (hx:Ints w A n c xs) (hE:EnV w ob oo N n rb ro rc E) (hT:TabW w) (hsup:SupE n E) (hn:n≤12) (hk:k.2.1≤n∧k.2.2≤n) :
 Calls Tryz.prog 93 #[grVal g Ag ng cg,.slice A n c,.slice (some ⟨ob,oo,none⟩) N oc,kyVal k] w (PacksP w (packsF (dOf xs E) g.rules k)):=by
 subst hN;obtain ⟨⟨kb,kN⟩,ki,kj⟩:=k;have hng:=hl.len;have hgc:=hg.count
 have hlen:∀ m,m < ng→(packT (dOf xs E) g.rules ((kb,kN),ki,kj) m).length+28561≤1000000:=fun m hm=>by
  have:=packT_len (D:=dOf xs E) (k:=((kb,kN),ki,kj)) m (fun u hu=>(hg.right u hu).1) (by simpa using (show kj≤12 by have:=hk.2; simp only at this; omega));omega
 have HO:=Lib.hid (hl.mono (ok':=fun b=>b < w.heap.size) fun b hb _=>hb);have HX:=Lib.hid hx;have HE:=Lib.hid hE;have HT:=Lib.hid hT;have HS:=Lib.hid hsup;have HLEN:=Lib.hid hlen;have HG:=Lib.hid hg;have HKI:=Lib.hid hk;simp only at hk;obtain ⟨w1,hw1⟩:∃ w1,w1=w.alloc (.cells #[.int .i64 (g.terms:Int),.int .i64 (g.nons:Int),.int .i64 (g.start:Int),.slice Ag ng cg] 24):=⟨_,rfl⟩;have hb5:=(((((Below.refl w.heap.size w).al (.cells #[.int .i64 (g.terms:Int),.int .i64 (g.nons:Int),.int .i64 (g.start:Int),.slice Ag ng cg] 24)).al (.cells #[.slice A n c] 25)).al (.cells #[.slice (some ⟨ob,oo,none⟩) g.nons oc] 123)).al (.cells (kyC ((kb,kN),ki,kj)) 173)).al (.cells #[.slice none 0 0] 177);have BW:=(((Blk.newAt (w.alloc (.cells #[.int .i64 (g.terms:Int),.int .i64 (g.nons:Int),.int .i64 (g.start:Int),.slice Ag ng cg] 24)) 25 #[.slice A n c] (w.heap.size+1) (by simp)).al (.cells #[.slice (some ⟨ob,oo,none⟩) g.nons oc] 123)).al (.cells (kyC ((kb,kN),ki,kj)) 173)).al (.cells #[.slice none 0 0] 177);have BE:=((Blk.newAt ((w.alloc (.cells #[.int .i64 (g.terms:Int),.int .i64 (g.nons:Int),.int .i64 (g.start:Int),.slice Ag ng cg] 24)).alloc (.cells #[.slice A n c] 25)) 123 #[.slice (some ⟨ob,oo,none⟩) g.nons oc] (w.heap.size+1+1) (by simp)).al (.cells (kyC ((kb,kN),ki,kj)) 173)).al (.cells #[.slice none 0 0] 177);have BK:=(Blk.newAt (((w.alloc (.cells #[.int .i64 (g.terms:Int),.int .i64 (g.nons:Int),.int .i64 (g.start:Int),.slice Ag ng cg] 24)).alloc (.cells #[.slice A n c] 25)).alloc (.cells #[.slice (some ⟨ob,oo,none⟩) g.nons oc] 123)) 173 (kyC ((kb,kN),ki,kj)) (w.heap.size+1+1+1) (by simp)).al (.cells #[.slice none 0 0] 177);have BO:=Blk.newAt ((((w.alloc (.cells #[.int .i64 (g.terms:Int),.int .i64 (g.nons:Int),.int .i64 (g.start:Int),.slice Ag ng cg] 24)).alloc (.cells #[.slice A n c] 25)).alloc (.cells #[.slice (some ⟨ob,oo,none⟩) g.nons oc] 123)).alloc (.cells (kyC ((kb,kN),ki,kj)) 173)) 177 #[.slice none 0 0] (w.heap.size+1+1+1+1) (by simp)
 have HM:=Lib.hid (show PkB w _ (w.heap.size+1+1+1) (w.heap.size+1+1+1+1) (w.heap.size+1) (w.heap.size+1+1) ((kb,kN),ki,kj) A n c ob oo g.nons oc (w.heap.size+5) (.slice none 0 0) (packT (dOf xs E) g.rules ((kb,kN),ki,kj) 0) from
  ⟨hb5,BK,BW,BE,BO,Own.nil _ _,by omega,by omega,by simp [Value.ownBlock],by omega,by omega,by simp⟩)
 simp only [kyC] at HM;clear hl hx hE hT hsup hb5 BW BE BK BO hw1 hlen hg;simp only [grVal,kyVal];go_enter Tryz.func93,Tryz.ntmps93;go_wp2_with fail;have HSZ:=Lib.hid (show (((((w.alloc (.cells #[.int .i64 (g.terms:Int),.int .i64 (g.nons:Int),.int .i64 (g.start:Int),.slice Ag ng cg] 24)).alloc (.cells #[.slice A n c] 25)).alloc (.cells #[.slice (some ⟨ob,oo,none⟩) g.nons oc] 123)).alloc (.cells #[.bool kb,.int .i64 (kN:Int),.int .i64 (ki:Int),.int .i64 (kj:Int)] 173)).alloc (.cells #[.slice none 0 0] 177)).heap.size=w.heap.size+5 by simp);generalize (((((w.alloc (.cells #[.int .i64 (g.terms:Int),.int .i64 (g.nons:Int),.int .i64 (g.start:Int),.slice Ag ng cg] 24)).alloc (.cells #[.slice A n c] 25)).alloc (.cells #[.slice (some ⟨ob,oo,none⟩) g.nons oc] 123)).alloc (.cells #[.bool kb,.int .i64 (kN:Int),.int .i64 (ki:Int),.int .i64 (kj:Int)] 173)).alloc (.cells #[.slice none 0 0] 177))=W at *;generalize w.heap.size+1+1+1+1=bo at *;generalize w.heap.size+1+1+1=bk at *;generalize w.heap.size+1+1=be at *;generalize w.heap.size+1=bw at *;generalize w.heap.size+5=base at *
 go_loopw [16] (fun q wr=>∃ (i:Nat) (v:Value),q=.int .i64 i∧i≤ng∧PkB w wr bk bo bw be ((kb,kN),ki,kj) A n c ob oo g.nons oc base v (packT (dOf xs E) g.rules ((kb,kN),ki,kj) i)) (fun q _=>ng - (intOf q).toNat)
 case atStart=>exact ⟨0,_,rfl,Nat.zero_le _,HM.out⟩
 case round =>
  obtain ⟨i,v,rfl,hi,hM⟩:=hrel;clear HM HSZ
  by_cases him:i < ng
  ·obtain ⟨b1,o1,⟨sl,sA,sn,sc⟩,⟨sl',rhs⟩,hAg,-,hbb,hy,⟨hx1,hx2⟩,hcel⟩:=HO.out.at_ him;simp only at hx1 hx2;obtain rfl:sl=sl':=hx1;subst hAg;have d0:=(hM.bel.cell (p:=⟨b1,o1+i*RuE.k+0,none⟩) hbb).trans (hcel 0 _ rfl);have d1:=(hM.bel.cell (p:=⟨b1,o1+i*RuE.k+1,none⟩) hbb).trans (hcel 1 _ rfl);simp only [RuE,Nat.add_zero] at d0 d1;have i0:(0:Int)≤(i:Int):=(by omega);have i1:(i:Int) < (ng:Int):=(by omega);have BK0:=hM.kb;simp only [kyC] at BK0;have hbx:=((Below.refl wr.heap.size wr).al (.cells #[.int .i64 (i:Int)] 3)).al (.cells #[.int .i64 (sl:Int),.slice sA sn sc] 74);have BK:=BK0.via hbx;have BI:=(Blk.new wr 3 #[.int .i64 (i:Int)]).al (.cells #[.int .i64 (sl:Int),.slice sA sn sc] 74);have BR:=Blk.newAt (wr.alloc (.cells #[.int .i64 (i:Int)] 3)) 74 #[.int .i64 (sl:Int),.slice sA sn sc] (wr.heap.size+1) (by simp);have HM2:=Lib.hid (hM.via hbx);have HY:=Lib.hid hy;have HR:=Lib.hid hx2;have HWR:=Lib.hid (show bo < wr.heap.size∧(∀ b,v.ownBlock=some b→b < wr.heap.size) from ⟨hM.outb.lt,fun b e=>(hM.own.lt b e).2⟩);have HBK:=Lib.hid BK;have HBI:=Lib.hid BI;have HBR:=Lib.hid BR;have hpn:=packT_next (D:=dOf xs E) g.rules ((kb,kN),ki,kj) i;clear hcel hx2 hM BK0 hbx
   by_cases hcond:sl=kN∧kb=false
   ·obtain ⟨rfl,rfl⟩:=hcond;have e1:((sl:Int) != (sl:Int))=false:=(by simp)
    have HPN:=Lib.hid (show packT (dOf xs E) g.rules ((false,sl),ki,kj) (i+1)=packT (dOf xs E) g.rules ((false,sl),ki,kj) i++(waysF (dOf xs E) rhs ki kj).map fun p=>(i,[]++p) from by
     rw [hpn,packN,hy]; simp)
    clear hpn hy;have cBK:=BK.cell;have fBK:=BK.frozen;have lBK:=BK.lt;have cBR:=BR.cell;have fBR:=BR.frozen;have lBR:=BR.lt;have cBI:=BI.cell;have fBI:=BI.frozen;have lBI:=BI.lt;go_upto_region 6 with fail;clear cBK fBK lBK cBR fBR lBR cBI fBI lBI;clear BK BR BI d0 d1;have HS4:=Lib.hid (show ((wr.alloc (.cells #[.int .i64 (i:Int)] 3)).alloc (.cells #[.int .i64 (sl:Int),.slice sA sn sc] 74)).heap.size=wr.heap.size+2 by simp);generalize (wr.alloc (.cells #[.int .i64 (i:Int)] 3)).alloc (.cells #[.int .i64 (sl:Int),.slice sA sn sc] 74)=W4 at *;have hmf:∀ (fn:Fn) (first cap:Array Value) (w:World),(Instr.makeFunc fn first cap).run Tryz.prog w=.ok (.func fn first cap) w:=fun _ _ _ _=>rfl
    go_upto_region 8 with fail;clear hmf;have hax:=(Below.refl W4.heap.size W4).al (.cells #[.func (.func 129) #[] #[.pointer (some ⟨bk,0,none⟩),.pointer (some ⟨bo,0,none⟩),.pointer (some ⟨wr.heap.size,0,none⟩),.pointer (some ⟨bw,0,none⟩),.pointer (some ⟨be,0,none⟩),.pointer (some ⟨W4.heap.size,0,none⟩)]] 217);have BF:=Blk.new W4 217 #[.func (.func 129) #[] #[.pointer (some ⟨bk,0,none⟩),.pointer (some ⟨bo,0,none⟩),.pointer (some ⟨wr.heap.size,0,none⟩),.pointer (some ⟨bw,0,none⟩),.pointer (some ⟨be,0,none⟩),.pointer (some ⟨W4.heap.size,0,none⟩)]];have HM5:=Lib.hid (HM2.out.via hax);have HBI5:=Lib.hid (HBI.out.via hax);have BR:=HBR.out.via hax;have BK:=HBK.out.via hax;have HBF:=Lib.hid BF;have HAX:=Lib.hid hax;clear hax HM2 HBI HBR HBK;generalize W4.alloc (.cells #[.func (.func 129) #[] #[.pointer (some ⟨bk,0,none⟩),.pointer (some ⟨bo,0,none⟩),.pointer (some ⟨wr.heap.size,0,none⟩),.pointer (some ⟨bw,0,none⟩),.pointer (some ⟨be,0,none⟩),.pointer (some ⟨W4.heap.size,0,none⟩)]] 217)=W5 at *;generalize hbf:W4.heap.size=bf at *;have HBFE:=Lib.hid hbf;clear hbf;have cBF:=BF.cell;have fBF:=BF.frozen;have lBF:=BF.lt;have cBR:=BR.cell;have fBR:=BR.frozen;have lBR:=BR.lt;have cBK:=BK.cell;have fBK:=BK.frozen;have lBK:=BK.lt
    iterate 18 go_step
    clear cBF fBF lBF cBR fBR lBR cBK fBK lBK;have hru:=HG.out.right _ (List.mem_of_getElem? HY.out);have hM:=HM5.out.toM (fid:=129) HBI5.out HBF.out (by have:=HWR.out.1; omega) (by have:=HWR.out.1; have:=HS4.out; omega) (fun e=>by have:=HWR.out.2 _ e.symm; omega) (fun e=>by have:=HWR.out.2 _ e.symm; have:=HS4.out; omega);refine (pk1_n w 129 (Lib.hid rfl) enters_pk bk bo wr.heap.size bw be bf ((false,sl),ki,kj) i A n c ob oo g.nons oc rb ro rc xs E base HX.out HE.out HT.out HS.out hn hk.2 rhs W5 sA sn sc ki none 0 0 [] v _ (fun s hs hf=>by have:=hru.2 s hs; simpa [Gr.okSy,hf] using this) hk.1 HR.out (Sl.nil 0) ?_ (by have h1:=hru.1; simp only [List.length_nil] at h1 ⊢; omega) hM).mono ?_
    ·have h1:=HLEN.out i him;have h2:=ways_len (D:=dOf xs E) (l:=rhs) (i:=ki) (j:=kj) (by omega);have h3:13 ^ rhs.length≤28561:=Nat.le_trans (Nat.pow_le_pow_right (by omega) hru.1) (by decide);simp only;omega
    rintro e w6 ⟨⟨u,rfl⟩,v6,hM6,-⟩;have HM6:=Lib.hid hM6.toB;rw [← HPN.out] at HM6;clear hM6 hM hru HM5 HBI5 HBF HAX BF BR BK HPN;go_wp2_with fail;exact ⟨⟨i+1,v6,by go_num,by omega,HM6.out⟩,by simp [intOf]; omega⟩
   ·have HPN:=Lib.hid (show packT (dOf xs E) g.rules ((kb,kN),ki,kj) (i+1)=packT (dOf xs E) g.rules ((kb,kN),ki,kj) i from by
     rw [hpn,packN,hy]; simp only [hcond,if_false,List.append_nil])
    have hcc:((sl:Int) != (kN:Int))=true∨(((sl:Int) != (kN:Int))=false∧kb=true):=by
     by_cases e:sl=kN
     ·right
      refine ⟨by simp [e],?_⟩;cases kb with
      | true=>rfl
      | false=>exact absurd ⟨e,rfl⟩ hcond
     ·left; simp; omega
    clear hpn hy hcond
    rcases hcc with e1 | ⟨e1,rfl⟩
    ·have cBK:=BK.cell;have fBK:=BK.frozen;have lBK:=BK.lt;have cBR:=BR.cell;have fBR:=BR.frozen;have lBR:=BR.lt;have cBI:=BI.cell;have fBI:=BI.frozen;have lBI:=BI.lt;go_wp2_with fail;exact ⟨⟨i+1,v,by go_num,by omega,by rw [HPN.out]; exact HM2.out⟩,by simp [intOf]; omega⟩
    ·have cBK:=BK.cell;have fBK:=BK.frozen;have lBK:=BK.lt;have cBR:=BR.cell;have fBR:=BR.frozen;have lBR:=BR.lt;have cBI:=BI.cell;have fBI:=BI.frozen;have lBI:=BI.lt;go_wp2_with fail;exact ⟨⟨i+1,v,by go_num,by omega,by rw [HPN.out]; exact HM2.out⟩,by simp [intOf]; omega⟩
  ·obtain rfl:i=ng:=(by omega);have HMF:=Lib.hid hM;have BO:=hM.outb;clear hM;have cBO:=BO.cell;have fBO:=BO.frozen;have lBO:=BO.lt;go_wp2_with fail;go_ret;have hw:=HMF.out.own;obtain ⟨A',c',rfl,hc'⟩:=hw.form;have he:packsF (dOf xs E) g.rules ((kb,kN),ki,kj)=packT (dOf xs E) g.rules ((kb,kN),ki,kj) i:=(by unfold packsF; rw [hng]);rw [PacksP,he];have hge:=HMF.out.ge;exact ⟨A',c',rfl,(hw.mono (ok':=fun b=>w.heap.size≤b) fun b _ hb=>by omega).lower (by omega),HMF.out.bel⟩
end Go.Proofs.YtfcihnpmeabacaaGreatDoor
