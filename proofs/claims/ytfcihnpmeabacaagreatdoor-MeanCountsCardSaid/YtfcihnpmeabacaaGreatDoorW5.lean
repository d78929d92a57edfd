/- Texts BM, BN, RL, RM, ZA, ZB, ZC, HP, AC, laid together. -/
import Derived.Test.YtfcihnpmeabacaaGreatDoorW4
import Derived.Shelf.SlSortCmp.NoneTotal
import Derived.Sort.Statements
import Derived.Lib.TrailingZeros
import Derived.Laws.BitsAllLaws
namespace Go.Proofs.YtfcihnpmeabacaaGreatDoor
open Go.RowKit
abbrev KyI:=Bool×Int×Int×Int
abbrev PkI:=Int×List Int
abbrev NdI:=KyI×List PkI
abbrev FoI:=Int×List NdI
def FpE:Elem PkI (Int×SlV) where
 k:=2
 cells r:=[.int .i64 r.1,.slice r.2.1 r.2.2.1 r.2.2.2]
 rel ok w r x:=r.1=x.1∧Sl InE ok w r.2.1 r.2.2.1 r.2.2.2 x.2
 pos:=by omega
 len _:=rfl
 one r u hu:=by simp at hu; rcases hu with rfl | rfl <;> rfl
 agr h k:=⟨h.1,h.2.agr k⟩
 mono h k:=⟨h.1,h.2.mono k⟩
def NdE:Elem NdI (KyI×SlV) where
 k:=5
 cells r:=[.bool r.1.1,.int .i64 r.1.2.1,.int .i64 r.1.2.2.1,.int .i64 r.1.2.2.2,.slice r.2.1 r.2.2.1 r.2.2.2]
 rel ok w r x:=r.1=x.1∧Sl FpE ok w r.2.1 r.2.2.1 r.2.2.2 x.2
 pos:=by omega
 len _:=rfl
 one r u hu:=by simp at hu; rcases hu with rfl | rfl | rfl | rfl | rfl <;> rfl
 agr h k:=⟨h.1,h.2.agr k⟩
 mono h k:=⟨h.1,h.2.mono k⟩
def FoR (ok:Nat→Prop) (w:World) (v:Value) (f:FoI):Prop:=∃ A n c,v=.agg #[.slice A n c,.int .i64 f.1]∧Sl NdE ok w A n c f.2
section
variable {ok ok':Nat→Prop} {w w':World} {v:Value} {f:FoI}
theorem FoR.via (h:FoR ok w v f) (hb:Below w.heap.size w w'):FoR ok w' v f:=by
 obtain ⟨A,n,c,h1,h2⟩:=h; exact ⟨A,n,c,h1,h2.via hb⟩
theorem FoR.mono (h:FoR ok w v f) (hm:∀ b,b < w.heap.size→ok b→ok' b):FoR ok' w v f:=by
 obtain ⟨A,n,c,h1,h2⟩:=h; exact ⟨A,n,c,h1,h2.mono hm⟩
theorem FoR.nil (ok:Nat→Prop) (w:World) (r:Int):FoR ok w (.agg #[.slice none 0 0,.int .i64 r]) (r,[]):=⟨none,0,0,rfl,Sl.nil 0⟩
end
theorem fp_info:(Tryz.prog.info? 104).map (fun i=>(i.zero,i.size,i.bytes))=some (some (.agg #[.int .i64 0,.slice none 0 0]),2,32):=by kernel_rfl
theorem wpList_append_fp {ops:Array Oper} {rest:List Oper} {o:Oper} {a:Act} {Q:Exit→Act→World→Prop} (w:World) (hgd:o.guard=none) (s y:Operand)
 (ho:o.op=.call { callee:=.builtin .append,args:=#[s,y],argTypes:=#[100,100] })
 (ok:Nat→Prop) (base:Nat) (v:Value) (n:Nat) (l:List PkI) (hv:a.eval s=v) (hown:Own FpE 104 ok w base v n l)
 (b:Nat) (r:(Int×SlV)) (x:PkI) (hy:a.eval y=.slice (some ⟨b,0,none⟩) 1 1) (hcell:Blk w b 104 (FpE.cells r).toArray) (hrel:FpE.rel (fun b=>ok b∧some b≠v.ownBlock) w r x)
 (h63:n+1≤1000000) (hbase:base≤w.heap.size)
 (h:∀ A' c' w',Own FpE 104 ok w' base (.slice A' (n+1) c') (n+1) (l++[x])→w.grownBy w' v.ownBlock→((Value.slice A' (n+1) c').ownBlock=v.ownBlock∨(Value.slice A' (n+1) c').ownBlock=some w.heap.size)→wpList Tryz.prog ops Q rest (a.put o.dst (.slice A' (n+1) c')) w'):wpList Tryz.prog ops Q (o::rest) a w:=by
 obtain ⟨i,hi,hz⟩:=Option.map_eq_some_iff.1 fp_info;simp only [Prod.mk.injEq] at hz;refine wpList_append_E (E:=FpE) w hgd s y 100 104 ho i (.agg #[.int .i64 0,.slice none 0 0]) 32 (by kernel_rfl) hi hz.1 hz.2.1 hz.2.2 rfl ok base v n l hv hown b r x hy (fun j u hu=>?_) hrel (by simp [maxLen]; omega) (by omega) hbase h;rw [hcell.cell j,List.getElem?_toArray]; exact hu
theorem nd_info:(Tryz.prog.info? 102).map (fun i=>(i.zero,i.size,i.bytes))=some (some (.agg #[.bool false,.int .i64 0,.int .i64 0,.int .i64 0,.slice none 0 0]),5,56):=by kernel_rfl
theorem wpList_append_nd {ops:Array Oper} {rest:List Oper} {o:Oper} {a:Act} {Q:Exit→Act→World→Prop} (w:World) (hgd:o.guard=none) (s y:Operand)
 (ho:o.op=.call { callee:=.builtin .append,args:=#[s,y],argTypes:=#[43,43] })
 (ok:Nat→Prop) (base:Nat) (v:Value) (n:Nat) (l:List NdI) (hv:a.eval s=v) (hown:Own NdE 102 ok w base v n l)
 (b:Nat) (r:(KyI×SlV)) (x:NdI) (hy:a.eval y=.slice (some ⟨b,0,none⟩) 1 1) (hcell:Blk w b 102 (NdE.cells r).toArray) (hrel:NdE.rel (fun b=>ok b∧some b≠v.ownBlock) w r x)
 (h63:n+1≤1000000) (hbase:base≤w.heap.size)
 (h:∀ A' c' w',Own NdE 102 ok w' base (.slice A' (n+1) c') (n+1) (l++[x])→w.grownBy w' v.ownBlock→((Value.slice A' (n+1) c').ownBlock=v.ownBlock∨(Value.slice A' (n+1) c').ownBlock=some w.heap.size)→wpList Tryz.prog ops Q rest (a.put o.dst (.slice A' (n+1) c')) w'):wpList Tryz.prog ops Q (o::rest) a w:=by
 obtain ⟨i,hi,hz⟩:=Option.map_eq_some_iff.1 nd_info;simp only [Prod.mk.injEq] at hz;refine wpList_append_E (E:=NdE) w hgd s y 43 102 ho i (.agg #[.bool false,.int .i64 0,.int .i64 0,.int .i64 0,.slice none 0 0]) 56 (by kernel_rfl) hi hz.1 hz.2.1 hz.2.2 rfl ok base v n l hv hown b r x hy (fun j u hu=>?_) hrel (by simp [maxLen]; omega) (by omega) hbase h;rw [hcell.cell j,List.getElem?_toArray]; exact hu
def ndI (x:Nd):NdI:=((x.1.1.1,(x.1.1.2:Int),(x.1.2.1:Int),(x.1.2.2:Int)),x.2.map fun p=>((p.1:Int),intsN p.2))
def foI (D:Ky→Bool) (R:List Ru) (L:List Ky) (root:Ky):FoI:=((idxK L root:Int),L.map fun k=>ndI (ndF D R L k))
inductive IsFo (D:Ky→Bool) (R:List Ru) (root:Ky) (most:Nat):FoI→Bool→Prop
 | none:D root=false→IsFo D R root most (-1,[]) true
 | large:D root=true→(∀ L,IsNds D R root L→most < totP D R L)→IsFo D R root most (0,[]) false
 | fits {L:List Ky}:D root=true→IsNds D R root L→totP D R L≤most→IsFo D R root most (foI D R L root) true
theorem IsFo.uniq {D:Ky→Bool} {R:List Ru} {root:Ky} {most:Nat} {f f':FoI} {b b':Bool} (h:IsFo D R root most f b) (h':IsFo D R root most f' b'):f=f'∧b=b':=by
 cases h with
 | none h1=>cases h' with
  | none=>exact ⟨rfl,rfl⟩
  | large k1=>rw [h1] at k1; cases k1
  | fits k1=>rw [h1] at k1; cases k1
 | large h1 h2=>cases h' with
  | none k1=>rw [h1] at k1; cases k1
  | large=>exact ⟨rfl,rfl⟩
  | fits k1 k2 k3=>have:=h2 _ k2; omega
 | fits h1 h2 h3=>cases h' with
  | none k1=>rw [h1] at k1; cases k1
  | large k1 k2=>have:=k2 _ h2; omega
  | fits k1 k2 k3=>rw [h2.uniq k2]; exact ⟨rfl,rfl⟩
end Go.Proofs.YtfcihnpmeabacaaGreatDoor
namespace Go.Proofs.YtfcihnpmeabacaaGreatDoor
open Go.RowKit
open Go.Sort (grow alloc_eq_grow grow_grow putRowK putRow mapBlock putCells flatK HoldsK Holds onCells size_flatK get_flatK SWO PermIn SortedIn)
open Go.Proofs (sortWorldK CmpLays ltOf)
section
variable {α:Type} [Inhabited α] {enc:α→List Value} {k:Nat} {w:World} {blk off m:Nat} {dk:Array α} {os:Array Obj}
theorem sw_size:w.heap.size≤(sortWorldK enc k w blk off m dk os).heap.size:=by
 simp only [sortWorldK,grow,putRowK,putRow,mapBlock,Array.size_append,Array.size_modify];exact Nat.le_add_right _ _
theorem sw_get {b:Nat} (hb:b < w.heap.size):(sortWorldK enc k w blk off m dk os).heap[b]?=if blk=b then (w.heap[b]?).map (onCells (putCells id off (flatK enc k dk))) else w.heap[b]?:=by
 simp only [sortWorldK,grow,putRowK,putRow,mapBlock];rw [Array.getElem?_append_left (by simpa using hb),Array.getElem?_modify];rfl
theorem sw_other {b:Nat} (hb:b < w.heap.size) (hne:b≠blk):(sortWorldK enc k w blk off m dk os).heap[b]?=w.heap[b]?:=by
 rw [sw_get hb,if_neg (Ne.symm hne)]
theorem sw_row {cur:Array Value} {t:TypeId} {fr:Nat×Nat} (h:w.heap[blk]?=some (.cells cur t fr)):(sortWorldK enc k w blk off m dk os).heap[blk]?=some (.cells (putCells id off (flatK enc k dk) cur) t fr):=by
 have hb:blk < w.heap.size:=(Array.getElem?_eq_some_iff.1 h).1;rw [sw_get hb,if_pos rfl,h]; rfl
theorem sw_below {base:Nat} (hb:base≤blk):base≤w.heap.size→Below base w (sortWorldK enc k w blk off m dk os):=fun hs =>
 ⟨rfl,rfl,rfl,sw_size,fun b hlt=>sw_other (by omega) (by omega)⟩
end
theorem flat_get {α ρ:Type} (E:Elem α ρ):∀ (raw:List ρ) (i j:Nat) (r:ρ),raw[i]?=some r→j < E.k→(flat E raw)[i*E.k+j]?=(E.cells r)[j]?
 | [],i,j,r,h,_=>by simp at h
 | a::raw,0,j,r,h,hj=>by
  simp at h; subst h;simp only [flat,List.flatMap_cons,Nat.zero_mul,Nat.zero_add];rw [List.getElem?_append_left (by rw [E.len]; exact hj)]
 | a::raw,i+1,j,r,h,hj=>by
  simp at h;have ih:=flat_get E raw i j r h hj;simp only [flat,List.flatMap_cons];rw [List.getElem?_append_right (by rw [E.len,Nat.add_mul]; omega),E.len,show (i+1)*E.k+j - E.k=i*E.k+j by rw [Nat.add_mul]; omega];exact ih
theorem putCells_take (F cur:Array Value) (h:F.size≤cur.size):(putCells id 0 F cur).size=cur.size∧(putCells id 0 F cur).toList.take F.size=F.toList:=by
 have hs:(putCells id 0 F cur).size=cur.size:=(by simp [putCells]);refine ⟨hs,?_⟩
 apply List.ext_getElem?
 intro t;rw [List.getElem?_take]
 split
 ·rename_i ht
  rw [Array.getElem?_toList,Array.getElem?_toList,Array.getElem?_eq_getElem (by omega),Array.getElem?_eq_getElem ht];simp only [putCells,Array.getElem_mapIdx,Nat.zero_le,true_and,Nat.zero_add,Nat.sub_zero,id];rw [if_pos ht,getElem!_pos F t ht]
 ·rename_i ht
  rw [Array.getElem?_toList,Array.getElem?_eq_none (by omega)]
section
variable {α ρ:Type} (E:Elem α ρ)
abbrev EltX (ok:Nat→Prop) (ph:α→Prop) (w:World) (g:Nat):={p:ρ×α // E.rel (fun b=>ok b∧some b≠some g) w p.1 p.2∧ph p.2}
def encX {ok:Nat→Prop} {ph:α→Prop} {w:World} {g:Nat} (p:EltX E ok ph w g):List Value:=E.cells p.1.1
def CmpX (fid:Nat) (cb:Array Value) (cf:α→α→Int) (ok:Nat→Prop) (ph:α→Prop) (w:World) (g:Nat):Prop :=
 ∀ (W:World),Agr (fun b=>b≠g) w W→w.heap.size≤W.heap.size→∀ p q:EltX E ok ph w g,Calls Tryz.prog fid (#[.agg (E.cells p.1.1).toArray,.agg (E.cells q.1.1).toArray]++cb) W fun e w'=>e=.returned (.int .i64 (cf p.1.2 q.1.2))∧∃ n os,w'=grow (W.drewN n) os
def SortPX (e:TypeId) (ok:Nat→Prop) (base n:Nat) (A:Option Addr) (c:Nat) (l:List α) (cf:α→α→Int) (w:World) (en:Ending) (w':World):Prop :=
 en=.returned (.tuple #[])∧∃ l':List α,l'.Perm l∧l'.Pairwise (fun x y=>cf x y≤0)∧Own E e ok w' base (.slice A n c) n l'∧Below base w w'∧Agr (fun b=>some b≠(Value.slice A n c).ownBlock) w w'∧w.heap.size≤w'.heap.size
theorem flatX_raw {ok:Nat→Prop} {ph:α→Prop} {w:World} {g:Nat} [Inhabited (EltX E ok ph w g)] (d:Array (EltX E ok ph w g)):(flatK (encX E) E.k d).toList=flat E (d.toList.map fun p=>p.1.1):=by
 apply List.ext_getElem?
 intro t;have hl:(flat E (d.toList.map fun p:EltX E ok ph w g=>p.1.1)).length=d.size*E.k:=(by rw [flat_len]; simp);have hp:=E.pos
 rcases Nat.lt_or_ge t (d.size*E.k) with ht | ht
 ·have hi:t / E.k < d.size:=(Nat.div_lt_iff_lt_mul hp).2 ht
  have e1:(d.toList.map fun p:EltX E ok ph w g=>p.1.1)[t / E.k]?=some (d[t / E.k]!).1.1:=by
   rw [List.getElem?_map,Array.getElem?_toList,getElem!_pos d (t / E.k) hi,Array.getElem?_eq_getElem hi]; rfl
  have e2:=flat_get E _ (t / E.k) (t % E.k) _ e1 (Nat.mod_lt _ hp);have e3:t / E.k*E.k+t % E.k=t:=Nat.div_add_mod' t E.k;rw [e3] at e2;rw [e2,Array.getElem?_toList,Array.getElem?_eq_getElem (by simpa using ht)];have e4:=get_flatK (encX E (ok:=ok) (ph:=ph) (w:=w) (g:=g)) E.k d t ht;rw [getElem!_pos _ t (by simpa using ht)] at e4;rw [e4];have hm:t % E.k < (encX E d[t / E.k]!).length:=(by rw [encX,E.len]; exact Nat.mod_lt _ hp);rw [getElem!_pos (encX E (ok:=ok) (ph:=ph) (w:=w) (g:=g) d[t / E.k]!) (t % E.k) hm];exact (List.getElem?_eq_getElem hm).symm
 ·rw [Array.getElem?_toList,Array.getElem?_eq_none (by simpa using ht),List.getElem?_eq_none (by rw [hl]; exact ht)]
theorem sw_agr {ok:Nat→Prop} {ph:α→Prop} {w:World} {g:Nat} [Inhabited (EltX E ok ph w g)] {n:Nat} {dk:Array (EltX E ok ph w g)} {os:Array Obj}:Agr (fun b=>b≠g) w (sortWorldK (encX E) E.k w g 0 n dk os):=fun _ hb hl=>sw_other hl hb
theorem sort_x {σ:Go.Shelf.Ren} (L:SlLaysF0.n6 Tryz.prog σ) (aE:∀ w,(isAgg (σ.t 24)).run Tryz.prog w=.ok true w) (zE:∀ w,(Go.sizeOf (σ.t 24)).run Tryz.prog w=.ok E.k w) (fid:Nat) (cb:Array Value) (eg:∀ args w,(callFunc fid args).run Tryz.prog w=.ok (.enter fid args) w)
 (cf:α→α→Int) (hO:∀ p:α→Prop,SWO (ltOf fun x y:{x:α // p x}=>cf x.1 y.1)) (hA:∀ x y,0 < cf x y→cf y x < 0) (e:TypeId) (ok:Nat→Prop) (ph:α→Prop) (w:World) (base n:Nat) (A:Option Addr) (c:Nat) (l:List α) (hn:n≤1000000) (hph:∀ x∈l,ph x) (hown:Own E e ok w base (.slice A n c) n l)
 (hcmp:∀ g,(Value.slice A n c).ownBlock=some g→CmpX E fid cb cf ok ph w g) :
 Calls Tryz.prog (σ.f 6) #[.slice A n c,.func (.func fid) #[] cb] w (SortPX E e ok base n A c l cf w):=by
 rcases Nat.eq_zero_or_pos n with h0 | h0
 ·subst h0;obtain rfl:l=[]:=List.eq_nil_of_length_eq_zero hown.len;refine (AnyF.slices_SortFunc_none L A c (.func (.func fid) #[] cb) w).mono ?_;rintro en w' ⟨rfl,rfl⟩;exact ⟨rfl,[],List.Perm.refl _,List.Pairwise.nil,hown,Below.refl _ _,Agr.refl,Nat.le_refl _⟩
 obtain ⟨hl,raw,hr,⟨hrl,hrow⟩,hrel⟩:=hown
 rcases hrow with ⟨-,e1⟩ | ⟨g,cap,cur,e1,hg,hb,hnc,hcm,hcs,htk⟩
 ·omega
 simp only [Value.slice.injEq] at e1;obtain ⟨rfl,-,rfl⟩:=e1;have hob:(Value.slice (some ⟨g,0,none⟩) n c).ownBlock=some g:=rfl;rw [hob] at hrel;have hgl:g < w.heap.size:=(Array.getElem?_eq_some_iff.1 hb).1
 have hall:∀ p∈raw.zip l,E.rel (fun b=>ok b∧some b≠some g) w p.1 p.2∧ph p.2:=by
  intro p hp;obtain ⟨i,hi⟩:=List.mem_iff_getElem?.1 hp;rw [List.getElem?_zip_eq_some] at hi;exact ⟨hrel i _ _ hi.1 hi.2,hph _ (List.mem_of_getElem? hi.2)⟩
 obtain ⟨d,hd⟩:∃ d:Array (EltX E ok ph w g),d=((raw.zip l).pmap (fun p h=>(⟨p,h⟩:EltX E ok ph w g)) hall).toArray:=⟨_,rfl⟩
 have hdp:d.toList.map Subtype.val=raw.zip l:=by
  rw [hd,List.map_pmap];simp
 have hdm:(d.toList.map fun p=>p.1.1)=raw:=by
  have:(d.toList.map fun p:EltX E ok ph w g=>p.1.1)=(d.toList.map Subtype.val).map Prod.fst:=(by simp);rw [this,hdp,List.map_fst_zip (by omega)]
 have hdl:(d.toList.map fun p=>p.1.2)=l:=by
  have:(d.toList.map fun p:EltX E ok ph w g=>p.1.2)=(d.toList.map Subtype.val).map Prod.snd:=(by simp);rw [this,hdp,List.map_snd_zip (by omega)]
 have hds:d.size=n:=(by rw [← hr,← hdm]; simp)
 haveI:Inhabited (EltX E ok ph w g):=⟨d[0]'(by omega)⟩
 have hF:(flatK (encX E) E.k d).toList=flat E raw:=(by rw [flatX_raw,hdm]);have hB:Blk w g e cur:=hb;have hfs:(flatK (encX E) E.k d).size=n*E.k:=(by rw [size_flatK,hds])
 have hH:HoldsK (encX E) E.k w g 0 d:=by
  intro j hj;have hj':j < n*E.k:=(by omega);refine ⟨?_,hB.frozen _⟩;rw [hB.cell,Nat.zero_add]
  have e1:cur[j]?=(flatK (encX E) E.k d)[j]?:=by
   rw [← Array.getElem?_toList,← Array.getElem?_toList,hF,← htk,List.getElem?_take,if_pos hj']
  rw [e1,Array.getElem?_eq_getElem hj,getElem!_pos _ j hj]; rfl
 have hC:=hcmp g rfl
 have hlay:CmpLays Tryz.prog fid cb (encX E (ok:=ok) (ph:=ph) (w:=w) (g:=g)) E.k (fun x y=>cf x.1.2 y.1.2) g 0 d.size w:=by
  intro m os dk hs x y;exact hC _ (sw_agr E) sw_size x y
 have hsw:SWO (ltOf fun x y:EltX E ok ph w g=>cf x.1.2 y.1.2):=by
  have hq:=hO ph;refine ⟨fun x=>hq.irrefl ⟨x.1.2,x.2.2⟩,fun x y z h1 h2=>hq.trans ⟨x.1.2,x.2.2⟩ ⟨y.1.2,y.2.2⟩ ⟨z.1.2,z.2.2⟩ h1 h2,fun x y z h1 h2=>hq.ntrans ⟨x.1.2,x.2.2⟩ ⟨y.1.2,y.2.2⟩ ⟨z.1.2,z.2.2⟩ h1 h2⟩
 have hcon:=AnyQ.slices_SortFunc L E.k aE zE (encX E (ok:=ok) (ph:=ph) (w:=w) (g:=g)) (fun x=>E.len _) (fun x v hv=>E.one _ v hv) (fun x y=>cf x.1.2 y.1.2) hsw fid cb g 0 c d w eg hlay hH hgl (by omega);rw [hds] at hcon;refine hcon.mono ?_;rintro en w' ⟨rfl,d',n',os,⟨hp1,-,hp2⟩,hso,rfl⟩;have hds':d'.size=n:=(by omega)
 have hperm:d'.toList.Perm d.toList:=by
  have x1:d'.extract 0 n=d':=(by rw [← hds']; simp);have x2:d.extract 0 n=d:=(by rw [← hds]; simp);rw [x1,x2] at hp2; exact hp2
 obtain ⟨p1,p2⟩:=putCells_take (flatK (encX E) E.k d') cur (by rw [size_flatK,hds',hcs]; exact Nat.mul_le_mul_right _ hnc);refine ⟨rfl,d'.toList.map fun p=>p.1.2,?_,?_,⟨by simp [hds'],d'.toList.map fun p=>p.1.1,by simp [hds'],⟨?_,Or.inr ⟨g,c,_,rfl,hg,sw_row hb,hnc,hcm,by rw [p1]; exact hcs,?_⟩⟩,?_⟩,?_,?_,sw_size⟩
 ·rw [← hdl]; exact hperm.map _
 ·rw [List.pairwise_map,List.pairwise_iff_getElem];intro i j hi hj hij;have h:=hso i j (Nat.zero_le _) hij (by simpa [hds'] using hj);simp only [ltOf,decide_eq_false_iff_not] at h;rw [getElem!_pos d' i (by simpa using hi),getElem!_pos d' j (by simpa using hj)] at h;simp only [Array.getElem_toList]
  apply Classical.byContradiction
  intro hgt;exact h (hA _ _ (by omega))
 ·rw [flat_len]; simp [hds']
 ·have q1:(flatK (encX E) E.k d').size=n*E.k:=(by rw [size_flatK,hds']);rw [← q1,p2,flatX_raw]
 ·intro i r x hr' hx;rw [List.getElem?_map] at hr' hx;obtain ⟨y,hy,rfl⟩:=Option.map_eq_some_iff.1 hr';rw [hy] at hx;simp only [Option.map_some,Option.some.injEq] at hx;subst hx;exact E.agr y.2.1 ((sw_agr E).mono fun b hb=>by intro e; exact hb.2 (by rw [e]; rfl))
 ·exact sw_below hg (by omega)
 ·exact (sw_agr E).mono fun b hb e=>hb (by rw [e]; rfl)
end
end Go.Proofs.YtfcihnpmeabacaaGreatDoor
namespace Go.Proofs.YtfcihnpmeabacaaGreatDoor
open Go.RowKit
section
variable {c0 c1:Int} {g:Int→Int→Int→Int}
variable {xs ys:List Int}
end
def down:Nat→Int
 | 0=>-1
 | k+1=>(k:Int)
def mkCells (z:Value) (n:Nat):Array Value:=madeCells #[z] n
theorem mkCells_size (z:Value) (n:Nat):(mkCells z n).size=n:=size_madeCells _ _
section
variable {w w':World} {bd n m i lo:Nat} {rb:Nat→Nat} {V:Nat→Nat→Int}
end
section
variable {w:World} {bd m k b j:Nat} {V:Nat→Int}
end
end Go.Proofs.YtfcihnpmeabacaaGreatDoor
namespace Go.Proofs.YtfcihnpmeabacaaGreatDoor
open Go.RowKit
section
variable {c0 c1 c2:Int}
def mn (a b:Int):Int:=if b < a then b else a
def oneC (c0 c1 c2 t:Int) (p:List Int):Int :=
 if t∈p then mn (mn (c0+(p.length:Int)*c1) (c2+((p.length:Int) - 1)*c1)) (((p.length:Int) - 1)*c1)
 else if p=[] then c0+(p.length:Int)*c1 else mn (c0+(p.length:Int)*c1) (c2+((p.length:Int) - 1)*c1)
end
inductive Dv (rules:List Ru):List Sy→List Int→Prop
 | nil:Dv rules [] []
 | term (t:Nat) {l:List Sy} {v:List Int} (h:Dv rules l v):Dv rules ((true,t)::l) ((t:Int)::v)
 | non (N:Nat) {rhs l:List Sy} {u v:List Int} (hr:(N,rhs)∈rules) (h1:Dv rules rhs u) (h2:Dv rules l v):Dv rules ((false,N)::l) (u++v)
section
variable {rules:List Ru}
theorem Dv.append {a b:List Sy} {u v:List Int} (h:Dv rules a u) (k:Dv rules b v):Dv rules (a++b) (u++v):=by
 induction h with
 | nil=>simpa using k
 | term t _ ih=>exact .term t ih
 | non N hr h1 _ _ ih=>rw [List.append_assoc]; exact .non N hr h1 ih
theorem Dv.one {s:Nat} {rhs:List Sy} {v:List Int} (hr:(s,rhs)∈rules) (h:Dv rules rhs v):Dv rules [(false,s)] v:=by
 have:=Dv.non s hr h (Dv.nil (rules:=rules))
 simpa using this
theorem Dv.letter (t:Nat):Dv rules [(true,t)] [(t:Int)]:=.term t .nil
end
structure Way where
 cost:Int
 size:Int
 w:List Int
 ok:Bool
def Way.no:Way:=⟨0,0,[],false⟩
def wcmp (a b:Way):Int:=orL [cmpI a.cost b.cost,cmpI a.size b.size,cmpL a.w b.w]
def lessW (a b:Way):Bool:=if !b.ok || !a.ok then a.ok else decide (wcmp a b < 0)
def thenW (a b:Way):Way:=⟨a.cost+b.cost,a.size+b.size,if (a.ok&&b.ok)&&decide (a.size+b.size≤2000) then a.w++b.w else [],a.ok&&b.ok⟩
def hopeW (a b t:Way):Bool:=if !a.ok || !b.ok then true else t.ok&&decide (orL [cmpI (a.cost+b.cost) t.cost,cmpI (a.size+b.size) t.size] > 0)
theorem cmpI_zero {x y:Int}:cmpI x y=0↔x=y:=by unfold cmpI; split <;> (try split) <;> omega
def upd (f:Nat→Way) (j:Nat) (y:Way):Nat→Way:=fun i=>if i=j then y else f i
def goJ (a x:Way) (next:Nat→Way) (j:Nat):Nat→Way :=
 if hopeW a x (next j) then next else if lessW (thenW a x) (next j) then upd next j (thenW a x) else next
def rowJ (a:Way) (sym:Nat→Way) (k:Nat) (next:Nat→Way):Nat→Nat→Way
 | 0=>next
 | m+1=>goJ a (sym (k+m)) (rowJ a sym k next m) (k+m)
def rowK (at_:Nat→Way) (sym:Nat→Nat→Way) (n i:Nat):Nat→Nat→Way
 | 0=>fun _=>Way.no
 | m+1=>if (at_ (i+m)).ok then rowJ (at_ (i+m)) (sym (i+m)) (i+m) (rowK at_ sym n i m) (n+1 - (i+m)) else rowK at_ sym n i m
def symW (c0 c1 c2:Int) (w:List Int) (st:Nat→Nat→Nat→Way) (s:Sy) (i j:Nat):Way :=
 if s.1 then ⟨oneC c0 c1 c2 (s.2:Int) ((w.take j).drop i),1,[(s.2:Int)],true⟩ else st s.2 i j
def ruleAt (c0 c1 c2:Int) (w:List Int) (st:Nat→Nat→Nat→Way) (n i:Nat):List Sy→(Nat→Way)
 | l=>l.foldl (fun f s=>rowK f (symW c0 c1 c2 w st s) n i (n+1 - i)) (upd (fun _=>Way.no) i ⟨0,0,[],true⟩)
def ruleW (c0 c1 c2:Int) (w:List Int) (st:Nat→Nat→Nat→Way) (n i:Nat) (l:List Sy):Nat→Way :=
 if l=[] then (fun j=>if i≤j∧j≤n then ⟨((j:Int) - (i:Int))*c1,0,[],true⟩ else Way.no) else ruleAt c0 c1 c2 w st n i l
end Go.Proofs.YtfcihnpmeabacaaGreatDoor
namespace Go.Proofs.YtfcihnpmeabacaaGreatDoor
open Go.RowKit
def part (w:List Int) (i j:Nat):List Int:=(w.take j).drop i
theorem part_len {w:List Int} {i j:Nat} (h2:j≤w.length):(part w i j).length=j - i:=by simp [part]; omega
theorem part_split {w p1 p2:List Int} {i j:Nat} (h1:i≤j) (h2:j≤w.length) (h:part w i j=p1++p2):∃ m,i≤m∧m≤j∧part w i m=p1∧part w m j=p2:=by
 have hl:=part_len (i:=i) h2;rw [h,List.length_append] at hl;refine ⟨i+p1.length,by omega,by omega,?_,?_⟩
 ·have e:part w i (i+p1.length)=(part w i j).take p1.length:=by
   unfold part;rw [List.take_drop,List.take_take]
   congr 2; omega
  rw [e,h]; simp
 ·have e:part w (i+p1.length) j=(part w i j).drop p1.length:=by
   unfold part; rw [List.drop_drop]
  rw [e,h]; simp
theorem part_all (w:List Int):part w 0 w.length=w:=by simp [part]
theorem part_same (w:List Int) (i:Nat):part w i i=[]:=by simp [part]
theorem part_append {w:List Int} {i m j:Nat} (h1:i≤m) (h2:m≤j):part w i m++part w m j=part w i j:=by
 have e:(w.take j).drop i=((w.take j).drop i).take (m - i)++((w.take j).drop i).drop (m - i):=(List.take_append_drop _ _).symm;unfold part;rw [e,List.drop_drop,List.take_drop,List.take_take]
 congr 2 <;> (congr 1; omega)
section
variable {c0 c1 c2:Int} {w:List Int} {st:Nat→Nat→Nat→Way} {n i:Nat}
theorem snoc_induction {α:Type} {P:List α→Prop} (h0:P []) (hs:∀ l a,P l→P (l++[a])) (l:List α):P l:=by
 have:∀ (k:Nat) (l:List α),l.length=k→P l:=by
  intro k
  induction k with
  | zero=>intro l h; rw [List.length_eq_zero_iff.1 h]; exact h0
  | succ k ih =>
   intro l h
   rcases List.eq_nil_or_concat l with rfl | ⟨a,b,rfl⟩
   ·exact h0
   ·rw [List.concat_eq_append];exact hs a b (ih a (by simp at h; exact h))
 exact this _ l rfl
end
section
variable {c0 c1 c2:Int} {rules:List Ru} {w:List Int} {st:Nat→Nat→Nat→Way}
end
section
variable {c0 c1 c2:Int} {rules:List Ru} {w:List Int} {st:Nat→Nat→Nat→Way}
end
section
variable {c0 c1 c2:Int} {w:List Int} {st:Nat→Nat→Nat→Way}
end
structure Pm where
 c0:Int
 c1:Int
 c2:Int
 nons:Nat
 rules:List Ru
 w:List Int
structure Pm.Ok (p:Pm):Prop where
 c0:1≤p.c0∧p.c0≤100
 c1:1≤p.c1∧p.c1≤100
 c2:1≤p.c2∧p.c2≤100
 nons:p.nons≤10
 left:∀ r∈p.rules,r.1 < p.nons
 right:∀ r∈p.rules,r.2.length≤4
 lets:∀ r∈p.rules,∀ s∈r.2,s.1=true→s.2 < 8
 len:p.w.length≤12
abbrev WSt:=Nat→Nat→Nat→Way
def Pm.rule (p:Pm) (st:WSt) (i:Nat) (l:List Sy):Nat→Way:=ruleW p.c0 p.c1 p.c2 p.w st p.w.length i l
def Pm.sym (p:Pm) (st:WSt) (s:Sy) (i j:Nat):Way:=symW p.c0 p.c1 p.c2 p.w st s i j
def cnt (nons:Nat) (st:WSt):Nat:=((List.range nons).filter fun N=>(st N 0 0).ok).length
section
variable {p:Pm} {st st1 stI:WSt} {r:Ru} {i j:Nat}
theorem cnt_le (nons:Nat) (st:WSt):cnt nons st≤nons:=by
 unfold cnt; have:=List.length_filter_le (fun N=>(st N 0 0).ok) (List.range nons); simpa using this
end
end Go.Proofs.YtfcihnpmeabacaaGreatDoor
namespace Go.Proofs.YtfcihnpmeabacaaGreatDoor
open Go.RowKit
def long:Nat:=2000
def sumTo (f:Nat→Nat):Nat→Nat
 | 0=>0
 | n+1=>sumTo f n+f n
theorem sumTo_le {f g:Nat→Nat} (n:Nat) (h:∀ k,f k≤g k):sumTo f n≤sumTo g n:=by
 induction n with
 | zero=>exact Nat.le_refl _
 | succ n ih=>have:=h n; simp only [sumTo]; omega
theorem sumTo_lt {f g:Nat→Nat} {n k:Nat} (h:∀ k,f k≤g k) (hk:k < n) (hl:f k < g k):sumTo f n < sumTo g n:=by
 induction n with
 | zero=>omega
 | succ n ih =>
  simp only [sumTo]
  by_cases e:k=n
  ·subst e; have:=sumTo_le (f:=f) (g:=g) k h; omega
  ·have:=ih (by omega); have:=h n; omega
theorem Dv.lets {rules:List Ru} {B:Nat} (hr:∀ r∈rules,∀ s∈r.2,s.1=true→s.2 < B) {l:List Sy} {v:List Int} (h:Dv rules l v):(∀ s∈l,s.1=true→s.2 < B)→∀ y∈v,0≤y∧y < (B:Int):=by
 induction h with
 | nil=>intro _ y hy; cases hy
 | @term t l v h ih =>
  intro hl y hy
  rcases List.mem_cons.1 hy with rfl | hy
  ·have:=hl (true,t) (List.mem_cons_self ..) rfl;simp only at this; omega
  ·exact ih (fun s hs=>hl s (List.mem_cons_of_mem _ hs)) y hy
 | @non N rhs l u v hm h1 h2 ih1 ih2 =>
  intro hl y hy
  rcases List.mem_append.1 hy with hy | hy
  ·exact ih1 (hr _ hm) y hy
  ·exact ih2 (fun s hs=>hl s (List.mem_cons_of_mem _ hs)) y hy
section
variable {p:Pm} {st st1 stI:WSt} {r:Ru} {i j:Nat}
def big:Nat:=2000000000
end
end Go.Proofs.YtfcihnpmeabacaaGreatDoor
namespace Go.Proofs.YtfcihnpmeabacaaGreatDoor
open Go.RowKit
abbrev Ce:=Bool×Int
def gpart {α:Type} (w:List α) (i j:Nat):List α:=(w.take j).drop i
section
variable {α:Type}
theorem gpart_one {w:List α} {i:Nat} {c:α} (h:gpart w i (i+1)=[c]):w[i]?=some c:=by
 have:(gpart w i (i+1))[0]?=some c:=(by rw [h]; rfl);unfold gpart at this;rw [List.getElem?_drop,List.getElem?_take,if_pos (by omega)] at this;exact this
theorem gpart_at {w:List α} {i:Nat} {c:α} (h:w[i]?=some c):gpart w i (i+1)=[c]:=by
 have hl:=List.getElem?_eq_some_iff.1 h;have hl1:=hl.1;unfold gpart;rw [List.take_succ_eq_append_getElem hl.1,List.drop_append_of_le_length (by rw [List.length_take]; omega),List.drop_of_length_le (by rw [List.length_take]; omega),hl.2]; rfl
end
section
variable {rules:List Ru}
end
section
variable {rules:List Ru} {cells:List Ce} {st:WSt}
end
section
variable {rules:List Ru} {cells:List Ce} {st stI:WSt} {r:Ru} {i j nons:Nat}
end
end Go.Proofs.YtfcihnpmeabacaaGreatDoor
namespace Go.Proofs.YtfcihnpmeabacaaGreatDoor
open Go.RowKit
def gath (C:Nat→Nat):Nat→Nat→Nat
 | 0,_=>0
 | m+1,y=>if y.testBit m then gath C m y ||| C m else gath C m y
theorem gath_bit (C:Nat→Nat) (y j:Nat):∀ m,(gath C m y).testBit j=true↔∃ p,p < m∧y.testBit p=true∧(C p).testBit j=true
 | 0=>by simp [gath]
 | m+1=>by
  rw [gath]
  by_cases hm:y.testBit m=true
  ·rw [if_pos hm,Nat.testBit_or,Bool.or_eq_true,gath_bit C y j m];constructor
   ·rintro (⟨p,h1,h2,h3⟩ | h)
    ·exact ⟨p,by omega,h2,h3⟩
    ·exact ⟨m,by omega,hm,h⟩
   ·rintro ⟨p,h1,h2,h3⟩
    by_cases e:p=m
    ·subst e; exact Or.inr h3
    ·exact Or.inl ⟨p,by omega,h2,h3⟩
  ·rw [if_neg hm,gath_bit C y j m];constructor
   ·rintro ⟨p,h1,h2,h3⟩; exact ⟨p,by omega,h2,h3⟩
   ·rintro ⟨p,h1,h2,h3⟩
    by_cases e:p=m
    ·subst e; exact absurd h2 hm
    ·exact ⟨p,by omega,h2,h3⟩
theorem gath_zero (C:Nat→Nat):∀ m,gath C m 0=0
 | 0=>rfl
 | m+1=>by rw [gath,if_neg (by simp),gath_zero C m]
theorem low_bit {x:Nat} (h0:x≠0) (h:x < 4294967296):∃ k,k=Lib.ctz 32 x∧k < 32∧x &&& (x - 1) < x∧∀ p,x.testBit p=true↔p=k∨(x &&& (x - 1)).testBit p=true:=by
 obtain ⟨m,hm,hk⟩:=Lib.ctzFrom_spec 32 x (by omega) (by omega);have e:Lib.ctz 32 x=Lib.ctzFrom 32 x:=(by simp [Lib.ctz,h0]);rw [e];generalize Lib.ctzFrom 32 x=k at *;have hp:0 < 2 ^ k:=Nat.pos_of_ne_zero (by simp)
 have key:∀ p,(x - 1).testBit p=if p < k then true else if p=k then false else x.testBit p:=by
  intro p;have e1:x - 1=2 ^ k*(2*m)+(2 ^ k - 1):=(by rw [hm,Nat.mul_add]; omega);rw [e1,Nat.testBit_two_pow_mul_add _ (by omega),Nat.testBit_two_pow_sub_one]
  by_cases h1:p < k
  ·simp [h1]
  ·rw [if_neg h1,if_neg h1,hm,Nat.mul_comm (2 ^ k),Nat.testBit_mul_two_pow]
   by_cases h2:p=k
   ·subst h2; simp [Nat.testBit_zero]
   ·obtain ⟨q,rfl⟩:∃ q,p=k+(q+1):=⟨p - k - 1,by omega⟩;rw [if_neg h2];have e2:k+(q+1) - k=q+1:=(by omega);rw [e2,Nat.testBit_succ,Nat.testBit_succ];have d1:2*m / 2=m:=(by omega);have d2:(2*m+1) / 2=m:=(by omega);rw [d1,d2]; simp
 have hx:∀ p,x.testBit p=if p < k then false else if p=k then true else x.testBit p:=by
  intro p
  by_cases h1:p < k
  ·rw [if_pos h1,hm,Nat.mul_comm (2 ^ k),Nat.testBit_mul_two_pow]; simp; omega
  ·rw [if_neg h1]
   by_cases h2:p=k
   ·subst h2; rw [if_pos rfl,hm,Nat.mul_comm (2 ^ p),Nat.testBit_mul_two_pow]; simp [Nat.testBit_zero]
   ·rw [if_neg h2]
 refine ⟨k,rfl,hk,?_,fun p=>?_⟩
 ·have:=Nat.and_le_right (n:=x) (m:=x - 1); omega
 ·rw [Nat.testBit_and,key]
  by_cases h1:p < k
  ·have:=hx p; rw [if_pos h1] at this;simp [h1,this]; omega
  ·rw [if_neg h1]
   by_cases h2:p=k
   ·subst h2;have:=hx p; rw [if_neg h1,if_pos rfl] at this;simp [this]
   ·simp [h2]
theorem gath_step (C:Nat→Nat) {x:Nat} (h0:x≠0) (h:x < 4294967296):gath C 32 x=C (Lib.ctz 32 x) ||| gath C 32 (x &&& (x - 1)):=by
 obtain ⟨k,rfl,hk,_,hb⟩:=low_bit h0 h
 apply Nat.eq_of_testBit_eq
 intro j;rw [Nat.testBit_or];have e1:=gath_bit C x j 32;have e2:=gath_bit C (x &&& (x - 1)) j 32;rw [Bool.eq_iff_iff,Bool.or_eq_true,e1,e2];constructor
 ·rintro ⟨p,h1,h2,h3⟩
  rcases (hb p).1 h2 with rfl | h4
  ·exact Or.inl h3
  ·exact Or.inr ⟨p,h1,h4,h3⟩
 ·rintro (h3 | ⟨p,h1,h2,h3⟩)
  ·exact ⟨_,hk,(hb _).2 (Or.inl rfl),h3⟩
  ·exact ⟨p,h1,(hb p).2 (Or.inr h2),h3⟩
abbrev EnS:=Nat→Nat→Nat
def cOf (xs:List Int) (E:EnS) (s:Sy) (p:Nat):Nat:=if s.1 then (if xs[p]?=some (s.2:Int) then 2 ^ (p+1) else 0) else E s.2 p
def stepM (xs:List Int) (E:EnS) (s:Sy) (y:Nat):Nat:=gath (cOf xs E s) 32 y
def reachM (xs:List Int) (E:EnS) (l:List Sy) (i:Nat):Nat:=l.foldl (fun y s=>stepM xs E s y) (2 ^ i)
theorem reachM_snoc (xs:List Int) (E:EnS) (l:List Sy) (s:Sy) (i:Nat):reachM xs E (l++[s]) i=stepM xs E s (reachM xs E l i):=by simp [reachM,List.foldl_append]
theorem stepM_bit {xs:List Int} {E:EnS} {s:Sy} {y j:Nat}:(stepM xs E s y).testBit j=true↔∃ p,p < 32∧y.testBit p=true∧(cOf xs E s p).testBit j=true:=gath_bit _ _ _ _
structure SndE (rules:List Ru) (xs:List Int) (E:EnS):Prop where
 snd:∀ N i j,(E N i).testBit j=true→i≤j∧j≤xs.length∧Dv rules [(false,N)] (part xs i j)
section
variable {rules:List Ru} {xs:List Int} {E:EnS}
theorem SndE.start (rules:List Ru) (xs:List Int):SndE rules xs (fun _ _=>0):=⟨fun _ _ _ h=>by simp at h⟩
theorem lt_of_bits {n x:Nat} (h:∀ j,x.testBit j=true→j≤n):x < 2 ^ (n+1) :=
 Nat.lt_pow_two_of_testBit x fun j hj=>by
  cases hb:x.testBit j with
  | false=>rfl
  | true=>have:=h j hb; omega
theorem SndE.lt (h:SndE rules xs E) (N i:Nat):E N i < 2 ^ (xs.length+1):=lt_of_bits fun j hj=>(h.snd N i j hj).2.1
theorem SndE.reach (h:SndE rules xs E) (l:List Sy) {i:Nat} (hi:i≤xs.length):∀ j,(reachM xs E l i).testBit j=true→i≤j∧j≤xs.length∧Dv rules l (part xs i j):=by
 induction l using snoc_induction with
 | h0 =>
  intro j hj;simp only [reachM,List.foldl_nil,Nat.testBit_two_pow,decide_eq_true_eq] at hj;subst hj;exact ⟨Nat.le_refl _,hi,by rw [part_same]; exact .nil⟩
 | hs l s ih =>
  intro j hj;rw [reachM_snoc,stepM_bit] at hj;obtain ⟨p,hp,h1,h2⟩:=hj;obtain ⟨h3,h4,h5⟩:=ih p h1;obtain ⟨b,t⟩:=s;cases b with
  | false =>
   simp only [cOf,Bool.false_eq_true,if_false] at h2;obtain ⟨h6,h7,h8⟩:=h.snd _ _ _ h2;exact ⟨by omega,h7,by rw [← part_append h3 h6]; exact h5.append h8⟩
  | true =>
   simp only [cOf,if_true] at h2
   by_cases hx:xs[p]?=some (t:Int)
   ·rw [if_pos hx,Nat.testBit_two_pow,decide_eq_true_eq] at h2;subst h2;have hl:=(List.getElem?_eq_some_iff.1 hx).1;refine ⟨by omega,by omega,?_⟩;rw [← part_append h3 (Nat.le_succ p)];have e:part xs p (p+1)=[(t:Int)]:=gpart_at hx;rw [e];exact h5.append (Dv.letter t)
   ·rw [if_neg hx] at h2; simp at h2
theorem SndE.put (h:SndE rules xs E) {r:Ru} (hr:r∈rules) {i:Nat} (hi:i≤xs.length):SndE rules xs (fun N k=>if N=r.1∧k=i then E r.1 i ||| reachM xs E r.2 i else E N k):=by
 refine ⟨fun N k j hj=>?_⟩
 by_cases e:N=r.1∧k=i
 ·obtain ⟨rfl,rfl⟩:=e;rw [if_pos ⟨rfl,rfl⟩,Nat.testBit_or,Bool.or_eq_true] at hj
  rcases hj with hj | hj
  ·exact h.snd _ _ _ hj
  ·obtain ⟨h1,h2,h3⟩:=h.reach r.2 hi j hj;exact ⟨h1,h2,Dv.one hr h3⟩
 ·rw [if_neg e] at hj; exact h.snd _ _ _ hj
def FixE (rules:List Ru) (xs:List Int) (E:EnS):Prop:=∀ r∈rules,∀ i,i≤xs.length→∀ j,(reachM xs E r.2 i).testBit j=true→(E r.1 i).testBit j=true
theorem FixE.all (hf:FixE rules xs E) (hl:xs.length < 32) {l:List Sy} {v:List Int} (h:Dv rules l v):∀ i j,i≤j→j≤xs.length→v=part xs i j→∀ l0 a,(reachM xs E l0 a).testBit i=true→(reachM xs E (l0++l) a).testBit j=true:=by
 induction h with
 | nil =>
  intro i j h1 h2 e l0 a ha;have:=part_len (i:=i) h2;rw [← e] at this;simp at this;obtain rfl:i=j:=(by omega)
  simpa using ha
 | @term t l v h ih =>
  intro i j h1 h2 e l0 a ha;obtain ⟨m,m1,m2,e1,e2⟩:=part_split (p1:=[(t:Int)]) h1 h2 e.symm
  have hm:m=i+1:=by
   have:=part_len (w:=xs) (i:=i) (j:=m) (by omega);rw [e1] at this; simp at this; omega
  subst hm;have hx:xs[i]?=some (t:Int):=gpart_one e1
  have:=ih (i+1) j m2 h2 e2.symm (l0++[(true,t)]) a (by
   rw [reachM_snoc,stepM_bit]
   exact ⟨i,by omega,ha,by simp [cOf,hx]⟩)
  simpa using this
 | @non N rhs l u v hr hu hv ih1 ih2 =>
  intro i j h1 h2 e l0 a ha;obtain ⟨m,m1,m2,e1,e2⟩:=part_split h1 h2 e.symm;have h3:=ih1 i m m1 (by omega) e1.symm [] i (by simp [reachM]);have h4:(E N i).testBit m=true:=hf _ hr i (by omega) m (by simpa using h3)
  have:=ih2 m j m2 h2 e2.symm (l0++[(false,N)]) a (by
   rw [reachM_snoc,stepM_bit]
   exact ⟨i,by omega,ha,by simpa [cOf] using h4⟩)
  simpa using this
theorem ends_iff (hs:SndE rules xs E) (hf:FixE rules xs E) (hl:xs.length < 32) (N:Nat):(E N 0).testBit xs.length=true↔Dv rules [(false,N)] xs:=by
 constructor
 ·intro h;have:=(hs.snd N 0 _ h).2.2
  rwa [part_all] at this
 ·intro h;have:=hf.all hl h 0 xs.length (Nat.zero_le _) (Nat.le_refl _) (part_all xs).symm [] 0 (by simp [reachM]);rw [List.nil_append,show [(false,N)]=[]++[((false,N):Sy)] from rfl,reachM_snoc,stepM_bit] at this;obtain ⟨p,hp,h1,h2⟩:=this;simp only [reachM,List.foldl_nil,Nat.testBit_two_pow,decide_eq_true_eq] at h1;subst h1
  simpa [cOf] using h2
end
def totE (nons n:Nat) (E:EnS):Nat:=sumTo (fun N=>sumTo (fun i=>8192 - E N i) (n+1)) nons
theorem totE_lt {nons n:Nat} {E:EnS} {N i y:Nat} (hN:N < nons) (hi:i≤n) (h:E N i < y) (hy:y≤8192):totE nons n (fun a b=>if a=N∧b=i then y else E a b) < totE nons n E:=by
 have key:∀ a b,8192 - (if a=N∧b=i then y else E a b)≤8192 - E a b:=fun a b=>by
  by_cases e:a=N∧b=i
  ·obtain ⟨rfl,rfl⟩:=e; rw [if_pos ⟨rfl,rfl⟩]; omega
  ·rw [if_neg e]; exact Nat.le_refl _
 refine sumTo_lt (k:=N) (fun a=>sumTo_le _ fun b=>key a b) hN (sumTo_lt (k:=i) (fun b=>key N b) (by omega) ?_);show 8192 - (if N=N∧i=i then y else E N i) < 8192 - E N i
 rw [if_pos ⟨rfl,rfl⟩]; omega
theorem or_lt_of {e x:Nat} (h:x &&& (4294967295 - e)≠0) (he:e < 4294967296):e < e ||| x:=by
 have h1:e≤e ||| x:=Nat.left_le_or
 rcases Nat.lt_or_eq_of_le h1 with h2 | h2
 ·exact h2
 ·exfalso
  apply h
  apply Nat.eq_of_testBit_eq
  intro j;rw [Nat.zero_testBit,Nat.testBit_and,show 4294967295 - e=2 ^ 32 - (e+1) by omega,Nat.testBit_two_pow_sub_succ (by omega)];have h3:(e ||| x).testBit j=e.testBit j:=(by rw [← h2]);rw [Nat.testBit_or] at h3;cases hx:x.testBit j with
  | false=>rfl
  | true =>
   rw [hx,Bool.or_true] at h3;rw [← h3]; simp
theorem sub_of {e x:Nat} (h:x &&& (4294967295 - e)=0) (he:e < 4294967296) (hx:x < 4294967296) (j:Nat) (hj:x.testBit j=true):e.testBit j=true:=by
 have h1:(x &&& (4294967295 - e)).testBit j=false:=(by rw [h]; simp);rw [Nat.testBit_and,show 4294967295 - e=2 ^ 32 - (e+1) by omega,Nat.testBit_two_pow_sub_succ (by omega),hj] at h1
 have hjl:j < 32:=by
  rcases Nat.lt_or_ge j 32 with h2 | h2
  ·exact h2
  ·have:=Nat.testBit_lt_two_pow (x:=x) (i:=j) (Nat.lt_of_lt_of_le hx (by
    have:=Nat.pow_le_pow_right (n:=2) (by omega) h2
    omega))
   rw [this] at hj; cases hj
 simpa [hjl] using h1
end Go.Proofs.YtfcihnpmeabacaaGreatDoor
