/- Texts PC, BF, BI, RD, RF, RS, RT, RU, RB, RC, BD, laid together. -/
import Derived.Test.YtfcihnpmeabacaaGreatDoorW3
import Derived.Test.YtfcihnpmeabacaaGreatDoorW2
import Derived.Lib.AppendZerosOnto
import Derived.Lib.AppendZeros
namespace Go.Proofs.YtfcihnpmeabacaaGreatDoor
open Go.RowKit
section
variable {α ρ:Type} {E:Elem α ρ}
theorem run_append_manyE (w:World) (t ty e:TypeId) (i:TypeInfo) (z:Value) (bytes:Nat) (ht:Tryz.prog.underlying t=some (.slice e)) (hi:Tryz.prog.info? e=some i) (hz:i.zero=some z) (hsz:i.size=E.k) (hby:i.bytes=bytes) (hzs:z.cells.size=E.k)
 (ok:Nat→Prop) (base:Nat) (v:Value) (n:Nat) (l:List α) (hown:Own E e ok w base v n l)
 (A:Option Addr) (m c:Nat) (ys:List α) (hs:Sl E (fun b=>ok b∧some b≠v.ownBlock) w A m c ys) (h63:n+m≤maxLen) (hbytes:(n+m)*bytes≤140737488355328) (hbase:base≤w.heap.size) :
 ∃ A' c' w',(Builtin.append_ #[t,t] ty #[v,.slice A m c]).run Tryz.prog w=.ok (.slice A' (n+m) c') w'∧Own E e ok w' base (.slice A' (n+m) c') (n+m) (l++ys)∧w.grownBy w' v.ownBlock ∧
  ((Value.slice A' (n+m) c').ownBlock=v.ownBlock∨(Value.slice A' (n+m) c').ownBlock=some w.heap.size):=by
 obtain ⟨s1,s2,raw2,s3,s4,s5⟩:=hs
 rcases A with _ | ad
 ·have hm:raw2=[]:=by
   rcases List.eq_nil_or_concat raw2 with h | ⟨r,x,rfl⟩
   ·exact h
   ·rw [List.concat_eq_append] at s4
    obtain ⟨b,off,e,_⟩:=s4 (fun e=>by
     have:=flat_len (E:=E) (r++[x]);rw [e] at this;have hp:=Nat.mul_pos (show 0 < (r++[x]).length by simp) E.pos
     simp only [List.length_nil] at this; omega)
    cases e
  subst hm;obtain rfl:m=0:=(by simpa using s3.symm);obtain rfl:ys=[]:=List.eq_nil_of_length_eq_zero s1;obtain ⟨A',c',rfl,hc⟩:=hown.form;refine ⟨A',c',w,?_,by simpa using hown,World.grownBy.refl w _,Or.inl rfl⟩
  rcases A' with _ | g
  ·have:n=0∧c'=0:=by
    obtain ⟨_,raw,_,h4,_⟩:=hown
    rcases h4.2 with ⟨e,h0⟩ | ⟨g,cap,cur,e,_⟩
    ·cases e; exact ⟨rfl,rfl⟩
    ·cases e
   obtain ⟨rfl,rfl⟩:=this;simp [Builtin.append_,run_underlying ht,sizeOf,typeInfo,hi,Builtin.lenOf,Builtin.firstCells]
  ·simp [Builtin.append_,run_underlying ht,sizeOf,typeInfo,hi,Builtin.lenOf,Builtin.firstCells,hc,storeCells]
 ·obtain ⟨h1,raw,h3,h4,h5⟩:=hown
  have hcell:∀ j u,(flat E raw2)[j]?=some u→w.cell? (ad.add j)=some u:=fun j u hu=>by
   obtain ⟨b,off,e,-,hc⟩:=s4 (fun e=>by rw [e] at hu; simp at hu);cases e
   rw [Addr.add_lit]; exact hc j u hu
  obtain ⟨v',w',hrun,h6,h7,_,h8⟩:=run_append_own_at (P:=Tryz.prog) w base t ty e i z E.k bytes ht hi hz hsz hby hzs E.pos v n _ h4 ad m c (flat E raw2) (by rw [flat_len,s3]) hcell
   (fun u hu=>by obtain ⟨r,-,h⟩:=List.mem_flatMap.1 hu; exact E.one r u h) h63 hbytes hbase
  have hown':Own E e ok w' base v' (n+m) (l++ys):=by
   refine ⟨by simp [h1,s1],raw++raw2,by simp [h3,s3],by have e:flat E (raw++raw2)=flat E raw++flat E raw2:=by simp [flat]
                                                        rw [e]; exact h6,fun i r' x' hr' hx'=>?_⟩
   have key:E.rel (fun b=>ok b∧some b≠v.ownBlock) w r' x':=by
    rcases Nat.lt_or_ge i n with hi' | hi'
    ·rw [List.getElem?_append_left (by omega)] at hr' hx';exact h5 i r' x' hr' hx'
    ·rw [List.getElem?_append_right (by omega),h3] at hr';rw [List.getElem?_append_right (by omega),h1] at hx';exact s5 _ r' x' hr' hx'
   have k1:=E.mono (ok':=fun b=>(ok b∧some b≠v.ownBlock)∧b < w.heap.size) key fun b hb hk=>⟨hk,hb⟩
   refine E.mono (E.agr k1 (Agr.grown h7 fun b hb=>hb.1.2)) fun b _ hk=>⟨hk.1.1,?_⟩
   rcases h8 with e8 | e8
   ·rw [e8]; exact hk.1.2
   ·rw [e8]; intro e9; cases e9; exact absurd hk.2 (Nat.lt_irrefl _)
  obtain ⟨A',c',rfl,_⟩:=hown'.form;exact ⟨A',c',w',hrun,hown',h7,h8⟩
theorem wpList_append_manyE {ops:Array Oper} {rest:List Oper} {o:Oper} {a:Act} {Q:Exit→Act→World→Prop} (w:World) (hgd:o.guard=none) (s y:Operand) (t e:TypeId)
 (ho:o.op=.call { callee:=.builtin .append,args:=#[s,y],argTypes:=#[t,t] }) (i:TypeInfo) (z:Value) (bytes:Nat) (ht:Tryz.prog.underlying t=some (.slice e)) (hi:Tryz.prog.info? e=some i) (hz:i.zero=some z) (hsz:i.size=E.k) (hby:i.bytes=bytes) (hzs:z.cells.size=E.k)
 (ok:Nat→Prop) (base:Nat) (v:Value) (n:Nat) (l:List α) (hv:a.eval s=v) (hown:Own E e ok w base v n l)
 (A:Option Addr) (m c:Nat) (ys:List α) (hy:a.eval y=.slice A m c) (hs:Sl E (fun b=>ok b∧some b≠v.ownBlock) w A m c ys) (h63:n+m≤maxLen) (hbytes:(n+m)*bytes≤140737488355328) (hbase:base≤w.heap.size)
 (h:∀ A' c' w',Own E e ok w' base (.slice A' (n+m) c') (n+m) (l++ys)→w.grownBy w' v.ownBlock→((Value.slice A' (n+m) c').ownBlock=v.ownBlock∨(Value.slice A' (n+m) c').ownBlock=some w.heap.size)→wpList Tryz.prog ops Q rest (a.put o.dst (.slice A' (n+m) c')) w'):wpList Tryz.prog ops Q (o::rest) a w:=by
 refine wpList_plain hgd fun _ hK=>?_
 obtain ⟨A',c',w',hrun,h2,h3,h4⟩:=run_append_manyE w t o.type e i z bytes ht hi hz hsz hby hzs ok base v n l hown A m c ys hs h63 hbytes hbase;unfold Oper.wp execOp;simp only [ho,resolve,invoke,builtin,Sem.run_bind,Sem.run_pure,Result.andThen_ok,List.map_toArray,List.map_cons,List.map_nil,hv,hy,hrun];exact hK _ _ (h A' c' w' h2 h3 h4)
theorem Own.empty {e:TypeId} (ok:Nat→Prop) (w:World):Own E e ok (w.alloc (.cells #[] e)) w.heap.size (.slice (some ⟨w.heap.size,0,none⟩) 0 0) 0 ([]:List α):=by
 refine ⟨rfl,[],rfl,⟨by simp [flat],Or.inr ⟨w.heap.size,0,#[],rfl,Nat.le_refl _,heap_alloc_new w _,Nat.le_refl _,Nat.zero_le _,by simp,by simp [flat]⟩⟩,fun i r x h=>by simp at h⟩
end
def CloneP {α ρ:Type} (E:Elem α ρ) (e:TypeId) (w:World) (n:Nat) (xs:List α) (ee:Ending) (w':World):Prop :=
 ∃ B d,ee=.returned (.slice B n d)∧Own E e (fun b=>b < w.heap.size) w' w.heap.size (.slice B n d) n xs∧Below w.heap.size w w'
end Go.Proofs.YtfcihnpmeabacaaGreatDoor
namespace Go.Proofs.YtfcihnpmeabacaaGreatDoor
open Go.RowKit
def KyE:Elem Ky Ky where
 k:=4
 cells x:=[.bool x.1.1,.int .i64 (x.1.2:Int),.int .i64 (x.2.1:Int),.int .i64 (x.2.2:Int)]
 rel _ _ r x:=r=x
 pos:=by omega
 len _:=rfl
 one r u hu:=by simp at hu; rcases hu with rfl | rfl | rfl | rfl <;> rfl
 agr h _:=h
 mono h _:=h
def kyVal (x:Ky):Value:=.agg #[.bool x.1.1,.int .i64 (x.1.2:Int),.int .i64 (x.2.1:Int),.int .i64 (x.2.2:Int)]
def PkE:Elem (Nat×List Ky) (Nat×SlV) where
 k:=2
 cells r:=[.int .i64 (r.1:Int),.slice r.2.1 r.2.2.1 r.2.2.2]
 rel ok w r x:=r.1=x.1∧Sl KyE ok w r.2.1 r.2.2.1 r.2.2.2 x.2
 pos:=by omega
 len _:=rfl
 one r u hu:=by simp at hu; rcases hu with rfl | rfl <;> rfl
 agr h k:=⟨h.1,h.2.agr k⟩
 mono h k:=⟨h.1,h.2.mono k⟩
theorem ky_info:(Tryz.prog.info? 173).map (fun i=>(i.zero,i.size,i.bytes))=some (some (.agg #[.bool false,.int .i64 0,.int .i64 0,.int .i64 0]),4,32):=by kernel_rfl
theorem step_append_ky {ops:Array Oper} {o:Oper} {a:Act} {K:Act→World→Prop} {Q:Exit→Act→World→Prop} {F:Prop} (w:World) (hgd:o.guard=none) (s y:Operand)
 (ho:o.op=.call { callee:=.builtin .append,args:=#[s,y],argTypes:=#[175,175] })
 (ok:Nat→Prop) (base:Nat) (v:Value) (n:Nat) (l:List Ky) (hv:a.eval s=v) (hown:Own KyE 173 ok w base v n l)
 (b:Nat) (r:Ky) (x:Ky) (hy:a.eval y=.slice (some ⟨b,0,none⟩) 1 1) (hcell:Blk w b 173 (KyE.cells r).toArray) (hrel:KyE.rel (fun b=>ok b∧some b≠v.ownBlock) w r x)
 (h63:n+1≤1000000) (hbase:base≤w.heap.size)
 (h:∀ A' c' w',Own KyE 173 ok w' base (.slice A' (n+1) c') (n+1) (l++[x])→w.grownBy w' v.ownBlock→((Value.slice A' (n+1) c').ownBlock=v.ownBlock∨(Value.slice A' (n+1) c').ownBlock=some w.heap.size)→K (a.put o.dst (.slice A' (n+1) c')) w') :
 if Region.wanted o (yielded ops a.tmps)=true then Oper.wp Tryz.prog o a w K Q else F:=by
 obtain ⟨i,hi,hz⟩:=Option.map_eq_some_iff.1 ky_info;simp only [Prod.mk.injEq] at hz;refine step_append_E (E:=KyE) w hgd s y 175 173 ho i (.agg #[.bool false,.int .i64 0,.int .i64 0,.int .i64 0]) 32 (by kernel_rfl) hi hz.1 hz.2.1 hz.2.2 rfl ok base v n l hv hown b r x hy (fun j u hu=>?_) hrel (by simp [maxLen]; omega) (by omega) hbase h;rw [hcell.cell j,List.getElem?_toArray]; exact hu
theorem wpList_append_ky {ops:Array Oper} {rest:List Oper} {o:Oper} {a:Act} {Q:Exit→Act→World→Prop} (w:World) (hgd:o.guard=none) (s y:Operand)
 (ho:o.op=.call { callee:=.builtin .append,args:=#[s,y],argTypes:=#[175,175] })
 (ok:Nat→Prop) (base:Nat) (v:Value) (n:Nat) (l:List Ky) (hv:a.eval s=v) (hown:Own KyE 173 ok w base v n l)
 (b:Nat) (r:Ky) (x:Ky) (hy:a.eval y=.slice (some ⟨b,0,none⟩) 1 1) (hcell:Blk w b 173 (KyE.cells r).toArray) (hrel:KyE.rel (fun b=>ok b∧some b≠v.ownBlock) w r x)
 (h63:n+1≤1000000) (hbase:base≤w.heap.size)
 (h:∀ A' c' w',Own KyE 173 ok w' base (.slice A' (n+1) c') (n+1) (l++[x])→w.grownBy w' v.ownBlock→((Value.slice A' (n+1) c').ownBlock=v.ownBlock∨(Value.slice A' (n+1) c').ownBlock=some w.heap.size)→wpList Tryz.prog ops Q rest (a.put o.dst (.slice A' (n+1) c')) w'):wpList Tryz.prog ops Q (o::rest) a w:=by
 obtain ⟨i,hi,hz⟩:=Option.map_eq_some_iff.1 ky_info;simp only [Prod.mk.injEq] at hz;refine wpList_append_E (E:=KyE) w hgd s y 175 173 ho i (.agg #[.bool false,.int .i64 0,.int .i64 0,.int .i64 0]) 32 (by kernel_rfl) hi hz.1 hz.2.1 hz.2.2 rfl ok base v n l hv hown b r x hy (fun j u hu=>?_) hrel (by simp [maxLen]; omega) (by omega) hbase h;rw [hcell.cell j,List.getElem?_toArray]; exact hu
theorem pk_info:(Tryz.prog.info? 180).map (fun i=>(i.zero,i.size,i.bytes))=some (some (.agg #[.int .i64 0,.slice none 0 0]),2,32):=by kernel_rfl
theorem step_append_pk {ops:Array Oper} {o:Oper} {a:Act} {K:Act→World→Prop} {Q:Exit→Act→World→Prop} {F:Prop} (w:World) (hgd:o.guard=none) (s y:Operand)
 (ho:o.op=.call { callee:=.builtin .append,args:=#[s,y],argTypes:=#[177,177] })
 (ok:Nat→Prop) (base:Nat) (v:Value) (n:Nat) (l:List (Nat×List Ky)) (hv:a.eval s=v) (hown:Own PkE 180 ok w base v n l)
 (b:Nat) (r:(Nat×SlV)) (x:(Nat×List Ky)) (hy:a.eval y=.slice (some ⟨b,0,none⟩) 1 1) (hcell:Blk w b 180 (PkE.cells r).toArray) (hrel:PkE.rel (fun b=>ok b∧some b≠v.ownBlock) w r x)
 (h63:n+1≤1000000) (hbase:base≤w.heap.size)
 (h:∀ A' c' w',Own PkE 180 ok w' base (.slice A' (n+1) c') (n+1) (l++[x])→w.grownBy w' v.ownBlock→((Value.slice A' (n+1) c').ownBlock=v.ownBlock∨(Value.slice A' (n+1) c').ownBlock=some w.heap.size)→K (a.put o.dst (.slice A' (n+1) c')) w') :
 if Region.wanted o (yielded ops a.tmps)=true then Oper.wp Tryz.prog o a w K Q else F:=by
 obtain ⟨i,hi,hz⟩:=Option.map_eq_some_iff.1 pk_info;simp only [Prod.mk.injEq] at hz;refine step_append_E (E:=PkE) w hgd s y 177 180 ho i (.agg #[.int .i64 0,.slice none 0 0]) 32 (by kernel_rfl) hi hz.1 hz.2.1 hz.2.2 rfl ok base v n l hv hown b r x hy (fun j u hu=>?_) hrel (by simp [maxLen]; omega) (by omega) hbase h;rw [hcell.cell j,List.getElem?_toArray]; exact hu
end Go.Proofs.YtfcihnpmeabacaaGreatDoor
namespace Go.Proofs.YtfcihnpmeabacaaGreatDoor
open Go.RowKit
def InE:Elem Int Int where
 k:=1
 cells x:=[.int .i64 x]
 rel _ _ r x:=r=x
 pos:=by omega
 len _:=rfl
 one r u hu:=by simp at hu; subst hu; rfl
 agr h _:=h
 mono h _:=h
theorem flatIn (l:List Int):flat InE l=l.map (Value.int .i64):=by
 induction l with
 | nil=>rfl
 | cons x l ih=>simp only [flat,List.flatMap_cons,List.map_cons] at ih ⊢; rw [ih]; rfl
theorem Ints.slE {w:World} {A:Option Addr} {n c:Nat} {xs:List Int} (h:Ints w A n c xs):Sl InE (fun b=>∃ o,A=some ⟨b,o,none⟩) w A n c xs:=by
 refine ⟨h.1,h.2.1,xs,h.1,fun hne=>?_,fun i r x hr hx=>by rw [hr] at hx; exact Option.some.inj hx⟩
 have hn:0 < n:=by
  rcases Nat.eq_zero_or_pos n with h0 | h0
  ·exfalso; apply hne
   have:xs=[]:=List.eq_nil_of_length_eq_zero (by rw [h.1,h0]);rw [this]; rfl
  ·exact h0
 obtain ⟨b,off,e,hc⟩:=h.2.2 hn;refine ⟨b,off,e,⟨off,e⟩,fun j u hu=>?_⟩;rw [flatIn,List.getElem?_map] at hu;obtain ⟨y,hy,rfl⟩:=Option.map_eq_some_iff.1 hu;have hj:=(List.getElem?_eq_some_iff.1 hy).1;have e1:=hc j (by have:=h.1; omega);rw [List.getD_eq_getElem?_getD,hy] at e1;exact e1
theorem Sl.intsIn {ok:Nat→Prop} {w:World} {A:Option Addr} {n c:Nat} {xs:List Int} (h:Sl InE ok w A n c xs):Ints w A n c xs:=by
 obtain ⟨h1,h2,raw,h3,h4,h5⟩:=h;have er:raw=xs:=List.ext_getElem (by omega) fun i a b=>h5 i _ _ (List.getElem?_eq_getElem a) (List.getElem?_eq_getElem b)
 subst er;refine ⟨h1,h2,fun hn=>?_⟩
 obtain ⟨b,off,e,-,hc⟩:=h4 (by rw [flatIn]; intro e; have:raw.length=0:=by simpa using congrArg List.length e
                               omega)
 refine ⟨b,off,e,fun i hi=>?_⟩;have hi':i < raw.length:=(by omega);exact hc i _ (by rw [flatIn,List.getElem?_map,List.getElem?_eq_getElem hi',List.getD_eq_getElem?_getD,List.getElem?_eq_getElem hi']; rfl)
end Go.Proofs.YtfcihnpmeabacaaGreatDoor
namespace Go.Proofs.YtfcihnpmeabacaaGreatDoor
open Go.RowKit
def wordI (t:Int) (q:Nat) (ls:List Int):List Int:=(ls.take q).map (belowI · t)
theorem wordI_len (t:Int) (q:Nat) (ls:List Int):(wordI t q ls).length≤q:=by simp [wordI]; omega
theorem wordI_mem (t:Int) (q:Nat) (ls:List Int) (ht:1≤t):∀ x∈wordI t q ls,0≤x∧x < t:=by
 intro x hx;obtain ⟨y,_,rfl⟩:=List.mem_map.1 hx;exact ⟨belowI_lo y t ht,belowI_hi y t ht⟩
theorem take_snoc {α:Type} (l:List α) (d:α) (k:Nat) (h:k < l.length):l.take (k+1)=l.take k++[l.getD k d]:=by
 rw [List.take_succ_eq_append_getElem h]; simp [List.getD_eq_getElem?_getD,h]
def WordRel (w:World) (t:Int) (n q:Nat) (ls:List Int) (k:Nat) (v:Value) (wr:World):Prop :=
 k≤n∧k≤q∧OwnI wr w.heap.size v k ((ls.take k).map (belowI · t))∧Below w.heap.size w wr
def WordPost (w:World) (t:Int) (q:Nat) (ls:List Int) (e:Ending) (w':World):Prop :=
 ∃ v k,e=.returned v∧OwnI w' w.heap.size v k (wordI t q ls)∧Below w.heap.size w w'
theorem WordRel.done {w:World} {t:Int} {n q:Nat} {ls:List Int} {k:Nat} {v:Value} {wr:World} (h:WordRel w t n q ls k v wr) (hl:ls.length=n) (hk:k=q∨k=n):WordPost w t q ls (.returned v) wr:=by
 obtain ⟨h1,h2,h3,h4⟩:=h;refine ⟨v,k,rfl,?_,h4⟩
 have:wordI t q ls=(ls.take k).map (belowI · t):=by
  unfold wordI
  rcases hk with rfl | rfl
  ·rfl
  ·rw [List.take_of_length_le (by omega),List.take_of_length_le (by omega)]
 rw [this]; exact h3
set_option maxHeartbeats 1000000 in
theorem word_c (t:Int) (q:Nat) (A:Option Addr) (n c:Nat) (ls:List Int) (w:World) (h:Ints w A n c ls) (ht:1≤t) (ht2:t≤1000000) (hq:q≤1000000) :
 Calls Tryz.prog 24 #[.int .i64 t,.int .i64 (q:Int),.slice A n c] w (WordPost w t q ls):=by
 have HL:=Lib.hid h.len;go_enter Tryz.func24,Tryz.ntmps24
 go_wp2
 go_loopw [7,12] (fun v i wr=>∃ k:Nat,i=.int .i64 k∧WordRel w t n q ls k v wr) (fun _ i _=>n - (intOf i).toNat)
 case atStart=>exact ⟨0,rfl,Nat.zero_le _,Nat.zero_le _,OwnI.nil _ _,Below.refl _ _⟩
 case round =>
  obtain ⟨k,rfl,hr⟩:=hrel;obtain ⟨A1,c1,rfl,hI1⟩:=hr.2.2.1.form;have hkn:=hr.1;have hkq:=hr.2.1
  by_cases hlt:k < n
  ·obtain ⟨b,off,hA,hb,hx⟩:=h.at_ hlt;have hx':wr.cell? ⟨b,off+k,none⟩=some (.int .i64 (ls.getD k 0)):=(hr.2.2.2.cell (p:=⟨b,off+k,none⟩) hb).trans hx;have hsn:=take_snoc ls 0 k (by rw [h.len]; exact hlt);have HS:=Lib.hid hsn;have HR:=Lib.hid hr;subst hA;generalize ls.getD k 0=x at *
   by_cases hkq':k=q
   ·subst hkq';clear hsn hr hx h hI1;have HE:=Lib.hid (HR.out.done HL.out (Or.inl rfl));clear HR;go_wp2_with fail;go_ret;exact HE.out
   ·have k1:((k:Int)==(q:Int))=false:=(by simp; omega);have hown:=hr.2.2.1;have hsz:=hr.2.2.2.size;clear hsn hr hx h hI1;go_wp2_with (first | (go_at_call 51; refine (below_c x t _ (by omega) (by omega)).mono ?_; rintro e w' ⟨rfl,rfl⟩) | (at_builtin; refine wpList_append_ints _ rfl (.tmp 20) (.tmp 24) rfl w.heap.size (.slice A1 k c1) k _ rfl (hown.alloc _) (some ⟨wr.heap.size,0,none⟩) 1 1 [belowI x t] rfl (Ints.one _ _ _) (by omega) (by simp; omega) ?_; intro Av1 cv1 w1 hown1 hg1 hat1))
    go_roundw
    case rel =>
     refine ⟨k+1,by go_num,by omega,by omega,?_,?_⟩
     ·rw [HS.out,List.map_append]; exact hown1
     ·exact (HR.out.2.2.1.alloc _).grown (HR.out.2.2.2.alloc hsz _) hg1 (Nat.le_refl _) (by simp; omega)
    case measure=>simp [intOf]; omega
  ·clear h hI1;have HE:=Lib.hid (hr.done HL.out (Or.inr (by omega)));clear hr;go_wp2_with fail;go_ret;exact HE.out
end Go.Proofs.YtfcihnpmeabacaaGreatDoor
namespace Go.Proofs.YtfcihnpmeabacaaGreatDoor
open Go.RowKit
theorem tree_info:(Tryz.prog.info? 64).map (fun i=>(i.zero,i.size,i.bytes))=some (some (.agg #[.int .i64 0,.int .i64 0,.slice none 0 0]),3,40):=by kernel_rfl
def Tr.rl:Tr→Int
 | .leaf _=>-1
 | .node r _=>r
def Tr.tm:Tr→Int
 | .leaf k=>k
 | .node _ _=>0
theorem TreeR.parts {ok:Nat→Prop} {w:World} {v:TrV} {t:Tr} (h:TreeR ok w v t):v.1=t.rl∧v.2.1=t.tm∧Sl TrE ok w v.2.2.1 v.2.2.2.1 v.2.2.2.2 t.kids:=by
 cases t with
 | leaf k=>cases h; exact ⟨rfl,rfl,rfl,Nat.zero_le _,[],rfl,Cel.nil,fun i r x hx=>by simp at hx⟩
 | node r ks =>
  obtain ⟨a,b,A,n,c⟩:=v;obtain ⟨rfl,rfl,h3⟩:=h.kids;exact ⟨rfl,rfl,h3⟩
theorem TreeR.of {ok:Nat→Prop} {w:World} {t:Tr} {A:Option Addr} {n c:Nat} (h:Sl TrE ok w A n c t.kids):TreeR ok w (t.rl,t.tm,A,n,c) t:=by
 cases t with
 | leaf k =>
  have hn:n=0:=h.len.symm;subst hn;exact .leaf k A c
 | node r ks=>exact TreeR.mk r h
theorem step_append_tr {ops:Array Oper} {o:Oper} {a:Act} {K:Act→World→Prop} {Q:Exit→Act→World→Prop} {F:Prop} (w:World) (hgd:o.guard=none) (s y:Operand)
 (ho:o.op=.call { callee:=.builtin .append,args:=#[s,y],argTypes:=#[37,37] })
 (ok:Nat→Prop) (base:Nat) (v:Value) (n:Nat) (l:List Tr) (hv:a.eval s=v) (hown:Own TrE 64 ok w base v n l)
 (b:Nat) (r:TrV) (x:Tr) (hy:a.eval y=.slice (some ⟨b,0,none⟩) 1 1) (hcell:Blk w b 64 #[.int .i64 r.1,.int .i64 r.2.1,.slice r.2.2.1 r.2.2.2.1 r.2.2.2.2]) (hrel:TreeR (fun b=>ok b∧some b≠v.ownBlock) w r x)
 (h63:n+1≤1000000) (hbase:base≤w.heap.size)
 (h:∀ A' c' w',Own TrE 64 ok w' base (.slice A' (n+1) c') (n+1) (l++[x])→w.grownBy w' v.ownBlock→((Value.slice A' (n+1) c').ownBlock=v.ownBlock∨(Value.slice A' (n+1) c').ownBlock=some w.heap.size)→K (a.put o.dst (.slice A' (n+1) c')) w') :
 if Region.wanted o (yielded ops a.tmps)=true then Oper.wp Tryz.prog o a w K Q else F:=by
 obtain ⟨i,hi,hz⟩:=Option.map_eq_some_iff.1 tree_info;simp only [Prod.mk.injEq] at hz;refine step_append_E (E:=TrE) w hgd s y 37 64 ho i (.agg #[.int .i64 0,.int .i64 0,.slice none 0 0]) 40 (by kernel_rfl) hi hz.1 hz.2.1 hz.2.2 rfl ok base v n l hv hown b r x hy (fun j u hu=>?_) hrel (by simp [maxLen]; omega) (by omega) hbase h;rw [hcell.cell j];rw [List.getElem?_toArray]; exact hu
theorem wpList_append_tr {ops:Array Oper} {rest:List Oper} {o:Oper} {a:Act} {Q:Exit→Act→World→Prop} (w:World) (hgd:o.guard=none) (s y:Operand)
 (ho:o.op=.call { callee:=.builtin .append,args:=#[s,y],argTypes:=#[37,37] })
 (ok:Nat→Prop) (base:Nat) (v:Value) (n:Nat) (l:List Tr) (hv:a.eval s=v) (hown:Own TrE 64 ok w base v n l)
 (b:Nat) (r:TrV) (x:Tr) (hy:a.eval y=.slice (some ⟨b,0,none⟩) 1 1) (hcell:Blk w b 64 #[.int .i64 r.1,.int .i64 r.2.1,.slice r.2.2.1 r.2.2.2.1 r.2.2.2.2]) (hrel:TreeR (fun b=>ok b∧some b≠v.ownBlock) w r x)
 (h63:n+1≤1000000) (hbase:base≤w.heap.size)
 (h:∀ A' c' w',Own TrE 64 ok w' base (.slice A' (n+1) c') (n+1) (l++[x])→w.grownBy w' v.ownBlock→((Value.slice A' (n+1) c').ownBlock=v.ownBlock∨(Value.slice A' (n+1) c').ownBlock=some w.heap.size)→wpList Tryz.prog ops Q rest (a.put o.dst (.slice A' (n+1) c')) w'):wpList Tryz.prog ops Q (o::rest) a w:=by
 obtain ⟨i,hi,hz⟩:=Option.map_eq_some_iff.1 tree_info;simp only [Prod.mk.injEq] at hz;refine wpList_append_E (E:=TrE) w hgd s y 37 64 ho i (.agg #[.int .i64 0,.int .i64 0,.slice none 0 0]) 40 (by kernel_rfl) hi hz.1 hz.2.1 hz.2.2 rfl ok base v n l hv hown b r x hy (fun j u hu=>?_) hrel (by simp [maxLen]; omega) (by omega) hbase h;rw [hcell.cell j];rw [List.getElem?_toArray]; exact hu
end Go.Proofs.YtfcihnpmeabacaaGreatDoor
namespace Go.Proofs.YtfcihnpmeabacaaGreatDoor
open Go.RowKit
mutual
def Tr.pre:Tr→List Tr
 | .leaf k=>[.leaf k]
 | .node r ks=>.node r ks::Tr.pres ks
def Tr.pres:List Tr→List Tr
 | []=>[]
 | t::ts=>t.pre++Tr.pres ts
end
theorem Tr.size_eq (t:Tr):t.size=Tr.sizes t.kids+1:=by cases t <;> simp [Tr.size,Tr.kids,Tr.sizes]
theorem Agr.lo {lo:Nat} {w w':World} (h:Below lo w w'):Agr (fun b=>b < lo) w w':=fun b hb _=>h.block b hb
theorem enters_c {P : Program} {f : FuncId} {fn : Func} {c : Code} (hf : P.funcs[f]? = some fn) (hname : (fn.name == "runtime.NumGoroutine") = false) (hb : fn.body = some c) : ∀ (args : Array Value) (w : World), (callFunc f args).run P w = .ok (.enter f args) w := by
 intro args w;have h1 : fn.name ≠ "runtime.NumGoroutine" := (by simpa using hname);simp [callFunc, hf, h1, hb, mark]
end Go.Proofs.YtfcihnpmeabacaaGreatDoor
namespace Go.Proofs.YtfcihnpmeabacaaGreatDoor
open Go.RowKit
def Tr.term:Tr→List Int
 | .leaf k=>[(k:Int)]
 | .node _ _=>[]
theorem OwnI.mono {w:World} {base b' n:Nat} {v:Value} {xs:List Int} (h:OwnI w base v n xs) (hb:b'≤base):OwnI w b' v n xs:=by
 refine ⟨h.1,?_⟩
 rcases h.2 with h0 | ⟨g,cap,cur,h1,h2,h3⟩
 ·exact Or.inl h0
 ·exact Or.inr ⟨g,cap,cur,h1,Nat.le_trans hb h2,h3⟩
end Go.Proofs.YtfcihnpmeabacaaGreatDoor
namespace Go.Proofs.YtfcihnpmeabacaaGreatDoor
open Go.RowKit
def cmpI (x y:Int):Int:=if x < y then -1 else if y < x then 1 else 0
def cmpL:List Int→List Int→Int
 | [],[]=>0
 | [],_::_=>-1
 | _::_,[]=>1
 | x::xs,y::ys=>if cmpI x y=0 then cmpL xs ys else cmpI x y
def IntS (w:World) (x:Int) (e:Ending) (w':World):Prop:=e=.returned (.int .i64 x)∧w'=w
set_option maxHeartbeats 1000000 in
theorem nan_c (x:Int) (w:World):Calls Tryz.prog 123 #[.int .i64 x] w fun e w'=>e=.returned (.bool false)∧w'=w:=by
 go_enter Tryz.func123,Tryz.ntmps123;go_wp2_with fail;go_ret;exact ⟨rfl,rfl⟩
set_option maxHeartbeats 1000000 in
theorem cmp_c (x y:Int) (w:World):Calls Tryz.prog 81 #[.int .i64 x,.int .i64 y] w (IntS w (cmpI x y)):=by
 by_cases h1:x < y
 ·have hv:cmpI x y=-1:=(by simp [cmpI,h1]);rw [hv];clear hv;go_enter Tryz.func81,Tryz.ntmps81;go_wp2_with (go_at_call 123; refine (nan_c _ _).mono ?_; rintro e w' ⟨rfl,rfl⟩);go_ret;exact ⟨rfl,rfl⟩
 ·by_cases h2:y < x
  ·have hv:cmpI x y=1:=(by simp [cmpI,h1,h2]);rw [hv];clear hv;go_enter Tryz.func81,Tryz.ntmps81;go_wp2_with (go_at_call 123; refine (nan_c _ _).mono ?_; rintro e w' ⟨rfl,rfl⟩);go_ret;exact ⟨rfl,rfl⟩
  ·have hv:cmpI x y=0:=(by simp [cmpI,h1,h2]);rw [hv];clear hv;go_enter Tryz.func81,Tryz.ntmps81;go_wp2_with (go_at_call 123; refine (nan_c _ _).mono ?_; rintro e w' ⟨rfl,rfl⟩);go_ret;exact ⟨rfl,rfl⟩
theorem cmpL_step {xs ys:List Int} {k:Nat} (hx:k < xs.length) (hy:k < ys.length) (h:cmpI (xs.getD k 0) (ys.getD k 0)=0):cmpL (xs.drop k) (ys.drop k)=cmpL (xs.drop (k+1)) (ys.drop (k+1)):=by
 rw [List.drop_eq_getElem_cons hx,List.drop_eq_getElem_cons hy,cmpL,if_pos]
 simpa [List.getD_eq_getElem?_getD,hx,hy] using h
theorem cmpL_stop {xs ys:List Int} {k:Nat} (hx:k < xs.length) (hy:k < ys.length) (h:cmpI (xs.getD k 0) (ys.getD k 0)≠0):cmpL (xs.drop k) (ys.drop k)=cmpI (xs.getD k 0) (ys.getD k 0):=by
 rw [List.drop_eq_getElem_cons hx,List.drop_eq_getElem_cons hy,cmpL,if_neg]
 ·simp [List.getD_eq_getElem?_getD,hx,hy]
 ·simpa [List.getD_eq_getElem?_getD,hx,hy] using h
set_option maxRecDepth 100000 in
set_option maxHeartbeats 4000000 in
theorem cmpL_c (A B:Option Addr) (n c m d:Nat) (xs ys:List Int) (w:World) (h1:Ints w A n c xs) (h2:Ints w B m d ys) (hn:n≤1000000) :
 Calls Tryz.prog 49 #[.slice A n c,.slice B m d] w (IntS w (cmpL xs ys)):=by
 have H1:=Lib.hid h1;have H2:=Lib.hid h2;have L1:=Lib.hid h1.len;have L2:=Lib.hid h2.len;clear h1 h2;go_enter Tryz.func49,Tryz.ntmps49;go_wp2_with fail
 go_loopw [11] (fun i wr=>∃ k:Nat,i=.int .i64 k∧k≤n∧k≤m∧Hid (cmpL xs ys=cmpL (xs.drop k) (ys.drop k))∧wr=w) (fun i _=>n - (intOf i).toNat)
 case atStart=>exact ⟨0,rfl,Nat.zero_le _,Nat.zero_le _,Lib.hid rfl,rfl⟩
 case round =>
  obtain ⟨k,rfl,hk,hkm,HC,rfl⟩:=hrel
  by_cases hkn:k < n
  ·obtain ⟨b1,o1,rfl,hb1,hx⟩:=H1.out.at_ hkn
   by_cases hk2:k < m
   ·obtain ⟨b2,o2,rfl,hb2,hy⟩:=H2.out.at_ hk2;have HS:=Lib.hid (fun h=>cmpL_step (xs:=xs) (ys:=ys) (k:=k) (by rw [L1.out]; exact hkn) (by rw [L2.out]; exact hk2) h);have HT:=Lib.hid (fun h=>cmpL_stop (xs:=xs) (ys:=ys) (k:=k) (by rw [L1.out]; exact hkn) (by rw [L2.out]; exact hk2) h);generalize xs.getD k 0=x at *;generalize ys.getD k 0=y at *;have i0:(0:Int)≤(k:Int):=(by omega);have i1:(k:Int) < (n:Int):=(by omega);have i2:(k:Int) < (m:Int):=(by omega)
    by_cases hc:cmpI x y=0
    ·have HE:=Lib.hid (HC.out.trans (HS.out hc));have hc':=hc;clear HS HT;go_wp2_with (go_at_call 81; refine (cmp_c _ _ _).mono ?_; rintro e w' ⟨rfl,rfl⟩; rw [hc']);exact ⟨⟨k+1,by go_num,by omega,by omega,HE,by trivial⟩,by simp [intOf]; omega⟩
    ·have HE:=Lib.hid (HC.out.trans (HT.out hc));clear HS HT HC;have hc2:(cmpI x y != 0)=true:=(by simpa using hc);go_wp2_with (go_at_call 81; refine (cmp_c _ _ _).mono ?_; rintro e w' ⟨rfl,rfl⟩);go_ret;exact ⟨by rw [HE.out]; rfl,rfl⟩
   ·have hv:cmpL xs ys=1:=by
     rw [HC.out,List.drop_of_length_le (l:=ys) (by rw [L2.out]; omega),List.drop_eq_getElem_cons (by rw [L1.out]; exact hkn)]; rfl
    have HV:=Lib.hid hv;clear hv;go_wp2_with fail;go_ret;exact ⟨by rw [HV.out]; rfl,rfl⟩
  ·by_cases hnm:n < m
   ·have hv:cmpL xs ys=-1:=by
     rw [HC.out,List.drop_of_length_le (by rw [L1.out]; omega),List.drop_eq_getElem_cons (by rw [L2.out]; omega)]; rfl
    have HV:=Lib.hid hv;clear hv;go_wp2_with fail;go_ret;exact ⟨by rw [HV.out]; rfl,rfl⟩
   ·have hv:cmpL xs ys=0:=by
     rw [HC.out,List.drop_of_length_le (by rw [L1.out]; omega),List.drop_of_length_le (by rw [L2.out]; omega)]; rfl
    have HV:=Lib.hid hv;clear hv;go_wp2_with fail;go_ret;exact ⟨by rw [HV.out]; rfl,rfl⟩
def orL:List Int→Int
 | []=>0
 | x::xs=>if x=0 then orL xs else x
theorem orL_step {xs:List Int} {k:Nat} (hx:k < xs.length) (h:xs.getD k 0=0):orL (xs.drop k)=orL (xs.drop (k+1)):=by
 rw [List.drop_eq_getElem_cons hx,orL,if_pos]
 simpa [List.getD_eq_getElem?_getD,hx] using h
theorem orL_stop {xs:List Int} {k:Nat} (hx:k < xs.length) (h:xs.getD k 0≠0):orL (xs.drop k)=xs.getD k 0:=by
 rw [List.drop_eq_getElem_cons hx,orL,if_neg]
 ·simp [List.getD_eq_getElem?_getD,hx]
 ·simpa [List.getD_eq_getElem?_getD,hx] using h
set_option maxRecDepth 100000 in
set_option maxHeartbeats 4000000 in
theorem or_c (A:Option Addr) (n c:Nat) (xs:List Int) (w:World) (h1:Ints w A n c xs) (hn:n≤1000000) :
 Calls Tryz.prog 98 #[.slice A n c] w (IntS w (orL xs)):=by
 have H1:=Lib.hid h1;have L1:=Lib.hid h1.len;clear h1;go_enter Tryz.func98,Tryz.ntmps98;go_wp2_with fail
 go_loopw [8] (fun i wr=>∃ k:Nat,i=.int .i64 k∧k≤n∧Hid (orL xs=orL (xs.drop k))∧wr=w) (fun i _=>n - (intOf i).toNat)
 case atStart=>exact ⟨0,rfl,Nat.zero_le _,Lib.hid rfl,rfl⟩
 case round =>
  obtain ⟨k,rfl,hk,HC,rfl⟩:=hrel
  by_cases hkn:k < n
  ·obtain ⟨b1,o1,rfl,hb1,hx⟩:=H1.out.at_ hkn;have HS:=Lib.hid (fun h=>orL_step (xs:=xs) (k:=k) (by rw [L1.out]; exact hkn) h);have HT:=Lib.hid (fun h=>orL_stop (xs:=xs) (k:=k) (by rw [L1.out]; exact hkn) h);generalize xs.getD k 0=x at *;have i0:(0:Int)≤(k:Int):=(by omega);have i1:(k:Int) < (n:Int):=(by omega)
   by_cases hc:x=0
   ·have HE:=Lib.hid (HC.out.trans (HS.out hc));subst hc;clear HS HT;go_wp2_with fail;exact ⟨⟨k+1,by go_num,by omega,HE,by trivial⟩,by simp [intOf]; omega⟩
   ·have HE:=Lib.hid (HC.out.trans (HT.out hc));clear HS HT HC;have hc2:(x != 0)=true:=(by simpa using hc);go_wp2_with fail;go_ret;exact ⟨by rw [HE.out]; rfl,rfl⟩
  ·have hv:orL xs=0:=by
    rw [HC.out,List.drop_of_length_le (by rw [L1.out]; omega)]; rfl
   have HV:=Lib.hid hv;clear hv;go_wp2_with fail;go_ret;exact ⟨by rw [HV.out]; rfl,rfl⟩
end Go.Proofs.YtfcihnpmeabacaaGreatDoor
namespace Go.Proofs.YtfcihnpmeabacaaGreatDoor
open Go.RowKit
theorem cmpI_anti (x y:Int):cmpI x y=- cmpI y x:=by
 unfold cmpI; split <;> split <;> first | rfl | omega
theorem cmpI_z0 {x y:Int}:cmpI x y=0↔x=y:=by
 unfold cmpI; constructor
 ·intro h; split at h
  ·omega
  ·split at h <;> omega
 ·rintro rfl; simp
theorem cmpI_self (x:Int):cmpI x x=0:=cmpI_z0.2 rfl
theorem cmpI_le2 {x y:Int}:cmpI x y≤0↔x≤y:=by
 unfold cmpI; constructor
 ·intro h; split at h
  ·omega
  ·split at h <;> omega
 ·intro h; split
  ·omega
  ·rw [if_neg (by omega)]; omega
theorem cmpL_anti:∀ xs ys:List Int,cmpL xs ys=- cmpL ys xs
 | [],[]=>rfl
 | [],_::_=>rfl
 | _::_,[]=>rfl
 | x::xs,y::ys=>by
  rw [cmpL,cmpL,cmpI_anti x y,cmpL_anti xs ys]
  by_cases h:cmpI y x=0
  ·rw [h]; simp
  ·rw [if_neg (by omega),if_neg h]
theorem cmpL_zero:∀ {xs ys:List Int},cmpL xs ys=0↔xs=ys
 | [],[]=>by simp [cmpL]
 | [],_::_=>by simp [cmpL]
 | _::_,[]=>by simp [cmpL]
 | x::xs,y::ys=>by
  rw [cmpL]
  by_cases h:cmpI x y=0
  ·rw [if_pos h,cmpL_zero,cmpI_z0.1 h]; simp
  ·rw [if_neg h];constructor
   ·intro e; exact absurd e h
   ·intro e; cases e; exact absurd (cmpI_self x) h
theorem cmpL_trans:∀ {xs ys zs:List Int},cmpL xs ys≤0→cmpL ys zs≤0→cmpL xs zs≤0
 | [],_,[]=>by simp [cmpL]
 | [],_,_::_=>by simp [cmpL]
 | _::_,[],_=>by intro h; simp [cmpL] at h
 | _::_,_::_,[]=>by intro _ h; simp [cmpL] at h
 | x::xs,y::ys,z::zs=>by
  rw [cmpL,cmpL,cmpL];intro h1 h2
  by_cases e1:cmpI x y=0
  ·rw [if_pos e1] at h1;have:=cmpI_z0.1 e1; subst this
   by_cases e2:cmpI x z=0
   ·rw [if_pos e2] at h2 ⊢;exact cmpL_trans h1 h2
   ·rw [if_neg e2] at h2 ⊢; exact h2
  ·rw [if_neg e1] at h1;have n1:=cmpI_le2.1 h1
   by_cases e2:cmpI y z=0
   ·have:=cmpI_z0.1 e2; subst this;rw [if_neg e1]; exact h1
   ·rw [if_neg e2] at h2;have n2:=cmpI_le2.1 h2;have m1:x≠y:=fun e=>e1 (cmpI_z0.2 e)
    rw [if_neg (fun e=>by have:=cmpI_z0.1 e; omega)];exact cmpI_le2.2 (by omega)
theorem cmpL_self (xs:List Int):cmpL xs xs=0:=cmpL_zero.2 rfl
def intsN (l:List Nat):List Int:=l.map fun i:Nat=>(i:Int)
def pkL (p:Nat×List Nat):List Int:=(p.1:Int)::intsN p.2
theorem cmpL_cons_lt {x y:Int} {xs ys:List Int} (h:x < y):cmpL (x::xs) (y::ys) < 0:=by
 have e:cmpI x y=-1:=(by unfold cmpI; rw [if_pos h]);rw [cmpL,e]; simp
theorem cmpL_cons_eq {x:Int} {xs ys:List Int}:cmpL (x::xs) (x::ys)=cmpL xs ys:=by
 rw [cmpL,cmpI_self]; simp
section
variable {D:Ky→Bool} {idx:Ky→Nat} {P:Ky→Prop}
theorem ways_sorted (hm:∀ a b,P a→P b→kyN a < kyN b→idx a < idx b):∀ {l:List Sy} {i j:Nat},(∀ w∈waysF D l i j,∀ q∈w,P q)→((waysF D l i j).map fun w=>intsN (w.map idx)).Pairwise fun a b=>cmpL a b < 0:=by
 intro l
 induction l with
 | nil =>
  intro i j _;simp only [waysF]
  split <;> simp
 | cons s l ih =>
  intro i j hP;rw [List.pairwise_map]
  have key:∀ q,q < j+1 - i→∀ a∈(if (D (s,i,i+q)&&someF D l (i+q) j)=true then (waysF D l (i+q) j).map ((s,i,i+q)::·) else []),a∈waysF D (s::l) i j∧∃ w,w∈waysF D l (i+q) j∧a=(s,i,i+q)::w:=by
   intro q hq a ha;refine ⟨?_,?_⟩
   ·simp only [waysF,List.mem_flatMap,List.mem_range];exact ⟨q,hq,ha⟩
   ·split at ha
    ·obtain ⟨w,hw,rfl⟩:=List.mem_map.1 ha; exact ⟨w,hw,rfl⟩
    ·simp at ha
  rw [waysF,List.pairwise_flatMap];constructor
  ·intro q hq;have hq':=List.mem_range.1 hq;have hk:=key q hq'
   split
   ·rename_i hc
    rw [if_pos hc] at hk;rw [List.pairwise_map];have h1:=ih (i:=i+q) (j:=j) (fun w hw x hx=>hP _ (hk ((s,i,i+q)::w) (List.mem_map.2 ⟨w,hw,rfl⟩)).1 x (by simp [hx]));rw [List.pairwise_map] at h1;refine h1.imp fun {a b} hab=>?_
    simp only [intsN,List.map_cons];rw [cmpL_cons_eq]; exact hab
   ·exact List.Pairwise.nil
  ·rw [List.pairwise_iff_getElem];intro a b ha hb hab x hx y hy;simp only [List.getElem_range] at hx hy;simp only [List.length_range] at ha hb;obtain ⟨hx1,w,-,rfl⟩:=key a ha x hx;obtain ⟨hy1,v,-,rfl⟩:=key b hb y hy;simp only [intsN,List.map_cons];refine cmpL_cons_lt ?_;have:=hm (s,i,i+a) (s,i,i+b) (hP _ hx1 _ (by simp)) (hP _ hy1 _ (by simp)) (by simp only [kyN]; omega);omega
theorem packs_sorted (hm:∀ a b,P a→P b→kyN a < kyN b→idx a < idx b) {R:List Ru} {k:Ky} (hP:∀ p∈packsF D R k,∀ q∈p.2,P q):((packsF D R k).map fun p=>pkL (p.1,p.2.map idx)).Pairwise fun a b=>cmpL a b < 0:=by
 unfold packsF packT;rw [List.pairwise_map,List.pairwise_flatMap];constructor
 ·intro n hn;have hin:∀ p∈packN D R k n,p∈packsF D R k:=fun p hp=>by unfold packsF packT; exact List.mem_flatMap.2 ⟨n,hn,hp⟩
  unfold packN at hin ⊢;cases hu:R[n]? with
  | none=>simp
  | some u =>
   rw [hu] at hin;simp only at hin ⊢
   by_cases e:u.1=k.1.2∧k.1.1=false
   ·rw [if_pos e] at hin ⊢;rw [List.pairwise_map];have h1:=ways_sorted (D:=D) hm (l:=u.2) (i:=k.2.1) (j:=k.2.2) (fun w hw q hq=>hP _ (hin (n,w) (List.mem_map.2 ⟨w,hw,rfl⟩)) q hq);rw [List.pairwise_map] at h1;refine h1.imp fun {a b} hab=>?_
    simp only [pkL];rw [cmpL_cons_eq]; exact hab
   ·rw [if_neg e]; exact List.Pairwise.nil
 ·rw [List.pairwise_iff_getElem];intro a b ha hb hab x hx y hy;simp only [List.getElem_range] at hx hy;obtain ⟨e1,-⟩:=packN_mem hx;obtain ⟨e2,-⟩:=packN_mem hy;simp only [pkL];refine cmpL_cons_lt ?_;rw [e1,e2]; omega
end
end Go.Proofs.YtfcihnpmeabacaaGreatDoor
