/- Texts BR, BL, SA, BS, laid together. -/
import Derived.Test.YtfcihnpmeabacaaGreatDoorW11
import Derived.Test.YtfcihnpmeabacaaGreatDoorW10
import Derived.Test.YtfcihnpmeabacaaGreatDoorW2
import Derived.Test.YtfcihnpmeabacaaGreatDoorW4
import Derived.Maps.RangeWalk
namespace Go.Proofs.YtfcihnpmeabacaaGreatDoor
open Go.RowKit
open Go.Sort (grow alloc_eq_grow grow_grow grow_empty SWO)
set_option maxRecDepth 100000 in
set_option maxHeartbeats 4000000 in
theorem stab_c (ok:Nat→Prop) (A:Option Addr) (n c:Nat) (l:List PkI) (w:World) (hl:Sl FpE ok w A n c l) (hs:SoP l) (hk:∀ x∈l,x.2.length≤1000000) (hn:n≤1000000) :
 Calls Tryz.prog 133 #[.slice A n c,.int .i64 (n:Int),.func (.func 97) #[] #[]] w (StayP w):=by
 have HS:=Lib.hid hl;have HSO:=Lib.hid hs;have HLN:=Lib.hid hk;have hIN:=Lib.hid (show ∀ (a b:Nat) (w':World),Grw w w'→b≤n→a≤1000000→Calls Tryz.prog 115 #[.slice A n c,.int .i64 (a:Int),.int .i64 (b:Int),.func (.func 97) #[] #[]] w' (StayP w') from fun a b w' hw hb ha=>inss_c ok A n c a b l w' (HS.out.via hw.below) HSO.out HLN.out hb hn ha);have hSY:=Lib.hid (show ∀ (a m b:Nat) (w':World),Grw w w'→a < m→m < b→b≤n→Calls Tryz.prog 165 #[.slice A n c,.int .i64 (a:Int),.int .i64 (m:Int),.int .i64 (b:Int),.func (.func 97) #[] #[]] w' (StayP w') from fun a m b w' hw h1 h2 h3=>sym_n ok A n c l w HS.out HSO.out HLN.out hn (b - a) a m b w' (Nat.le_refl _) h1 h2 h3 hw);clear hl hs hk;go_enter Tryz.func133,Tryz.ntmps133;go_wp2_with fail
 go_loopw [7,8] (fun x y wr=>∃ i:Nat,x=.int .i64 (i:Int)∧y=.int .i64 ((i+20:Nat):Int)∧i≤n∧Grw w wr) (fun x _ _=>n - (intOf x).toNat)
 case atStart=>exact ⟨0,rfl,rfl,Nat.zero_le _,Grw.refl w⟩
 case round =>
  obtain ⟨i,rfl,rfl,hi,hgw⟩:=hrel;obtain ⟨j,hj⟩:∃ j,j=i+20:=⟨_,rfl⟩;rw [← hj]
  by_cases hjn:j≤n
  ·have i1:(j:Int)≤(n:Int):=(by omega);have HJ:=Lib.hid hj;clear hj;go_wp2_with fail;refine (hIN.out i j wr hgw hjn (by omega)).mono ?_;rintro e w2 ⟨rfl,hg2⟩;have HG2:=Lib.hid (hgw.trans hg2);clear hgw hg2;go_wp2_with fail;exact ⟨⟨j,rfl,by go_num,hjn,HG2.out⟩,by have:=HJ.out; simp [intOf]; omega⟩
  ·have i1:¬ (j:Int)≤(n:Int):=(by omega);have HJ:=Lib.hid hj;clear hj;go_wp2_with fail;refine (hIN.out i n wr hgw (Nat.le_refl _) (by omega)).mono ?_;rintro e w2 ⟨rfl,hg2⟩;have HG2:=Lib.hid (hgw.trans hg2);clear hgw hg2 i1 hjn;go_wp2_with fail
   go_loopw [6] (fun x wr=>∃ s:Nat,x=.int .i64 (s:Int)∧20≤s∧s≤2000000∧Grw w wr) (fun x _=>4000000 - (intOf x).toNat)
   case atStart=>exact ⟨20,rfl,Nat.le_refl _,by omega,HG2.out⟩
   case round =>
    obtain ⟨s,rfl,hs1,hs2,hgs⟩:=hrel
    by_cases hsn:s < n
    ·have i2:(s:Int) < (n:Int):=(by omega);have HGS:=Lib.hid hgs;clear hgs;go_wp2_with fail
     go_loopw [7,8] (fun x y wr=>∃ i j:Nat,x=.int .i64 (i:Int)∧y=.int .i64 (j:Int)∧j=i+2*s∧i≤n∧Grw w wr) (fun x _ _=>n - (intOf x).toNat)
     case atStart=>exact ⟨0,2*s,rfl,by go_num,by omega,Nat.zero_le _,HGS.out⟩
     case round =>
      obtain ⟨a,b,rfl,rfl,hab,ha,hgw⟩:=hrel;have HAB:=Lib.hid hab;have HGW:=Lib.hid hgw;clear hgw;obtain ⟨m,hm⟩:∃ m,m=a+s:=⟨_,rfl⟩;have q1:IntKind.i64.wrap ((a:Int)+(s:Int))=(m:Int):=(by rw [IntWalk.i64_in _ (by omega)]; omega);have q2:(a:Int)+(s:Int)=(m:Int):=(by omega);have HM:=Lib.hid hm
      by_cases hbn:b≤n
      ·have i3:(b:Int)≤(n:Int):=(by omega);clear hab hm;go_wp2_with fail;refine (hSY.out a m b _ HGW.out (by have:=HM.out; omega) (by have:=HM.out; have:=HAB.out; omega) hbn).mono ?_;rintro e w4 ⟨rfl,hg4⟩;have HG4:=Lib.hid (HGW.out.trans hg4);clear hg4;go_wp2_with fail;exact ⟨⟨b,b+2*s,rfl,by go_num,rfl,hbn,HG4.out⟩,by have:=HAB.out; simp [intOf]; omega⟩
      ·have i3:¬ (b:Int)≤(n:Int):=(by omega);clear hab hm
       by_cases hmn:m < n
       ·have i4:(m:Int) < (n:Int):=(by omega);go_wp2_with fail;refine (hSY.out a m n _ HGW.out (by have:=HM.out; omega) hmn (Nat.le_refl _)).mono ?_;rintro e w4 ⟨rfl,hg4⟩;have HG4:=Lib.hid (HGW.out.trans hg4);clear hg4;go_wp2_with fail;exact ⟨⟨2*s,by go_num,by omega,by omega,HG4.out⟩,by simp [intOf]; omega⟩
       ·have i4:¬ (m:Int) < (n:Int):=(by omega);go_wp2_with fail;exact ⟨⟨2*s,by go_num,by omega,by omega,HGW.out⟩,by simp [intOf]; omega⟩
    ·have i2:¬ (s:Int) < (n:Int):=(by omega);go_wp2_with fail
     go_end0
     exact ⟨rfl,hgs⟩
theorem sortStable_c (ok:Nat→Prop) (A:Option Addr) (n c:Nat) (l:List PkI) (w:World) (hl:Sl FpE ok w A n c l) (hs:SoP l) (hk:∀ x∈l,x.2.length≤1000000) (hn:n≤1000000) :
 Calls Tryz.prog 96 #[.slice A n c,.func (.func 97) #[] #[]] w (StayP w):=by
 have HC:=Lib.hid (stab_c ok A n c l w hl hs hk hn);clear hl hs hk;go_enter Tryz.func96,Tryz.ntmps96;go_wp2_with fail;refine HC.out.mono ?_;rintro e w2 ⟨rfl,hg⟩;have HG:=Lib.hid hg;clear hg;go_wp2_with fail
 go_end0
 exact ⟨rfl,HG.out⟩
end Go.Proofs.YtfcihnpmeabacaaGreatDoor
namespace Go.Proofs.YtfcihnpmeabacaaGreatDoor
open Go.RowKit
open Go.MapKept
open Go.ChangeMaps (setBlock heap_setBlock_same heap_setBlock_other)
open Go.WideElems (Fit rd rg rd_key rd_mk other_key)
def RngK {κ:Type} (kk:κ→Value) (f:κ→Option Value) (w:World) (r bm:Nat) (left:κ→Bool) (cnt:Nat):Prop :=
 ∃ since seen c0 es clock,w.heap[r]?=some (.mapIter (some bm) since seen c0)∧w.heap[bm]?=some (.map es clock)∧(∀ x∈es.toList,x.born < since)∧since≤c0∧since≤clock∧(es.toList.map (·.born)).Nodup∧(∀ x∈es.toList,∀ y∈es.toList,x.key=y.key→x=y) ∧
  (∀ x∈es.toList,∃ y,x.key=kk y∧f y=some x.val)∧(∀ y,left y=true↔∃ x∈(leftOf es seen).toList,x.key=kk y)∧(leftOf es seen).size=cnt
def World.rngLeftK (w:World) (r:Nat):Nat:=match w.heap[r]? with
 | some (.mapIter (some bm) _ seen _)=>match w.heap[bm]? with
  | some (.map es _)=>(leftOf es seen).size
  | _=>0
 | _=>0
theorem sbK_same {w:World} {r:Nat} {o o':Obj} (h:w.heap[r]?=some o):(setBlock w r o').heap[r]?=some o':=by
 unfold setBlock;have:=(Array.getElem?_eq_some_iff.1 h).1;simp [this]
theorem sbK_other {w:World} {r i:Nat} {o':Obj} (h:i≠r):(setBlock w r o').heap[i]?=w.heap[i]?:=by
 unfold setBlock;simp [Ne.symm h]
section
variable {κ:Type} {P:Program} {k:TypeId} {kk:κ→Value} {f:κ→Option Value} {w w':World} {r bm cnt:Nat} {left:κ→Bool}
theorem RngK.left_eq (h:RngK kk f w r bm left cnt):World.rngLeftK w r=cnt:=by
 obtain ⟨since,seen,c0,es,clock,h1,h2,-,-,-,-,-,-,-,h3⟩:=h;unfold World.rngLeftK;rw [h1];simp only [h2];exact h3
theorem RngK.lt (h:RngK kk f w r bm left cnt):r < w.heap.size∧bm < w.heap.size:=by
 obtain ⟨since,seen,c0,es,clock,h1,h2,-⟩:=h;exact ⟨(Array.getElem?_eq_some_iff.1 h1).1,(Array.getElem?_eq_some_iff.1 h2).1⟩
theorem RngK.agr_ (h:RngK kk f w r bm left cnt) (e1:w'.heap[r]?=w.heap[r]?) (e2:w'.heap[bm]?=w.heap[bm]?):RngK kk f w' r bm left cnt:=by
 obtain ⟨since,seen,c0,es,clock,h1,h2,h3⟩:=h;exact ⟨since,seen,c0,es,clock,e1.trans h1,e2.trans h2,h3⟩
theorem RngK.via (h:RngK kk f w r bm left cnt) (hb:Below w.heap.size w w'):RngK kk f w' r bm left cnt:=h.agr_ (hb.block r h.lt.1) (hb.block bm h.lt.2)
theorem RngK.grown {row:Option Nat} (h:RngK kk f w r bm left cnt) (hb:w.grownBy w' row) (h1:some r≠row) (h2:some bm≠row):RngK kk f w' r bm left cnt:=h.agr_ (hb.block r h.lt.1 h1) (hb.block bm h.lt.2 h2)
theorem MapK.range {b:Nat} {t e:TypeId} (h:MapK P k kk w b f) (ht:P.underlying t=some (.map k e)):∃ w',(Instr.range t (.map (some b))).run P w=.ok (.pointer (some ⟨w.heap.size,0,none⟩)) w'∧(∃ cnt,RngK kk f w' w.heap.size b (fun y=>(f y).isSome) cnt)∧Below w.heap.size w w'∧w'.heap.size=w.heap.size+1:=by
 obtain ⟨es,clock,hb,F,hk,hff⟩:=h;have hst:=F.stamped;refine ⟨_,run_range_map w _ _ _ b es clock ht hb,⟨_,clock,#[],clock,es,clock,by rw [heap_alloc_new],by rw [heap_alloc_old w _ (Array.getElem?_eq_some_iff.1 hb).1,hb],hst.1,Nat.le_refl _,Nat.le_refl _,hst.2.1,?_,?_,?_,rfl⟩,(Below.refl _ _).alloc (Nat.le_refl _) _,by simp⟩
 ·have hp:es.toList.Pairwise (fun x y=>x.key≠y.key):=((stamped_iff es clock).1 hst).2.2;intro x hx y hy e;obtain ⟨i,hi⟩:=List.mem_iff_getElem?.1 hx;obtain ⟨j,hj⟩:=List.mem_iff_getElem?.1 hy;obtain ⟨hil,hi⟩:=List.getElem?_eq_some_iff.1 hi;obtain ⟨hjl,hj⟩:=List.getElem?_eq_some_iff.1 hj
  rcases Nat.lt_trichotomy i j with hij | hij | hij
  ·exact absurd (by rw [hi,hj]; exact e) (List.pairwise_iff_getElem.1 hp i j hil hjl hij)
  ·subst hij; exact hi.symm.trans hj
  ·exact absurd (by rw [hi,hj]; exact e.symm) (List.pairwise_iff_getElem.1 hp j i hjl hil hij)
 ·intro x hx;obtain ⟨y,hy⟩:=hk x hx;exact ⟨y,hy,(hff y x.val).2 ⟨x,hx,hy,rfl⟩⟩
 ·intro y;constructor
  ·intro hf;obtain ⟨v,hv⟩:=Option.isSome_iff_exists.1 hf;obtain ⟨x,hx,h1,-⟩:=(hff y v).1 hv;exact ⟨x,by simpa [leftOf] using hx,h1⟩
  ·rintro ⟨x,hx,h1⟩;have hx':x∈es.toList:=(by simpa [leftOf] using hx);have h2:=(hff y x.val).2 ⟨x,hx',h1,rfl⟩;show (f y).isSome=true
   rw [h2]; rfl
theorem RngK.next [DecidableEq κ] (h:RngK kk f w r bm left cnt) (hinj:∀ x y,kk x=kk y→x=y) (hne:r≠bm) (ty:TypeId):((∀ y,left y=false)∧(Instr.next (.pointer (some ⟨r,0,none⟩)) false ty).run P w=.ok (.tuple #[.bool false]) w) ∨
 ∃ (y:κ) (v:Value) (w':World) (cnt':Nat),left y=true∧f y=some v∧(Instr.next (.pointer (some ⟨r,0,none⟩)) false ty).run P w=.ok (.tuple #[.bool true,kk y,v]) w'∧RngK kk f w' r bm (fun z=>left z&&decide (z≠y)) cnt'∧cnt' < cnt∧w.grownBy w' (some r)∧w'.heap.size=w.heap.size ∧
  (Instr.entry (.pointer (some ⟨r,0,none⟩))).run P w'=.ok (.tuple #[kk y,v]) w':=by
 obtain ⟨since,seen,c0,es,clock,h1,h2,h3,h4,h5,h6,h7,h8,h9,h10⟩:=h
 rcases run_next_at (P:=P) w ty r bm since c0 seen es clock h1 h2 h3 h4 with ⟨h0,hrun⟩ | ⟨e,he,w1,hw1,hrun⟩
 ·refine Or.inl ⟨fun n=>?_,hrun⟩;cases hl:left n with
  | false=>rfl
  | true =>
   obtain ⟨x,hx,-⟩:=(h9 n).1 hl;rw [Array.eq_empty_of_size_eq_zero h0] at hx;simp at hx
 ·have hee:e∈es.toList:=by
   simp [leftOf] at he ⊢; exact he.1
  obtain ⟨y,hnk,hnv⟩:=h8 e hee;have hl:left y=true:=(h9 y).2 ⟨e,he,hnk⟩;have hw1h:w1.heap=w.heap:=(by rcases hw1 with rfl | rfl <;> rfl);have g1:w1.heap[r]?=some (.mapIter (some bm) since seen c0):=(by rw [hw1h]; exact h1);have g2:w1.heap[bm]?=some (.map es clock):=(by rw [hw1h]; exact h2);have k1:(setBlock w1 r (.mapIter (some bm) since (seen.push e.born) clock)).heap[r]?=some (.mapIter (some bm) since (seen.push e.born) clock):=sbK_same g1;have k2:(setBlock w1 r (.mapIter (some bm) since (seen.push e.born) clock)).heap[bm]?=some (.map es clock):=(sbK_other (Ne.symm hne)).trans g2
  have hin:∀ x,x∈(leftOf es (seen.push e.born)).toList↔x∈(leftOf es seen).toList∧x.born≠e.born:=by
   intro x;simp only [leftOf,Array.toList_filter,List.mem_filter,contains_push,Bool.not_eq_true',Bool.or_eq_false_iff,beq_eq_false_iff_ne,ne_eq];constructor
   ·rintro ⟨a,b,c⟩; exact ⟨⟨a,b⟩,c⟩
   ·rintro ⟨⟨a,b⟩,c⟩; exact ⟨a,b,c⟩
  have hlt:(leftOf es (seen.push e.born)).size < cnt:=by
   rw [← h10]
   have:=filter_lt (fun x:MapEntry=>!seen.contains x.born) (fun x:MapEntry=>!(seen.push e.born).contains x.born) (fun x hx=>by
    simp only [contains_push,Bool.not_eq_true',Bool.or_eq_false_iff] at hx ⊢
    exact hx.1) e (by simp [leftOf] at he ⊢; exact he.2) (by simp) es.toList hee
   rw [← Array.length_toList,← Array.length_toList]
   simpa [leftOf,Array.toList_filter] using this
  refine Or.inr ⟨y,e.val,_,(leftOf es (seen.push e.born)).size,hl,hnv,by rw [hrun,hnk],⟨since,seen.push e.born,clock,es,clock,k1,k2,h3,h5,h5,h6,h7,h8,fun z=>?_,rfl⟩,hlt,?_,by simp [setBlock,hw1h],?_⟩
  ·rw [Bool.and_eq_true,decide_eq_true_eq,h9 z];constructor
   ·rintro ⟨⟨x,hx,hxk⟩,hkn⟩;refine ⟨x,(hin x).2 ⟨hx,fun hb=>hkn ?_⟩,hxk⟩;have hxe:x∈es.toList:=(by simp [leftOf] at hx ⊢; exact hx.1)
    have:x=e:=by
     have f1:=find_born e es.toList h6 hee;have f2:=find_born x es.toList h6 hxe;rw [hb] at f2;exact Option.some.inj (f2.symm.trans f1)
    subst this;exact hinj _ _ (hxk.symm.trans hnk)
   ·rintro ⟨x,hx,hxk⟩;obtain ⟨a,b⟩:=(hin x).1 hx;refine ⟨⟨x,a,hxk⟩,fun hkn=>b ?_⟩;have hxe:x∈es.toList:=(by simp [leftOf] at a ⊢; exact a.1);rw [h7 x hxe e hee (by rw [hxk,hnk,hkn])]
  ·refine ⟨by rcases hw1 with rfl | rfl <;> rfl,by rcases hw1 with rfl | rfl <;> rfl,by rcases hw1 with rfl | rfl <;> rfl,by simp [setBlock,hw1h],fun i _ hi=>?_⟩;exact (sbK_other (fun e=>hi (by rw [e]))).trans (by rw [hw1h])
  ·rw [run_entry_at _ r bm since seen es clock e k1 k2 hee h6,hnk]
end
section
variable {κ:Type} {P:Program} {k:TypeId} {kk:κ→Value} {f:κ→Option Value} {ops:Array Oper} {rest:List Oper} {o:Oper} {a:Act} {Q:Exit→Act→World→Prop} {w:World}
theorem wpList_range_K (hg:o.guard=none) (t e:TypeId) (ht:P.underlying t=some (.map k e)) (m:Operand) (hop:o.op=Op.range t m) (b:Nat) (hm:a.eval m=.map (some b)) (h:MapK P k kk w b f)
 (hK:∀ w' cnt,RngK kk f w' w.heap.size b (fun y=>(f y).isSome) cnt→Below w.heap.size w w'→w'.heap.size=w.heap.size+1→wpList P ops Q rest (a.put o.dst (.pointer (some ⟨w.heap.size,0,none⟩))) w'):wpList P ops Q (o::rest) a w:=by
 refine wpList_plain hg fun K' hK'=>?_
 obtain ⟨w',hrun,⟨cnt,r1⟩,r2,r3⟩:=h.range ht;unfold Oper.wp;simp [execOp,hop,hm,hrun,Result.andThen];exact hK' _ _ (hK w' cnt r1 r2 r3)
theorem wpList_next_K [DecidableEq κ] (hg:o.guard=none) (it:Operand) (hop:o.op=Op.next it false) (r bm:Nat) (left:κ→Bool) (cnt:Nat) (hit:a.eval it=.pointer (some ⟨r,0,none⟩)) (h:RngK kk f w r bm left cnt) (hinj:∀ x y,kk x=kk y→x=y) (hne:r≠bm)
 (hDone:(∀ n,left n=false)→wpList P ops Q rest (a.put o.dst (.tuple #[.bool false])) w)
 (hMore:∀ (y:κ) (v:Value) (w':World) (cnt':Nat),left y=true→f y=some v→RngK kk f w' r bm (fun z=>left z&&decide (z≠y)) cnt'→cnt' < cnt→w.grownBy w' (some r)→w'.heap.size=w.heap.size→(Instr.entry (.pointer (some ⟨r,0,none⟩))).run P w'=.ok (.tuple #[kk y,v]) w' →
  wpList P ops Q rest (a.put o.dst (.tuple #[.bool true,kk y,v])) w'):wpList P ops Q (o::rest) a w:=by
 refine wpList_plain hg fun K' hK'=>?_
 unfold Oper.wp
 rcases h.next (P:=P) hinj hne o.type with ⟨hl,hrun⟩ | ⟨y,v,w',cnt',h1,h2,hrun,h3,h4,h5,h6,h7⟩
 ·simp [execOp,hop,hit,hrun,Result.andThen];exact hK' _ _ (hDone hl)
 ·simp [execOp,hop,hit,hrun,Result.andThen];exact hK' _ _ (hMore y v w' cnt' h1 h2 h3 h4 h5 h6 h7)
theorem wpList_put_K [DecidableEq κ] {e:TypeId} (hg:o.guard=none) (K:Maps.Keyed P k) (t:TypeId) (ht:P.underlying t=some (.map k e)) (hinj:∀ x y,kk x=kk y→x=y) (m x y:Operand) (hop:o.op=Op.mapUpdate t m x y) (b:Nat) (n:κ) (val:Value) (hm:a.eval m=.map (some b)) (hx:a.eval x=kk n) (hy:a.eval y=val) (h:MapK P k kk w b f) {kl:Lit} (hkey:keyOf P k (kk n)=some kl)
 (hroom:∀ es clock,w.heap[b]?=some (.map es clock)→es.size < maxLen)
 (hK:∀ w',MapK P k kk w' b (fun z=>if z=n then some val else f z)→w.grownBy w' (some b)→w'.heap.size=w.heap.size→wpList P ops Q rest (a.put o.dst undef) w'):wpList P ops Q (o::rest) a w:=by
 refine wpList_plain hg fun K' hK'=>?_
 obtain ⟨w',hrun,r1,r2,r3⟩:=h.store K ht hinj n val hkey hroom;unfold Oper.wp;simp [execOp,hop,hm,hx,hy,hrun,Result.andThen];exact hK' _ _ (hK w' r1 r2 r3)
end
theorem findIdx_born {A:Array MapEntry} {l:List MapEntry} (hA:A.toList=l) {j:Nat} {e0:MapEntry} (hn:(l.map (·.born)).Nodup) (hj:l[j]?=some e0):A.findIdx? (fun e=>(e.born:Int)==((e0.born:Nat):Int))=some j:=by
 subst hA;generalize hA:A.toList=l at *;obtain rfl:A=l.toArray:=(by rw [← hA]);rw [List.findIdx?_toArray,List.findIdx?_eq_some_iff_getElem];obtain ⟨hjl,he⟩:=List.getElem?_eq_some_iff.1 hj;refine ⟨hjl,by rw [he]; simp,fun i hi=>?_⟩
 have h1:(l[i]'(by omega)).born≠e0.born:=fun e=>by
  rw [List.nodup_iff_pairwise_ne,List.pairwise_map] at hn;have:=List.pairwise_iff_getElem.1 hn i j (by omega) hjl hi;rw [he] at this;exact this e
 simp only [beq_iff_eq];omega
section
variable {κ:Type} [DecidableEq κ] {P:Program} {k:TypeId} {kk:κ→Value} {f:κ→Option Value} {w w':World} {b:Nat} {t e:TypeId}
theorem MapK.entry (h:MapK P k kk w b f) (K:Maps.Keyed P k) (ht:P.underlying t=some (.map k e)) (hinj:∀ x y,kk x=kk y→x=y) (y:κ) (val:Value) {kl:Lit} (hkey:keyOf P k (kk y)=some kl) {z:Value} (hz:(zeroValue e).run P w=.ok z w)
 (hroom:∀ es clock,w.heap[b]?=some (.map es clock)→es.size < maxLen) :
 ∃ (w1:World) (st:Nat) (v0:Value),(Instr.mapEntry t (.map (some b)) (kk y)).run P w=.ok (.tuple #[v0,.int .i64 (st:Int)]) w1∧w.grownBy w1 (some b)∧w1.heap.size=w.heap.size ∧
  ∀ w1':World,w1'.heap[b]?=w1.heap[b]?→∃ w2,(Instr.entryStore t (.map (some b)) (.int .i64 (st:Int)) val).run P w1'=.ok () w2∧MapK P k kk w2 b (fun x=>if x=y then some val else f x)∧w1'.grownBy w2 (some b)∧w2.heap.size=w1'.heap.size:=by
 obtain ⟨w',hrunS,hS,-,-⟩:=h.store K ht hinj y val hkey hroom;obtain ⟨es,clock,hb,F,hk,hf⟩:=h;have hst:=F.stamped
 rcases K.find w hkey es.toList F.keys with ⟨h1,h2⟩ | ⟨j,e0,h1,h2,h3⟩
 ·have hr2:(Instr.mapUpdate t (.map (some b)) (kk y) val).run P w=.ok () (setBlock w b (.map (es.push ⟨kk y,val,clock⟩) (clock+1))):=by
   simp [Instr.mapUpdate,run_underlying ht,MapKept.run_getObj_map hb,K.check w false hkey,h1,MapKept.run_setObj_map _ hb,Result.andThen,setBlock]
  rw [hrunS] at hr2;have hw2:w'=setBlock w b (.map (es.push ⟨kk y,val,clock⟩) (clock+1)):=(by injection hr2)
  have hr1:(Instr.mapEntry t (.map (some b)) (kk y)).run P w=.ok (.tuple #[z,.int .i64 (clock:Int)]) (setBlock w b (.map (es.push ⟨kk y,z,clock⟩) (clock+1))):=by
   simp [Instr.mapEntry,run_underlying ht,MapKept.run_getObj_map hb,K.check w false hkey,h1,hz,MapKept.run_setObj_map _ hb,Result.andThen,setBlock,goInt]
  refine ⟨_,clock,z,hr1,⟨rfl,rfl,rfl,by simp [setBlock],fun i _ hi=>sbK_other (fun e=>hi (by rw [e]))⟩,by simp [setBlock],fun w1' hb1=>?_⟩;rw [sbK_same hb] at hb1
  have hfi:(es.push ⟨kk y,z,clock⟩).findIdx? (fun e=>(e.born:Int)==((clock:Nat):Int))=some es.size:=by
   have hn:((es.push ⟨kk y,z,clock⟩).toList.map (·.born)).Nodup:=by
    simp only [Array.toList_push,List.map_append,List.map_cons,List.map_nil];rw [List.nodup_append];refine ⟨hst.2.1,by simp,fun a ha c hc e=>?_⟩;simp only [List.mem_singleton] at hc;subst hc;obtain ⟨x,hx,rfl⟩:=List.mem_map.1 ha;have:=hst.1 x hx;omega
   exact findIdx_born (l:=(es.push ⟨kk y,z,clock⟩).toList) rfl (j:=es.size) (e0:=⟨kk y,z,clock⟩) hn (by simp)
  have hmod:(es.push ⟨kk y,z,clock⟩).modify es.size (fun e=>{ e with val:=val })=es.push ⟨kk y,val,clock⟩:=by
   apply Array.toList_inj.1
   rw [Array.toList_modify,ChangeMaps.modify_eq_set _ _ _ (⟨kk y,z,clock⟩:MapEntry) (by simp)];simp
  have hrE:(Instr.entryStore t (.map (some b)) (.int .i64 (clock:Int)) val).run P w1'=.ok () (setBlock w1' b (.map (es.push ⟨kk y,val,clock⟩) (clock+1))):=by
   simp [Instr.entryStore,MapKept.run_getObj_map hb1,asInt,asIntOf,hfi,hmod,MapKept.run_setObj_map _ hb1,Result.andThen,setBlock]
  refine ⟨_,hrE,hS.agr_ ?_,⟨rfl,rfl,rfl,by simp [setBlock],fun i _ hi=>sbK_other (fun e=>hi (by rw [e]))⟩,by simp [setBlock]⟩;rw [sbK_same hb1,hw2,sbK_same hb]
 ·have hj:es[j]?=some e0:=(by simpa using h2)
  have hr2:(Instr.mapUpdate t (.map (some b)) (kk y) val).run P w=.ok () (setBlock w b (.map (es.modify j (fun e'=>{ e' with key:=kk y,val:=val })) clock)):=by
   simp [Instr.mapUpdate,run_underlying ht,MapKept.run_getObj_map hb,K.check w false hkey,h1,hj,h3,K.stays w hkey,MapKept.run_setObj_map _ hb,Result.andThen,setBlock]
  rw [hrunS] at hr2;have hw2:w'=setBlock w b (.map (es.modify j (fun e'=>{ e' with key:=kk y,val:=val })) clock):=(by injection hr2)
  have hr1:(Instr.mapEntry t (.map (some b)) (kk y)).run P w=.ok (.tuple #[e0.val,.int .i64 (e0.born:Int)]) (setBlock w b (.map (es.modify j (fun e'=>{ e' with key:=kk y })) clock)):=by
   simp [Instr.mapEntry,run_underlying ht,MapKept.run_getObj_map hb,K.check w false hkey,h1,hj,h3,K.stays w hkey,MapKept.run_setObj_map _ hb,Result.andThen,setBlock,goInt]
  refine ⟨_,e0.born,e0.val,hr1,⟨rfl,rfl,rfl,by simp [setBlock],fun i _ hi=>sbK_other (fun e=>hi (by rw [e]))⟩,by simp [setBlock],fun w1' hb1=>?_⟩;rw [sbK_same hb] at hb1;have hl1:(es.modify j (fun e'=>{ e' with key:=kk y })).toList=es.toList.set j { e0 with key:=kk y }:=(by rw [Array.toList_modify,ChangeMaps.modify_eq_set _ _ _ _ h2]);have hjl:j < es.toList.length:=(List.getElem?_eq_some_iff.1 h2).1
  have hfi:(es.modify j (fun e'=>{ e' with key:=kk y })).findIdx? (fun e=>(e.born:Int)==((e0.born:Nat):Int))=some j:=by
   have hn:((es.modify j (fun e'=>{ e' with key:=kk y })).toList.map (·.born)).Nodup:=by
    rw [hl1,List.map_set]
    have:(es.toList.map (·.born)).set j e0.born=es.toList.map (·.born):=by
     have e1:(es.toList.map (·.born))[j]?=some e0.born:=(by rw [List.getElem?_map,h2]; rfl);obtain ⟨e2,e3⟩:=List.getElem?_eq_some_iff.1 e1
     conv=>lhs; rw [← e3]
     exact List.set_getElem_self e2
    show ((es.toList.map (·.born)).set j e0.born).Nodup
    rw [this]; exact hst.2.1
   exact findIdx_born (l:=(es.modify j (fun e'=>{ e' with key:=kk y })).toList) rfl (j:=j) (e0:={ e0 with key:=kk y }) hn (by rw [hl1,List.getElem?_set_self hjl])
  have hmod:(es.modify j (fun e'=>{ e' with key:=kk y })).modify j (fun e=>{ e with val:=val })=es.modify j (fun e'=>{ e' with key:=kk y,val:=val }):=by
   apply Array.toList_inj.1
   rw [Array.toList_modify,hl1,ChangeMaps.modify_eq_set _ _ _ ({ e0 with key:=kk y }:MapEntry) (by rw [List.getElem?_set_self hjl]),Array.toList_modify,ChangeMaps.modify_eq_set _ _ _ _ h2];simp
  have hrE:(Instr.entryStore t (.map (some b)) (.int .i64 (e0.born:Int)) val).run P w1'=.ok () (setBlock w1' b (.map (es.modify j (fun e'=>{ e' with key:=kk y,val:=val })) clock)):=by
   simp [Instr.entryStore,MapKept.run_getObj_map hb1,asInt,asIntOf,hfi,hmod,MapKept.run_setObj_map _ hb1,Result.andThen,setBlock]
  refine ⟨_,hrE,hS.agr_ ?_,⟨rfl,rfl,rfl,by simp [setBlock],fun i _ hi=>sbK_other (fun e=>hi (by rw [e]))⟩,by simp [setBlock]⟩;rw [sbK_same hb1,hw2,sbK_same hb]
end
end Go.Proofs.YtfcihnpmeabacaaGreatDoor
namespace Go.Proofs.YtfcihnpmeabacaaGreatDoor
open Go.RowKit
theorem laidOutK:laidOutB Tryz.prog=true:=by kernel_rfl
theorem kyVal_inj (x y:Ky) (h:kyVal x=kyVal y):x=y:=by
 obtain ⟨⟨a,b⟩,c,d⟩:=x;obtain ⟨⟨a',b'⟩,c',d'⟩:=y;simp [kyVal] at h;obtain ⟨h1,h2,h3,h4⟩:=h;simp only [Prod.mk.injEq];exact ⟨⟨h1,by omega⟩,by omega,by omega⟩
theorem key_keyed:Maps.Keyed Tryz.prog 173 :=
 Maps.Keyed.of_law (deep_law_laid laidOutK (m:=4) (by omega) (of_decide_eq_true (by kernel_rfl)) (by kernel_rfl) (by rw [Tryz.underlying173]))
theorem key_key (x:Ky) (h1:x.1.2≤1000000000) (h2:x.2.1≤1000000000) (h3:x.2.2≤1000000000):∃ l,keyOf Tryz.prog 173 (kyVal x)=some l:=by
 have hc:Tryz.prog.cellsOf 173=4:=(by kernel_rfl);have hy:Tryz.prog.cellsOf 69=2:=(by kernel_rfl);have hi:Tryz.prog.cellsOf 3=1:=(by kernel_rfl);have hb:Tryz.prog.cellsOf 4=1:=(by kernel_rfl);have w1:(Lit.int .i64 (x.1.2:Int)).wf=true:=WalkArith.wf_i64 (by omega);have w2:(Lit.int .i64 (x.2.1:Int)).wf=true:=WalkArith.wf_i64 (by omega);have w3:(Lit.int .i64 (x.2.2:Int)).wf=true:=WalkArith.wf_i64 (by omega);have hf:(kyVal x).formed Tryz.prog 173=true:=(by simp [Value.formed,Tryz.underlying173,hc,kyVal])
 have hk:Tryz.prog.keyLits (Tryz.prog.types.size+1) 173 [.bool x.1.1,.int .i64 (x.1.2:Int),.int .i64 (x.2.1:Int),.int .i64 (x.2.2:Int)]=some [.bool x.1.1,.int .i64 (x.1.2:Int),.int .i64 (x.2.1:Int),.int .i64 (x.2.2:Int)]:=by
  have e:Tryz.prog.types.size+1=(Tryz.prog.types.size - 2)+1+1+1:=(by have:2≤Tryz.prog.types.size:=of_decide_eq_true (by kernel_rfl); omega);rw [e];generalize Tryz.prog.types.size - 2=d;simp [Program.keyLits,Tryz.underlying173,Tryz.underlying69,Tryz.underlying3,Tryz.underlying4,hc,hy,hi,hb,w1,w2,w3];rw [if_pos (fun i hi=>by rcases i with _ | _ | i <;> first | (simp; done) | omega)];rfl
 refine ⟨.string (keyBytes [.bool x.1.1,.int .i64 (x.1.2:Int),.int .i64 (x.2.1:Int),.int .i64 (x.2.2:Int)]),?_⟩;unfold keyOf;rw [Tryz.underlying173];simp only [hf,Bool.and_true];rw [if_pos (by kernel_rfl)];show Option.map _ (Tryz.prog.keyLits _ _ [.bool x.1.1,.int .i64 (x.1.2:Int),.int .i64 (x.2.1:Int),.int .i64 (x.2.2:Int)])=_
 rw [hk]; rfl
theorem span_keyed:Maps.Keyed Tryz.prog 71 :=
 Maps.Keyed.of_law (deep_law_laid laidOutK (m:=4) (by omega) (of_decide_eq_true (by kernel_rfl)) (by kernel_rfl) (by rw [Tryz.underlying71]))
theorem span_key (x:Ky) (h1:x.1.2≤1000000000) (h2:x.2.1≤1000000000) (h3:x.2.2≤1000000000):∃ l,keyOf Tryz.prog 71 (kyVal x)=some l:=by
 have hc:Tryz.prog.cellsOf 71=4:=(by kernel_rfl);have hy:Tryz.prog.cellsOf 69=2:=(by kernel_rfl);have hi:Tryz.prog.cellsOf 3=1:=(by kernel_rfl);have hb:Tryz.prog.cellsOf 4=1:=(by kernel_rfl);have w1:(Lit.int .i64 (x.1.2:Int)).wf=true:=WalkArith.wf_i64 (by omega);have w2:(Lit.int .i64 (x.2.1:Int)).wf=true:=WalkArith.wf_i64 (by omega);have w3:(Lit.int .i64 (x.2.2:Int)).wf=true:=WalkArith.wf_i64 (by omega);have hf:(kyVal x).formed Tryz.prog 71=true:=(by simp [Value.formed,Tryz.underlying71,hc,kyVal])
 have hk:Tryz.prog.keyLits (Tryz.prog.types.size+1) 71 [.bool x.1.1,.int .i64 (x.1.2:Int),.int .i64 (x.2.1:Int),.int .i64 (x.2.2:Int)]=some [.bool x.1.1,.int .i64 (x.1.2:Int),.int .i64 (x.2.1:Int),.int .i64 (x.2.2:Int)]:=by
  have e:Tryz.prog.types.size+1=(Tryz.prog.types.size - 2)+1+1+1:=(by have:2≤Tryz.prog.types.size:=of_decide_eq_true (by kernel_rfl); omega);rw [e];generalize Tryz.prog.types.size - 2=d;simp [Program.keyLits,Tryz.underlying71,Tryz.underlying69,Tryz.underlying3,Tryz.underlying4,hc,hy,hi,hb,w1,w2,w3];rw [if_pos (fun i hi=>by rcases i with _ | _ | i <;> first | (simp; done) | omega)];rfl
 refine ⟨.string (keyBytes [.bool x.1.1,.int .i64 (x.1.2:Int),.int .i64 (x.2.1:Int),.int .i64 (x.2.2:Int)]),?_⟩;unfold keyOf;rw [Tryz.underlying71];simp only [hf,Bool.and_true];rw [if_pos (by kernel_rfl)];show Option.map _ (Tryz.prog.keyLits _ _ [.bool x.1.1,.int .i64 (x.1.2:Int),.int .i64 (x.2.1:Int),.int .i64 (x.2.2:Int)])=_
 rw [hk]; rfl
end Go.Proofs.YtfcihnpmeabacaaGreatDoor
namespace Go.Proofs.YtfcihnpmeabacaaGreatDoor
open Go.RowKit
def memF (L:List Ky) (k:Ky):Option Value:=if k∈L then some (.bool true) else none
structure WlM (w0:World) (g:Gr) (n:Nat) (D:Ky→Bool) (gC:Array Value) (bg bR b8 bs bp:Nat) (root:Ky) (L:List Ky) (v:Value) (Sn F:Ky→Option Value) (wr:World):Prop where
 bel:Below w0.heap.size w0 wr
 gb:Blk wr bg 24 gC
 rb:Blk wr bR 173 (kyC root)
 fb:Blk wr b8 45 #[.slice none 0 0,.int .i64 0]
 own:Own KyE 173 (fun _=>False) wr w0.heap.size v L.length L
 seen:MapK Tryz.prog 173 kyVal wr bs Sn
 pk:MapK Tryz.prog 173 kyVal wr bp F
 sok:∀ k,Sn k≠none→KyOk g n k
 fok:∀ k,F k≠none→KyOk g n k
 rows:∀ k V,F k=some V→∃ A c,V=.slice A (packsF D g.rules k).length c∧Sl PkE (fun b=>w0.heap.size≤b∧b≠bs∧b≠bp∧some b≠v.ownBlock) wr A (packsF D g.rules k).length c (packsF D g.rules k)
 ge:w0.heap.size≤bs∧w0.heap.size≤bp∧w0.heap.size≤bg∧w0.heap.size≤bR∧w0.heap.size≤b8
 ne:bg≠bs∧bg≠bp∧bR≠bs∧bR≠bp∧b8≠bs∧b8≠bp∧bs≠bp
 nr:some bg≠v.ownBlock∧some bR≠v.ownBlock∧some b8≠v.ownBlock∧some bs≠v.ownBlock∧some bp≠v.ownBlock
section
variable {w0 wr wr':World} {g:Gr} {n:Nat} {D:Ky→Bool} {gC:Array Value} {bg bR b8 bs bp:Nat} {root:Ky} {L:List Ky} {v:Value} {Sn F:Ky→Option Value}
theorem WlM.size (h:WlM w0 g n D gC bg bR b8 bs bp root L v Sn F wr):w0.heap.size≤wr.heap.size:=h.bel.size
theorem WlM.via (h:WlM w0 g n D gC bg bR b8 bs bp root L v Sn F wr) (hb:Below wr.heap.size wr wr'):WlM w0 g n D gC bg bR b8 bs bp root L v Sn F wr' :=
 ⟨h.bel.via hb,h.gb.via hb,h.rb.via hb,h.fb.via hb,h.own.via hb,h.seen.via hb,h.pk.via hb,h.sok,h.fok,fun k V hV=>by
  obtain ⟨A,c,h1,h2⟩:=h.rows k V hV
  exact ⟨A,c,h1,h2.via hb⟩,h.ge,h.ne,h.nr⟩
theorem WlM.mark {Sn':Ky→Option Value} (h:WlM w0 g n D gC bg bR b8 bs bp root L v Sn F wr) (hs:MapK Tryz.prog 173 kyVal wr' bs Sn') (hk:∀ k,Sn' k≠none→KyOk g n k) (hg:wr.grownBy wr' (some bs)):WlM w0 g n D gC bg bR b8 bs bp root L v Sn' F wr':=by
 have hne:∀ b,b≠bs→some b≠some bs:=fun b hb e=>hb (Option.some.inj e)
 refine ⟨h.bel.grown hg h.size (fun b e=>by have:=Option.some.inj e; have:=h.ge.1; omega),h.gb.grown hg (hne _ h.ne.1),h.rb.grown hg (hne _ h.ne.2.2.1),h.fb.grown hg (hne _ h.ne.2.2.2.2.1),h.own.agr (Agr.grown hg fun b hb=>?_),hs,h.pk.grown hg (hne _ (Ne.symm h.ne.2.2.2.2.2.2)),hk,h.fok,fun k V hV=>?_,h.ge,h.ne,h.nr⟩
 ·rcases hb with hb | hb
  ·exact hb.elim
  ·rw [hb]; exact fun e=>h.nr.2.2.2.1 e.symm
 ·obtain ⟨A,c,h1,h2⟩:=h.rows k V hV;exact ⟨A,c,h1,h2.agr (Agr.grown hg fun b hb=>hne _ hb.2.1)⟩
theorem WlM.push {v':Value} {k:Ky} (h:WlM w0 g n D gC bg bR b8 bs bp root L v Sn F wr) (ho:Own KyE 173 (fun _=>False) wr' w0.heap.size v' (L.length+1) (L++[k])) (hg:wr.grownBy wr' v.ownBlock) (hat:v'.ownBlock=v.ownBlock∨v'.ownBlock=some wr.heap.size):WlM w0 g n D gC bg bR b8 bs bp root (L++[k]) v' Sn F wr':=by
 have hn:∀ b,b < wr.heap.size→some b≠v.ownBlock→some b≠v'.ownBlock:=fun b hb h1 h2=>by
  rcases hat with e | e
  ·exact h1 (h2.trans e)
  ·rw [e] at h2; have:=Option.some.inj h2; omega
 refine ⟨h.bel.grown hg h.size (fun b e=>(h.own.lt b e).1),h.gb.grown hg h.nr.1,h.rb.grown hg h.nr.2.1,h.fb.grown hg h.nr.2.2.1,by simpa using ho,h.seen.grown hg h.nr.2.2.2.1,h.pk.grown hg h.nr.2.2.2.2,h.sok,h.fok,fun k V hV=>?_,h.ge,h.ne,hn _ h.gb.lt h.nr.1,hn _ h.rb.lt h.nr.2.1,hn _ h.fb.lt h.nr.2.2.1,hn _ h.seen.lt h.nr.2.2.2.1,hn _ h.pk.lt h.nr.2.2.2.2⟩;obtain ⟨A,c,h1,h2⟩:=h.rows k V hV;refine ⟨A,c,h1,?_⟩;have h3:=h2.mono (ok':=fun b=>(w0.heap.size≤b∧b≠bs∧b≠bp∧some b≠v.ownBlock)∧b < wr.heap.size) fun b hb hk=>⟨hk,hb⟩
 exact (h3.agr (Agr.grown hg fun b hb=>hb.1.2.2.2)).mono fun b _ hk=>⟨hk.1.1,hk.1.2.1,hk.1.2.2.1,hn b hk.2 hk.1.2.2.2⟩
theorem WlM.putp {k0:Ky} {A0:Option Addr} {c0:Nat} (h:WlM w0 g n D gC bg bR b8 bs bp root L v Sn F wr) (hok:KyOk g n k0) (hr:Sl PkE (fun b=>w0.heap.size≤b∧b≠bs∧b≠bp∧some b≠v.ownBlock) wr A0 (packsF D g.rules k0).length c0 (packsF D g.rules k0)) (hp:MapK Tryz.prog 173 kyVal wr' bp (fun k=>if k=k0 then some (.slice A0 (packsF D g.rules k0).length c0) else F k)) (hg:wr.grownBy wr' (some bp)) :
 WlM w0 g n D gC bg bR b8 bs bp root L v Sn (fun k=>if k=k0 then some (.slice A0 (packsF D g.rules k0).length c0) else F k) wr':=by
 have hne:∀ b,b≠bp→some b≠some bp:=fun b hb e=>hb (Option.some.inj e)
 refine ⟨h.bel.grown hg h.size (fun b e=>by have:=Option.some.inj e; have:=h.ge.2.1; omega),h.gb.grown hg (hne _ h.ne.2.1),h.rb.grown hg (hne _ h.ne.2.2.2.1),h.fb.grown hg (hne _ h.ne.2.2.2.2.2.1),h.own.agr (Agr.grown hg fun b hb=>?_),h.seen.grown hg (hne _ h.ne.2.2.2.2.2.2),hp,h.sok,fun k hk=>?_,fun k V hV=>?_,h.ge,h.ne,h.nr⟩
 ·rcases hb with hb | hb
  ·exact hb.elim
  ·rw [hb]; exact fun e=>h.nr.2.2.2.2 e.symm
 ·by_cases e:k=k0
  ·subst e; exact hok
  ·rw [if_neg e] at hk; exact h.fok k hk
 ·by_cases e:k=k0
  ·subst e;rw [if_pos rfl] at hV;exact ⟨A0,c0,(Option.some.inj hV).symm,hr.agr (Agr.grown hg fun b hb=>hne _ hb.2.2.1)⟩
  ·rw [if_neg e] at hV;obtain ⟨A,c,h1,h2⟩:=h.rows k V hV;exact ⟨A,c,h1,h2.agr (Agr.grown hg fun b hb=>hne _ hb.2.2.1)⟩
def okB (base bs bp:Nat) (v:Value) (b:Nat):Prop:=base≤b∧b≠bs∧b≠bp∧some b≠v.ownBlock
theorem Sl.okMark {α ρ:Type} {Y:Elem α ρ} {base:Nat} {w w':World} {A:Option Addr} {m c:Nat} {l:List α} (h:Sl Y (okB base bs bp v) w A m c l) (hg:w.grownBy w' (some bs)):Sl Y (okB base bs bp v) w' A m c l :=
 h.agr (Agr.grown hg fun _ hb e=>hb.2.1 (Option.some.inj e))
theorem Sl.okPush {α ρ:Type} {Y:Elem α ρ} {base:Nat} {w w':World} {A:Option Addr} {m c:Nat} {l:List α} {v':Value} (h:Sl Y (okB base bs bp v) w A m c l) (hg:w.grownBy w' v.ownBlock) (hat:v'.ownBlock=v.ownBlock∨v'.ownBlock=some w.heap.size):Sl Y (okB base bs bp v') w' A m c l:=by
 have h3:=h.mono (ok':=fun b=>okB base bs bp v b∧b < w.heap.size) fun b hb hk=>⟨hk,hb⟩
 refine (h3.agr (Agr.grown hg fun b hb=>hb.1.2.2.2)).mono fun b _ hk=>⟨hk.1.1,hk.1.2.1,hk.1.2.2.1,fun h2=>?_⟩
 rcases hat with e | e
 ·exact hk.1.2.2.2 (h2.trans e)
 ·rw [e] at h2; have:=Option.some.inj h2; have:=hk.2; omega
theorem memF_look {L:List Ky} {b:Nat} {w:World} (h:MapK Tryz.prog 173 kyVal w b (memF L)) (k:Ky) {kl:Lit} (hkey:keyOf Tryz.prog 173 (kyVal k)=some kl) :
 (Instr.lookup 176 (.map (some b)) (kyVal k) false).run Tryz.prog w=.ok (.bool (decide (k∈L))) w:=by
 have:=h.look false key_keyed Tryz.underlying176 (z:=.bool false) (by kernel_rfl) k hkey;rw [this];unfold memF
 by_cases e:k∈L <;> simp [e]
theorem key_room {b:Nat} {f:Ky→Option Value} {w:World} (h:MapK Tryz.prog 173 kyVal w b f) (hk:∀ k,f k≠none→KyOk g n k) (hg:g.Ok) (hn:n≤12):∀ es clock,w.heap[b]?=some (.map es clock)→es.size < maxLen:=fun es clock he =>
 Nat.lt_of_le_of_lt (h.room kyC2 3400 (fun y hy=>kyC2_lt (hk y hy) hg hn) (fun x y hx hy e=>kyC2_inj (hk x hx) (hk y hy) hg hn e) es clock he) (by simp [maxLen])
theorem KyOk.key {k:Ky} (h:KyOk g n k) (hg:g.Ok) (hn:n≤12):∃ l,keyOf Tryz.prog 173 (kyVal k)=some l:=by
 have:=h.ok hg hn;exact key_key k (by have:=this.2.2; omega) (by have:=this.1; omega) (by have:=this.2.1; omega)
end
theorem gNk_c (n:Int) (w:World):Calls Tryz.prog 92 #[.int .i64 n] w fun e w'=>e=.returned (.agg #[.bool false,.int .i64 n])∧Below w.heap.size w w':=by
 go_enter Tryz.func92,Tryz.ntmps92;go_wp2_with fail;exact bodyPost_ret (v:=.agg #[.bool false,.int .i64 n]) (by simp [results,Tryz.results92,go_sem]) rfl ⟨rfl,(Below.refl _ _).al _⟩
end Go.Proofs.YtfcihnpmeabacaaGreatDoor
