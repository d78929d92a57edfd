/- Texts BE, BG, AD, RN, ZD, laid together. -/
import Derived.Test.YtfcihnpmeabacaaGreatDoorW3
import Derived.Test.YtfcihnpmeabacaaGreatDoorW5
import Derived.Shelf.Spec.TrailingZeros
import Derived.Shelf.Lay
import Derived.Ground.NamesProg
namespace Go.Proofs.YtfcihnpmeabacaaGreatDoor
open Go.RowKit
def dOf (xs:List Int) (E:EnS) (k:Ky):Bool:=(cOf xs E k.1 k.2.1).testBit k.2.2
def SupE (n:Nat) (E:EnS):Prop:=∀ N i j,(E N i).testBit j=true→i≤j∧j≤n
def DvS (rules:List Ru) (xs:List Int) (k:Ky):Prop:=k.2.1≤k.2.2∧k.2.2≤xs.length∧Dv rules [k.1] (part xs k.2.1 k.2.2)
section
variable {rules:List Ru} {xs:List Int} {E:EnS} {D:Ky→Bool}
theorem dOf_term {t i j:Nat}:dOf xs E ((true,t),i,j)=true↔xs[i]?=some (t:Int)∧j=i+1:=by
 simp only [dOf,cOf,if_true]
 by_cases h:xs[i]?=some (t:Int)
 ·rw [if_pos h,Nat.testBit_two_pow,decide_eq_true_eq];constructor
  ·intro e; exact ⟨h,e.symm⟩
  ·rintro ⟨-,e⟩; exact e.symm
 ·rw [if_neg h];simp [h]
theorem dOf_non {N i j:Nat}:dOf xs E ((false,N),i,j)=(E N i).testBit j:=by simp [dOf,cOf]
theorem dOf_le (hE:SupE xs.length E) {k:Ky} (h:dOf xs E k=true):k.2.1≤k.2.2∧k.2.2≤xs.length:=by
 obtain ⟨⟨b,N⟩,i,j⟩:=k;cases b with
 | true =>
  obtain ⟨h1,rfl⟩:=dOf_term.1 h;have:=(List.getElem?_eq_some_iff.1 h1).1;simp only; omega
 | false=>rw [dOf_non] at h; exact hE _ _ _ h
theorem someF_le:∀ {l:List Sy} {i j:Nat},someF D l i j=true→i≤j
 | [],i,j,h=>by simp only [someF,decide_eq_true_eq] at h; omega
 | s::l,i,j,h=>by
  obtain ⟨p,h1,h2,-,-⟩:=some_iff.1 h;omega
theorem reach_some (hE:SupE xs.length E) (hl:xs.length < 32):∀ (l:List Sy) (y j:Nat),(∀ p,y.testBit p=true→p≤xs.length) →
 ((l.foldl (fun y s=>stepM xs E s y) y).testBit j=true↔∃ p,y.testBit p=true∧someF (dOf xs E) l p j=true):=by
 intro l
 induction l with
 | nil =>
  intro y j _;simp only [List.foldl_nil,someF,decide_eq_true_eq];constructor
  ·intro h; exact ⟨j,h,rfl⟩
  ·rintro ⟨p,h,rfl⟩; exact h
 | cons s l ih =>
  intro y j hy
  rw [List.foldl_cons,ih (stepM xs E s y) j (fun p hp=>by
   obtain ⟨q,-,-,h2⟩:=stepM_bit.1 hp
   exact (dOf_le hE (k:=(s,q,p)) h2).2)]
  constructor
  ·rintro ⟨p,h1,h2⟩;obtain ⟨q,hq,h3,h4⟩:=stepM_bit.1 h1;have h5:=dOf_le hE (k:=(s,q,p)) h4;exact ⟨q,h3,some_iff.2 ⟨p,h5.1,someF_le h2,h4,h2⟩⟩
  ·rintro ⟨q,h1,h2⟩;obtain ⟨p,h3,h4,h5,h6⟩:=some_iff.1 h2;exact ⟨p,stepM_bit.2 ⟨q,by have:=hy q h1; omega,h1,h5⟩,h6⟩
theorem reach_iff (hE:SupE xs.length E) (hl:xs.length < 32) (l:List Sy) {i:Nat} (hi:i≤xs.length) (j:Nat):(reachM xs E l i).testBit j=someF (dOf xs E) l i j:=by
 have h:=reach_some hE hl l (2 ^ i) j (fun p hp=>by rw [Nat.testBit_two_pow,decide_eq_true_eq] at hp; omega)
 have h2:(reachM xs E l i).testBit j=true↔someF (dOf xs E) l i j=true:=by
  unfold reachM;rw [h];constructor
  ·rintro ⟨p,h1,h2⟩;rw [Nat.testBit_two_pow,decide_eq_true_eq] at h1;subst h1; exact h2
  ·intro h2; exact ⟨i,by rw [Nat.testBit_two_pow]; simp,h2⟩
 exact Bool.eq_iff_iff.2 h2
theorem dv_one {t:Nat} {v:List Int}:Dv rules [(true,t)] v↔v=[(t:Int)]:=by
 constructor
 ·intro h;cases h with
  | term t h=>cases h; rfl
 ·rintro rfl; exact Dv.letter t
theorem part_one {i j:Nat} (h1:i≤j) (h2:j≤xs.length) {t:Int}:part xs i j=[t]↔xs[i]?=some t∧j=i+1:=by
 constructor
 ·intro e
  have hj:j=i+1:=by
   have:=part_len (w:=xs) (i:=i) (j:=j) h2;rw [e] at this; simp at this; omega
  subst hj;exact ⟨gpart_one e,rfl⟩
 ·rintro ⟨h,rfl⟩; exact gpart_at h
theorem dOf_iff (hs:SndE rules xs E) (hf:FixE rules xs E) (hl:xs.length < 32) (k:Ky):dOf xs E k=true↔DvS rules xs k:=by
 obtain ⟨⟨b,N⟩,i,j⟩:=k;cases b with
 | true =>
  rw [dOf_term];unfold DvS;simp only;constructor
  ·rintro ⟨h,rfl⟩;have:=(List.getElem?_eq_some_iff.1 h).1;exact ⟨by omega,by omega,dv_one.2 (gpart_at h)⟩
  ·rintro ⟨h1,h2,h3⟩;exact (part_one h1 h2).1 (dv_one.1 h3)
 | false =>
  rw [dOf_non];constructor
  ·intro h; exact hs.snd N i j h
  ·rintro ⟨h1,h2,h3⟩;simp only at h1 h2 h3;have:=hf.all hl h3 i j h1 h2 rfl [] i (by simp [reachM]);rw [List.nil_append,show [(false,N)]=[]++[((false,N):Sy)] from rfl,reachM_snoc,stepM_bit] at this;obtain ⟨p,hp,h4,h5⟩:=this;simp only [reachM,List.foldl_nil,Nat.testBit_two_pow,decide_eq_true_eq] at h4;subst h4
   simpa [cOf] using h5
theorem SndE.sup (h:SndE rules xs E):SupE xs.length E:=fun N i j hj=>⟨(h.snd N i j hj).1,(h.snd N i j hj).2.1⟩
structure SpOk (rules:List Ru) (xs:List Int) (S:Ky→Bool):Prop where
 snd:∀ k,S k=true→DvS rules xs k
 ltr:∀ i t:Nat,xs[i]?=some (t:Int)→S ((true,t),i,i+1)=true
def FixS (rules:List Ru) (n:Nat) (S:Ky→Bool):Prop:=∀ u∈rules,∀ i j,i≤j→j≤n→someF S u.2 i j=true→S ((false,u.1),i,j)=true
theorem some_dv {S:Ky→Bool} (hs:∀ k,S k=true→DvS rules xs k):∀ {l:List Sy} {i j:Nat},j≤xs.length→someF S l i j=true→i≤j∧Dv rules l (part xs i j):=by
 intro l
 induction l with
 | nil =>
  intro i j hj h;simp only [someF,decide_eq_true_eq] at h;subst h;exact ⟨Nat.le_refl _,by rw [part_same]; exact .nil⟩
 | cons s l ih =>
  intro i j hj h;obtain ⟨p,h1,h2,h3,h4⟩:=some_iff.1 h;obtain ⟨-,-,h5⟩:=hs _ h3;obtain ⟨-,h6⟩:=ih hj h4;refine ⟨by omega,?_⟩;rw [← part_append h1 h2];exact h5.append h6
theorem dv_some {S:Ky→Bool} (ho:SpOk rules xs S) (hf:FixS rules xs.length S) {l:List Sy} {v:List Int} (h:Dv rules l v):∀ i j,i≤j→j≤xs.length→v=part xs i j→someF S l i j=true:=by
 induction h with
 | nil =>
  intro i j h1 h2 e;have:=part_len (w:=xs) (i:=i) h2;rw [← e] at this;simp at this;simp only [someF,decide_eq_true_eq]; omega
 | @term t l v h ih =>
  intro i j h1 h2 e;obtain ⟨m,m1,m2,e1,e2⟩:=part_split (p1:=[(t:Int)]) h1 h2 e.symm;obtain ⟨hx,rfl⟩:=(part_one m1 (by omega)).1 e1;exact some_iff.2 ⟨i+1,by omega,m2,ho.ltr i t hx,ih _ _ m2 h2 e2.symm⟩
 | @non N rhs l u v hr hu hv ih1 ih2 =>
  intro i j h1 h2 e;obtain ⟨m,m1,m2,e1,e2⟩:=part_split h1 h2 e.symm;exact some_iff.2 ⟨m,m1,m2,hf _ hr i m m1 (by omega) (ih1 i m m1 (by omega) e1.symm),ih2 m j m2 h2 e2.symm⟩
theorem SpOk.iff {S:Ky→Bool} (ho:SpOk rules xs S) (hf:FixS rules xs.length S) (k:Ky):S k=true↔DvS rules xs k:=by
 constructor
 ·exact ho.snd k
 ·obtain ⟨⟨b,N⟩,i,j⟩:=k;rintro ⟨h1,h2,h3⟩;simp only at h1 h2 h3;have h4:=dv_some ho hf h3 i j h1 h2 rfl;obtain ⟨p,p1,p2,p3,p4⟩:=some_iff.1 h4;simp only [someF,decide_eq_true_eq] at p4;subst p4; exact p3
end
end Go.Proofs.YtfcihnpmeabacaaGreatDoor
namespace Go.Proofs.YtfcihnpmeabacaaGreatDoor
open Go.RowKit
theorem low_bit2 {x:Nat} (h0:x≠0) (h:x < 4294967296):∃ k,k=Lib.ctz 32 x∧k < 32∧x &&& (x - 1) < x∧(∀ p,x.testBit p=true↔p=k∨(x &&& (x - 1)).testBit p=true)∧(∀ p,p < k→x.testBit p=false)∧(x &&& (x - 1)).testBit k=false:=by
 obtain ⟨m,hm,hk⟩:=Lib.ctzFrom_spec 32 x (by omega) (by omega);have e:Lib.ctz 32 x=Lib.ctzFrom 32 x:=(by simp [Lib.ctz,h0]);rw [e];generalize Lib.ctzFrom 32 x=k at *;have hp:0 < 2 ^ k:=Nat.pos_of_ne_zero (by simp)
 have key:∀ p,(x - 1).testBit p=if p < k then true else if p=k then false else x.testBit p:=by
  intro p;have e1:x - 1=2 ^ k*(2*m)+(2 ^ k - 1):=(by rw [hm,Nat.mul_add]; omega);rw [e1,Nat.testBit_two_pow_mul_add _ (by omega),Nat.testBit_two_pow_sub_one]
  by_cases h1:p < k
  ·simp [h1]
  ·rw [if_neg h1,if_neg h1,hm,Nat.mul_comm (2 ^ k),Nat.testBit_mul_two_pow]
   by_cases h2:p=k
   ·subst h2; simp [Nat.testBit_zero]
   ·obtain ⟨q,rfl⟩:∃ q,p=k+(q+1):=⟨p - k - 1,by omega⟩;rw [if_neg h2];have e2:k+(q+1) - k=q+1:=(by omega);rw [e2,Nat.testBit_succ,Nat.testBit_succ];have d1:2*m / 2=m:=(by omega);have d2:(2*m+1) / 2=m:=(by omega);rw [d1,d2]; simp
 have hx:∀ p,x.testBit p=if p < k then false else if p=k then true else x.testBit p:=by
  intro p
  by_cases h1:p < k
  ·rw [if_pos h1,hm,Nat.mul_comm (2 ^ k),Nat.testBit_mul_two_pow]; simp; omega
  ·rw [if_neg h1]
   by_cases h2:p=k
   ·subst h2; rw [if_pos rfl,hm,Nat.mul_comm (2 ^ p),Nat.testBit_mul_two_pow]; simp [Nat.testBit_zero]
   ·rw [if_neg h2]
 refine ⟨k,rfl,hk,?_,fun p=>?_,fun p hp=>?_,?_⟩
 ·have:=Nat.and_le_right (n:=x) (m:=x - 1); omega
 ·rw [Nat.testBit_and,key]
  by_cases h1:p < k
  ·have:=hx p; rw [if_pos h1] at this;simp [h1,this]; omega
  ·rw [if_neg h1]
   by_cases h2:p=k
   ·subst h2;have:=hx p; rw [if_neg h1,if_pos rfl] at this;simp [this]
   ·simp [h2]
 ·have:=hx p; rw [if_pos hp] at this; exact this
 ·rw [Nat.testBit_and,key]; simp
def bitsL (x:Nat):List Nat:=(List.range 32).filter fun p=>x.testBit p
theorem bitsL_zero:bitsL 0=[]:=by simp [bitsL]
theorem filter_low {k n:Nat} (f g:Nat→Bool) (hk:k < n) (h1:∀ p,p < k→f p=false) (h2:f k=true) (h3:∀ p,p≤k→g p=false) (h4:∀ p,k < p→f p=g p):(List.range n).filter f=k::(List.range n).filter g:=by
 induction n with
 | zero=>omega
 | succ n ih =>
  rw [List.range_succ,List.filter_append,List.filter_append]
  rcases Nat.lt_or_ge k n with hkn | hkn
  ·rw [ih hkn];simp only [List.cons_append,List.cons.injEq,true_and]
   congr 1
   simp only [List.filter_cons,List.filter_nil,h4 n hkn]
  ·obtain rfl:k=n:=(by omega);have e1:(List.range k).filter f=[]:=List.filter_eq_nil_iff.2 fun p hp=>by rw [h1 p (List.mem_range.1 hp)]; simp
   have e2:(List.range k).filter g=[]:=List.filter_eq_nil_iff.2 fun p hp=>by rw [h3 p (by have:=List.mem_range.1 hp; omega)]; simp
   rw [e1,e2];simp [h2,h3 k (Nat.le_refl _)]
theorem bitsL_step {x:Nat} (h0:x≠0) (h:x < 4294967296):bitsL x=Lib.ctz 32 x::bitsL (x &&& (x - 1)):=by
 obtain ⟨k,hk,hk32,hlt,hb,hlow,hnk⟩:=low_bit2 h0 h;rw [← hk];have hkk:x.testBit k=true:=(hb k).2 (Or.inl rfl);refine filter_low _ _ hk32 hlow hkk (fun p hp=>?_) (fun p hp=>?_)
 ·cases hx:(x &&& (x - 1)).testBit p with
  | false=>rfl
  | true =>
   exfalso
   have h1:=(hb p).2 (Or.inr hx)
   rcases Nat.lt_or_ge p k with hlt2 | hge
   ·rw [hlow p hlt2] at h1; cases h1
   ·obtain rfl:p=k:=(by omega);rw [hnk] at hx; cases hx
 ·exact Bool.eq_iff_iff.2 ((hb p).trans ⟨fun h=>h.resolve_left (by omega),Or.inr⟩)
theorem range_split (i n:Nat):List.range (i+n)=List.range i++(List.range n).map (i+·):=List.range_add
theorem ways_bits {D:Ky→Bool} {s:Sy} {l:List Sy} {i j x:Nat} (hx:∀ p,x.testBit p=D (s,i,p)) (hD:∀ p,D (s,i,p)=true→i≤p) (hj:j < 32) (hi:i≤32) :
 (bitsL x).flatMap (fun p=>if p≤j then (waysF D l p j).map ((s,i,p)::·) else [])=waysF D (s::l) i j:=by
 have e1:bitsL x=((List.range (32 - i)).map (i+·)).filter fun p=>x.testBit p:=by
  unfold bitsL;have:(32:Nat)=i+(32 - i):=(by omega)
  conv=>lhs; rw [this,range_split,List.filter_append]
  have e:(List.range i).filter (fun p=>x.testBit p)=[]:=List.filter_eq_nil_iff.2 fun p hp=>by
   have:=List.mem_range.1 hp;intro h;rw [hx] at h;have:=hD p h; omega
  rw [e,List.nil_append]
 rw [e1,List.filter_map,List.flatMap_map,waysF];have e2:∀ q,(fun p=>if p≤j then (waysF D l p j).map ((s,i,p)::·) else []) (i+q)=if i+q≤j then (waysF D l (i+q) j).map ((s,i,i+q)::·) else []:=fun q=>rfl
 have key:∀ L:List Nat,(List.filter ((fun p=>x.testBit p) ∘ fun q=>i+q) L).flatMap (fun q=>if i+q≤j then (waysF D l (i+q) j).map ((s,i,i+q)::·) else []) =
  L.flatMap fun q=>if i+q≤j then (if (D (s,i,i+q)&&someF D l (i+q) j)=true then (waysF D l (i+q) j).map ((s,i,i+q)::·) else []) else []:=by
  intro L
  induction L with
  | nil=>rfl
  | cons q L ih =>
   simp only [List.filter_cons,Function.comp,List.flatMap_cons] at ih ⊢;have hxq:=hx (i+q);cases hd:D (s,i,i+q) with
   | false =>
    rw [hd] at hxq;rw [if_neg (by rw [hxq]; simp)];simp only [Bool.false_and];rw [ih];simp
   | true =>
    rw [hd] at hxq;rw [if_pos hxq,List.flatMap_cons,ih];simp only [Bool.true_and]
    congr 1
    split
    ·cases hs:someF D l (i+q) j with
     | true=>simp
     | false=>simp [ways_nil hs]
    ·rfl
 rw [key]
 have e3:∀ f:Nat→List (List Ky),(List.range (32 - i)).flatMap (fun q=>if i+q≤j then f q else [])=(List.range (j+1 - i)).flatMap f:=by
  intro f;have:32 - i=(j+1 - i)+(32 - i - (j+1 - i)):=(by omega);rw [this,range_split,List.flatMap_append]
  have h1:(List.range (j+1 - i)).flatMap (fun q=>if i+q≤j then f q else [])=(List.range (j+1 - i)).flatMap f:=by
   have:∀ L:List Nat,(∀ q∈L,i+q≤j)→L.flatMap (fun q=>if i+q≤j then f q else [])=L.flatMap f:=by
    intro L
    induction L with
    | nil=>intro _; rfl
    | cons q L ih =>
     intro h;rw [List.flatMap_cons,List.flatMap_cons,if_pos (h q (by simp)),ih fun q' hq'=>h q' (by simp [hq'])]
   exact this _ fun q hq=>by have:=List.mem_range.1 hq; omega
  rw [h1]
  have h2:((List.range (32 - i - (j+1 - i))).map (j+1 - i+·)).flatMap (fun q=>if i+q≤j then f q else [])=[]:=by
   rw [List.flatMap_eq_nil_iff];intro q hq;obtain ⟨r,-,rfl⟩:=List.mem_map.1 hq;rw [if_neg (by omega)]
  rw [h2,List.append_nil]
 rw [e3]
end Go.Proofs.YtfcihnpmeabacaaGreatDoor
namespace Go.Proofs.YtfcihnpmeabacaaGreatDoor
open Go.RowKit Go.Shelf
def laysTz_ren:Go.Shelf.Ren:=⟨fun | 28=>131 | n=>n,fun | 27=>126 | 3=>3 | 4=>4 | 25=>160 | 53=>244 | 0=>0 | 5=>5 | n=>n,fun | 0=>0 | n=>n⟩
theorem laysTz:Go.Proofs.Lays7.n28 Tryz.prog laysTz_ren:={
 mixed:=by kernel_rfl
 f28:=Tryz.func131.trans (congrArg some (by kernel_rfl))
 t0:=Tryz.underlying0
 a0:=Tryz.isAgg0
 z0:=Tryz.sizeOf0
 v0:=Tryz.zeroValue0
 i0:=by kernel_rfl
 t3:=Tryz.underlying3
 a3:=Tryz.isAgg3
 z3:=Tryz.sizeOf3
 v3:=Tryz.zeroValue3
 i3:=by kernel_rfl
 t4:=Tryz.underlying4
 a4:=Tryz.isAgg4
 z4:=Tryz.sizeOf4
 v4:=Tryz.zeroValue4
 i4:=by kernel_rfl
 t5:=Tryz.underlying5
 a5:=Tryz.isAgg5
 z5:=Tryz.sizeOf5
 v5:=Tryz.zeroValue5
 i5:=by kernel_rfl
 t25:=Tryz.underlying160
 a25:=Tryz.isAgg160
 z25:=Tryz.sizeOf160
 v25:=Tryz.zeroValue160
 i25:=by kernel_rfl
 t27:=Tryz.underlying126
 a27:=Tryz.isAgg126
 z27:=Tryz.sizeOf126
 v27:=Tryz.zeroValue126
 i27:=by kernel_rfl
 t53:=Tryz.underlying244
 a53:=Tryz.isAgg244
 z53:=Tryz.sizeOf244
 v53:=Tryz.zeroValue244
 i53:=by kernel_rfl
 g0:=by kernel_rfl }
def TabW (w:World):Prop:=TabAt 0 Lib.deBruijn32tab w
theorem tz_c (x:Nat) (hx:x < 4294967296) (w:World) (hT:TabW w) :
 Calls Tryz.prog 131 #[.int .u32 x] w fun e w'=>e=.returned (.int .i64 (Lib.ctz 32 x))∧w'=w :=
 Any7.bits_TrailingZeros32 laysTz x hx w (fun _=>hT)
theorem stepM_le {xs:List Int} {E:EnS} {s:Sy} {y j:Nat} (hE:∀ a p,E a p < 2 ^ (xs.length+1)) (h:(stepM xs E s y).testBit j=true):j≤xs.length:=by
 obtain ⟨p,hp,h1,h2⟩:=stepM_bit.1 h;obtain ⟨b,t⟩:=s;cases b with
 | false =>
  simp only [cOf,Bool.false_eq_true,if_false] at h2
  rcases Nat.lt_or_ge j (xs.length+1) with h3 | h3
  ·omega
  ·have:=Nat.testBit_lt_two_pow (x:=E t p) (i:=j) (Nat.lt_of_lt_of_le (hE t p) (Nat.pow_le_pow_right (by omega) h3));rw [this] at h2; cases h2
 | true =>
  simp only [cOf,if_true] at h2
  by_cases hx:xs[p]?=some (t:Int)
  ·rw [if_pos hx,Nat.testBit_two_pow,decide_eq_true_eq] at h2;have hl:=(List.getElem?_eq_some_iff.1 hx).1;omega
  ·rw [if_neg hx] at h2; simp at h2
theorem reachM_lt {xs:List Int} {E:EnS} (hE:∀ a p,E a p < 2 ^ (xs.length+1)) {i:Nat} (hi:i≤xs.length) (l:List Sy):reachM xs E l i < 2 ^ (xs.length+1):=by
 induction l using snoc_induction with
 | h0=>exact Nat.pow_lt_pow_right (by omega) (by omega)
 | hs l s ih=>rw [reachM_snoc]; exact lt_of_bits fun j hj=>stepM_le hE hj
theorem pow13 {n:Nat} (h:n≤12):2 ^ (n+1)≤8192:=Nat.le_trans (Nat.pow_le_pow_right (by omega) (show n+1≤13 by omega)) (by omega)
structure EnR (w:World) (ob N n:Nat) (rb:Nat→Nat) (E:EnS):Prop where
 top:∃ C:Array Value,Blk w ob 127 C∧∀ a,a < N→C[a]?=some (.slice (some ⟨rb a,0,none⟩) (n+1) (n+1))
 row:∀ a,a < N→∃ C:Array Value,Blk w (rb a) 126 C∧C.size=n+1∧∀ i,i≤n→C[i]?=some (.int .u32 (E a i:Int))
 inj:∀ a a',a < N→a' < N→rb a=rb a'→a=a'
 ne:∀ a,a < N→ob≠rb a
section
variable {w w':World} {ob N n:Nat} {rb:Nat→Nat} {E:EnS}
theorem EnR.via (h:EnR w ob N n rb E) (k:Below w.heap.size w w'):EnR w' ob N n rb E:=by
 obtain ⟨⟨C,h1,h2⟩,h3,h4,h5⟩:=h;exact ⟨⟨C,h1.via k,h2⟩,fun a ha=>by obtain ⟨D,d1,d2,d3⟩:=h3 a ha; exact ⟨D,d1.via k,d2,d3⟩,h4,h5⟩
theorem EnR.cell1 (h:EnR w ob N n rb E) {a:Nat} (ha:a < N):w.cell? ⟨ob,a,none⟩=some (.slice (some ⟨rb a,0,none⟩) (n+1) (n+1)):=by
 obtain ⟨⟨C,h1,h2⟩,_⟩:=h;exact (h1.cell a).trans (h2 a ha)
theorem EnR.cell2 (h:EnR w ob N n rb E) {a i:Nat} (ha:a < N) (hi:i≤n):w.cell? ⟨rb a,i,none⟩=some (.int .u32 (E a i:Int)):=by
 obtain ⟨D,d1,d2,d3⟩:=h.row a ha;exact (d1.cell i).trans (d3 i hi)
theorem EnR.frozen (h:EnR w ob N n rb E) {a:Nat} (ha:a < N) (i:Nat):w.frozen? ⟨rb a,i,none⟩=false:=by
 obtain ⟨D,d1,d2,d3⟩:=h.row a ha;exact d1.frozen i
theorem EnR.put (h:EnR w ob N n rb E) {a i:Nat} (ha:a < N) (hi:i≤n) (y:Nat):EnR (w.setCell ⟨rb a,i,none⟩ (.int .u32 (y:Int))) ob N n rb (fun N k=>if N=a∧k=i then y else E N k):=by
 obtain ⟨⟨C,h1,h2⟩,h3,h4,h5⟩:=h;refine ⟨⟨C,(Below.heap_setCell _ _ _ _ (by show ob≠rb a; exact h5 a ha)).trans h1,h2⟩,fun b hb=>?_,h4,h5⟩
 by_cases e:b=a
 ·subst e;obtain ⟨D,d1,d2,d3⟩:=h3 b hb;refine ⟨_,d1.set_ i (.int .u32 (y:Int)),by simp [d2],fun k hk=>?_⟩;rw [Array.getElem?_setIfInBounds]
  by_cases e2:k=i
  ·subst e2; rw [if_pos rfl,if_pos (by omega),if_pos ⟨rfl,rfl⟩]
  ·rw [if_neg (Ne.symm e2),if_neg (fun h=>e2 h.2)]; exact d3 k hk
 ·obtain ⟨D,d1,d2,d3⟩:=h3 b hb;refine ⟨D,(Below.heap_setCell _ _ _ _ (by show rb b≠rb a; exact fun h=>e (h4 b a hb ha h))).trans d1,d2,fun k hk=>?_⟩;rw [if_neg (fun h=>e h.1)]; exact d3 k hk
end
theorem TabW.via {w w':World} (h:TabW w) (k:Below w.heap.size w w'):TabW w':=fun j hj=>by
 have:=h j hj;exact (k.cell (p:=⟨0,j,none⟩) (World.block_lt_of_cell? w _ this)).trans this
def ReachP (w:World) (y:Nat) (e:Ending) (w':World):Prop:=e=.returned (.int .u32 (y:Int))∧Below w.heap.size w w'
structure EnV (w:World) (ob oo N n:Nat) (rb ro rc:Nat→Nat) (E:EnS):Prop where
 cell1:∀ {a:Nat},a < N→w.cell? ⟨ob,oo+a,none⟩=some (.slice (some ⟨rb a,ro a,none⟩) (n+1) (rc a))
 cell2:∀ {a i:Nat},a < N→i≤n→w.cell? ⟨rb a,ro a+i,none⟩=some (.int .u32 (E a i:Int))
theorem EnV.via {w w':World} {ob oo N n:Nat} {rb ro rc:Nat→Nat} {E:EnS} (h:EnV w ob oo N n rb ro rc E) (k:Below w.heap.size w w'):EnV w' ob oo N n rb ro rc E :=
 ⟨fun ha=>(k.cell (World.block_lt_of_cell? _ _ (h.cell1 ha))).trans (h.cell1 ha),fun ha hi=>(k.cell (World.block_lt_of_cell? _ _ (h.cell2 ha hi))).trans (h.cell2 ha hi)⟩
theorem EnR.view {w:World} {ob N n:Nat} {rb:Nat→Nat} {E:EnS} (h:EnR w ob N n rb E):EnV w ob 0 N n rb (fun _=>0) (fun _=>n+1) E :=
 ⟨fun {a} ha=>by rw [Nat.zero_add]; exact h.cell1 ha,fun {a i} ha hi=>by rw [Nat.zero_add]; exact h.cell2 ha hi⟩
set_option maxRecDepth 100000 in
set_option maxHeartbeats 8000000 in
theorem reach_v (ok:Nat→Prop) (A:Option Addr) (n c ob oo N oc:Nat) (rb ro rc:Nat→Nat) (E:EnS) (B:Option Addr) (m d i:Nat) (xs:List Int) (l:List Sy) (w:World) (hx:Ints w A n c xs) (hE:EnV w ob oo N n rb ro rc E) (hl:Sl SyE ok w B m d l)
 (hs:∀ s∈l,s.1=false→s.2 < N) (hi:i≤n) (hn:n≤12) (hm:m≤1000) (hb:∀ a p,E a p < 2 ^ (n+1)) (hT:TabW w) :
 Calls Tryz.prog 99 #[.slice A n c,.slice (some ⟨ob,oo,none⟩) N oc,.slice B m d,.int .i64 (i:Int)] w (ReachP w (reachM xs E l i)):=by
 have hxl:=hx.len;have HX:=Lib.hid hx;have HE:=Lib.hid hE;have HL:=Lib.hid hl;have HS:=Lib.hid hs;have HT:=Lib.hid hT;have hbb:∀ a p,E a p < 2 ^ (xs.length+1):=(by rw [hxl]; exact hb);have HBB:=Lib.hid hbb;have HXL:=Lib.hid hxl;have p13:=pow13 hn;have HP:=Lib.hid p13;obtain ⟨y0,hy0⟩:∃ y0,y0=2 ^ i:=⟨_,rfl⟩
 have hw0:(2:Int) ^ i % 4294967296=(y0:Int):=by
  have h1:2 ^ i < 2 ^ (n+1):=Nat.pow_lt_pow_right (by omega) (by omega);have h2:((2 ^ i:Nat):Int)=(2:Int) ^ i:=(by simp);rw [← h2,hy0]; omega
 have HY0:=Lib.hid hy0;clear hx hE hl hs hT hb hbb hxl p13 hy0;go_enter Tryz.func99,Tryz.ntmps99;go_wp2_with fail;have HR0:=Lib.hid (show y0=reachM xs E (l.take 0) i by rw [HY0.out]; simp [reachM]);have HM:=Lib.hid HL.out.len;have HW0:=Lib.hid hw0;clear hw0
 go_loopw [9,19] (fun a q wr=>∃ k y:Nat,q=.int .i64 k∧k≤m∧a=.int .u32 (y:Int)∧y=reachM xs E (l.take k) i∧Below w.heap.size w wr) (fun _ q _=>m - (intOf q).toNat)
 case atStart=>exact ⟨0,y0,rfl,Nat.zero_le _,by rw [← HW0.out],HR0.out,Below.refl _ _⟩
 case round =>
  obtain ⟨k,y,rfl,hk,rfl,hy,hbw⟩:=hrel;clear HR0
  by_cases hkm:k < m
  ·obtain ⟨b1,o1,sx,sy,rfl,-,hbb1,hyk,hxy,hc⟩:=HL.out.at_ hkm;obtain rfl:sx=sy:=hxy;have d0:=(hbw.cell (p:=⟨b1,o1+k*SyE.k+0,none⟩) hbb1).trans (hc 0 _ rfl);have d1:=(hbw.cell (p:=⟨b1,o1+k*SyE.k+1,none⟩) hbb1).trans (hc 1 _ rfl);simp only [SyE,Nat.add_zero] at d0 d1;have hS:=HS.out _ (List.mem_of_getElem? hyk);have HT2:=Lib.hid (show l.take (k+1)=l.take k++[sx] by rw [List.take_add_one,hyk]; rfl);have i0:(0:Int)≤(k:Int):=(by omega);have i1:(k:Int) < (m:Int):=(by omega)
   have hyl:y < 8192:=by
    have h1:=reachM_lt HBB.out (i:=i) (by rw [HXL.out]; exact hi) (l.take k);rw [← hy,HXL.out] at h1;have:=HP.out; omega
   have hyn:y < 2 ^ (n+1):=by
    have h1:=reachM_lt HBB.out (i:=i) (by rw [HXL.out]; exact hi) (l.take k)
    rwa [← hy,HXL.out] at h1
   obtain ⟨sb,sn⟩:=sx;simp only at d0 d1;have HYR:=Lib.hid hy;have HYN:=Lib.hid hyn;have HSS:=Lib.hid hS;have HBW:=Lib.hid (hbw.al (.cells #[.bool sb,.int .i64 (sn:Int)] 69));have Bs:=Blk.new wr 69 #[.bool sb,.int .i64 (sn:Int)];clear hy hyk hc hS hbw hyn;go_wp2_with fail;clear d0 d1;generalize wr.alloc (.cells #[.bool sb,.int .i64 (sn:Int)] 69)=W2 at *;generalize wr.heap.size=bs at *;have HBs:=Lib.hid Bs;clear Bs;have HG0:=Lib.hid (show 0 ||| gath (cOf xs E (sb,sn)) 32 y=stepM xs E (sb,sn) y by simp [stepM]);obtain ⟨wo,rfl⟩:∃ wo:World,wo=wr:=⟨_,rfl⟩
   go_loopw [12,13] (fun a b wr=>∃ N1 X:Nat,a=.int .u32 (N1:Int)∧b=.int .u32 (X:Int)∧N1 < 2 ^ (n+1)∧X < 2 ^ (n+1)∧N1 ||| gath (cOf xs E (sb,sn)) 32 X=stepM xs E (sb,sn) y∧Below W2.heap.size W2 wr) (fun _ b _=>(intOf b).toNat)
   case atStart=>exact ⟨0,y,rfl,rfl,Nat.pos_of_ne_zero (by simp),HYN.out,HG0.out,Below.refl _ _⟩
   case round =>
    obtain ⟨N1,X,rfl,rfl,hN1,hX,hg,hb2⟩:=hrel;clear HG0
    by_cases hX0:X=0
    ·subst hX0
     have HR:=Lib.hid (show N1=reachM xs E (l.take (k+1)) i by
      rw [HT2.out,reachM_snoc,← HYR.out,← hg,gath_zero,Nat.or_zero])
     have HBF:=Lib.hid (HBW.out.trans (hb2.mono (by have:=HBW.out.size; omega)));clear hg hb2 hN1 hX;go_wp2_with fail;exact ⟨⟨k+1,N1,by go_num,by omega,rfl,HR.out,HBF.out⟩,by simp [intOf]; omega⟩
    ·have hX8:X < 8192:=(by have:=HP.out; omega);have hN8:N1 < 8192:=(by have:=HP.out; omega);have e0:((X:Int)==0)=false:=(by simp; omega);obtain ⟨p,hp,hp32,hlow,hbit⟩:=low_bit hX0 (by omega);have hst:=gath_step (cOf xs E (sb,sn)) hX0 (by omega);rw [← hp] at hst
     have hpn:p≤n:=by
      rcases Nat.lt_or_ge p (n+1) with h | h
      ·omega
      ·have h1:=(hbit p).2 (Or.inl rfl);have h2:=Nat.testBit_lt_two_pow (x:=X) (i:=p) (Nat.lt_of_lt_of_le hX (Nat.pow_le_pow_right (by omega) h));rw [h2] at h1; cases h1
     have hg2:(N1 ||| cOf xs E (sb,sn) p) ||| gath (cOf xs E (sb,sn)) 32 (X &&& (X - 1))=stepM xs E (sb,sn) y:=by
      rw [Nat.or_assoc,← hst]; exact hg
     have hX2:X &&& (X - 1) < 2 ^ (n+1):=Nat.lt_trans hlow hX
     have hC:cOf xs E (sb,sn) p < 2 ^ (n+1):=by
      cases sb with
      | false=>simpa [cOf,HXL.out] using HBB.out sn p
      | true =>
       simp only [cOf,if_true]
       split
       ·rename_i h
        have:=(List.getElem?_eq_some_iff.1 h).1;exact Nat.pow_lt_pow_right (by omega) (by have:=HXL.out; omega)
       ·exact Nat.pos_of_ne_zero (by simp)
     have hN2:=Nat.or_lt_two_pow hN1 hC;have a1:IntKind.u32.wrap ((X:Int) - 1)=((X - 1:Nat):Int):=(by rw [IntKind.wrap_u32']; omega);have a2:bits .and .u32 (X:Int) ((X - 1:Nat):Int)=((X &&& (X - 1):Nat):Int):=u32_and_nat _ _ (by omega) (by omega);obtain ⟨X2,hX2e⟩:∃ X2,X2=X &&& (X - 1):=⟨_,rfl⟩;rw [← hX2e] at hlow hg2 hX2 a2;have HG2:=Lib.hid hg2;have HX2:=Lib.hid hX2;have HLOW:=Lib.hid hlow;have HCC:=Lib.hid hC;have HN2:=Lib.hid hN2;have HB2:=Lib.hid hb2;clear hst hg hbit hX2e hg2 hX2 hC hN2 hb2 hX hN1;go_wp2_with fail;refine (tz_c X (by omega) wr (HT.out.via (HBW.out.trans (HB2.out.mono (by have:=HBW.out.size; omega))))).mono ?_;rintro e w' ⟨rfl,rfl⟩;rw [← hp];clear hp;have hbw':=HBW.out.trans (HB2.out.mono (by have:=HBW.out.size; omega));have Bs:=HBs.out.via HB2.out;have p0:(0:Int)≤(p:Int):=(by omega);have a1':((X:Int) - 1) % 4294967296=((X - 1:Nat):Int):=(by omega);cases sb with
     | false =>
      have hsn:=HSS.out rfl;have he':=HE.out.via hbw';have t1:=he'.cell1 hsn;have t2:=he'.cell2 hsn hpn;have hc:cOf xs E (false,sn) p=E sn p:=(by simp [cOf]);have hcc:=HCC.out;rw [hc] at hcc;have o1:bits .or .u32 (N1:Int) (E sn p:Int)=((N1 ||| E sn p:Nat):Int):=u32_or_nat _ _ (by omega) (by have:=HP.out; omega);have p1:(p:Int) < (n:Int)+1:=(by omega);have p2:(0:Int)≤(sn:Int):=(by omega);have p3:(sn:Int) < (N:Int):=(by omega);have HGF:=Lib.hid (show (N1 ||| E sn p) ||| gath (cOf xs E (false,sn)) 32 X2=stepM xs E (false,sn) y by rw [← hc]; exact HG2.out);have HNF:=Lib.hid (show N1 ||| E sn p < 2 ^ (n+1) by rw [← hc]; exact HN2.out);clear he' hc hcc hbw';have cBs:=Bs.cell;have fBs:=Bs.frozen;have lBs:=Bs.lt;go_wp2_with fail;exact ⟨⟨N1 ||| E sn p,X2,rfl,rfl,HNF.out,HX2.out,HGF.out,HB2.out⟩,by simp [intOf]; exact HLOW.out⟩
     | true =>
      by_cases hpx:p < n
      ·obtain ⟨b9,off9,rfl,hb9,hx9⟩:=(HX.out.keep hbw' (Nat.le_refl _)).at_ hpx
       have hxe:xs[p]?=some (xs.getD p 0):=by
        have:=HXL.out;rw [List.getD_eq_getElem?_getD,List.getElem?_eq_getElem (by omega)]; rfl
       generalize xs.getD p 0=x at *;have p1:(p:Int) < (n:Int):=(by omega);have g1:decide (p < n)=true:=(by simpa using hpx)
       by_cases e:x=(sn:Int)
       ·have hc:cOf xs E (true,sn) p=2 ^ (p+1):=(by simp [cOf,hxe,e]);have e1:(x==(sn:Int))=true:=(by simpa using e);have hcc:=HCC.out;rw [hc] at hcc;obtain ⟨q,hq⟩:∃ q,q=2 ^ (p+1):=⟨_,rfl⟩;have HGF:=Lib.hid (show (N1 ||| q) ||| gath (cOf xs E (true,sn)) 32 X2=stepM xs E (true,sn) y by rw [hq,← hc]; exact HG2.out);have HNF:=Lib.hid (show N1 ||| q < 2 ^ (n+1) by rw [hq,← hc]; exact HN2.out)
        have s1:(2:Int) ^ (p+1) % 4294967296=(q:Int):=by
         have h2:((2 ^ (p+1):Nat):Int)=(2:Int) ^ (p+1):=(by simp);rw [← h2,hq]; have:=HP.out; omega
        have o1:bits .or .u32 (N1:Int) (q:Int)=((N1 ||| q:Nat):Int):=u32_or_nat _ _ (by omega) (by rw [hq]; have:=HP.out; omega);have k1:IntKind.i64.wrap ((p:Int)+1)=(p:Int)+1:=IntWalk.i64_in _ (by omega);clear hc hcc hxe hq e;have cBs:=Bs.cell;have fBs:=Bs.frozen;have lBs:=Bs.lt;go_upto_region 12 with fail
        go_quiet (fail)
        have HB3:=Lib.hid (below_drewN HB2.out nq);clear hx9 cBs fBs lBs;go_wp2_with fail;exact ⟨⟨N1 ||| q,X2,rfl,rfl,HNF.out,HX2.out,HGF.out,HB3.out⟩,by simp [intOf]; exact HLOW.out⟩
       ·have hc:cOf xs E (true,sn) p=0:=(by simp [cOf,hxe,e]);have e1:(x==(sn:Int))=false:=(by simpa using e);have HGF:=Lib.hid (show N1 ||| gath (cOf xs E (true,sn)) 32 X2=stepM xs E (true,sn) y by have:=HG2.out; rwa [hc,Nat.or_zero] at this);have HNF:=Lib.hid (show N1 < 2 ^ (n+1) by have:=HN2.out; rwa [hc,Nat.or_zero] at this);clear hc hxe e;have cBs:=Bs.cell;have fBs:=Bs.frozen;have lBs:=Bs.lt;go_upto_region 12 with fail
        go_quiet (fail)
        have HB3:=Lib.hid (below_drewN HB2.out nq);clear hx9 cBs fBs lBs;go_wp2_with fail;exact ⟨⟨N1,X2,rfl,rfl,HNF.out,HX2.out,HGF.out,HB3.out⟩,by simp [intOf]; exact HLOW.out⟩
      ·have g1:decide (p < n)=false:=(by simpa using hpx)
       have hc:cOf xs E (true,sn) p=0:=by
        have:xs[p]?=none:=List.getElem?_eq_none (by have:=HXL.out; omega);simp [cOf,this]
       have HGF:=Lib.hid (show N1 ||| gath (cOf xs E (true,sn)) 32 X2=stepM xs E (true,sn) y by have:=HG2.out; rwa [hc,Nat.or_zero] at this);have HNF:=Lib.hid (show N1 < 2 ^ (n+1) by have:=HN2.out; rwa [hc,Nat.or_zero] at this);clear hc;have cBs:=Bs.cell;have fBs:=Bs.frozen;have lBs:=Bs.lt;go_upto_region 12 with fail
       go_quiet (fail)
       have HB3:=Lib.hid (below_drewN HB2.out nq);clear cBs fBs lBs;go_wp2_with fail;exact ⟨⟨N1,X2,rfl,rfl,HNF.out,HX2.out,HGF.out,HB3.out⟩,by simp [intOf]; exact HLOW.out⟩
  ·obtain rfl:k=m:=(by omega);have HF:=Lib.hid (show y=reachM xs E l i by rw [hy,List.take_of_length_le (by rw [HM.out]; exact Nat.le_refl _)]);have HBF:=Lib.hid hbw;clear hy hbw;go_wp2_with fail;go_ret;exact ⟨by rw [HF.out]; rfl,HBF.out⟩
theorem reach_c (ok:Nat→Prop) (A:Option Addr) (n c ob N:Nat) (rb:Nat→Nat) (E:EnS) (B:Option Addr) (m d i:Nat) (xs:List Int) (l:List Sy) (w:World) (hx:Ints w A n c xs) (hE:EnR w ob N n rb E) (hl:Sl SyE ok w B m d l)
 (hs:∀ s∈l,s.1=false→s.2 < N) (hi:i≤n) (hn:n≤12) (hm:m≤1000) (hb:∀ a p,E a p < 2 ^ (n+1)) (hT:TabW w) :
 Calls Tryz.prog 99 #[.slice A n c,.slice (some ⟨ob,0,none⟩) N N,.slice B m d,.int .i64 (i:Int)] w (ReachP w (reachM xs E l i)) :=
 reach_v ok A n c ob 0 N N rb _ _ E B m d i xs l w hx hE.view hl hs hi hn hm hb hT
end Go.Proofs.YtfcihnpmeabacaaGreatDoor
namespace Go.Proofs.YtfcihnpmeabacaaGreatDoor
open Go.RowKit
theorem take_at {α:Type} {l:List α} {k:Nat} {x:α} (h:l[k]?=some x):l.take (k+1)=l.take k++[x]:=by
 have hl:=List.getElem?_eq_some_iff.1 h;rw [List.take_succ_eq_append_getElem hl.1,hl.2]
theorem Ints.three (w:World) (x y z:Int) (t:TypeId):Ints (w.alloc (.cells #[.int .i64 x,.int .i64 y,.int .i64 z] t)) (some ⟨w.heap.size,0,none⟩) 3 3 [x,y,z] :=
 ⟨rfl,Nat.le_refl _,fun _=>⟨w.heap.size,0,rfl,fun i hi=>by
  rw [Nat.zero_add]
  match i,hi with
  | 0,_=>rw [World.cell?_alloc_new]; rfl
  | 1,_=>rw [World.cell?_alloc_new]; rfl
  | 2,_=>rw [World.cell?_alloc_new]; rfl⟩⟩
theorem Ints.two (w:World) (x y:Int) (t:TypeId):Ints (w.alloc (.cells #[.int .i64 x,.int .i64 y] t)) (some ⟨w.heap.size,0,none⟩) 2 2 [x,y] :=
 ⟨rfl,Nat.le_refl _,fun _=>⟨w.heap.size,0,rfl,fun i hi=>by
  rw [Nat.zero_add]
  match i,hi with
  | 0,_=>rw [World.cell?_alloc_new]; rfl
  | 1,_=>rw [World.cell?_alloc_new]; rfl⟩⟩
end Go.Proofs.YtfcihnpmeabacaaGreatDoor
namespace Go.Proofs.YtfcihnpmeabacaaGreatDoor
open Go.RowKit
def IntE:Elem Int Int where
 k:=1
 cells s:=[.int .i64 s]
 rel _ _ r x:=r=x
 pos:=by omega
 len _:=rfl
 one r u hu:=by simp at hu; subst hu; rfl
 agr h _:=h
 mono h _:=h
theorem Sl.ints {ok:Nat→Prop} {w:World} {A:Option Addr} {n c:Nat} {xs:List Int} (h:Sl IntE ok w A n c xs):Ints w A n c xs:=by
 refine ⟨h.len,h.le,fun hn=>?_⟩;obtain ⟨b,off,r,x,e,-⟩:=h.at_ hn;refine ⟨b,off,e,fun i hi=>?_⟩;obtain ⟨b',off',r',x',e',_,_,hx,hr,hc⟩:=h.at_ hi;rw [e] at e';obtain ⟨rfl,rfl⟩:b=b'∧off=off':=(by simpa using e');have:=hc 0 (.int .i64 r') rfl;simp only [IntE,Nat.mul_one,Nat.add_zero] at this;rw [this,show r'=x' from hr,List.getD_eq_getElem?_getD,hx];rfl
theorem Ints.sl {ok:Nat→Prop} {w:World} {A:Option Addr} {n c:Nat} {xs:List Int} (h:Ints w A n c xs) (hk:∀ b off,A=some ⟨b,off,none⟩→0 < n→ok b):Sl IntE ok w A n c xs:=by
 obtain ⟨h1,h2,h3⟩:=h;refine ⟨h1,h2,xs,h1,fun hne=>?_,fun i r x hr hx=>by rw [hr] at hx; exact Option.some.inj hx⟩
 have hfl:flat IntE xs=xs.map fun x=>Value.int .i64 x:=by
  unfold flat; clear h1 h3 hne
  induction xs with
  | nil=>rfl
  | cons a l ih=>rw [List.flatMap_cons,List.map_cons,ih]; rfl
 rw [hfl] at hne ⊢
 have hn:0 < n:=by
  rcases Nat.eq_zero_or_pos n with e | e
  ·exfalso; apply hne; rw [List.length_eq_zero_iff.1 (h1.trans e)]; rfl
  ·exact e
 obtain ⟨b,off,e,hc⟩:=h3 hn;refine ⟨b,off,e,hk b off e hn,fun j u hu=>?_⟩;have hj:j < xs.length:=(by have:=(List.getElem?_eq_some_iff.1 hu).1; simpa using this);rw [hc j (by omega),← hu,List.getElem?_map,List.getD_eq_getElem?_getD,List.getElem?_eq_getElem hj];rfl
def TellB (w:World) (b:Bool) (e:Ending) (w':World):Prop:=e=.returned (.bool b)∧Below w.heap.size w w'
end Go.Proofs.YtfcihnpmeabacaaGreatDoor
