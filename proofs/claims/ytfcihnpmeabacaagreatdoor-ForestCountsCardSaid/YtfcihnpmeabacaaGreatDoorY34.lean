/- Texts SH, VR, VS, VT, IW, VU, WA, laid together. -/
import Derived.Test.YtfcihnpmeabacaaGreatDoorY33
import Derived.Test.YtfcihnpmeabacaaGreatDoorY29
import Derived.Test.YtfcihnpmeabacaaGreatDoorY1
import Derived.Test.YtfcihnpmeabacaaGreatDoorY21
import Derived.Test.YtfcihnpmeabacaaGreatDoorY30
import Derived.Test.YtfcihnpmeabacaaGreatDoorY17
import Derived.Test.YtfcihnpmeabacaaGreatDoorY4
import Derived.Test.YtfcihnpmeabacaaGreatDoorY26
import Derived.Test.YtfcihnpmeabacaaGreatDoorY31
import Derived.Laws.StructEq
namespace Go.Proofs.YtfcihnpmeabacaaGreatDoor
open Go.RowKit
open Go.Sort (grow alloc_eq_grow grow_grow grow_empty SWO)
set_option maxRecDepth 100000 in
theorem sortSpan_c (ok:Nat→Prop) (w:World) (base n:Nat) (A:Option Addr) (c:Nat) (l:List Ky) (hn:n≤1000000) (hl:∀ x∈l,x.1.2≤1000000) (hown:Own KyE 71 ok w base (.slice A n c) n l) :
 Calls Tryz.prog 43 #[.slice A n c,.func (.func 44) #[] #[]] w (SortPX KyE 71 ok base n A c l befCmp w):=by
 refine sort_x KyE laysSpan Tryz.isAgg71 Tryz.sizeOf71 44 #[] (enters_c (c:=_) (fn:=Tryz.f44) rfl (by kernel_rfl) rfl) befCmp (fun p=>swoKey befK befCmp (fun _ _=>rfl) p) (antiKey befK befCmp fun _ _=>rfl) 71 ok (fun x=>x.1.2≤1000000) w base n A c l hn hl hown ?_;rintro g - W - - ⟨⟨r,x⟩,h,hx⟩ ⟨⟨r',y⟩,h',hy⟩;obtain rfl:r=x:=h;obtain rfl:r'=y:=h';exact before_c r r' hx hy W
theorem span_eql (a b:Ky) (w:World):(binOp .eql 71 (.agg (kyC a)) (.agg (kyC b))).run Tryz.prog w=.ok (.bool (decide (a=b))) w:=by
 obtain ⟨⟨ab,an⟩,ai,aj⟩:=a;obtain ⟨⟨bb,bn⟩,bi,bj⟩:=b;simp [kyC,go_sem]
 by_cases h1:ab=bb <;> by_cases h2:an=bn <;> by_cases h3:ai=bi <;> by_cases h4:aj=bj <;> simp [h1,h2,h3,h4] <;> (intros; omega)
def IdxP (w:World) (i:Nat) (e:Ending) (w':World):Prop:=e=.returned (.int .i64 (i:Int))∧Below w.heap.size w w'
set_option maxRecDepth 100000 in
set_option maxHeartbeats 4000000 in
theorem index_c (ok:Nat→Prop) (A:Option Addr) (n c:Nat) (l:List Ky) (k:Ky) (w:World) (h:Sl KyE ok w A n c l) (hk:k∈l) (hn:n≤1000000) :
 Calls Tryz.prog 46 #[.slice A n c,kyVal k] w (IdxP w (idxK l k)):=by
 have hlen:=h.len;have hix:=idxK_lt hk;have HAT:=Lib.hid (idxK_get hk)
 have HBF:=Lib.hid (show ∀ m x,m < idxK l k→l[m]?=some x→x≠k from fun m x hm hx e=>by
  subst e;have h0:=(List.getElem?_eq_some_iff.1 hx);have h1:=List.not_of_lt_findIdx (p:=(·==x)) (xs:=l) (i:=m) hm
  simp [h0.2] at h1)
 obtain ⟨ix,hixe⟩:∃ ix,ix=idxK l k:=⟨_,rfl⟩;rw [← hixe] at HAT HBF hix ⊢;clear hixe;have HS:=Lib.hid h;obtain ⟨⟨kb,kN⟩,ki,kj⟩:=k;have B0:=Blk.new w 71 #[.bool kb,.int .i64 (kN:Int),.int .i64 (ki:Int),.int .i64 (kj:Int)];have hb0:=(Below.refl w.heap.size w).al (.cells #[.bool kb,.int .i64 (kN:Int),.int .i64 (ki:Int),.int .i64 (kj:Int)] 71);simp only [kyVal];clear h hk;go_enter Tryz.func46,Tryz.ntmps46;go_wp2_with fail;generalize w.alloc (.cells #[.bool kb,.int .i64 (kN:Int),.int .i64 (ki:Int),.int .i64 (kj:Int)] 71)=W at *
 go_loopw [8] (fun q wr=>∃ i:Nat,q=.int .i64 i∧i≤ix∧Hid (Below W.heap.size W wr)) (fun q _=>n - (intOf q).toNat)
 case atStart=>exact ⟨0,rfl,Nat.zero_le _,Lib.hid (Below.refl _ _)⟩
 case round =>
  obtain ⟨i,rfl,hi,hB⟩:=hrel;have hin:i < n:=(by omega);obtain ⟨b1,o1,k0,k1,hA,-,hb1,hk,hkk,hcl⟩:=HS.out.at_ hin;obtain rfl:k0=k1:=hkk;subst hA;obtain ⟨⟨qb,qN⟩,qi,qj⟩:=k0;have i0:(0:Int)≤(i:Int):=(by omega);have i1:(i:Int) < (n:Int):=(by omega);have hbw:=hb0.via hB.out;have BK:=B0.via hB.out;have d1:=(hbw.cell (p:=⟨b1,o1+i*KyE.k+0,none⟩) hb1).trans (hcl 0 _ rfl);have d2:=(hbw.cell (p:=⟨b1,o1+i*KyE.k+1,none⟩) hb1).trans (hcl 1 _ rfl);have d3:=(hbw.cell (p:=⟨b1,o1+i*KyE.k+2,none⟩) hb1).trans (hcl 2 _ rfl);have d4:=(hbw.cell (p:=⟨b1,o1+i*KyE.k+3,none⟩) hb1).trans (hcl 3 _ rfl);simp only [KyE,Nat.add_zero] at d1 d2 d3 d4;have HBW:=Lib.hid hbw;have HK:=Lib.hid hk;clear hcl hbw hk hb0 B0;have cBK:=BK.cell;have fBK:=BK.frozen;have lBK:=BK.lt;go_upto_region 4 with fail
  by_cases hii:i=ix
  ·subst hii;have hkq:((qb,qN),qi,qj)=((kb,kN),ki,kj):=Option.some.inj (HK.out.symm.trans HAT.out);have he:=fun wx=>span_eql ((kb,kN),ki,kj) ((qb,qN),qi,qj) wx
   simp only [hkq,kyC,decide_true] at he;have h1:=congrArg (fun x:Ky=>x.1.1) hkq;have h2:=congrArg (fun x:Ky=>x.1.2) hkq;have h3:=congrArg (fun x:Ky=>x.2.1) hkq;have h4:=congrArg (fun x:Ky=>x.2.2) hkq;simp only at h1 h2 h3 h4;subst h1 h2 h3 h4;clear hkq
   go_quiet (fail)
   clear cBK fBK lBK;clear BK d1 d2 d3 d4 he;go_wp2_with fail;go_ret;exact ⟨rfl,HBW.out.trans ((below_drewN (Below.refl _ _) nq).mono HBW.out.size)⟩
  ·have hne:((kb,kN),ki,kj)≠((qb,qN),qi,qj):=fun e=>HBF.out i _ (by omega) HK.out e.symm
   have he:=fun wx=>span_eql ((kb,kN),ki,kj) ((qb,qN),qi,qj) wx
   simp only [hne,kyC,decide_false] at he;clear hne
   go_quiet (fail)
   clear cBK fBK lBK;clear BK d1 d2 d3 d4 he;have hb2:=Lib.hid (hB.out.trans ((below_drewN (Below.refl wr.heap.size wr) nq).mono hB.out.size));go_wp2_with fail;exact ⟨⟨i+1,by go_num,by omega,hb2⟩,by simp [intOf]; omega⟩
set_option maxRecDepth 100000 in
theorem at_c (ok:Nat→Prop) (ba:Nat) (A:Option Addr) (n c:Nat) (l:List Ky) (k:Ky) (w:World) (hb:Blk w ba 82 #[.slice A n c]) (h:Sl KyE ok w A n c l) (hk:k∈l) (hn:n≤1000000) :
 Calls Tryz.prog 45 #[kyVal k,.pointer (some ⟨ba,0,none⟩)] w (IdxP w (idxK l k)):=by
 have hal:=(Below.refl w.heap.size w).al (.cells (kyC k) 71);have JI:=Lib.hid (index_c ok A n c l k (w.alloc (.cells (kyC k) 71)) (h.via hal) hk hn);have B0:=Blk.new w 71 (kyC k);have B1:=hb.via hal;have HB:=Lib.hid hal;clear h hk hal hb;obtain ⟨ix,hix⟩:∃ ix,ix=idxK l k:=⟨_,rfl⟩;rw [← hix] at JI ⊢;clear hix;obtain ⟨⟨kb,kN⟩,ki,kj⟩:=k;simp only [kyVal,kyC] at *;go_enter Tryz.func45,Tryz.ntmps45;have cB0:=B0.cell;have fB0:=B0.frozen;have lB0:=B0.lt;have cB1:=B1.cell;have fB1:=B1.frozen;have lB1:=B1.lt;go_wp2_with fail;refine JI.out.mono ?_;rintro e w1 ⟨rfl,hb1⟩;dsimp only;have HB1:=Lib.hid (HB.out.via hb1);clear JI B0 B1 hb1 HB;go_wp2_with fail;go_ret;exact ⟨rfl,HB1.out⟩
def RootP (w:World) (g:Gr) (n:Nat) (e:Ending) (w':World):Prop:=e=.returned (kyVal ((false,g.start),0,n))∧Below w.heap.size w w'
set_option maxRecDepth 100000 in
set_option maxHeartbeats 2000000 in
theorem root_c (g:Gr) (Ag:Option Addr) (ng cg:Nat) (A:Option Addr) (n c bs bm:Nat) (S:Ky→Bool) (w:World) (hR:SpR w g Ag ng cg A n c bs bm S) :
 Calls Tryz.prog 32 #[.pointer (some ⟨bs,0,none⟩)] w (RootP w g n):=by
 have BS:=hR.blk.al (.cells #[.bool false,.int .i64 0,.int .i64 0,.int .i64 0] 71);have B2:=Blk.new w 71 #[.bool false,.int .i64 0,.int .i64 0,.int .i64 0];have HB:=Lib.hid ((Below.refl w.heap.size w).al (.cells #[.bool false,.int .i64 0,.int .i64 0,.int .i64 0] 71));clear hR;go_enter Tryz.func32,Tryz.ntmps32;go_upto_region 1 with fail;generalize w.alloc (.cells #[.bool false,.int .i64 0,.int .i64 0,.int .i64 0] 71)=W at *;have cBS:=BS.cell;have fBS:=BS.frozen;have lBS:=BS.lt;have cB2:=B2.cell;have fB2:=B2.frozen;have lB2:=B2.lt
 go_still_tail 12,(by kernel_rfl)
 clear cBS fBS lBS cB2 fB2 lB2;have HDW:=Lib.hid (HB.out.via (Below.refl W.heap.size W).drew);have B3:=B2.via (Below.refl W.heap.size W).drew;change wpList _ _ _ _ _ W.drew
 generalize W.drew=W2 at *;clear BS B2 HB;have cB3:=B3.cell;have fB3:=B3.frozen;have lB3:=B3.lt;go_wp2_with fail;have B4:=(((B3.set_ 0 (.bool false)).set_ 1 (.int .i64 (g.start:Int))).set_ 2 (.int .i64 0)).set_ 3 (.int .i64 (n:Int));simp only [List.setIfInBounds_toArray,List.set_cons_zero,List.set_cons_succ] at B4;have c4:=B4.cell;refine bodyPost_ret (v:=kyVal ((false,g.start),0,n)) (by simp [results,Tryz.results32,go_sem,c4,kyVal]) rfl ⟨rfl,?_⟩;exact (((HDW.out.setCell (p:=⟨w.heap.size,0,none⟩) (Nat.le_refl _) _).setCell (p:=⟨w.heap.size,1,none⟩) (Nat.le_refl _) _).setCell (p:=⟨w.heap.size,2,none⟩) (Nat.le_refl _) _).setCell (p:=⟨w.heap.size,3,none⟩) (Nat.le_refl _) _
end Go.Proofs.YtfcihnpmeabacaaGreatDoor
namespace Go.Proofs.YtfcihnpmeabacaaGreatDoor
open Go.RowKit
section
variable {P:Ky→List (Nat×List Ky)}
structure RndT (P:Ky→List (Nat×List Ky)) (L:List Ky) (t:Nat) (left:Ky→Bool) (N:Ky→Int):Prop where
 inv:RndI P N
 old:∀ k∈L,HgtS P t k→0 < N k
 new:∀ k∈L,left k=false→HgtS P (t+1) k→0 < N k
theorem RndT.start (P:Ky→List (Nat×List Ky)) (L:List Ky) (left:Ky→Bool) (hl:∀ k∈L,left k=true):RndT P L 0 left fun _=>0 :=
 ⟨RndI.zero,fun _ _ h=>h.elim,fun k hk h=>absurd h (by rw [hl k hk]; simp)⟩
theorem RndT.begin {L:List Ky} {t:Nat} {N:Ky→Int} (left:Ky→Bool) (hi:RndI P N) (ho:∀ k∈L,HgtS P t k→0 < N k) (hl:∀ k∈L,left k=true):RndT P L t left N :=
 ⟨hi,ho,fun k hk h=>absurd h (by rw [hl k hk]; simp)⟩
theorem RndT.step {L:List Ky} {t:Nat} {left left':Ky→Bool} {N:Ky→Int} (h:RndT P L t left N) (ht:∀ k:Ky,k.1.1=true→P k=[]) (hp:∀ k∈L,k.1.1=false→P k≠[]) (hc:∀ k∈L,∀ p∈P k,∀ q∈p.2,q∈L) {k:Ky} (hk:k∈L) (hl:∀ q,left' q=false→left q=false∨q=k):RndT P L t left' (stpK P N k):=by
 obtain ⟨h1,h2⟩:=h.inv.step ht k;have keep:∀ q,0 < N q→0 < stpK P N k q:=fun q hq=>by rw [h2 q hq]; exact hq
 refine ⟨h1,fun q hq hh=>keep q (h.old q hq hh),fun q hq hlq hh=>?_⟩
 rcases hl q hlq with h3 | rfl
 ·exact keep q (h.new q hq h3 hh)
 ·exact h.inv.known q (hp q hq) fun p hp r hr=>h.old r (hc q hq p hp r hr) (hh p hp r hr)
theorem RndT.done {L:List Ky} {t:Nat} {left:Ky→Bool} {N:Ky→Int} (h:RndT P L t left N) (hl:∀ k,left k=false):∀ k∈L,HgtS P (t+1) k→0 < N k:=fun k hk hh=>h.new k hk (hl k) hh
theorem rnd_end {L:List Ky} {N:Ky→Int} (hi:RndI P N) (ho:∀ k∈L,HgtS P L.length k→0 < N k) (hc:∀ k∈L,∀ p∈P k,∀ q∈p.2,q∈L) {k:Ky} (hk:k∈L):(0 < N k∧CntS P k (N k))∨(N k=0∧¬ ∃ c,CntS P k c):=by
 by_cases h:0 < N k
 ·exact Or.inl ⟨h,hi.ok k h⟩
 ·refine Or.inr ⟨by have:=(hi.nn k).1; omega,fun ⟨c,hcc⟩=>h ?_⟩;obtain ⟨t,ht⟩:=hcc.hgt;exact ho k hk (hgt_bound hc hk ht)
end
end Go.Proofs.YtfcihnpmeabacaaGreatDoor
namespace Go.Proofs.YtfcihnpmeabacaaGreatDoor
open Go.RowKit
section
variable {g:Gr} {n:Nat} {w w':World} {bn:Nat} {N:Ky→Int}
end
def CofQ (P:Ky→List (Nat×List Ky)) (D:Ky→Bool) (root:Ky) (q:Int):Prop:=(D root=false∧q=0)∨(D root=true∧(CntS P root q∨((¬ ∃ c,CntS P root c)∧q=-1)))
theorem mul_limT {x c:Int} (hx:0≤x∧x≤1000000000) (hc:0≤c∧c≤1000000000):0≤x*c∧x*c≤1000000000000000000:=by
 refine ⟨Int.mul_nonneg hx.1 hc.1,?_⟩;have h1:x*c≤1000000000*c:=Int.mul_le_mul_of_nonneg_right hx.2 hc.1;have h2:1000000000*c≤1000000000*1000000000:=Int.mul_le_mul_of_nonneg_left hc.2 (by omega);omega
theorem prodK_snoc (N:Ky→Int) (ks:List Ky) (k:Ky) (x:Int):prodK N (ks++[k]) x=min (prodK N ks x*N k) 1000000000:=by
 unfold prodK; rw [List.foldl_append]; rfl
theorem sumK_snoc (N:Ky→Int) (ps:List (Nat×List Ky)) (p:Nat×List Ky) (c:Int):sumK N (ps++[p]) c=min (sumK N ps c+prodK N p.2 1) 1000000000:=by
 unfold sumK; rw [List.foldl_append]; rfl
theorem allK_snoc (N:Ky→Int) (ps:List (Nat×List Ky)) (p:Nat×List Ky):allK N (ps++[p])=(allK N ps&&decide (0 < prodK N p.2 1)):=by
 unfold allK; rw [List.all_append]; simp
end Go.Proofs.YtfcihnpmeabacaaGreatDoor
namespace Go.Proofs.YtfcihnpmeabacaaGreatDoor
open Go.RowKit
theorem Sl.upSw {ok:Nat→Prop} {w:World} {A:Option Addr} {n c:Nat} {l:List Sy} (h:Sl SyE ok w A n c l):Sl SiE ok w A n c (l.map embS):=by
 obtain ⟨h1,h2,raw,h3,h4,h5⟩:=h;have e:raw=l:=List.ext_getElem (by omega) fun i a b=>h5 i _ _ (List.getElem?_eq_getElem a) (List.getElem?_eq_getElem b)
 have ef:∀ l:List Sy,flat SiE (l.map embS)=flat SyE l:=fun l=>by
  induction l with
  | nil=>rfl
  | cons x l ih=>simp only [flat,List.map_cons,List.flatMap_cons] at ih ⊢; rw [ih]; rfl
 refine ⟨by rw [List.length_map]; exact h1,h2,l.map embS,by rw [List.length_map]; exact h1,?_,fun i r x hr hx=>by rw [hr] at hx; exact Option.some.inj hx⟩;rw [e,← ef] at h4; exact h4
theorem Sl.upR {ok:Nat→Prop} {w:World} {A:Option Addr} {n c:Nat} {l:List Ru} (h:Sl RuE ok w A n c l):Sl RiE ok w A n c (l.map embR):=by
 obtain ⟨h1,h2,raw,h3,h4,h5⟩:=h
 have ef:∀ raw:List (Nat×SlV),flat RiE (raw.map fun r=>((r.1:Int),r.2))=flat RuE raw:=fun raw=>by
  induction raw with
  | nil=>rfl
  | cons x l ih=>simp only [flat,List.map_cons,List.flatMap_cons] at ih ⊢; rw [ih]; rfl
 refine ⟨by rw [List.length_map]; exact h1,h2,raw.map fun r=>((r.1:Int),r.2),by rw [List.length_map]; exact h3,by rw [ef]; exact h4,fun i r x hr hx=>?_⟩;rw [List.getElem?_map] at hr hx;obtain ⟨r0,hr0,rfl⟩:=Option.map_eq_some_iff.1 hr;obtain ⟨x0,hx0,rfl⟩:=Option.map_eq_some_iff.1 hx;obtain ⟨k1,k2⟩:=h5 i r0 x0 hr0 hx0;exact ⟨by simp only [embR]; rw [k1],Sl.upSw k2⟩
theorem Ints.slLt {w:World} {A:Option Addr} {n c:Nat} {xs:List Int} (h:Ints w A n c xs):Sl InE (fun b=>b < w.heap.size) w A n c xs:=by
 rcases Nat.eq_zero_or_pos n with h0 | h0
 ·have hx:xs=[]:=List.eq_nil_of_length_eq_zero (by rw [h.1,h0]);subst hx;exact ⟨h.1,h.2.1,[],h.1,fun hne=>absurd rfl hne,fun i r x hr=>by simp at hr⟩
 ·obtain ⟨b,off,e,hc⟩:=h.2.2 h0;refine h.slE.mono fun b' _ hb=>?_
  obtain ⟨o,ho⟩:=hb;rw [e] at ho;have e1:b=b':=(by injection ho with ho; injection ho);rw [← e1];exact World.block_lt_of_cell? _ _ (hc 0 h0)
def PickP2 (ok:Nat→Prop) (ln most:Nat) (w:World) (e:Ending) (w':World):Prop :=
 ∃ (T N S:Int) (A:Option Addr) (n c:Nat) (rs:List Ri) (wA:Option Addr) (wn wc:Nat) (xs:List Int),e=.returned (.tuple #[.agg #[.int .i64 T,.int .i64 N,.int .i64 S,.slice A n c],.slice wA wn wc]) ∧
  Sl RiE (fun b=>ok b∨w.heap.size≤b) w' A n c rs∧Sl InE (fun b=>ok b∨w.heap.size≤b) w' wA wn wc xs∧Below w.heap.size w w' ∧
  (ln≠0→∃ g:Gr,GrOk g∧T=(g.terms:Int)∧N=(g.nons:Int)∧S=(g.start:Int)∧rs=g.rules.map embR∧(∀ x∈xs,0≤x∧x < T)∧xs.length≤most)
theorem MadeG.grOk9 {g:Gr} (h:MadeG g):GrOk g :=
 ⟨⟨⟨h.terms.1,by have:=h.terms.2; omega⟩,⟨h.nons.1,by have:=h.nons.2; omega⟩,h.start,by have:=h.count; omega,fun r hr=>(h.ok r hr).1,fun r hr=>⟨by have:=(h.ok r hr).2.1; omega,fun s hs=>(h.ok r hr).2.2 s hs⟩⟩,h.nodup⟩
set_option maxRecDepth 100000 in
set_option maxHeartbeats 4000000 in
theorem pick2_c (ok:Nat→Prop) (T N S:Int) (A:Option Addr) (n c:Nat) (rs:List Ri) (wA:Option Addr) (wn wcp:Nat) (xs:List Int) (lA:Option Addr) (ln lc:Nat) (ls:List Int) (most:Nat) (w:World) (hl:Sl RiE ok w A n c rs) (hx:Sl InE ok w wA wn wcp xs) (hls:Ints w lA ln lc ls) (hm:most≤1000000) :
 Calls Tryz.prog 6 #[.agg #[.int .i64 T,.int .i64 N,.int .i64 S,.slice A n c],.slice wA wn wcp,.slice lA ln lc,.int .i64 (most:Int)] w (PickP2 ok ln most w):=by
 have hal:=((Below.refl w.heap.size w).al (.cells #[.int .i64 T,.int .i64 N,.int .i64 S,.slice A n c] 24)).al (.cells #[.int .i64 0,.int .i64 0,.int .i64 0,.slice none 0 0] 24);have BG:=(Blk.new w 24 #[.int .i64 T,.int .i64 N,.int .i64 S,.slice A n c]).al (.cells #[.int .i64 0,.int .i64 0,.int .i64 0,.slice none 0 0] 24);have BR:=Blk.newAt (w.alloc (.cells #[.int .i64 T,.int .i64 N,.int .i64 S,.slice A n c] 24)) 24 #[.int .i64 0,.int .i64 0,.int .i64 0,.slice none 0 0] (w.heap.size+1) (by simp);have HL:=Lib.hid ((hl.mono (ok':=fun b=>(ok b∨w.heap.size≤b)∧b≠w.heap.size+1∧b≠w.heap.size) (fun b hb h=>⟨Or.inl h,by omega,by omega⟩)).via hal);have HX:=Lib.hid ((hx.mono (ok':=fun b=>(ok b∨w.heap.size≤b)∧b≠w.heap.size+1∧b≠w.heap.size) (fun b hb h=>⟨Or.inl h,by omega,by omega⟩)).via hal);have HLS:=Lib.hid (hls.via hal);have HAL:=Lib.hid hal;have HSZ:=Lib.hid (show ((w.alloc (.cells #[.int .i64 T,.int .i64 N,.int .i64 S,.slice A n c] 24)).alloc (.cells #[.int .i64 0,.int .i64 0,.int .i64 0,.slice none 0 0] 24)).heap.size=w.heap.size+2 by simp);clear hl hx hal;clear hls;go_enter Tryz.func6,Tryz.ntmps6;go_upto_region 1 with fail;generalize (w.alloc (.cells #[.int .i64 T,.int .i64 N,.int .i64 S,.slice A n c] 24)).alloc (.cells #[.int .i64 0,.int .i64 0,.int .i64 0,.slice none 0 0] 24)=W2 at *;have HBG:=Lib.hid BG;have HBR:=Lib.hid BR
 by_cases hn:ln=0
 ·have e1:((ln:Int)==0)=true:=(by simp [hn]);have cBG:=BG.cell;have fBG:=BG.frozen;have lBG:=BG.lt;have cBR:=BR.cell;have fBR:=BR.frozen;have lBR:=BR.lt;go_wp2_with fail;refine bodyPost_ret (v:=.tuple #[.agg #[.int .i64 T,.int .i64 N,.int .i64 S,.slice A n c],.slice wA wn wcp]) (by simp [results,Tryz.results6,go_sem,cBR]) rfl ⟨T,N,S,A,n,c,rs,wA,wn,wcp,xs,rfl,?_,?_,?_,fun h=>absurd hn h⟩
  ·exact (HL.out.agr ((((Agr.setCell (p:=⟨w.heap.size+1,0,none⟩) _ fun b hb=>hb.2.1).trans (Agr.setCell (p:=⟨w.heap.size+1,1,none⟩) _ fun b hb=>hb.2.1)).trans (Agr.setCell (p:=⟨w.heap.size+1,2,none⟩) _ fun b hb=>hb.2.1)).trans (Agr.setCell (p:=⟨w.heap.size+1,3,none⟩) _ fun b hb=>hb.2.1))).mono fun _ _ h=>h.1
  ·exact (HX.out.agr ((((Agr.setCell (p:=⟨w.heap.size+1,0,none⟩) _ fun b hb=>hb.2.1).trans (Agr.setCell (p:=⟨w.heap.size+1,1,none⟩) _ fun b hb=>hb.2.1)).trans (Agr.setCell (p:=⟨w.heap.size+1,2,none⟩) _ fun b hb=>hb.2.1)).trans (Agr.setCell (p:=⟨w.heap.size+1,3,none⟩) _ fun b hb=>hb.2.1))).mono fun _ _ h=>h.1
  ·exact (((HAL.out.setCell (by simp) _).setCell (by simp) _).setCell (by simp) _).setCell (by simp) _
 ·have e1:((ln:Int)==0)=false:=(by simp [hn]);have cBG:=BG.cell;have fBG:=BG.frozen;have lBG:=BG.lt;go_wp2_with fail;clear cBG fBG lBG;refine (grammar_c lA ln lc ls W2 HLS.out).mono ?_;rintro e w3 ⟨g,gA,gn,gc,rfl,hmg,hgl,hb3⟩;have HG3:=Lib.hid (HBG.out.via hb3);have HR3:=Lib.hid (HBR.out.via hb3);have HA3:=Lib.hid (HAL.out.trans (hb3.mono HAL.out.size));have HX3:=Lib.hid (HX.out.via hb3);have HGL:=Lib.hid (hgl.mono (ok':=fun b=>(ok b∨w.heap.size≤b)∧b≠w.heap.size+1∧b≠w.heap.size) fun b _ hb=>by have h:W2.heap.size≤b:=hb; have:=HSZ.out; exact ⟨Or.inr (by omega),by omega,by omega⟩);have HMG:=Lib.hid hmg;have BG3:=HG3.out;clear hgl hb3 HL HX HLS HAL HBG HBR BG BR hmg;simp only [grVal];have cBG3:=BG3.cell;have fBG3:=BG3.frozen;have lBG3:=BG3.lt;go_upto_region 4 with fail;clear cBG3 fBG3 lBG3
  have HG4:=Lib.hid (show Blk ((((w3.setCell ⟨w.heap.size,0,none⟩ (.int .i64 (g.terms:Int))).setCell ⟨w.heap.size,1,none⟩ (.int .i64 (g.nons:Int))).setCell ⟨w.heap.size,2,none⟩ (.int .i64 (g.start:Int))).setCell ⟨w.heap.size,3,none⟩ (.slice gA gn gc)) w.heap.size 24 #[.int .i64 (g.terms:Int),.int .i64 (g.nons:Int),.int .i64 (g.start:Int),.slice gA gn gc] from by
   have:=(((BG3.set_ 0 (.int .i64 (g.terms:Int))).set_ 1 (.int .i64 (g.nons:Int))).set_ 2 (.int .i64 (g.start:Int))).set_ 3 (.slice gA gn gc); simpa using this)
  have hag:Agr (fun b=>(ok b∨w.heap.size≤b)∧b≠w.heap.size+1∧b≠w.heap.size) w3 ((((w3.setCell ⟨w.heap.size,0,none⟩ (.int .i64 (g.terms:Int))).setCell ⟨w.heap.size,1,none⟩ (.int .i64 (g.nons:Int))).setCell ⟨w.heap.size,2,none⟩ (.int .i64 (g.start:Int))).setCell ⟨w.heap.size,3,none⟩ (.slice gA gn gc)):=((((Agr.setCell (p:=⟨w.heap.size,0,none⟩) _ fun b hb=>hb.2.2).trans (Agr.setCell (p:=⟨w.heap.size,1,none⟩) _ fun b hb=>hb.2.2)).trans (Agr.setCell (p:=⟨w.heap.size,2,none⟩) _ fun b hb=>hb.2.2)).trans (Agr.setCell (p:=⟨w.heap.size,3,none⟩) _ fun b hb=>hb.2.2));have HR4:=Lib.hid ((((HR3.out.far (p:=⟨w.heap.size,0,none⟩) (by simp) (.int .i64 (g.terms:Int))).far (p:=⟨w.heap.size,1,none⟩) (by simp) (.int .i64 (g.nons:Int))).far (p:=⟨w.heap.size,2,none⟩) (by simp) (.int .i64 (g.start:Int))).far (p:=⟨w.heap.size,3,none⟩) (by simp) (.slice gA gn gc));have HA4:=Lib.hid ((((HA3.out.setCell (p:=⟨w.heap.size,0,none⟩) (by simp) (.int .i64 (g.terms:Int))).setCell (p:=⟨w.heap.size,1,none⟩) (by simp) (.int .i64 (g.nons:Int))).setCell (p:=⟨w.heap.size,2,none⟩) (by simp) (.int .i64 (g.start:Int))).setCell (p:=⟨w.heap.size,3,none⟩) (by simp) (.slice gA gn gc));have HX4:=Lib.hid (HX3.out.agr hag);have HL4:=Lib.hid ((Sl.upR HGL.out).agr hag);clear hag BG3 HG3 HR3 HA3 HX3 HGL;generalize (((w3.setCell ⟨w.heap.size,0,none⟩ (.int .i64 (g.terms:Int))).setCell ⟨w.heap.size,1,none⟩ (.int .i64 (g.nons:Int))).setCell ⟨w.heap.size,2,none⟩ (.int .i64 (g.start:Int))).setCell ⟨w.heap.size,3,none⟩ (.slice gA gn gc)=w4 at *;have BG4:=HG4.out;have BR4:=HR4.out;have SO:=Lib.hid (show ∀ w',Agr (fun b=>b≠w.heap.size+1) w4 w'→((∀ i,w'.cell? ⟨w.heap.size,i,none⟩=#[.int .i64 (g.terms:Int),.int .i64 (g.nons:Int),.int .i64 (g.start:Int),.slice gA gn gc][i]?)∧Agr (fun b=>b≠w.heap.size+1) w4 w') from fun w' hb=>⟨(show Blk w' w.heap.size 24 _ from (hb _ (by omega) HG4.out.lt).trans HG4.out).cell,hb⟩);have HN:=Lib.hid (show ∀ w',Agr (fun b=>b≠w.heap.size+1) w4 w'→Calls Tryz.prog 24 #[.int .i64 (g.terms:Int),.int .i64 (most:Int),.slice wA wn wcp] w' (WordPost w' (g.terms:Int) most xs) from fun w' hb=>word_c _ most wA wn wcp xs w' (HX4.out.agr (hb.mono fun b hb=>hb.2.1)).intsIn (by have:=HMG.out.terms.1; omega) (by have:=HMG.out.terms.2; omega) hm);have hb0:Agr (fun b=>b≠w.heap.size+1) w4 w4.drew:=Agr.below ((Below.refl w4.heap.size w4).drew);have BD4:=BR4.dr;have hst:∀ w',Agr (fun b=>b≠w.heap.size+1) w4 w'→Agr (fun b=>b≠w.heap.size+1) w4 ((((w'.setCell ⟨w.heap.size+1,0,none⟩ (.int .i64 (g.terms:Int))).setCell ⟨w.heap.size+1,1,none⟩ (.int .i64 (g.nons:Int))).setCell ⟨w.heap.size+1,2,none⟩ (.int .i64 (g.start:Int))).setCell ⟨w.heap.size+1,3,none⟩ (.slice gA gn gc)):=fun w' h=>(((h.trans (Agr.setCell (p:=⟨w.heap.size+1,0,none⟩) _ fun b hb=>hb)).trans (Agr.setCell (p:=⟨w.heap.size+1,1,none⟩) _ fun b hb=>hb)).trans (Agr.setCell (p:=⟨w.heap.size+1,2,none⟩) _ fun b hb=>hb)).trans (Agr.setCell (p:=⟨w.heap.size+1,3,none⟩) _ fun b hb=>hb)
  have HST:=Lib.hid hst;have HBD:=Lib.hid BD4;clear hst BR4 BG4;have cBD4:=BD4.cell;have fBD4:=BD4.frozen;have lBD4:=BD4.lt
  go_region_held3 (fun w'=>(∀ i,w'.cell? ⟨w.heap.size,i,none⟩=#[.int .i64 (g.terms:Int),.int .i64 (g.nons:Int),.int .i64 (g.start:Int),.slice gA gn gc][i]?)∧Agr (fun b=>b≠w.heap.size+1) w4 w') (exact SO.out _ (by first | assumption | exact HST.out _ hb0 | exact HST.out _ hbm)) (first
   | (go_at_call 24; (with_reducible refine (HN.out w4.drew hb0).mono ?_); rintro ee wn ⟨vW,kW,rfl,how,hbn⟩; have hbm:Agr (fun b=>b≠w.heap.size+1) w4 wn:=Agr.trans hb0 (Agr.below hbn); have BDn:=HBD.out.via hbn; have cBDn:=BDn.cell; have fBDn:=BDn.frozen; have lBDn:=BDn.lt)
   | (go_at_call 24; (with_reducible refine (HN.out _ (HST.out _ hb0)).mono ?_); rintro ee wn ⟨vW,kW,rfl,how,hbn⟩; have hbm:Agr (fun b=>b≠w.heap.size+1) w4 wn:=Agr.trans (HST.out _ hb0) (Agr.below hbn)))
  obtain ⟨vA,vc,rfl,-⟩:=how.form;have HA9:=Lib.hid (HA4.out.trans (((Below.refl w4.heap.size w4).drew.via hbn).mono HA4.out.size));have how2:=(((how.setCell (p:=⟨w.heap.size+1,0,none⟩) lBD4 (.int .i64 (g.terms:Int))).setCell (p:=⟨w.heap.size+1,1,none⟩) lBD4 (.int .i64 (g.nons:Int))).setCell (p:=⟨w.heap.size+1,2,none⟩) lBD4 (.int .i64 (g.start:Int))).setCell (p:=⟨w.heap.size+1,3,none⟩) lBD4 (.slice gA gn gc)
  have HW9:=Lib.hid (how2.toInts.slE.mono (ok':=fun b=>ok b∨w.heap.size≤b) fun b _ hb=>by
   obtain ⟨o,ho⟩:=hb;have h1:=(how2.block _ ho).1;have h2:=HA4.out.size;simp at h1
   exact Or.inr (by omega))
  have hagN:=HST.out wn hbm;have HL9:=Lib.hid (HL4.out.agr (hagN.mono fun b hb=>hb.2.1));clear how how2 hbn hbm hagN fBD4 lBD4 cBD4 BD4 HBD HST SO HN;go_wp2_with fail;refine bodyPost_ret (v:=.tuple #[.agg #[.int .i64 (g.terms:Int),.int .i64 (g.nons:Int),.int .i64 (g.start:Int),.slice gA gn gc],.slice vA kW vc]) (by simp [results,Tryz.results6,go_sem,cBDn]) rfl ⟨_,_,_,gA,gn,gc,g.rules.map embR,vA,kW,vc,wordI (g.terms:Int) most xs,rfl,HL9.out.mono fun _ _ h=>h.1,HW9.out,?_,fun _=>⟨g,HMG.out.grOk9,rfl,rfl,rfl,rfl,wordI_mem _ _ _ (by have:=HMG.out.terms.1; omega),wordI_len _ _ _⟩⟩;exact (((HA9.out.setCell (by simp) _).setCell (by simp) _).setCell (by simp) _).setCell (by simp) _
end Go.Proofs.YtfcihnpmeabacaaGreatDoor
namespace Go.Proofs.YtfcihnpmeabacaaGreatDoor
open Go.RowKit
theorem chkB_okC {T N S:Int} {rs:List Ri} {xs:List Int} (h:chkB T N S rs xs=0):chkG T N S rs=0∧xs.length≤12∧∀ x∈xs,0≤x∧x < T:=by
 unfold chkB at h
 by_cases hG:chkG T N S rs=0
 ·rw [if_pos hG] at h;unfold chkW at h
  split at h
  ·cases h
  ·rename_i hl
   split at h
   ·cases h
   ·rename_i ha
    refine ⟨hG,by omega,fun x hx=>?_⟩;have h1:(xs.any fun t=>!okT T t)=false:=(by simpa using ha);rw [List.any_eq_false] at h1;have h2:=h1 x hx;simp [okT] at h2;exact h2
 ·rw [if_neg hG] at h;exact absurd h hG
theorem cof_eq {g:Gr} {xs:List Int} {f:FoI} {q:Int} (hg:g.Ok) (hn:xs.length≤12) (h:WhF g xs f) (hq:CofQ (packsF (dvD g.rules xs) g.rules) (dvD g.rules xs) ((false,g.start),0,xs.length) q):cntV f=q:=by
 obtain ⟨b,h⟩:=h;obtain ⟨-,⟨h1,rfl⟩ | ⟨h1,L,hL,rfl⟩⟩:=fo_whole hg hn h
 ·rcases hq with ⟨-,rfl⟩ | ⟨h2,-⟩
  ·simp [cntV]
  ·rw [h1] at h2; cases h2
 ·rcases hq with ⟨h2,-⟩ | ⟨-,hq⟩
  ·rw [h1] at h2; cases h2
  ·rcases cntV_fo hL ((hL.mem _).2 .root) with ⟨c,h3,h4⟩ | ⟨h3,h4⟩
   ·rcases hq with hq | ⟨hq,-⟩
    ·rw [h4]; exact h3.uniq hq
    ·exact absurd ⟨c,h3⟩ hq
   ·rcases hq with hq | ⟨-,rfl⟩
    ·exact absurd ⟨q,hq⟩ h3
    ·exact h4
end Go.Proofs.YtfcihnpmeabacaaGreatDoor
namespace Go.Proofs.YtfcihnpmeabacaaGreatDoor
open Go.RowKit
theorem RchK.trans {D:Ky→Bool} {R:List Ru} {a b c:Ky} (h1:RchK D R a b) (h2:RchK D R b c):RchK D R a c:=by
 induction h2 with
 | root=>exact h1
 | kid _ hp hq ih=>exact .kid ih hp hq
theorem dv_cover {rules:List Ru} {xs:List Int} {l:List Sy} {v:List Int} (h:Dv rules l v):∀ i j,i≤j→j≤xs.length→v=part xs i j →
 ∃ ks,IsWay (dvD rules xs) l i j ks∧∀ p,i≤p→p < j→∃ k∈ks,∃ t,RchK (dvD rules xs) rules k ((true,t),p,p+1):=by
 induction h with
 | nil =>
  intro i j h1 h2 e;have:=part_len (w:=xs) (i:=i) h2;rw [← e] at this;simp at this;obtain rfl:i=j:=(by omega);exact ⟨[],.nil i,fun p hp hq=>by omega⟩
 | @term t l v h ih =>
  intro i j h1 h2 e;obtain ⟨m,m1,m2,e1,e2⟩:=part_split (p1:=[(t:Int)]) h1 h2 e.symm;have hd:dvD rules xs ((true,t),i,m)=true:=dvD_iff.2 ⟨m1,Nat.le_trans m2 h2,by show Dv rules [(true,t)] (part xs i m); rw [e1]; exact Dv.letter t⟩;obtain ⟨hx,rfl⟩:=(part_one m1 (by omega)).1 e1;obtain ⟨ks,hw,hc⟩:=ih _ _ m2 h2 e2.symm;refine ⟨_,.cons m1 m2 hd hw,fun p hp hq=>?_⟩
  by_cases hpi:p=i
  ·subst hpi;exact ⟨_,List.mem_cons_self ..,t,.root⟩
  ·obtain ⟨k,hk,t',ht⟩:=hc p (by omega) hq;exact ⟨k,List.mem_cons_of_mem _ hk,t',ht⟩
 | @non N rhs l u v hr hu hv ih1 ih2 =>
  intro i j h1 h2 e;obtain ⟨m,m1,m2,e1,e2⟩:=part_split h1 h2 e.symm;have hd:dvD rules xs ((false,N),i,m)=true:=dvD_iff.2 ⟨m1,Nat.le_trans m2 h2,by show Dv rules [(false,N)] (part xs i m); rw [e1]; exact Dv.one hr hu⟩;obtain ⟨ks1,hw1,hc1⟩:=ih1 i m m1 (by omega) e1.symm;obtain ⟨ks,hw,hc⟩:=ih2 m j m2 h2 e2.symm;refine ⟨_,.cons m1 m2 hd hw,fun p hp hq=>?_⟩
  by_cases hpm:p < m
  ·obtain ⟨q,hq1⟩:=List.getElem?_of_mem hr;obtain ⟨k,hk,t,ht⟩:=hc1 p hp hpm;have hpk:=packs_mem2 (R:=rules) (k:=((false,N),i,m)) rfl hq1 rfl hw1;exact ⟨_,List.mem_cons_self ..,t,(RchK.kid .root hpk hk).trans ht⟩
  ·obtain ⟨k,hk,t,ht⟩:=hc p (by omega) hq;exact ⟨k,List.mem_cons_of_mem _ hk,t,ht⟩
theorem root_cover {rules:List Ru} {xs:List Int} {S:Nat} (h:dvD rules xs ((false,S),0,xs.length)=true) {p:Nat} (hp:p < xs.length):∃ t,RchK (dvD rules xs) rules ((false,S),0,xs.length) ((true,t),p,p+1):=by
 obtain ⟨h1,h2,h3⟩:=dvD_iff.1 h;obtain ⟨ks,hw,hc⟩:=dv_cover h3 0 xs.length h1 h2 rfl;obtain ⟨k,hk,t,ht⟩:=hc p (Nat.zero_le _) hp;refine ⟨t,?_⟩
 have:k=((false,S),0,xs.length):=by
  cases hw with
  | cons _ _ _ hw' =>
   cases hw'
   simpa using hk
 rw [← this]; exact ht
theorem rch_dvW {D:Ky→Bool} {R:List Ru} {root:Ky} (h0:D root=true) {k:Ky} (h:RchK D R root k):D k=true:=by
 cases h with
 | root=>exact h0
 | kid _ hp hq =>
  obtain ⟨-,u,-,-,hw⟩:=packs_mem hp;exact (hw.mem _ hq).1
theorem term_at {rules:List Ru} {xs:List Int} {k:Ky} (h:dvD rules xs k=true) (hk:k.1.1=true):xs[k.2.1]?=some (k.1.2:Int)∧k.2.2=k.2.1+1:=by
 obtain ⟨⟨b,t⟩,i,j⟩:=k;simp only at hk;subst hk;obtain ⟨h1,h2,h3⟩:=dvD_iff.1 h;exact (part_one h1 h2).1 (dv_one.1 h3)
def fillW (n:Nat):List NdI→List Int→Option (List Int)
 | [],ws=>some ws
 | x::xs,ws=>if x.1.1=true then (if x.1.2.2.1 < 0∨(n:Int)≤x.1.2.2.1 then none else fillW n xs (ws.set x.1.2.2.1.toNat x.1.2.1)) else fillW n xs ws
theorem fill_gen {D:Ky→Bool} {R:List Ru} {K:List Ky} {xs:List Int}:∀ (M:List Ky) (cur:List Int),(∀ k∈M,k.1.1=true→xs[k.2.1]?=some (k.1.2:Int))→cur.length=xs.length →
 ∃ r,fillW xs.length (M.map fun k=>ndI (ndF D R K k)) cur=some r∧r.length=xs.length∧∀ p:Nat,r[p]?=xs[p]?∨(r[p]?=cur[p]?∧∀ k∈M,k.1.1=true→k.2.1≠p)
 | [],cur,_,hl=>⟨cur,rfl,hl,fun p=>Or.inr ⟨rfl,fun k hk=>absurd hk List.not_mem_nil⟩⟩
 | k::M,cur,h,hl=>by
  have e:ndI (ndF D R K k)=((k.1.1,(k.1.2:Int),(k.2.1:Int),(k.2.2:Int)),(ndI (ndF D R K k)).2):=(by rw [ndI_eq]);rw [List.map_cons,fillW,e];simp only
  by_cases hb:k.1.1=true
  ·have h1:=h k (List.mem_cons_self ..) hb;have h2:=(List.getElem?_eq_some_iff.1 h1).1;rw [if_pos hb,if_neg (by omega),Int.toNat_natCast];obtain ⟨r,hr,hrl,hrp⟩:=fill_gen M (cur.set k.2.1 (k.1.2:Int)) (fun q hq=>h q (List.mem_cons_of_mem _ hq)) (by rw [List.length_set]; exact hl);refine ⟨r,hr,hrl,fun p=>?_⟩
   rcases hrp p with h3 | ⟨h3,h4⟩
   ·exact Or.inl h3
   ·by_cases hpk:k.2.1=p
    ·left
     rw [h3,← hpk,h1,List.getElem?_set_self (by omega)]
    ·right
     refine ⟨by rw [h3,List.getElem?_set_ne hpk],fun q hq hqb=>?_⟩
     rcases List.mem_cons.1 hq with rfl | hq
     ·exact hpk
     ·exact h4 q hq hqb
  ·rw [if_neg hb];obtain ⟨r,hr,hrl,hrp⟩:=fill_gen M cur (fun q hq=>h q (List.mem_cons_of_mem _ hq)) hl;refine ⟨r,hr,hrl,fun p=>?_⟩
   rcases hrp p with h3 | ⟨h3,h4⟩
   ·exact Or.inl h3
   ·right
    refine ⟨h3,fun q hq hqb=>?_⟩
    rcases List.mem_cons.1 hq with rfl | hq
    ·exact absurd hqb hb
    ·exact h4 q hq hqb
def GoF (g:Gr) (f:FoI) (ws:List Int):Prop:=ws.length≤12∧(∀ x∈ws,0≤x∧x < (g.terms:Int))∧dvD g.rules ws ((false,g.start),0,ws.length)=true∧∃ L,IsNds (dvD g.rules ws) g.rules ((false,g.start),0,ws.length) L∧totP (dvD g.rules ws) g.rules L≤20000∧f=foI (dvD g.rules ws) g.rules L ((false,g.start),0,ws.length)
theorem GoF.of {g:Gr} {f:FoI} {ws:List Int} (hl:ws.length≤12) (ht:∀ x∈ws,0≤x∧x < (g.terms:Int)) (h:IsFo (dvD g.rules ws) g.rules ((false,g.start),0,ws.length) 20000 f true) (h0:0≤f.1):GoF g f ws:=by
 cases h with
 | none h1=>exact absurd h0 (by simp)
 | @fits L h1 h2 h3=>exact ⟨hl,ht,h1,L,h2,h3,rfl⟩
theorem GoF.isFo {g:Gr} {f:FoI} {ws:List Int} (h:GoF g f ws):IsFo (dvD g.rules ws) g.rules ((false,g.start),0,ws.length) 20000 f true:=by
 obtain ⟨-,-,h1,L,h2,h3,rfl⟩:=h;exact .fits h1 h2 h3
theorem GoF.whF {g:Gr} {f:FoI} {ws:List Int} (h:GoF g f ws):WhF g ws f:=by
 obtain ⟨-,-,h1,L,h2,h3,rfl⟩:=h;exact ⟨true,.fits h1 h2 (by omega)⟩
theorem GoF.facts {g:Gr} {f:FoI} {ws:List Int} (h:GoF g f ws):0≤f.1∧f.1 < (f.2.length:Int)∧(ndAt f.2 f.1.toNat).1.2.2.2=(ws.length:Int)∧∀ init:List Int,init.length=ws.length→fillW ws.length f.2 init=some ws:=by
 obtain ⟨-,-,h1,L,h2,h3,rfl⟩:=h;have hr:((false,g.start),0,ws.length)∈L:=(h2.mem _).2 .root;have hlt:=idxK_lt hr;refine ⟨by simp [foI],by simp [foI]; exact hlt,?_,fun init hi=>?_⟩
 ·have:(foI (dvD g.rules ws) g.rules L ((false,g.start),0,ws.length)).1.toNat=idxK L ((false,g.start),0,ws.length):=(by simp [foI]);rw [this,foI_at hr,ndI_eq]
 ·obtain ⟨r,hr1,hr2,hr3⟩:=fill_gen (D:=dvD g.rules ws) (R:=g.rules) (K:=L) (xs:=ws) L init (fun k hk hb=>(term_at (rch_dvW h1 ((h2.mem k).1 hk)) hb).1) hi;show fillW ws.length (L.map fun k=>ndI (ndF (dvD g.rules ws) g.rules L k)) init=some ws
  rw [hr1]
  congr 1
  apply List.ext_getElem?
  intro p
  rcases hr3 p with h4 | ⟨h4,h5⟩
  ·exact h4
  ·by_cases hp:p < ws.length
   ·obtain ⟨t,ht⟩:=root_cover h1 hp;exact absurd rfl (h5 _ ((h2.mem _).2 ht) rfl)
   ·rw [List.getElem?_eq_none (by omega),List.getElem?_eq_none (by omega)]
theorem GoF.uniq {g:Gr} {f:FoI} {ws ws':List Int} (h:GoF g f ws) (h':GoF g f ws'):ws=ws':=by
 obtain ⟨-,-,h3,h4⟩:=h.facts;obtain ⟨-,-,k3,k4⟩:=h'.facts;have hl:ws.length=ws'.length:=(by rw [h3] at k3; omega);have e1:=h4 ws rfl;have e2:=k4 ws hl;rw [← hl] at e2;rw [e1] at e2;exact Option.some.inj e2
theorem GoF.fill_some {g:Gr} {f:FoI} {ws:List Int} (h:GoF g f ws) {t:Nat} (ht:(ndAt f.2 f.1.toNat).1.2.2.2=(t:Int)) {init:List Int} (hi:init.length=t):fillW t f.2 init=some ws:=by
 obtain ⟨-,-,h3,h4⟩:=h.facts;have:t=ws.length:=(by rw [h3] at ht; omega);subst this;exact h4 init hi
def fillZ (n:Nat):List NdI→List Int→List Int
 | [],ws=>ws
 | x::xs,ws=>if x.1.1=true∧0≤x.1.2.2.1∧x.1.2.2.1 < (n:Int) then fillZ n xs (ws.set x.1.2.2.1.toNat x.1.2.1) else fillZ n xs ws
theorem fillZ_of {n:Nat}:∀ {nd:List NdI} {cur r:List Int},fillW n nd cur=some r→fillZ n nd cur=r
 | [],cur,r,h=>Option.some.inj h
 | x::nd,cur,r,h=>by
  unfold fillW at h;unfold fillZ
  split at h
  ·next hb =>
   split at h
   ·cases h
   ·next hr =>
    rw [if_pos ⟨hb,by omega,by omega⟩];exact fillZ_of h
  ·next hb =>
   rw [if_neg (fun e=>hb e.1)];exact fillZ_of h
end Go.Proofs.YtfcihnpmeabacaaGreatDoor
