/- Texts BO, BP, BQ, laid together. -/
import Derived.Test.YtfcihnpmeabacaaGreatDoorW5
import Derived.Test.YtfcihnpmeabacaaGreatDoorW10
import Derived.Test.YtfcihnpmeabacaaGreatDoorSg
import Derived.Sort.Grow
namespace Go.Proofs.YtfcihnpmeabacaaGreatDoor
open Go.RowKit
open Go.Sort (grow alloc_eq_grow grow_grow grow_empty SWO)
open Go.Proofs (ltOf)
def Grw (w w':World):Prop:=∃ n os,w'=grow (w.drewN n) os
section
variable {w w' w'':World}
theorem Grw.refl (w:World):Grw w w:=⟨0,#[],by rw [grow_empty]; rfl⟩
theorem Grw.dr (h:Grw w w'):Grw w w'.drew:=by
 obtain ⟨n,os,rfl⟩:=h;exact ⟨n+1,os,rfl⟩
theorem Grw.al (h:Grw w w') (o:Obj):Grw w (w'.alloc o):=by
 obtain ⟨n,os,rfl⟩:=h;exact ⟨n,os++#[o],by rw [alloc_eq_grow,grow_grow]⟩
theorem Grw.trans (h:Grw w w') (k:Grw w' w''):Grw w w'':=by
 obtain ⟨n,os,rfl⟩:=h;obtain ⟨m,os',rfl⟩:=k;refine ⟨n+m,os++os',?_⟩
 have e1:(grow (w.drewN n) os).drewN m=grow (w.drewN (n+m)) os:=by
  unfold World.drewN grow;simp only [Nat.add_assoc]
 rw [e1,grow_grow]
theorem Grw.below (h:Grw w w'):Below w.heap.size w w':=by
 obtain ⟨n,os,rfl⟩:=h;refine ⟨rfl,rfl,rfl,by simp [grow,World.drewN],fun b hb=>?_⟩;exact Go.Sort.heap_grow_old (w.drewN n) os hb
end
theorem Ints.threeB (w:World) (x y z:Int) (t:TypeId):Ints (w.alloc (.cells #[.int .i64 x,.int .i64 y,.int .i64 z] t)) (some ⟨w.heap.size,0,none⟩) 3 3 [x,y,z] :=
 ⟨rfl,Nat.le_refl _,fun _=>⟨w.heap.size,0,rfl,fun i hi=>by
  rw [Nat.zero_add]
  match i,hi with
  | 0,_=>rw [World.cell?_alloc_new]; rfl
  | 1,_=>rw [World.cell?_alloc_new]; rfl
  | 2,_=>rw [World.cell?_alloc_new]; rfl⟩⟩
theorem cmpL_ltt {xs ys zs:List Int} (h1:cmpL xs ys < 0) (h2:cmpL ys zs < 0):cmpL xs zs < 0:=by
 have h3:=cmpL_trans (xs:=xs) (ys:=ys) (zs:=zs) (by omega) (by omega)
 by_cases h4:cmpL xs zs=0
 ·have:=cmpL_zero.1 h4; subst this;have:=cmpL_anti xs ys; omega
 ·omega
theorem swoKey {α:Type} (key:α→List Int) (cf:α→α→Int) (hc:∀ x y,cf x y=cmpL (key x) (key y)) (p:α→Prop):SWO (ltOf fun x y:{x:α // p x}=>cf x.1 y.1) where
 irrefl x:=by
  simp only [ltOf,hc,cmpL_self]; rfl
 trans x y z h1 h2:=by
  simp only [ltOf,hc,decide_eq_true_eq] at *;exact cmpL_ltt h1 h2
 ntrans x y z h1 h2:=by
  simp only [ltOf,hc,decide_eq_false_iff_not] at *;have a1:=cmpL_anti (key y.1) (key x.1);have a2:=cmpL_anti (key z.1) (key y.1);have a3:=cmpL_trans (xs:=key z.1) (ys:=key y.1) (zs:=key x.1) (by omega) (by omega);have a4:=cmpL_anti (key z.1) (key x.1);omega
theorem antiKey {α:Type} (key:α→List Int) (cf:α→α→Int) (hc:∀ x y,cf x y=cmpL (key x) (key y)) (x y:α) (h:0 < cf x y):cf y x < 0:=by
 rw [hc] at h ⊢;have:=cmpL_anti (key x) (key y); omega
def ordI (a b:Bool×Int):Int:=if a.1=b.1 then cmpI a.2 b.2 else if a.1 then -1 else 1
def GrwI (w:World) (x:Int) (e:Ending) (w':World):Prop:=e=.returned (.int .i64 x)∧Grw w w'
set_option maxHeartbeats 1000000 in
theorem gord2_c (a b:Bool) (x y:Int) (w:World):Calls Tryz.prog 128 #[.agg #[.bool a,.int .i64 x],.agg #[.bool b,.int .i64 y]] w (GrwI w (ordI (a,x) (b,y))):=by
 have B0:=(Blk.new w 69 #[.bool a,.int .i64 x]).al (.cells #[.bool b,.int .i64 y] 69);have B1:=Blk.newAt (w.alloc (.cells #[.bool a,.int .i64 x] 69)) 69 #[.bool b,.int .i64 y] (w.heap.size+1) (by simp);have HG:=Lib.hid (((Grw.refl w).al (.cells #[.bool a,.int .i64 x] 69)).al (.cells #[.bool b,.int .i64 y] 69));go_enter Tryz.func128,Tryz.ntmps128;have cB0:=B0.cell;have fB0:=B0.frozen;have lB0:=B0.lt;have cB1:=B1.cell;have fB1:=B1.frozen;have lB1:=B1.lt
 by_cases hab:a=b
 ·subst hab;have e1:(a != a)=false:=(by simp);go_wp2_with (go_at_call 81; refine (cmp_c _ _ _).mono ?_; rintro e w' ⟨rfl,rfl⟩);go_ret;exact ⟨by simp [ordI],HG.out⟩
 ·have e1:(a != b)=true:=(by simpa using hab);cases a with
  | true =>
   cases b with
   | true=>exact absurd rfl hab
   | false =>
    go_wp2_with fail;go_ret;exact ⟨rfl,HG.out⟩
  | false =>
   cases b with
   | false=>exact absurd rfl hab
   | true =>
    go_wp2_with fail;go_ret;exact ⟨rfl,HG.out⟩
def kyCmp (a b:Ky):Int:=orL [cmpI (a.2.1:Int) (b.2.1:Int),cmpI (a.2.2:Int) (b.2.2:Int),ordI (a.1.1,(a.1.2:Int)) (b.1.1,(b.1.2:Int))]
def kyKey (a:Ky):List Int:=[(a.2.1:Int),(a.2.2:Int),if a.1.1 then 0 else 1,(a.1.2:Int)]
theorem kyCmp_key (a b:Ky):kyCmp a b=cmpL (kyKey a) (kyKey b):=by
 obtain ⟨⟨ab,an⟩,ai,aj⟩:=a;obtain ⟨⟨bb,bn⟩,bi,bj⟩:=b;simp only [kyCmp,kyKey,orL,cmpL,ordI];cases ab <;> cases bb <;> simp [cmpI]
 all_goals (repeat' split) <;> omega
theorem kyCmp_le {a b:Ky} (ha:a.Ok) (hb:b.Ok) (h:kyCmp a b≤0):kyN a≤kyN b:=by
 obtain ⟨⟨ab,an⟩,ai,aj⟩:=a;obtain ⟨⟨bb,bn⟩,bi,bj⟩:=b;obtain ⟨h1,h2,h3⟩:=ha;obtain ⟨k1,k2,k3⟩:=hb;simp only at h1 h2 h3 k1 k2 k3;simp only [kyCmp,orL,ordI,cmpI] at h;simp only [kyN,rkS];cases ab <;> cases bb <;> simp only [Bool.false_eq_true,Bool.true_eq_false,if_false,if_true] at h ⊢ <;> (repeat' split at h) <;> omega
set_option maxRecDepth 100000 in
set_option maxHeartbeats 4000000 in
theorem kord_c (a b:Ky) (w:World):Calls Tryz.prog 95 #[.agg (kyC a),.agg (kyC b)] w (GrwI w (kyCmp a b)):=by
 obtain ⟨⟨ab,an⟩,ai,aj⟩:=a;obtain ⟨⟨bb,bn⟩,bi,bj⟩:=b;have B0:=(Blk.new w 173 (kyC ((ab,an),ai,aj))).al (.cells (kyC ((bb,bn),bi,bj)) 173);have B1:=Blk.newAt (w.alloc (.cells (kyC ((ab,an),ai,aj)) 173)) 173 (kyC ((bb,bn),bi,bj)) (w.heap.size+1) (by simp);have HG:=Lib.hid (((Grw.refl w).al (.cells (kyC ((ab,an),ai,aj)) 173)).al (.cells (kyC ((bb,bn),bi,bj)) 173));simp only [kyC] at *;go_enter Tryz.func95,Tryz.ntmps95;go_upto_region 1 with fail;generalize (w.alloc (.cells #[.bool ab,.int .i64 (an:Int),.int .i64 (ai:Int),.int .i64 (aj:Int)] 173)).alloc (.cells #[.bool bb,.int .i64 (bn:Int),.int .i64 (bi:Int),.int .i64 (bj:Int)] 173)=W at *;have SOF:=Lib.hid (show ∀ w',Grw W w'→((∀ i,w'.cell? ⟨w.heap.size,i,none⟩=#[.bool ab,.int .i64 (an:Int),.int .i64 (ai:Int),.int .i64 (aj:Int)][i]?)∧(∀ i,w'.cell? ⟨w.heap.size+1,i,none⟩=#[.bool bb,.int .i64 (bn:Int),.int .i64 (bi:Int),.int .i64 (bj:Int)][i]?)∧Grw W w') from fun w' hb=>⟨(B0.via hb.below).cell,(B1.via hb.below).cell,hb⟩);have hb0:=(Grw.refl W).dr;clear B0 B1
 go_region_held3 (fun w'=>(∀ i,w'.cell? ⟨w.heap.size,i,none⟩=#[.bool ab,.int .i64 (an:Int),.int .i64 (ai:Int),.int .i64 (aj:Int)][i]?)∧(∀ i,w'.cell? ⟨w.heap.size+1,i,none⟩=#[.bool bb,.int .i64 (bn:Int),.int .i64 (bi:Int),.int .i64 (bj:Int)][i]?)∧Grw W w') (exact SOF.out _ (by first | assumption | exact Grw.al (by assumption) _)) (first
  | (go_at_call 81; (with_reducible refine (cmp_c _ _ _).mono ?_); rintro ee wk ⟨rfl,rfl⟩)
  | (go_at_call 128; (with_reducible refine (gord2_c _ _ _ _ _).mono ?_); rintro ee wk ⟨rfl,hgo⟩; have hgw:Grw W wk:=Grw.trans (by assumption) hgo)
  | (go_at_call 98; (with_reducible refine (or_c (some ⟨_,0,none⟩) 3 3 [_,_,_] _ (Ints.threeB _ _ _ _ _) (by omega)).mono ?_); rintro ee wk ⟨rfl,rfl⟩))
 go_wp2_with fail;go_ret;exact ⟨rfl,HG.out.trans (hgw.al _)⟩
set_option maxRecDepth 100000 in
theorem sortKey_c (ok:Nat→Prop) (w:World) (base n:Nat) (A:Option Addr) (c:Nat) (l:List Ky) (hn:n≤1000000) (hown:Own KyE 173 ok w base (.slice A n c) n l) :
 Calls Tryz.prog 94 #[.slice A n c,.func (.func 95) #[] #[]] w (SortPX KyE 173 ok base n A c l kyCmp w):=by
 refine sort_x KyE laysKey Tryz.isAgg173 Tryz.sizeOf173 95 #[] (enters_c (c:=_) (fn:=Tryz.f95) rfl (by kernel_rfl) rfl) kyCmp (fun p=>swoKey kyKey kyCmp kyCmp_key p) (antiKey kyKey kyCmp kyCmp_key) 173 ok (fun _=>True) w base n A c l hn (fun _ _=>trivial) hown ?_;rintro g - W - - ⟨⟨r,x⟩,h,-⟩ ⟨⟨r',y⟩,h',-⟩;obtain rfl:r=x:=h;obtain rfl:r'=y:=h';exact kord_c r r' W
end Go.Proofs.YtfcihnpmeabacaaGreatDoor
namespace Go.Proofs.YtfcihnpmeabacaaGreatDoor
open Go.RowKit
open Go.Sort (grow alloc_eq_grow grow_grow grow_empty SWO)
theorem Ints.twoB (w:World) (x y:Int) (t:TypeId):Ints (w.alloc (.cells #[.int .i64 x,.int .i64 y] t)) (some ⟨w.heap.size,0,none⟩) 2 2 [x,y] :=
 ⟨rfl,Nat.le_refl _,fun _=>⟨w.heap.size,0,rfl,fun i hi=>by
  rw [Nat.zero_add]
  match i,hi with
  | 0,_=>rw [World.cell?_alloc_new]; rfl
  | 1,_=>rw [World.cell?_alloc_new]; rfl⟩⟩
def pkCmp (a b:PkI):Int:=orL [cmpI a.1 b.1,cmpL a.2 b.2]
theorem pkCmp_key (a b:PkI):pkCmp a b=cmpL (a.1::a.2) (b.1::b.2):=by
 simp only [pkCmp,orL,cmpL]
 split
 ·split
  ·rename_i h; exact h.symm
  ·rfl
 ·rfl
set_option maxRecDepth 100000 in
set_option maxHeartbeats 4000000 in
theorem bpk_c (r1 r2:Int) (A B:Option Addr) (n c m d:Nat) (xs ys:List Int) (w:World) (h1:Ints w A n c xs) (h2:Ints w B m d ys) (hn:xs.length≤1000000) :
 Calls Tryz.prog 97 #[.agg #[.int .i64 r1,.slice A n c],.agg #[.int .i64 r2,.slice B m d]] w (GrwI w (pkCmp (r1,xs) (r2,ys))):=by
 have hn':n≤1000000:=(by rw [← h1.len]; exact hn);have hB:=((Grw.refl w).al (.cells #[.int .i64 r1,.slice A n c] 104)).al (.cells #[.int .i64 r2,.slice B m d] 104);have B0:=(Blk.new w 104 #[.int .i64 r1,.slice A n c]).al (.cells #[.int .i64 r2,.slice B m d] 104);have B1:=Blk.newAt (w.alloc (.cells #[.int .i64 r1,.slice A n c] 104)) 104 #[.int .i64 r2,.slice B m d] (w.heap.size+1) (by simp);have H1:=Lib.hid (h1.via hB.below);have H2:=Lib.hid (h2.via hB.below);have HG:=Lib.hid hB;clear h1 h2 hB hn;go_enter Tryz.func97,Tryz.ntmps97;go_upto_region 1 with fail;generalize (w.alloc (.cells #[.int .i64 r1,.slice A n c] 104)).alloc (.cells #[.int .i64 r2,.slice B m d] 104)=W at *;have J1:=Lib.hid (show ∀ w',Grw W w'→Ints w' A n c xs from fun w' hb=>H1.out.via hb.below);have J2:=Lib.hid (show ∀ w',Grw W w'→Ints w' B m d ys from fun w' hb=>H2.out.via hb.below);have SOF:=Lib.hid (show ∀ w',Grw W w'→((∀ i,w'.cell? ⟨w.heap.size,i,none⟩=#[.int .i64 r1,.slice A n c][i]?)∧(∀ i,w'.cell? ⟨w.heap.size+1,i,none⟩=#[.int .i64 r2,.slice B m d][i]?)∧Grw W w') from fun w' hb=>⟨(B0.via hb.below).cell,(B1.via hb.below).cell,hb⟩);have hb0:=(Grw.refl W).dr;clear H1 H2 B0 B1
 go_region_held3 (fun w'=>(∀ i,w'.cell? ⟨w.heap.size,i,none⟩=#[.int .i64 r1,.slice A n c][i]?)∧(∀ i,w'.cell? ⟨w.heap.size+1,i,none⟩=#[.int .i64 r2,.slice B m d][i]?)∧Grw W w') (exact SOF.out _ (by first | assumption | exact Grw.al (by assumption) _)) (first
  | (go_at_call 81; (with_reducible refine (cmp_c _ _ _).mono ?_); rintro ee wk ⟨rfl,rfl⟩)
  | (go_at_call 49; (with_reducible refine (cmpL_c A B n c m d xs ys _ (J1.out _ (by assumption)) (J2.out _ (by assumption)) hn').mono ?_); rintro ee wk ⟨rfl,rfl⟩)
  | (go_at_call 98; (with_reducible refine (or_c (some ⟨_,0,none⟩) 2 2 [_,_] _ (Ints.twoB _ _ _ _).dr (by omega)).mono ?_); rintro ee wk ⟨rfl,rfl⟩))
 go_wp2_with fail;go_ret;exact ⟨rfl,HG.out.trans (hb0.al _)⟩
def StayP (w:World) (e:Ending) (w':World):Prop:=e=.returned (.tuple #[])∧Grw w w'
def SoP (l:List PkI):Prop:=∀ (i j:Nat) (x y:PkI),i < j→l[i]?=some x→l[j]?=some y→0≤pkCmp y x
set_option maxRecDepth 100000 in
set_option maxHeartbeats 4000000 in
theorem inss_c (ok:Nat→Prop) (A:Option Addr) (n c a b:Nat) (l:List PkI) (w:World) (hl:Sl FpE ok w A n c l) (hs:SoP l) (hk:∀ x∈l,x.2.length≤1000000) (hb:b≤n) (hn:n≤1000000) (ha:a≤1000000) :
 Calls Tryz.prog 115 #[.slice A n c,.int .i64 (a:Int),.int .i64 (b:Int),.func (.func 97) #[] #[]] w (StayP w):=by
 have HS:=Lib.hid hl;have HSO:=Lib.hid hs;have HLN:=Lib.hid hk;clear hl hs hk;go_enter Tryz.func115,Tryz.ntmps115;go_wp2_with fail
 go_loopw [8] (fun q wr=>∃ k:Nat,q=.int .i64 (k:Int)∧a+1≤k∧(k≤a+1∨k≤b)∧Grw w wr) (fun q _=>b+1 - (intOf q).toNat)
 case atStart=>exact ⟨a+1,by go_num,Nat.le_refl _,Or.inl (Nat.le_refl _),Grw.refl w⟩
 case round =>
  obtain ⟨k,rfl,hk,hkb,hgw⟩:=hrel
  by_cases hkl:k < b
  ·obtain ⟨p,hpk⟩:∃ p,k=p+1:=⟨k - 1,by omega⟩;have i1:(k:Int) < (b:Int):=(by omega);have i2:(a:Int) < (k:Int):=(by omega);have w1:IntKind.i64.wrap ((k:Int) - 1)=(p:Int):=(by rw [IntWalk.i64_in _ (by omega)]; omega);have i3:(p:Int) < (n:Int):=(by omega);have i4:(k:Int) < (n:Int):=(by omega);have i5:(0:Int)≤(k:Int):=(by omega);have i6:(0:Int)≤(p:Int):=(by omega);have HP:p < n:=(by omega);have HQ:k < n:=(by omega);have HPQ:p < k:=(by omega);clear hkb hpk;go_wp2_with fail;refine wp_loop_rounds 1 ?_;rw [rounds_succ];go_upto_region 4 with fail;obtain ⟨b1,o1,⟨r1,s1A,s1n,s1c⟩,⟨r1',k1⟩,hA1,-,hb1,hx1,⟨hr1,hs1⟩,hc1⟩:=HS.out.at_ (i:=k) HQ;obtain ⟨b2,o2,⟨r2,s2A,s2n,s2c⟩,⟨r2',k2⟩,hA2,-,hb2,hx2,⟨hr2,hs2⟩,hc2⟩:=HS.out.at_ (i:=p) HP;simp only at hr1 hr2 hs1 hs2;obtain rfl:r1=r1':=hr1;obtain rfl:r2=r2':=hr2;subst hA1;simp only [Option.some.injEq,Addr.mk.injEq] at hA2;obtain ⟨rfl,rfl,-⟩:=hA2;have d1:=hc1 0 _ rfl;have d2:=hc1 1 _ rfl;have d3:=hc2 0 _ rfl;have d4:=hc2 1 _ rfl;simp only [FpE,Nat.add_zero] at d1 d2 d3 d4;have hbb:=(hgw.below).cell (p:=⟨b1,o1+k*2,none⟩) (World.block_lt_of_cell? _ _ d1);obtain ⟨v,hv⟩:∃ v,v=pkCmp (r1,k1) (r2,k2):=⟨_,rfl⟩;have hv0:0≤v:=(by rw [hv]; exact HSO.out _ _ _ _ HPQ hx2 hx1);have hdr:=hgw.dr;have SOF:=Lib.hid (show ∀ w',Grw w w'→(w'.cell? ⟨b1,o1+k*2,none⟩=some (.int .i64 r1)∧w'.cell? ⟨b1,o1+k*2+1,none⟩=some (.slice s1A s1n s1c)∧w'.cell? ⟨b1,o1+p*2,none⟩=some (.int .i64 r2)∧w'.cell? ⟨b1,o1+p*2+1,none⟩=some (.slice s2A s2n s2c)∧Grw w w') from fun w' hb=>⟨(hb.below.cell hb1).trans d1,(hb.below.cell hb1).trans d2,(hb.below.cell hb1).trans d3,(hb.below.cell hb1).trans d4,hb⟩)
   have JC:=Lib.hid (show ∀ W,Grw w W→Calls Tryz.prog 97 #[.agg #[.int .i64 r1,.slice s1A s1n s1c],.agg #[.int .i64 r2,.slice s2A s2n s2c]] W (GrwI W v) from fun W hW=>by
    rw [hv]
    exact bpk_c r1 r2 s1A s2A s1n s1c s2n s2c k1 k2 W (hs1.via hW.below).intsIn (hs2.via hW.below).intsIn (HLN.out _ (List.mem_of_getElem? hx1)))
   clear hc1 hc2 hs1 hs2 hv d1 d2 d3 d4 hbb hx1 hx2 hb2
   go_region_held3 (fun w'=>w'.cell? ⟨b1,o1+k*2,none⟩=some (.int .i64 r1)∧w'.cell? ⟨b1,o1+k*2+1,none⟩=some (.slice s1A s1n s1c)∧w'.cell? ⟨b1,o1+p*2,none⟩=some (.int .i64 r2)∧w'.cell? ⟨b1,o1+p*2+1,none⟩=some (.slice s2A s2n s2c)∧Grw w w') (exact SOF.out _ (by assumption)) (first
    | (go_at_call 97; (with_reducible refine (JC.out _ (by assumption)).mono ?_); rintro ee wk ⟨rfl,hgo⟩; have hgk:Grw w wk:=Grw.trans (by assumption) hgo))
   have HGK:=Lib.hid hgk;clear hgo hgk hgw hdr SOF JC;go_wp2_with fail;exact ⟨⟨k+1,by go_num,by omega,by omega,HGK.out⟩,by simp [intOf]; omega⟩
  ·go_wp2_with fail
   go_end0
   exact ⟨rfl,hgw⟩
end Go.Proofs.YtfcihnpmeabacaaGreatDoor
namespace Go.Proofs.YtfcihnpmeabacaaGreatDoor
open Go.RowKit
open Go.Sort (grow alloc_eq_grow grow_grow grow_empty SWO)
set_option maxRecDepth 100000 in
set_option maxHeartbeats 8000000 in
theorem sym_n (ok:Nat→Prop) (A:Option Addr) (n c:Nat) (l:List PkI) (w0:World) (hl:Sl FpE ok w0 A n c l) (hs:SoP l) (hk:∀ x∈l,x.2.length≤1000000) (hn:n≤1000000) :
 ∀ (d a m b:Nat) (w:World),b - a≤d→a < m→m < b→b≤n→Grw w0 w→Calls Tryz.prog 165 #[.slice A n c,.int .i64 (a:Int),.int .i64 (m:Int),.int .i64 (b:Int),.func (.func 97) #[] #[]] w (StayP w):=by
 intro d
 induction d with
 | zero=>intro a m b w h1 h2 h3; omega
 | succ d ih =>
  intro a m b w2 hd ham hmb hbn hw02;have HIH:=Lib.hid ih;have HW2:=Lib.hid hw02;have hl2:=hl.via hw02.below;generalize hwe:w2=w at *;clear hwe hw02 ih;have HS:=Lib.hid hl2;have HSO:=Lib.hid hs;have HLN:=Lib.hid hk;clear hl2
  by_cases h1:m=a+1
  ·have e1:(((m:Int) - (a:Int))==1)=true:=(by simp; omega);have HM1:=Lib.hid h1;clear h1;go_enter Tryz.func165,Tryz.ntmps165;go_wp2_with fail
   go_loopw [10,11] (fun x y wr=>∃ j:Nat,x=.int .i64 (m:Int)∧y=.int .i64 (j:Int)∧m≤j∧j≤b∧Grw w wr) (fun _ y _=>(intOf y).toNat - m)
   case atStart=>exact ⟨b,rfl,rfl,by omega,Nat.le_refl _,Grw.refl w⟩
   case round =>
    obtain ⟨j,rfl,rfl,hj1,hj2,hgw⟩:=hrel
    by_cases hjm:m < j
    ·obtain ⟨h,hh⟩:∃ h,h=(m+j) / 2:=⟨_,rfl⟩;have HH:=Lib.hid hh;have q1:IntKind.i64.wrap ((m:Int)+(j:Int))=(m:Int)+(j:Int):=IntWalk.i64_in _ (by omega);have q2:((m:Int)+(j:Int)) / 2=(h:Int):=(by omega);have i3:(a:Int) < (n:Int):=(by omega);have i4:(h:Int) < (n:Int):=(by omega);have i5:(0:Int)≤(h:Int):=(by omega);have i6:(0:Int)≤(a:Int):=(by omega);have HP:a < n:=(by omega);have HQ:h < n:=(by omega);have HPQ:a < h:=(by omega);have hhj:m≤h∧h < j:=(by omega);clear hh;go_upto_region 5 with fail;obtain ⟨b1,o1,⟨r1,s1A,s1n,s1c⟩,⟨r1',k1⟩,hA1,-,hb1,hx1,⟨hr1,hs1⟩,hc1⟩:=HS.out.at_ (i:=h) HQ;obtain ⟨b2,o2,⟨r2,s2A,s2n,s2c⟩,⟨r2',k2⟩,hA2,-,hb2,hx2,⟨hr2,hs2⟩,hc2⟩:=HS.out.at_ (i:=a) HP;simp only at hr1 hr2 hs1 hs2;obtain rfl:r1=r1':=hr1;obtain rfl:r2=r2':=hr2;subst hA1;simp only [Option.some.injEq,Addr.mk.injEq] at hA2;obtain ⟨rfl,rfl,-⟩:=hA2;have d1:=hc1 0 _ rfl;have d2:=hc1 1 _ rfl;have d3:=hc2 0 _ rfl;have d4:=hc2 1 _ rfl;simp only [FpE,Nat.add_zero] at d1 d2 d3 d4;have hbb:=(hgw.below).cell (p:=⟨b1,o1+h*2,none⟩) (World.block_lt_of_cell? _ _ d1);obtain ⟨v,hv⟩:∃ v,v=pkCmp (r1,k1) (r2,k2):=⟨_,rfl⟩;have hv0:0≤v:=(by rw [hv]; exact HSO.out _ _ _ _ HPQ hx2 hx1);have hdr:=hgw.dr;have SOF:=Lib.hid (show ∀ w',Grw w w'→(w'.cell? ⟨b1,o1+h*2,none⟩=some (.int .i64 r1)∧w'.cell? ⟨b1,o1+h*2+1,none⟩=some (.slice s1A s1n s1c)∧w'.cell? ⟨b1,o1+a*2,none⟩=some (.int .i64 r2)∧w'.cell? ⟨b1,o1+a*2+1,none⟩=some (.slice s2A s2n s2c)∧Grw w w') from fun w' hb=>⟨(hb.below.cell hb1).trans d1,(hb.below.cell hb1).trans d2,(hb.below.cell hb1).trans d3,(hb.below.cell hb1).trans d4,hb⟩)
     have JC:=Lib.hid (show ∀ W,Grw w W→Calls Tryz.prog 97 #[.agg #[.int .i64 r1,.slice s1A s1n s1c],.agg #[.int .i64 r2,.slice s2A s2n s2c]] W (GrwI W v) from fun W hW=>by
      rw [hv]
      exact bpk_c r1 r2 s1A s2A s1n s1c s2n s2c k1 k2 W (hs1.via hW.below).intsIn (hs2.via hW.below).intsIn (HLN.out _ (List.mem_of_getElem? hx1)))
     clear hc1 hc2 hs1 hs2 hv d1 d2 d3 d4 hbb hx1 hx2 hb2
     go_region_held3 (fun w'=>w'.cell? ⟨b1,o1+h*2,none⟩=some (.int .i64 r1)∧w'.cell? ⟨b1,o1+h*2+1,none⟩=some (.slice s1A s1n s1c)∧w'.cell? ⟨b1,o1+a*2,none⟩=some (.int .i64 r2)∧w'.cell? ⟨b1,o1+a*2+1,none⟩=some (.slice s2A s2n s2c)∧Grw w w') (exact SOF.out _ (by assumption)) (first
      | (go_at_call 97; (with_reducible refine (JC.out _ (by assumption)).mono ?_); rintro ee wk ⟨rfl,hgo⟩; have hgk:Grw w wk:=Grw.trans (by assumption) hgo))
     have HGK:=Lib.hid hgk;clear hgo hgk hgw hdr SOF JC;go_wp2_with fail;exact ⟨⟨h,rfl,rfl,by omega,by omega,HGK.out⟩,by simp [intOf]; omega⟩
    ·have e2:¬ (a:Int) < (m:Int) - 1:=(by have:=HM1.out; omega);have HGW:=Lib.hid hgw;clear hgw;go_wp2_with fail;refine wp_loop_rounds 1 ?_;rw [rounds_succ];go_wp2_with fail
     go_end0
     exact ⟨rfl,HGW.out⟩
  ·by_cases h2:b=m+1
   ·have e1:(((m:Int) - (a:Int))==1)=false:=(by simp; omega);have e2:(((b:Int) - (m:Int))==1)=true:=(by simp; omega);have HM1:=Lib.hid (And.intro h1 h2);clear h1 h2;go_enter Tryz.func165,Tryz.ntmps165;go_wp2_with fail
    go_loopw [14,15] (fun x y wr=>∃ i:Nat,x=.int .i64 (i:Int)∧y=.int .i64 (m:Int)∧a≤i∧i≤m∧Grw w wr) (fun x _ _=>m - (intOf x).toNat)
    case atStart=>exact ⟨a,rfl,rfl,Nat.le_refl _,by omega,Grw.refl w⟩
    case round =>
     obtain ⟨i,rfl,rfl,hj1,hj2,hgw⟩:=hrel
     by_cases hjm:i < m
     ·obtain ⟨h,hh⟩:∃ h,h=(i+m) / 2:=⟨_,rfl⟩;have HH:=Lib.hid hh;have q1:IntKind.i64.wrap ((i:Int)+(m:Int))=(i:Int)+(m:Int):=IntWalk.i64_in _ (by omega);have q2:((i:Int)+(m:Int)) / 2=(h:Int):=(by omega);have i3:(m:Int) < (n:Int):=(by omega);have i4:(h:Int) < (n:Int):=(by omega);have i5:(0:Int)≤(h:Int):=(by omega);have i6:(0:Int)≤(m:Int):=(by omega);have HP:h < n:=(by omega);have HQ:m < n:=(by omega);have HPQ:h < m:=(by omega);have hhj:i≤h∧h < m:=(by omega);clear hh;go_upto_region 17 with fail;obtain ⟨b1,o1,⟨r1,s1A,s1n,s1c⟩,⟨r1',k1⟩,hA1,-,hb1,hx1,⟨hr1,hs1⟩,hc1⟩:=HS.out.at_ (i:=m) HQ;obtain ⟨b2,o2,⟨r2,s2A,s2n,s2c⟩,⟨r2',k2⟩,hA2,-,hb2,hx2,⟨hr2,hs2⟩,hc2⟩:=HS.out.at_ (i:=h) HP;simp only at hr1 hr2 hs1 hs2;obtain rfl:r1=r1':=hr1;obtain rfl:r2=r2':=hr2;subst hA1;simp only [Option.some.injEq,Addr.mk.injEq] at hA2;obtain ⟨rfl,rfl,-⟩:=hA2;have d1:=hc1 0 _ rfl;have d2:=hc1 1 _ rfl;have d3:=hc2 0 _ rfl;have d4:=hc2 1 _ rfl;simp only [FpE,Nat.add_zero] at d1 d2 d3 d4;have hbb:=(hgw.below).cell (p:=⟨b1,o1+m*2,none⟩) (World.block_lt_of_cell? _ _ d1);obtain ⟨v,hv⟩:∃ v,v=pkCmp (r1,k1) (r2,k2):=⟨_,rfl⟩;have hv0:0≤v:=(by rw [hv]; exact HSO.out _ _ _ _ HPQ hx2 hx1);have hdr:=hgw.dr;have SOF:=Lib.hid (show ∀ w',Grw w w'→(w'.cell? ⟨b1,o1+m*2,none⟩=some (.int .i64 r1)∧w'.cell? ⟨b1,o1+m*2+1,none⟩=some (.slice s1A s1n s1c)∧w'.cell? ⟨b1,o1+h*2,none⟩=some (.int .i64 r2)∧w'.cell? ⟨b1,o1+h*2+1,none⟩=some (.slice s2A s2n s2c)∧Grw w w') from fun w' hb=>⟨(hb.below.cell hb1).trans d1,(hb.below.cell hb1).trans d2,(hb.below.cell hb1).trans d3,(hb.below.cell hb1).trans d4,hb⟩)
      have JC:=Lib.hid (show ∀ W,Grw w W→Calls Tryz.prog 97 #[.agg #[.int .i64 r1,.slice s1A s1n s1c],.agg #[.int .i64 r2,.slice s2A s2n s2c]] W (GrwI W v) from fun W hW=>by
       rw [hv]
       exact bpk_c r1 r2 s1A s2A s1n s1c s2n s2c k1 k2 W (hs1.via hW.below).intsIn (hs2.via hW.below).intsIn (HLN.out _ (List.mem_of_getElem? hx1)))
      clear hc1 hc2 hs1 hs2 hv d1 d2 d3 d4 hbb hx1 hx2 hb2
      go_region_held3 (fun w'=>w'.cell? ⟨b1,o1+m*2,none⟩=some (.int .i64 r1)∧w'.cell? ⟨b1,o1+m*2+1,none⟩=some (.slice s1A s1n s1c)∧w'.cell? ⟨b1,o1+h*2,none⟩=some (.int .i64 r2)∧w'.cell? ⟨b1,o1+h*2+1,none⟩=some (.slice s2A s2n s2c)∧Grw w w') (exact SOF.out _ (by assumption)) (first
       | (go_at_call 97; (with_reducible refine (JC.out _ (by assumption)).mono ?_); rintro ee wk ⟨rfl,hgo⟩; have hgk:Grw w wk:=Grw.trans (by assumption) hgo))
      have HGK:=Lib.hid hgk;clear hgo hgk hgw hdr SOF JC;go_wp2_with fail;rotate_left
      ·exfalso
       rename_i hf
       simp at hf;omega
      exact ⟨⟨h+1,by go_num,rfl,by omega,by omega,HGK.out⟩,by simp [intOf]; omega⟩
     ·obtain rfl:i=m:=(by omega);have HGW:=Lib.hid hgw;clear hgw;go_wp2_with fail;refine wp_loop_rounds 1 ?_;rw [rounds_succ];go_wp2_with fail
      go_end0
      exact ⟨rfl,HGW.out⟩
   ·have e1:(((m:Int) - (a:Int))==1)=false:=(by simp; omega);have e2:(((b:Int) - (m:Int))==1)=false:=(by simp; omega);obtain ⟨mid,hmid⟩:∃ mid,mid=(a+b) / 2:=⟨_,rfl⟩;have q1:IntKind.i64.wrap ((a:Int)+(b:Int))=(a:Int)+(b:Int):=IntWalk.i64_in _ (by omega);have q2:((a:Int)+(b:Int)) / 2=(mid:Int):=(by omega);have q3:a < mid∧mid < b∧2*mid≤a+b∧a+b≤2*mid+1:=(by omega);have HM1:=Lib.hid (And.intro h1 h2);clear h1 h2 hmid;obtain ⟨nn,hnn⟩:∃ nn,nn=mid+m:=⟨_,rfl⟩;have q4:(mid:Int)+(m:Int)=(nn:Int):=(by omega);have q5:IntKind.i64.wrap ((mid:Int)+(m:Int))=(nn:Int):=(by rw [IntWalk.i64_in _ (by omega)]; omega);obtain ⟨pp,hpp⟩:∃ pp,pp+1=nn:=⟨nn - 1,by omega⟩;have q6:(nn:Int) - 1=(pp:Int):=(by omega)
    by_cases hmm:mid < m
    ·obtain ⟨s0,hs0⟩:∃ s0,s0+b=nn:=⟨nn - b,by omega⟩;have q7:(nn:Int) - (b:Int)=(s0:Int):=(by omega);have HNN:=Lib.hid (And.intro hnn (And.intro hpp hs0));clear hnn hpp hs0;go_enter Tryz.func165,Tryz.ntmps165;go_wp2_with fail
     go_loopw [20,21] (fun x y wr=>∃ i:Nat,x=.int .i64 (i:Int)∧y=.int .i64 (mid:Int)∧s0≤i∧i≤mid∧Grw w wr) (fun x _ _=>mid - (intOf x).toNat)
     case atStart=>exact ⟨s0,rfl,rfl,Nat.le_refl _,by first | omega | (have:=HNN.out; omega),Grw.refl w⟩
     case round =>
      obtain ⟨i,rfl,rfl,hj1,hj2,hgw⟩:=hrel
      by_cases hjm:i < mid
      ·obtain ⟨h,hh⟩:∃ h,h=(i+mid) / 2:=⟨_,rfl⟩;have HH:=Lib.hid hh;have hhj:i≤h∧h < mid:=(by omega);obtain ⟨qq,hqq⟩:∃ qq,qq+h=pp:=⟨pp - h,by have:=HNN.out; omega⟩;have q11:IntKind.i64.wrap ((i:Int)+(mid:Int))=(i:Int)+(mid:Int):=IntWalk.i64_in _ (by omega);have q12:((i:Int)+(mid:Int)) / 2=(h:Int):=(by omega);have HQ:qq < n:=(by have:=HNN.out; omega);have HP:h < n:=(by omega);have HPQ:h < qq:=(by have:=HNN.out; omega);have q13:IntKind.i64.wrap ((pp:Int) - (h:Int))=(qq:Int):=(by rw [IntWalk.i64_in _ (by omega)]; omega);have i3:(qq:Int) < (n:Int):=(by omega);have i4:(h:Int) < (n:Int):=(by omega);have i5:(0:Int)≤(h:Int):=(by omega);have i6:(0:Int)≤(qq:Int):=(by omega);clear hh hqq;go_upto_region 35 with fail;obtain ⟨b1,o1,⟨r1,s1A,s1n,s1c⟩,⟨r1',k1⟩,hA1,-,hb1,hx1,⟨hr1,hs1⟩,hc1⟩:=HS.out.at_ (i:=qq) HQ;obtain ⟨b2,o2,⟨r2,s2A,s2n,s2c⟩,⟨r2',k2⟩,hA2,-,hb2,hx2,⟨hr2,hs2⟩,hc2⟩:=HS.out.at_ (i:=h) HP;simp only at hr1 hr2 hs1 hs2;obtain rfl:r1=r1':=hr1;obtain rfl:r2=r2':=hr2;subst hA1;simp only [Option.some.injEq,Addr.mk.injEq] at hA2;obtain ⟨rfl,rfl,-⟩:=hA2;have d1:=hc1 0 _ rfl;have d2:=hc1 1 _ rfl;have d3:=hc2 0 _ rfl;have d4:=hc2 1 _ rfl;simp only [FpE,Nat.add_zero] at d1 d2 d3 d4;have hbb:=(hgw.below).cell (p:=⟨b1,o1+qq*2,none⟩) (World.block_lt_of_cell? _ _ d1);obtain ⟨v,hv⟩:∃ v,v=pkCmp (r1,k1) (r2,k2):=⟨_,rfl⟩;have hv0:0≤v:=(by rw [hv]; exact HSO.out _ _ _ _ HPQ hx2 hx1);have hdr:=hgw.dr;have SOF:=Lib.hid (show ∀ w',Grw w w'→(w'.cell? ⟨b1,o1+qq*2,none⟩=some (.int .i64 r1)∧w'.cell? ⟨b1,o1+qq*2+1,none⟩=some (.slice s1A s1n s1c)∧w'.cell? ⟨b1,o1+h*2,none⟩=some (.int .i64 r2)∧w'.cell? ⟨b1,o1+h*2+1,none⟩=some (.slice s2A s2n s2c)∧Grw w w') from fun w' hb=>⟨(hb.below.cell hb1).trans d1,(hb.below.cell hb1).trans d2,(hb.below.cell hb1).trans d3,(hb.below.cell hb1).trans d4,hb⟩)
       have JC:=Lib.hid (show ∀ W,Grw w W→Calls Tryz.prog 97 #[.agg #[.int .i64 r1,.slice s1A s1n s1c],.agg #[.int .i64 r2,.slice s2A s2n s2c]] W (GrwI W v) from fun W hW=>by
        rw [hv]
        exact bpk_c r1 r2 s1A s2A s1n s1c s2n s2c k1 k2 W (hs1.via hW.below).intsIn (hs2.via hW.below).intsIn (HLN.out _ (List.mem_of_getElem? hx1)))
       clear hc1 hc2 hs1 hs2 hv d1 d2 d3 d4 hbb hx1 hx2 hb2
       go_region_held3 (fun w'=>w'.cell? ⟨b1,o1+qq*2,none⟩=some (.int .i64 r1)∧w'.cell? ⟨b1,o1+qq*2+1,none⟩=some (.slice s1A s1n s1c)∧w'.cell? ⟨b1,o1+h*2,none⟩=some (.int .i64 r2)∧w'.cell? ⟨b1,o1+h*2+1,none⟩=some (.slice s2A s2n s2c)∧Grw w w') (exact SOF.out _ (by assumption)) (first
        | (go_at_call 97; (with_reducible refine (JC.out _ (by assumption)).mono ?_); rintro ee wk ⟨rfl,hgo⟩; have hgk:Grw w wk:=Grw.trans (by assumption) hgo))
       have HGK:=Lib.hid hgk;clear hgo hgk hgw hdr SOF JC;go_wp2_with fail;rotate_left
       ·exfalso
        rename_i hf
        simp at hf;omega
       exact ⟨⟨h+1,by go_num,rfl,by omega,by omega,HGK.out⟩,by simp [intOf]; omega⟩
      ·obtain rfl:mid=i:=(by omega);have q9:(nn:Int) - (mid:Int)=(m:Int):=(by have:=HNN.out; omega);clear q1 q2 q4 q5 q6 q7;have i7:(mid:Int) < (m:Int):=(by omega);have i8:(m:Int) < (b:Int):=(by omega);have HGW:=Lib.hid hgw;clear hgw;go_wp2_with fail;refine (HIH.out mid m b _ (by omega) hmm hmb hbn (HW2.out.trans HGW.out)).mono ?_;rintro e w9 ⟨rfl,hg9⟩;go_wp2_with fail
       go_end0
       exact ⟨rfl,HGW.out.trans hg9⟩
    ·have hmm2:m≤mid:=(by omega);have i7:¬ (mid:Int) < (m:Int):=(by omega);have HNN:=Lib.hid (And.intro hnn hpp);clear hnn hpp hmm;go_enter Tryz.func165,Tryz.ntmps165;go_wp2_with fail
     go_loopw [20,21] (fun x y wr=>∃ i:Nat,x=.int .i64 (i:Int)∧y=.int .i64 (m:Int)∧a≤i∧i≤m∧Grw w wr) (fun x _ _=>m - (intOf x).toNat)
     case atStart=>exact ⟨a,rfl,rfl,Nat.le_refl _,by first | omega | (have:=HNN.out; omega),Grw.refl w⟩
     case round =>
      obtain ⟨i,rfl,rfl,hj1,hj2,hgw⟩:=hrel
      by_cases hjm:i < m
      ·obtain ⟨h,hh⟩:∃ h,h=(i+m) / 2:=⟨_,rfl⟩;have HH:=Lib.hid hh;have hhj:i≤h∧h < m:=(by omega);obtain ⟨qq,hqq⟩:∃ qq,qq+h=pp:=⟨pp - h,by have:=HNN.out; omega⟩;have q11:IntKind.i64.wrap ((i:Int)+(m:Int))=(i:Int)+(m:Int):=IntWalk.i64_in _ (by omega);have q12:((i:Int)+(m:Int)) / 2=(h:Int):=(by omega);have HQ:qq < n:=(by have:=HNN.out; omega);have HP:h < n:=(by omega);have HPQ:h < qq:=(by have:=HNN.out; omega);have q13:IntKind.i64.wrap ((pp:Int) - (h:Int))=(qq:Int):=(by rw [IntWalk.i64_in _ (by omega)]; omega);have i3:(qq:Int) < (n:Int):=(by omega);have i4:(h:Int) < (n:Int):=(by omega);have i5:(0:Int)≤(h:Int):=(by omega);have i6:(0:Int)≤(qq:Int):=(by omega);clear hh hqq;go_upto_region 35 with fail;obtain ⟨b1,o1,⟨r1,s1A,s1n,s1c⟩,⟨r1',k1⟩,hA1,-,hb1,hx1,⟨hr1,hs1⟩,hc1⟩:=HS.out.at_ (i:=qq) HQ;obtain ⟨b2,o2,⟨r2,s2A,s2n,s2c⟩,⟨r2',k2⟩,hA2,-,hb2,hx2,⟨hr2,hs2⟩,hc2⟩:=HS.out.at_ (i:=h) HP;simp only at hr1 hr2 hs1 hs2;obtain rfl:r1=r1':=hr1;obtain rfl:r2=r2':=hr2;subst hA1;simp only [Option.some.injEq,Addr.mk.injEq] at hA2;obtain ⟨rfl,rfl,-⟩:=hA2;have d1:=hc1 0 _ rfl;have d2:=hc1 1 _ rfl;have d3:=hc2 0 _ rfl;have d4:=hc2 1 _ rfl;simp only [FpE,Nat.add_zero] at d1 d2 d3 d4;have hbb:=(hgw.below).cell (p:=⟨b1,o1+qq*2,none⟩) (World.block_lt_of_cell? _ _ d1);obtain ⟨v,hv⟩:∃ v,v=pkCmp (r1,k1) (r2,k2):=⟨_,rfl⟩;have hv0:0≤v:=(by rw [hv]; exact HSO.out _ _ _ _ HPQ hx2 hx1);have hdr:=hgw.dr;have SOF:=Lib.hid (show ∀ w',Grw w w'→(w'.cell? ⟨b1,o1+qq*2,none⟩=some (.int .i64 r1)∧w'.cell? ⟨b1,o1+qq*2+1,none⟩=some (.slice s1A s1n s1c)∧w'.cell? ⟨b1,o1+h*2,none⟩=some (.int .i64 r2)∧w'.cell? ⟨b1,o1+h*2+1,none⟩=some (.slice s2A s2n s2c)∧Grw w w') from fun w' hb=>⟨(hb.below.cell hb1).trans d1,(hb.below.cell hb1).trans d2,(hb.below.cell hb1).trans d3,(hb.below.cell hb1).trans d4,hb⟩)
       have JC:=Lib.hid (show ∀ W,Grw w W→Calls Tryz.prog 97 #[.agg #[.int .i64 r1,.slice s1A s1n s1c],.agg #[.int .i64 r2,.slice s2A s2n s2c]] W (GrwI W v) from fun W hW=>by
        rw [hv]
        exact bpk_c r1 r2 s1A s2A s1n s1c s2n s2c k1 k2 W (hs1.via hW.below).intsIn (hs2.via hW.below).intsIn (HLN.out _ (List.mem_of_getElem? hx1)))
       clear hc1 hc2 hs1 hs2 hv d1 d2 d3 d4 hbb hx1 hx2 hb2
       go_region_held3 (fun w'=>w'.cell? ⟨b1,o1+qq*2,none⟩=some (.int .i64 r1)∧w'.cell? ⟨b1,o1+qq*2+1,none⟩=some (.slice s1A s1n s1c)∧w'.cell? ⟨b1,o1+h*2,none⟩=some (.int .i64 r2)∧w'.cell? ⟨b1,o1+h*2+1,none⟩=some (.slice s2A s2n s2c)∧Grw w w') (exact SOF.out _ (by assumption)) (first
        | (go_at_call 97; (with_reducible refine (JC.out _ (by assumption)).mono ?_); rintro ee wk ⟨rfl,hgo⟩; have hgk:Grw w wk:=Grw.trans (by assumption) hgo))
       have HGK:=Lib.hid hgk;clear hgo hgk hgw hdr SOF JC;go_wp2_with fail;rotate_left
       ·exfalso
        rename_i hf
        simp at hf;omega
       exact ⟨⟨h+1,by go_num,rfl,by omega,by omega,HGK.out⟩,by simp [intOf]; omega⟩
      ·obtain rfl:m=i:=(by omega);have q9:(nn:Int) - (m:Int)=(mid:Int):=(by have:=HNN.out; omega);clear q1 q2 q4 q5 q6;have i8:(a:Int) < (m:Int):=(by omega);have HGW:=Lib.hid hgw;clear hgw
       by_cases hml:m < mid
       ·have i9:(m:Int) < (mid:Int):=(by omega);go_wp2_with fail;refine (HIH.out a m mid _ (by omega) ham hml (by omega) (HW2.out.trans HGW.out)).mono ?_;rintro e w9 ⟨rfl,hg9⟩;go_wp2_with fail
        go_end0
        exact ⟨rfl,HGW.out.trans hg9⟩
       ·have i9:¬ (m:Int) < (mid:Int):=(by omega);go_wp2_with fail
        go_end0
        exact ⟨rfl,HGW.out⟩
end Go.Proofs.YtfcihnpmeabacaaGreatDoor
