/- Texts MA, MC, laid together. -/
import Derived.Test.YtfcihnpmeabacaaGreatDoorW21
namespace Go.Proofs.YtfcihnpmeabacaaGreatDoor
open Go.RowKit
def prodC (f:Nat→Int) (ks:List Int) (x:Int):Int:=ks.foldl (fun x k=>min (x*f k.toNat) 1000000000) x
def sumC (f:Nat→Int) (ps:List PkI) (c:Int):Int:=ps.foldl (fun c p=>min (c+prodC f p.2 1) 1000000000) c
def c0 (nd:List NdI) (v:Nat):Int:=if (ndAt nd v).1.1=true then 1 else 0
inductive CntR (nd:List NdI):Nat→Int→Prop
 | mk (v:Nat) (f:Nat→Int) (h:∀ p∈(ndAt nd v).2,∀ k∈p.2,CntR nd k.toNat (f k.toNat)):CntR nd v (sumC f (ndAt nd v).2 (c0 nd v))
theorem prodC_congr {f g:Nat→Int}:∀ {ks:List Int} (x:Int),(∀ k∈ks,f k.toNat=g k.toNat)→prodC f ks x=prodC g ks x
 | [],x,h=>rfl
 | k::ks,x,h=>by
  unfold prodC;rw [List.foldl_cons,List.foldl_cons,h k (List.mem_cons_self ..)];exact prodC_congr (ks:=ks) _ fun q hq=>h q (List.mem_cons_of_mem _ hq)
theorem sumC_congr {f g:Nat→Int}:∀ {ps:List PkI} (c:Int),(∀ p∈ps,∀ k∈p.2,f k.toNat=g k.toNat)→sumC f ps c=sumC g ps c
 | [],c,h=>rfl
 | p::ps,c,h=>by
  unfold sumC;rw [List.foldl_cons,List.foldl_cons,prodC_congr 1 (h p (List.mem_cons_self ..))];exact sumC_congr (ps:=ps) _ fun q hq=>h q (List.mem_cons_of_mem _ hq)
theorem CntR.uniq {nd:List NdI} {v:Nat} {c d:Int} (h:CntR nd v c) (h':CntR nd v d):c=d:=by
 induction h generalizing d with
 | mk v f hf ih =>
  cases h' with
  | mk _ g hg=>exact sumC_congr _ fun p hp k hk=>ih p hp k hk (hg p hp k hk)
def KidR (nd:List NdI) (v k:Nat):Prop:=∃ p∈(ndAt nd v).2,∃ q∈p.2,q.toNat=k
theorem CntR.kid {nd:List NdI} {v k:Nat} {c:Int} (h:CntR nd v c) (hk:KidR nd v k):∃ d,CntR nd k d:=by
 obtain ⟨p,hp,q,hq,rfl⟩:=hk;cases h with
 | mk _ f hf=>exact ⟨_,hf p hp q hq⟩
inductive DownR (nd:List NdI):Nat→Nat→Prop
 | one (v k:Nat) (h:KidR nd v k):DownR nd v k
 | more (v u k:Nat) (h:DownR nd v u) (h2:KidR nd u k):DownR nd v k
theorem DownR.trans {nd:List NdI} {a b c:Nat} (h:DownR nd a b) (k:DownR nd b c):DownR nd a c:=by
 induction k with
 | one k h1=>exact .more _ _ _ h h1
 | more u k _ h2 ih=>exact .more _ _ _ ih h2
theorem CntR.noLoop {nd:List NdI} {v:Nat} {c:Int} (h:CntR nd v c):¬ DownR nd v v:=by
 have key:∀ {v:Nat} {c:Int},CntR nd v c→∀ u,(u=v∨DownR nd v u)→¬ DownR nd u u:=by
  intro v c h
  induction h with
  | mk v f hf ih =>
   intro u hu hd
   have kidOf:∀ a b,DownR nd a b→∃ k,KidR nd a k∧(k=b∨DownR nd k b):=by
    intro a b hab
    induction hab with
    | one k h=>exact ⟨k,h,Or.inl rfl⟩
    | more u k _ h2 ih =>
     obtain ⟨q,h3,h4⟩:=ih;refine ⟨q,h3,Or.inr ?_⟩
     rcases h4 with rfl | h4
     ·exact .one _ _ h2
     ·exact .more _ _ _ h4 h2
   have kid:∀ k,KidR nd v k→∀ u,(u=k∨DownR nd k u)→¬ DownR nd u u:=by
    rintro k ⟨p,hp,q,hq,rfl⟩;exact ih p hp q hq
   rcases hu with rfl | hu
   ·obtain ⟨k,h1,h2⟩:=kidOf _ _ hd
    rcases h2 with rfl | h2
    ·exact kid k h1 k (Or.inl rfl) hd
    ·exact kid k h1 u (Or.inr h2) hd
   ·obtain ⟨k,h1,h2⟩:=kidOf _ _ hu
    rcases h2 with rfl | h2
    ·exact kid k h1 k (Or.inl rfl) hd
    ·exact kid k h1 u (Or.inr h2) hd
 exact key h v (Or.inl rfl)
theorem CntR.down {nd:List NdI} {v k:Nat} {c:Int} (h:CntR nd v c) (hd:DownR nd v k):∃ d,CntR nd k d:=by
 induction hd with
 | one k h1=>exact h.kid h1
 | more u k _ h2 ih=>obtain ⟨d,hd⟩:=ih; exact hd.kid h2
abbrev stOf (st:CSt) (u:Nat):Int:=st.2.getD u 0
abbrev cnOf (st:CSt) (u:Nat):Int:=st.1.getD u 0
structure VInv (nd:List NdI) (st:CSt):Prop where
 good:CGood nd.length st
 three:∀ u,stOf st u=0∨stOf st u=1∨stOf st u=2
 zero:∀ u,stOf st u=0→cnOf st u=0
 done:∀ u,stOf st u=2→CntR nd u (cnOf st u)
structure VExt (st st':CSt):Prop where
 keep:∀ u,stOf st u≠0→stOf st' u=stOf st u∧cnOf st' u=cnOf st u
 fresh:∀ u,stOf st u=0→stOf st' u=0∨stOf st' u=2
theorem VExt.refl (st:CSt):VExt st st:=⟨fun _ _=>⟨rfl,rfl⟩,fun _ h=>Or.inl h⟩
theorem VExt.trans {a b c:CSt} (h:VExt a b) (k:VExt b c):VExt a c:=by
 refine ⟨fun u hu=>?_,fun u hu=>?_⟩
 ·obtain ⟨h1,h2⟩:=h.keep u hu;obtain ⟨k1,k2⟩:=k.keep u (by rw [h1]; exact hu);exact ⟨k1.trans h1,k2.trans h2⟩
 ·rcases h.fresh u hu with h1 | h1
  ·exact k.fresh u h1
  ·right; rw [(k.keep u (by rw [h1]; decide)).1,h1]
def Above (nd:List NdI) (st:CSt) (v:Nat):Prop:=∀ u,stOf st u=1→DownR nd u v
def VSpec (nd:List NdI) (f:Nat→CSt→Bool×CSt) (z:Nat):Prop:=∀ v st,zer st.2 < z→v < nd.length→VInv nd st→Above nd st v →
 ((f v st).1=true→VInv nd (f v st).2∧VExt st (f v st).2∧stOf (f v st).2 v=2)∧((f v st).1=false→¬ ∃ c,CntR nd v c)
theorem Above.ext {nd:List NdI} {st st':CSt} {v:Nat} (h:Above nd st v) (k:VExt st st'):Above nd st' v:=by
 intro u hu
 by_cases h0:stOf st u=0
 ·rcases k.fresh u h0 with h1 | h1
  ·rw [h1] at hu; exact absurd hu (by decide)
  ·rw [h1] at hu; exact absurd hu (by decide)
 ·exact h u (by rw [← (k.keep u h0).1]; exact hu)
theorem VExt.zer {st st':CSt} {n:Nat} (h:VExt st st') (hl:st.2.length=n) (hl':st'.2.length=n):zer st'.2≤zer st.2:=by
 have key:∀ (a b:List Int),a.length=b.length→(∀ u,a.getD u 0≠0→b.getD u 0=a.getD u 0)→(∀ u,a.getD u 0=0→b.getD u 0=0∨b.getD u 0=2)→Proofs.YtfcihnpmeabacaaGreatDoor.zer b≤Proofs.YtfcihnpmeabacaaGreatDoor.zer a:=by
  intro a
  induction a with
  | nil=>intro b hb _ _; rw [List.eq_nil_of_length_eq_zero hb.symm]; exact Nat.le_refl _
  | cons x a ih =>
   intro b hb h1 h2;cases b with
   | nil=>simp at hb
   | cons y b =>
    have e:=ih b (by simpa using hb) (fun u hu=>by have:=h1 (u+1); simpa using this (by simpa using hu)) (fun u hu=>by have:=h2 (u+1); simpa using this (by simpa using hu));have a0:=h1 0;have b0:=h2 0;simp only [List.getD_cons_zero] at a0 b0;unfold Proofs.YtfcihnpmeabacaaGreatDoor.zer at e ⊢;rw [List.countP_cons,List.countP_cons]
    by_cases hx:x=0
    ·subst hx;have d2:decide (¬ (0:Int) < 2)=false:=(by decide)
     rcases b0 rfl with rfl | rfl
     ·exact Nat.add_le_add_right e _
     ·rw [d2,if_neg (by decide)];exact Nat.le_trans e (Nat.le_add_right _ _)
    ·rw [a0 hx]; omega
 exact key st.2 st'.2 (by omega) (fun u hu=>(h.keep u hu).1) h.fresh
theorem kidsV_spec {nd:List NdI} {f:Nat→CSt→Bool×CSt} {z:Nat} (hf:VSpec nd f z):∀ (ks:List Int) (x:Int) (st:CSt),zer st.2 < z→(∀ k∈ks,k.toNat < nd.length)→VInv nd st→(∀ k∈ks,Above nd st k.toNat) →
 ((kidsV f ks x st).1=true→VInv nd (kidsV f ks x st).2.2∧VExt st (kidsV f ks x st).2.2∧(∀ k∈ks,stOf (kidsV f ks x st).2.2 k.toNat=2)∧(kidsV f ks x st).2.1=prodC (cnOf (kidsV f ks x st).2.2) ks x) ∧
 ((kidsV f ks x st).1=false→∃ k∈ks,¬ ∃ c,CntR nd k.toNat c)
 | [],x,st,_,_,hi,_=>⟨fun _=>⟨hi,VExt.refl _,fun k hk=>absurd hk List.not_mem_nil,rfl⟩,fun h=>by simp [kidsV] at h⟩
 | k::ks,x,st,hz,hk,hi,ha=>by
  obtain ⟨h1,h2⟩:=hf k.toNat st hz (hk k (List.mem_cons_self ..)) hi (ha k (List.mem_cons_self ..));unfold kidsV
  by_cases hv:(f k.toNat st).1=true
  ·rw [if_pos hv];obtain ⟨i1,e1,d1⟩:=h1 hv;have hz1:=e1.zer (n:=nd.length) hi.good.sl i1.good.sl;obtain ⟨r1,r2⟩:=kidsV_spec hf ks (min (x*(f k.toNat st).2.1.getD k.toNat 0) 1000000000) (f k.toNat st).2 (by omega) (fun q hq=>hk q (List.mem_cons_of_mem _ hq)) i1 (fun q hq=>(ha q (List.mem_cons_of_mem _ hq)).ext e1);refine ⟨fun h=>?_,fun h=>?_⟩
   ·obtain ⟨a,b,c,d⟩:=r1 h;have hk2:=b.keep k.toNat (by rw [d1]; decide);refine ⟨a,e1.trans b,fun q hq=>?_,?_⟩
    ·rcases List.mem_cons.1 hq with rfl | hq
     ·rw [hk2.1,d1]
     ·exact c q hq
    ·rw [d];unfold prodC;rw [List.foldl_cons,hk2.2]
   ·obtain ⟨q,hq,hn⟩:=r2 h;exact ⟨q,List.mem_cons_of_mem _ hq,hn⟩
  ·have hv:(f k.toNat st).1=false:=(by simpa using hv);rw [if_neg (by rw [hv]; decide)];exact ⟨fun h=>by simp at h,fun _=>⟨k,List.mem_cons_self ..,h2 hv⟩⟩
theorem getD_set_eq (l:List Int) (v:Nat) (c:Int) (h:v < l.length):(l.set v c).getD v 0=c:=by
 rw [List.getD_eq_getElem?_getD,List.getElem?_set_self h]; rfl
theorem getD_set_ne (l:List Int) (v u:Nat) (c:Int) (h:u≠v):(l.set v c).getD u 0=l.getD u 0:=by
 rw [List.getD_eq_getElem?_getD,List.getD_eq_getElem?_getD,List.getElem?_set_ne (Ne.symm h)]
theorem VInv.setC {nd:List NdI} {st:CSt} (h:VInv nd st) (v:Nat) (hv:stOf st v=1) {c:Int} (h0:0≤c) (h1:c≤1000000000):VInv nd (st.1.set v c,st.2) :=
 ⟨h.good.setC v h0 h1,h.three,fun u hu=>by
  have hne:u≠v:=fun e=>by rw [e] at hu; have:stOf st v=0:=hu; omega
  show (st.1.set v c).getD u 0=0
  rw [getD_set_ne _ _ _ _ hne]; exact h.zero u hu,fun u hu=>by
  have hne:u≠v:=fun e=>by rw [e] at hu; have:stOf st v=2:=hu; omega
  show CntR nd u ((st.1.set v c).getD u 0)
  rw [getD_set_ne _ _ _ _ hne]; exact h.done u hu⟩
structure VExtB (v:Nat) (st st':CSt):Prop where
 keep:∀ u,u≠v→stOf st u≠0→stOf st' u=stOf st u∧cnOf st' u=cnOf st u
 fresh:∀ u,stOf st u=0→stOf st' u=0∨stOf st' u=2
 own:stOf st' v=stOf st v
theorem packsV_spec {nd:List NdI} {f:Nat→CSt→Bool×CSt} {z:Nat} (hf:VSpec nd f z) (v:Nat) (hv:v < nd.length):∀ (ps:List PkI) (st:CSt),zer st.2 < z→(∀ p∈ps,∀ k∈p.2,0≤k∧k.toNat < nd.length)→VInv nd st→stOf st v=1→(∀ p∈ps,∀ k∈p.2,Above nd st k.toNat) →
 ((packsV f v ps st).1=true→VInv nd (packsV f v ps st).2∧VExtB v st (packsV f v ps st).2∧(∀ p∈ps,∀ k∈p.2,stOf (packsV f v ps st).2 k.toNat=2)∧cnOf (packsV f v ps st).2 v=sumC (cnOf (packsV f v ps st).2) ps (cnOf st v)) ∧
 ((packsV f v ps st).1=false→∃ p∈ps,∃ k∈p.2,¬ ∃ c,CntR nd k.toNat c)
 | [],st,_,_,hi,h1,_=>⟨fun _=>⟨hi,⟨fun _ _ _=>⟨rfl,rfl⟩,fun _ h=>Or.inl h,rfl⟩,fun p hp=>absurd hp List.not_mem_nil,rfl⟩,fun h=>by simp [packsV] at h⟩
 | p::ps,st,hz,hk,hi,h1,ha=>by
  obtain ⟨k1,k2⟩:=kidsV_spec hf p.2 1 st hz (fun k hq=>(hk p (List.mem_cons_self ..) k hq).2) hi (ha p (List.mem_cons_self ..));unfold packsV
  by_cases hx:(kidsV f p.2 1 st).1=true
  ·rw [if_pos hx];obtain ⟨i1,e1,d1,x1⟩:=k1 hx;have hv1:stOf (kidsV f p.2 1 st).2.2 v=1:=(by rw [(e1.keep v (by rw [h1]; decide)).1,h1]);have hcv:cnOf (kidsV f p.2 1 st).2.2 v=cnOf st v:=(e1.keep v (by rw [h1]; decide)).2;have hz1:=e1.zer (n:=nd.length) hi.good.sl i1.good.sl;have hb:=i1.good.at_ v
   have hpb:0≤(kidsV f p.2 1 st).2.1:=by
    have hpos:∀ (g:Nat→Int),(∀ u,0≤g u)→∀ (ks:List Int) (x:Int),0≤x→0≤prodC g ks x:=by
     intro g hg ks
     induction ks with
     | nil=>intro x hx; exact hx
     | cons a ks ih =>
      intro x hx;unfold prodC;rw [List.foldl_cons];exact ih _ (by have:=Int.mul_nonneg hx (hg a.toNat); omega)
    rw [x1]; exact hpos _ (fun u=>(i1.good.at_ u).1) _ 1 (by omega)
   have i2:VInv nd ((kidsV f p.2 1 st).2.2.1.set v (min ((kidsV f p.2 1 st).2.2.1.getD v 0+(kidsV f p.2 1 st).2.1) 1000000000),(kidsV f p.2 1 st).2.2.2) :=
    i1.setC v hv1 (by have:=hb.1; omega) (by omega)
   have hlen:v < (kidsV f p.2 1 st).2.2.1.length:=(by rw [i1.good.cl]; exact hv);have e2:∀ u,u≠v→cnOf ((kidsV f p.2 1 st).2.2.1.set v (min ((kidsV f p.2 1 st).2.2.1.getD v 0+(kidsV f p.2 1 st).2.1) 1000000000),(kidsV f p.2 1 st).2.2.2) u=cnOf (kidsV f p.2 1 st).2.2 u:=fun u hu=>getD_set_ne _ _ _ _ hu
   obtain ⟨r1,r2⟩:=packsV_spec hf v hv ps ((kidsV f p.2 1 st).2.2.1.set v (min ((kidsV f p.2 1 st).2.2.1.getD v 0+(kidsV f p.2 1 st).2.1) 1000000000),(kidsV f p.2 1 st).2.2.2) (by show zer (kidsV f p.2 1 st).2.2.2 < z; omega) (fun q hq=>hk q (List.mem_cons_of_mem _ hq)) i2 hv1 (fun q hq k hkq u hu=>((ha q (List.mem_cons_of_mem _ hq) k hkq).ext e1) u hu);refine ⟨fun h=>?_,fun h=>?_⟩
   ·obtain ⟨a,b,c,d⟩:=r1 h;have hkv:∀ k∈p.2,k.toNat≠v:=fun k hkp e=>by have:=d1 k hkp; rw [e,hv1] at this; exact absurd this (by decide)
    refine ⟨a,⟨fun u hu h0=>?_,fun u h0=>?_,b.own.trans hv1 |>.trans h1.symm⟩,fun q hq k hkq=>?_,?_⟩
    ·obtain ⟨g1,g2⟩:=e1.keep u h0;obtain ⟨g3,g4⟩:=b.keep u hu (by show stOf (kidsV f p.2 1 st).2.2 u≠0; rw [g1]; exact h0);exact ⟨g3.trans g1,g4.trans ((e2 u hu).trans g2)⟩
    ·rcases e1.fresh u h0 with g | g
     ·exact b.fresh u g
     ·right
      have hne:u≠v:=fun e=>by rw [e] at h0; omega
      rw [(b.keep u hne (by show stOf (kidsV f p.2 1 st).2.2 u≠0; rw [g]; decide)).1]; exact g
    ·rcases List.mem_cons.1 hq with rfl | hq
     ·rw [(b.keep _ (hkv k hkq) (by show stOf (kidsV f q.2 1 st).2.2 k.toNat≠0; rw [d1 k hkq]; decide)).1]; exact d1 k hkq
     ·exact c q hq k hkq
    ·rw [d];unfold sumC;rw [List.foldl_cons]
     have hp:prodC (cnOf (kidsV f p.2 1 st).2.2) p.2 1=prodC (cnOf (packsV f v ps ((kidsV f p.2 1 st).2.2.1.set v (min ((kidsV f p.2 1 st).2.2.1.getD v 0+(kidsV f p.2 1 st).2.1) 1000000000),(kidsV f p.2 1 st).2.2.2)).2) p.2 1 :=
      prodC_congr 1 fun k hkp=>by
       rw [(b.keep _ (hkv k hkp) (by show stOf (kidsV f p.2 1 st).2.2 k.toNat≠0; rw [d1 k hkp]; decide)).2,e2 _ (hkv k hkp)]
     rw [← hp,← x1,← hcv];have:cnOf ((kidsV f p.2 1 st).2.2.1.set v (min ((kidsV f p.2 1 st).2.2.1.getD v 0+(kidsV f p.2 1 st).2.1) 1000000000),(kidsV f p.2 1 st).2.2.2) v=min ((kidsV f p.2 1 st).2.2.1.getD v 0+(kidsV f p.2 1 st).2.1) 1000000000:=getD_set_eq _ _ _ hlen;rw [this]
   ·obtain ⟨q,hq,k,hkq,hn⟩:=r2 h;exact ⟨q,List.mem_cons_of_mem _ hq,k,hkq,hn⟩
  ·have hx:(kidsV f p.2 1 st).1=false:=(by simpa using hx);rw [if_neg (by rw [hx]; decide)];refine ⟨fun h=>by simp at h,fun _=>?_⟩;obtain ⟨k,hkp,hn⟩:=k2 hx;exact ⟨p,List.mem_cons_self ..,k,hkp,hn⟩
theorem visV_spec {nd:List NdI} (hk:KidsIn nd):∀ d,VSpec nd (visV nd d) d
 | 0=>fun v st h=>absurd h (Nat.not_lt_zero _)
 | d+1=>fun v st hz hv hi ha=>by
  unfold visV
  by_cases h0:0 < st.2.getD v 0
  ·rw [if_pos h0];refine ⟨fun h=>⟨hi,VExt.refl _,by simpa using h⟩,fun h=>?_⟩;have h2:¬ stOf st v=2:=(by simpa using h)
   have h1:stOf st v=1:=by
    rcases hi.three v with e | e | e
    ·have:stOf st v=st.2.getD v 0:=rfl; omega
    ·exact e
    ·exact absurd e h2
   rintro ⟨c,hc⟩;exact hc.noLoop (ha v h1)
  ·rw [if_neg h0]
   have hs0:stOf st v=0:=by
    rcases hi.three v with e | e | e
    ·exact e
    ·have:stOf st v=st.2.getD v 0:=rfl; omega
    ·have:stOf st v=st.2.getD v 0:=rfl; omega
   have hls:v < st.2.length:=(by rw [hi.good.sl]; exact hv);have hlc:v < st.1.length:=(by rw [hi.good.cl]; exact hv)
   have so:∀ u,stOf (opn nd v st) u=if u=v then 1 else stOf st u:=fun u=>by
    show (st.2.set v 1).getD u 0=_
    by_cases e:u=v
    ·rw [if_pos e,e]; exact getD_set_eq _ _ _ hls
    ·rw [if_neg e]; exact getD_set_ne _ _ _ _ e
   have co:∀ u,u≠v→cnOf (opn nd v st) u=cnOf st u:=fun u hu=>by
    show (opn nd v st).1.getD u 0=_
    unfold opn; dsimp only
    split
    ·exact getD_set_ne _ _ _ _ hu
    ·rfl
   have cv:cnOf (opn nd v st) v=c0 nd v:=by
    show (opn nd v st).1.getD v 0=_
    unfold opn c0; dsimp only
    split
    ·exact getD_set_eq _ _ _ hlc
    ·exact hi.zero v hs0
   have io:VInv nd (opn nd v st):=⟨hi.good.opn,fun u=>by
    rw [so]; split
    ·exact Or.inr (Or.inl rfl)
    ·exact hi.three u,fun u hu=>by
    rw [so] at hu
    by_cases e:u=v
    ·rw [if_pos e] at hu; exact absurd hu (by decide)
    ·rw [if_neg e] at hu; rw [co u e]; exact hi.zero u hu,fun u hu=>by
    rw [so] at hu
    by_cases e:u=v
    ·rw [if_pos e] at hu; exact absurd hu (by decide)
    ·rw [if_neg e] at hu; rw [co u e]; exact hi.done u hu⟩
   have hzo:zer (opn nd v st).2 < d:=by
    have:=zer_set_lt st.2 v 1 (by omega) hls h0;show zer (st.2.set v 1) < d
    omega
   have hin:=hk.at_ v
   have ao:∀ p∈(ndAt nd v).2,∀ k∈p.2,Above nd (opn nd v st) k.toNat:=fun p hp k hkp u hu=>by
    have hkid:KidR nd v k.toNat:=⟨p,hp,k,hkp,rfl⟩;rw [so] at hu
    by_cases e:u=v
    ·rw [e]; exact .one _ _ hkid
    ·rw [if_neg e] at hu; exact .more _ _ _ (ha u hu) hkid
   obtain ⟨r1,r2⟩:=packsV_spec (visV_spec hk d) v hv (ndAt nd v).2 (opn nd v st) hzo (fun p hp k hkp=>⟨(hin p hp k hkp).1,by have:=hin p hp k hkp; omega⟩) io (by rw [so,if_pos rfl]) ao
   by_cases hx:(packsV (visV nd d) v (ndAt nd v).2 (opn nd v st)).1=true
   ·rw [if_pos hx];refine ⟨fun _=>?_,fun h=>by simp at h⟩;obtain ⟨a,b,c,e⟩:=r1 hx;have hl2:v < (packsV (visV nd d) v (ndAt nd v).2 (opn nd v st)).2.2.length:=(by rw [a.good.sl]; exact hv)
    have s2:∀ u,stOf ((packsV (visV nd d) v (ndAt nd v).2 (opn nd v st)).2.1,(packsV (visV nd d) v (ndAt nd v).2 (opn nd v st)).2.2.set v 2) u=if u=v then 2 else stOf (packsV (visV nd d) v (ndAt nd v).2 (opn nd v st)).2 u:=fun u=>by
     show ((packsV (visV nd d) v (ndAt nd v).2 (opn nd v st)).2.2.set v 2).getD u 0=_
     by_cases e:u=v
     ·rw [if_pos e,e]; exact getD_set_eq _ _ _ hl2
     ·rw [if_neg e]; exact getD_set_ne _ _ _ _ e
    have hcv:CntR nd v (cnOf (packsV (visV nd d) v (ndAt nd v).2 (opn nd v st)).2 v):=by
     rw [e,cv];exact .mk v _ fun p hp k hkp=>a.done _ (c p hp k hkp)
    refine ⟨⟨a.good.setS v 2,fun u=>?_,fun u hu=>?_,fun u hu=>?_⟩,⟨fun u hu=>?_,fun u hu=>?_⟩,by rw [s2,if_pos rfl]⟩
    ·rw [s2]; split
     ·exact Or.inr (Or.inr rfl)
     ·exact a.three u
    ·rw [s2] at hu
     by_cases e:u=v
     ·rw [if_pos e] at hu; exact absurd hu (by decide)
     ·rw [if_neg e] at hu; exact a.zero u hu
    ·rw [s2] at hu
     by_cases e:u=v
     ·rw [e]; exact hcv
     ·rw [if_neg e] at hu; exact a.done u hu
    ·have hne:u≠v:=fun e=>hu (by rw [e]; exact hs0)
     have h3:stOf (opn nd v st) u=stOf st u:=(by rw [so,if_neg hne]);obtain ⟨g1,g2⟩:=b.keep u hne (by rw [h3]; exact hu);exact ⟨by rw [s2,if_neg hne,g1,h3],g2.trans (co u hne)⟩
    ·rw [s2]
     by_cases e:u=v
     ·rw [if_pos e]; exact Or.inr rfl
     ·rw [if_neg e]; exact b.fresh u (by rw [so,if_neg e]; exact hu)
   ·have hx:(packsV (visV nd d) v (ndAt nd v).2 (opn nd v st)).1=false:=(by simpa using hx);rw [if_neg (by rw [hx]; decide)];refine ⟨fun h=>by simp at h,fun _=>?_⟩;obtain ⟨p,hp,k,hkp,hn⟩:=r2 hx;rintro ⟨c,hc⟩;exact hn (hc.kid ⟨p,hp,k,hkp,rfl⟩)
theorem cntV_iff {nd:List NdI} (hk:KidsIn nd) {r:Int} (h0:0≤r) (h1:r.toNat < nd.length):(∃ c,CntR nd r.toNat c∧cntV (r,nd)=c)∨((¬ ∃ c,CntR nd r.toNat c)∧cntV (r,nd)=-1):=by
 have hz:∀ n:Nat,zer (List.replicate n 0)=n:=fun n=>by
  induction n with
  | zero=>rfl
  | succ n ih=>unfold zer at ih ⊢; rw [List.replicate_succ,List.countP_cons,ih]; simp
 have hg:∀ (n u:Nat),(List.replicate n (0:Int)).getD u 0=0:=fun n u=>by
  rw [List.getD_eq_getElem?_getD,List.getElem?_replicate]; split <;> rfl
 have hi:VInv nd (List.replicate nd.length 0,List.replicate nd.length 0) :=
  ⟨⟨by simp,by simp,fun c hc=>by have:=List.eq_of_mem_replicate hc; omega⟩,fun u=>Or.inl (hg _ u),fun u _=>hg _ u,fun u hu=>by
   have:(List.replicate nd.length (0:Int)).getD u 0=2:=hu
   rw [hg] at this; exact absurd this (by decide)⟩
 obtain ⟨r1,r2⟩:=visV_spec hk (nd.length+1) r.toNat (List.replicate nd.length 0,List.replicate nd.length 0) (by rw [hz]; omega) h1 hi (fun u hu=>by
  have:(List.replicate nd.length (0:Int)).getD u 0=1:=hu
  rw [hg] at this; exact absurd this (by decide))
 unfold cntV;rw [if_neg (by omega)]
 by_cases hv:(visV nd (nd.length+1) r.toNat (List.replicate nd.length 0,List.replicate nd.length 0)).1=true
 ·left
  obtain ⟨a,b,c⟩:=r1 hv;refine ⟨_,a.done _ c,?_⟩;rw [if_pos hv]
 ·right
  have hv':(visV nd (nd.length+1) r.toNat (List.replicate nd.length 0,List.replicate nd.length 0)).1=false:=(by simpa using hv);exact ⟨r2 hv',by rw [if_neg hv]⟩
end Go.Proofs.YtfcihnpmeabacaaGreatDoor
namespace Go.Proofs.YtfcihnpmeabacaaGreatDoor
open Go.RowKit
def prodK (f:Ky→Int) (ks:List Ky) (x:Int):Int:=ks.foldl (fun x k=>min (x*f k) 1000000000) x
def sumK (f:Ky→Int) (ps:List (Nat×List Ky)) (c:Int):Int:=ps.foldl (fun c p=>min (c+prodK f p.2 1) 1000000000) c
inductive CntS (P:Ky→List (Nat×List Ky)):Ky→Int→Prop
 | mk (k:Ky) (f:Ky→Int) (h:∀ p∈P k,∀ q∈p.2,CntS P q (f q)):CntS P k (sumK f (P k) (if k.1.1=true then 1 else 0))
theorem prodC_map (f:Nat→Int) (L:List Ky):∀ (ks:List Ky) (x:Int),prodC f (intsN (ks.map (idxK L))) x=prodK (fun q=>f (idxK L q)) ks x
 | [],x=>rfl
 | k::ks,x=>by
  have:=prodC_map f L ks (min (x*f (idxK L k)) 1000000000);unfold prodC prodK at this ⊢;simp only [intsN,List.map_cons,List.foldl_cons,Int.toNat_natCast] at this ⊢;exact this
theorem sumC_map (f:Nat→Int) (L:List Ky):∀ (ps:List (Nat×List Ky)) (c:Int),sumC f ((ps.map fun p=>(p.1,p.2.map (idxK L))).map fun p=>((p.1:Int),intsN p.2)) c=sumK (fun q=>f (idxK L q)) ps c
 | [],c=>rfl
 | p::ps,c=>by
  have h1:=prodC_map f L p.2 1;have:=sumC_map f L ps (min (c+prodK (fun q=>f (idxK L q)) p.2 1) 1000000000);unfold sumC sumK at this ⊢;simp only [List.map_cons,List.foldl_cons,h1] at this ⊢;exact this
theorem prodK_congr {f g:Ky→Int}:∀ {ks:List Ky} (x:Int),(∀ k∈ks,f k=g k)→prodK f ks x=prodK g ks x
 | [],x,h=>rfl
 | k::ks,x,h=>by
  unfold prodK;rw [List.foldl_cons,List.foldl_cons,h k (List.mem_cons_self ..)];exact prodK_congr (ks:=ks) _ fun q hq=>h q (List.mem_cons_of_mem _ hq)
theorem sumK_congr {f g:Ky→Int}:∀ {ps:List (Nat×List Ky)} (c:Int),(∀ p∈ps,∀ k∈p.2,f k=g k)→sumK f ps c=sumK g ps c
 | [],c,h=>rfl
 | p::ps,c,h=>by
  unfold sumK;rw [List.foldl_cons,List.foldl_cons,prodK_congr 1 (h p (List.mem_cons_self ..))];exact sumK_congr (ps:=ps) _ fun q hq=>h q (List.mem_cons_of_mem _ hq)
theorem CntS.uniq {P:Ky→List (Nat×List Ky)} {k:Ky} {c d:Int} (h:CntS P k c) (h':CntS P k d):c=d:=by
 induction h generalizing d with
 | mk v f hf ih =>
  cases h' with
  | mk _ g hg=>exact sumK_congr _ fun p hp k hk=>ih p hp k hk (hg p hp k hk)
section
variable {D:Ky→Bool} {R:List Ru} {root:Ky} {L:List Ky}
theorem IsNds.kid {k q:Ky} {p:Nat×List Ky} (h:IsNds D R root L) (hk:k∈L) (hp:p∈packsF D R k) (hq:q∈p.2):q∈L:=(h.mem q).2 (.kid ((h.mem k).1 hk) hp hq)
theorem foI_at {k:Ky} (hk:k∈L):ndAt (foI D R L root).2 (idxK L k)=ndI (ndF D R L k):=by
 unfold ndAt foI;rw [List.getElem?_map,idxK_get hk]; rfl
theorem cnt_fo (h:IsNds D R root L) {k:Ky} {c:Int} (hc:CntS (packsF D R) k c) (hk:k∈L):CntR (foI D R L root).2 (idxK L k) c:=by
 induction hc with
 | mk k f hf ih =>
  have e:∀ q∈L,(match L[idxK L q]? with | some q=>f q | none=>0)=f q:=fun q hq=>by rw [idxK_get hq]
  have:=CntR.mk (nd:=(foI D R L root).2) (idxK L k) (fun n=>match L[n]? with | some q=>f q | none=>0) (fun p hp q hq=>by
   rw [foI_at hk] at hp;simp only [ndI,ndF,List.map_map,List.mem_map,Function.comp] at hp;obtain ⟨u,hu,rfl⟩:=hp;simp only [intsN,List.map_map,List.mem_map,Function.comp] at hq;obtain ⟨r,hr,rfl⟩:=hq;have hrl:=h.kid hk hu hr;simp only [Int.toNat_natCast];rw [e r hrl]
   exact ih u hu r hr hrl)
  rw [foI_at hk] at this
  have hs:sumC (fun n=>match L[n]? with | some q=>f q | none=>0) (ndI (ndF D R L k)).2 (c0 (foI D R L root).2 (idxK L k))=sumK f (packsF D R k) (if k.1.1=true then 1 else 0):=by
   unfold ndI ndF;rw [sumC_map];unfold c0;rw [foI_at hk];exact sumK_congr _ fun p hp q hq=>e q (h.kid hk hp hq)
  rw [hs] at this;exact this
theorem fo_cnt (h:IsNds D R root L) {v:Nat} {c:Int} (hc:CntR (foI D R L root).2 v c):∀ k∈L,idxK L k=v→CntS (packsF D R) k c:=by
 induction hc with
 | mk v f hf ih =>
  intro k hk hv;subst hv
  have hs:sumC f (ndAt (foI D R L root).2 (idxK L k)).2 (c0 (foI D R L root).2 (idxK L k))=sumK (fun q=>f (idxK L q)) (packsF D R k) (if k.1.1=true then 1 else 0):=by
   unfold c0;rw [foI_at hk];unfold ndI ndF;rw [sumC_map]
  rw [hs];refine .mk k (fun q=>f (idxK L q)) fun p hp q hq=>?_
  have hq1:((p.1:Int),intsN (p.2.map (idxK L)))∈(ndAt (foI D R L root).2 (idxK L k)).2:=by
   rw [foI_at hk];unfold ndI ndF;exact List.mem_map.2 ⟨(p.1,p.2.map (idxK L)),List.mem_map.2 ⟨p,hp,rfl⟩,rfl⟩
  have hq2:((idxK L q:Nat):Int)∈intsN (p.2.map (idxK L)):=by
   unfold intsN;exact List.mem_map.2 ⟨idxK L q,List.mem_map.2 ⟨q,hq,rfl⟩,rfl⟩
  have:=ih _ hq1 _ hq2 q (h.kid hk hp hq) (by simp)
  simpa using this
theorem kidsIn_fo (h:IsNds D R root L):KidsIn (foI D R L root).2:=by
 intro x hx p hp k hk;simp only [foI,List.mem_map] at hx;obtain ⟨y,hy,rfl⟩:=hx;simp only [ndI,ndF,List.map_map,List.mem_map,Function.comp] at hp;obtain ⟨u,hu,rfl⟩:=hp;simp only [intsN,List.map_map,List.mem_map,Function.comp] at hk;obtain ⟨r,hr,rfl⟩:=hk;have:=idxK_lt (h.kid hy hu hr);simp only [foI,List.length_map];omega
theorem cntV_fo (h:IsNds D R root L) (hr:root∈L):(∃ c,CntS (packsF D R) root c∧cntV (foI D R L root)=c)∨((¬ ∃ c,CntS (packsF D R) root c)∧cntV (foI D R L root)=-1):=by
 have hlt:(idxK L root) < (foI D R L root).2.length:=(by simp only [foI,List.length_map]; exact idxK_lt hr)
 rcases cntV_iff (kidsIn_fo h) (r:=(idxK L root:Int)) (by omega) (by simpa using hlt) with ⟨c,h1,h2⟩ | ⟨h1,h2⟩
 ·refine Or.inl ⟨c,fo_cnt h h1 root hr (by simp),h2⟩
 ·refine Or.inr ⟨fun ⟨c,hc⟩=>h1 ⟨c,by simpa using cnt_fo h hc hr⟩,h2⟩
end
section
variable {P:Ky→List (Nat×List Ky)}
structure RndI (P:Ky→List (Nat×List Ky)) (N:Ky→Int):Prop where
 nn:∀ k,0≤N k∧N k≤1000000000
 ok:∀ k,0 < N k→CntS P k (N k)
def allK (N:Ky→Int) (ps:List (Nat×List Ky)):Bool:=ps.all fun p=>decide (0 < prodK N p.2 1)
def stpK (P:Ky→List (Nat×List Ky)) (N:Ky→Int) (k:Ky):Ky→Int:=if 0 < N k then N else if k.1.1=true then (fun q=>if q=k then 1 else N q) else if allK N (P k)=true then (fun q=>if q=k then sumK N (P k) 0 else N q) else N
theorem prodK_pos {N:Ky→Int} (hn:∀ k,0≤N k∧N k≤1000000000):∀ {ks:List Ky} {x:Int},0≤x→x≤1000000000→0≤prodK N ks x∧prodK N ks x≤1000000000∧(0 < prodK N ks x↔0 < x∧∀ q∈ks,0 < N q)
 | [],x,h,h2=>⟨h,h2,⟨fun h=>⟨h,fun q hq=>absurd hq List.not_mem_nil⟩,fun h=>h.1⟩⟩
 | k::ks,x,h,h2=>by
  have hx:0≤x*N k:=Int.mul_nonneg h (hn k).1;obtain ⟨a,b,c⟩:=prodK_pos hn (ks:=ks) (x:=min (x*N k) 1000000000) (by omega) (by omega);have e:prodK N (k::ks) x=prodK N ks (min (x*N k) 1000000000):=rfl;rw [e];refine ⟨a,b,c.trans ⟨fun ⟨h3,h4⟩=>?_,fun ⟨h3,h4⟩=>?_⟩⟩
  ·have h5:0 < x*N k:=(by omega)
   have h6:0 < N k:=by
    rcases Int.lt_or_le 0 (N k) with h6 | h6
    ·exact h6
    ·have:N k=0:=(by have:=(hn k).1; omega);rw [this] at h5; simp at h5
   have h7:0 < x:=by
    rcases Int.lt_or_le 0 x with h7 | h7
    ·exact h7
    ·have:x=0:=(by omega);rw [this] at h5; simp at h5
   exact ⟨h7,fun q hq=>by
    rcases List.mem_cons.1 hq with rfl | hq
    ·exact h6
    ·exact h4 q hq⟩
  ·have:=Int.mul_pos h3 (h4 k (List.mem_cons_self ..));exact ⟨by omega,fun q hq=>h4 q (List.mem_cons_of_mem _ hq)⟩
theorem sumK_pos {N:Ky→Int} (hn:∀ k,0≤N k∧N k≤1000000000):∀ {ps:List (Nat×List Ky)} {c:Int},0≤c→c≤1000000000→0≤sumK N ps c∧sumK N ps c≤1000000000∧(0 < c∨(∃ p∈ps,0 < prodK N p.2 1)→0 < sumK N ps c)
 | [],c,h,h2=>⟨h,h2,fun h3=>by
  rcases h3 with h3 | ⟨p,hp,_⟩
  ·exact h3
  ·exact absurd hp List.not_mem_nil⟩
 | p::ps,c,h,h2=>by
  obtain ⟨a1,a2,_⟩:=prodK_pos hn (ks:=p.2) (x:=1) (by omega) (by omega);obtain ⟨b1,b2,b3⟩:=sumK_pos hn (ps:=ps) (c:=min (c+prodK N p.2 1) 1000000000) (by omega) (by omega);have e:sumK N (p::ps) c=sumK N ps (min (c+prodK N p.2 1) 1000000000):=rfl;rw [e];refine ⟨b1,b2,fun h3=>b3 ?_⟩
  rcases h3 with h3 | ⟨q,hq,h4⟩
  ·left; omega
  ·rcases List.mem_cons.1 hq with rfl | hq
   ·left; omega
   ·exact Or.inr ⟨q,hq,h4⟩
theorem allK_iff {N:Ky→Int} (hn:∀ k,0≤N k∧N k≤1000000000) {ps:List (Nat×List Ky)}:allK N ps=true↔∀ p∈ps,∀ q∈p.2,0 < N q:=by
 unfold allK;rw [List.all_eq_true];constructor
 ·intro h p hp;exact (((prodK_pos hn (ks:=p.2) (x:=1) (by omega) (by omega)).2.2).1 (of_decide_eq_true (h p hp))).2
 ·intro h p hp;exact decide_eq_true (((prodK_pos hn (ks:=p.2) (x:=1) (by omega) (by omega)).2.2).2 ⟨by omega,h p hp⟩)
theorem RndI.zero:RndI P fun _=>0:=⟨fun _=>⟨Int.le_refl _,by omega⟩,fun _ h=>absurd h (by omega)⟩
theorem RndI.step {N:Ky→Int} (h:RndI P N) (ht:∀ k:Ky,k.1.1=true→P k=[]) (k:Ky):RndI P (stpK P N k)∧∀ q,0 < N q→stpK P N k q=N q:=by
 unfold stpK
 by_cases h0:0 < N k
 ·rw [if_pos h0]; exact ⟨h,fun _ _=>rfl⟩
 ·rw [if_neg h0]
  by_cases h1:k.1.1=true
  ·rw [if_pos h1];refine ⟨⟨fun q=>?_,fun q hq=>?_⟩,fun q hq=>?_⟩
   ·(try dsimp only); split
    ·omega
    ·exact h.nn q
   ·try dsimp only at hq ⊢
    by_cases e:q=k
    ·rw [if_pos e,e];have:=CntS.mk (P:=P) k (fun _=>0) (fun p hp=>by rw [ht k h1] at hp; exact absurd hp List.not_mem_nil);rw [ht k h1,if_pos h1] at this;exact this
    ·rw [if_neg e] at hq ⊢; exact h.ok q hq
   ·try dsimp only
    rw [if_neg (fun e=>h0 (by rw [← e]; exact hq))]
  ·rw [if_neg h1]
   by_cases h2:allK N (P k)=true
   ·rw [if_pos h2];have h3:=(allK_iff h.nn).1 h2;have hs:=sumK_pos h.nn (ps:=P k) (c:=0) (by omega) (by omega);refine ⟨⟨fun q=>?_,fun q hq=>?_⟩,fun q hq=>?_⟩
    ·(try dsimp only); split
     ·exact ⟨hs.1,hs.2.1⟩
     ·exact h.nn q
    ·try dsimp only at hq ⊢
     by_cases e:q=k
     ·rw [if_pos e,e];have:=CntS.mk (P:=P) k N (fun p hp q hq=>h.ok q (h3 p hp q hq));rw [if_neg h1] at this;exact this
     ·rw [if_neg e] at hq ⊢; exact h.ok q hq
    ·try dsimp only
     rw [if_neg (fun e=>h0 (by rw [← e]; exact hq))]
   ·rw [if_neg h2]; exact ⟨h,fun _ _=>rfl⟩
def HgtS (P:Ky→List (Nat×List Ky)):Nat→Ky→Prop
 | 0,_=>False
 | t+1,k=>∀ p∈P k,∀ q∈p.2,HgtS P t q
theorem HgtS.up {t:Nat} {k:Ky} (h:HgtS P t k):HgtS P (t+1) k:=by
 induction t generalizing k with
 | zero=>exact h.elim
 | succ t ih=>exact fun p hp q hq=>ih (h p hp q hq)
theorem HgtS.le {t u:Nat} {k:Ky} (h:HgtS P t k) (hu:t≤u):HgtS P u k:=by
 obtain ⟨d,rfl⟩:=Nat.exists_eq_add_of_le hu;clear hu
 induction d with
 | zero=>exact h
 | succ d ih=>exact ih.up
theorem hgt_max {α:Type} {Q:Nat→α→Prop} (hm:∀ t u a,t≤u→Q t a→Q u a):∀ (l:List α),(∀ a∈l,∃ t,Q t a)→∃ t,∀ a∈l,Q t a
 | [],_=>⟨0,fun a ha=>absurd ha List.not_mem_nil⟩
 | b::l,h=>by
  obtain ⟨t,ht⟩:=h b (List.mem_cons_self ..);obtain ⟨u,hu⟩:=hgt_max hm l fun a ha=>h a (List.mem_cons_of_mem _ ha)
  refine ⟨max t u,fun a ha=>?_⟩
  rcases List.mem_cons.1 ha with rfl | ha
  ·exact hm _ _ _ (Nat.le_max_left t u) ht
  ·exact hm _ _ _ (Nat.le_max_right t u) (hu a ha)
theorem CntS.hgt {k:Ky} {c:Int} (h:CntS P k c):∃ t,HgtS P t k:=by
 induction h with
 | mk k f hf ih =>
  obtain ⟨t,ht⟩:=hgt_max (Q:=fun t (p:Nat×List Ky)=>∀ q∈p.2,HgtS P t q) (fun t u p hu h q hq=>(h q hq).le hu) (P k) fun p hp =>
   hgt_max (Q:=fun t q=>HgtS P t q) (fun t u q hu h=>h.le hu) p.2 fun q hq=>ih p hp q hq
  exact ⟨t+1,ht⟩
theorem hgt_bound {L:List Ky} (hL:∀ k∈L,∀ p∈P k,∀ q∈p.2,q∈L) {k:Ky} (hk:k∈L) {t:Nat} (h:HgtS P t k):HgtS P L.length k:=by
 classical
 have cntle:∀ t,L.countP (fun q=>decide (HgtS P t q))≤L.length:=fun t=>List.countP_le_length
 have mono:∀ t,L.countP (fun q=>decide (HgtS P t q))≤L.countP (fun q=>decide (HgtS P (t+1) q)):=fun t =>
  List.countP_mono_left fun q _ hq=>by
   have:=of_decide_eq_true hq;exact decide_eq_true this.up
 have stable:∀ t,(∀ q∈L,HgtS P (t+1) q→HgtS P t q)→∀ u,∀ q∈L,HgtS P u q→HgtS P t q:=by
  intro t hs u
  induction u with
  | zero=>intro q _ h; exact h.elim
  | succ u ih =>
   intro q hq h;exact hs q hq fun p hp r hr=>ih r (hL q hq p hp r hr) (h p hp r hr)
 have strict:∀ t,(¬ ∀ q∈L,HgtS P (t+1) q→HgtS P t q)→L.countP (fun q=>decide (HgtS P t q)) < L.countP (fun q=>decide (HgtS P (t+1) q)):=by
  intro t hs
  have hs2:∃ q,q∈L∧HgtS P (t+1) q∧¬ HgtS P t q:=by
   apply Classical.byContradiction
   intro hn;exact hs fun q hq h1=>Classical.byContradiction fun h2=>hn ⟨q,hq,h1,h2⟩
  obtain ⟨q,hq,h1,h2⟩:=hs2
  have key:∀ (M:List Ky),q∈M→M.countP (fun q=>decide (HgtS P t q)) < M.countP (fun q=>decide (HgtS P (t+1) q)):=by
   intro M
   induction M with
   | nil=>intro h; exact absurd h List.not_mem_nil
   | cons a M ih =>
    intro hm;have hle:M.countP (fun q=>decide (HgtS P t q))≤M.countP (fun q=>decide (HgtS P (t+1) q)):=List.countP_mono_left fun q _ hq=>decide_eq_true (of_decide_eq_true hq).up
    rw [List.countP_cons,List.countP_cons]
    rcases List.mem_cons.1 hm with rfl | hm
    ·simp only [h1,h2,decide_true,decide_false]; simp; omega
    ·have:=ih hm
     by_cases ha:HgtS P t a
     ·simp only [ha,ha.up,decide_true]; simp; omega
     ·simp only [ha,decide_false]; simp; omega
  exact key L hq
 have main:∀ t,(∃ s,s≤t∧∀ q∈L,HgtS P (s+1) q→HgtS P s q)∨t≤L.countP (fun q=>decide (HgtS P t q)):=by
  intro t
  induction t with
  | zero=>exact Or.inr (Nat.zero_le _)
  | succ t ih =>
   rcases ih with ⟨s,hs,h1⟩ | ih
   ·exact Or.inl ⟨s,by omega,h1⟩
   ·by_cases hs:∀ q∈L,HgtS P (t+1) q→HgtS P t q
    ·exact Or.inl ⟨t,by omega,hs⟩
    ·have:=strict t hs; exact Or.inr (by omega)
 rcases main L.length with ⟨s,hs,h1⟩ | h1
 ·exact (stable s h1 t k hk h).le hs
 ·have e:L.countP (fun q=>decide (HgtS P L.length q))=L.length:=Nat.le_antisymm (cntle _) h1;exact of_decide_eq_true (List.countP_eq_length.1 e k hk)
theorem RndI.known {N:Ky→Int} (h:RndI P N) (k:Ky) (hp:k.1.1=false→P k≠[]) (hk:∀ p∈P k,∀ q∈p.2,0 < N q):0 < stpK P N k k:=by
 unfold stpK
 by_cases h0:0 < N k
 ·rw [if_pos h0]; exact h0
 ·rw [if_neg h0]
  by_cases h1:k.1.1=true
  ·rw [if_pos h1]; (try dsimp only); rw [if_pos rfl]; omega
  ·rw [if_neg h1,if_pos ((allK_iff h.nn).2 hk)];try dsimp only
   rw [if_pos rfl];have hne:=hp (by simpa using h1);obtain ⟨p,hpm⟩:=List.exists_mem_of_ne_nil _ hne;exact (sumK_pos h.nn (ps:=P k) (c:=0) (by omega) (by omega)).2.2 (Or.inr ⟨p,hpm,((prodK_pos h.nn (ks:=p.2) (x:=1) (by omega) (by omega)).2.2).2 ⟨by omega,hk p hpm⟩⟩)
end
end Go.Proofs.YtfcihnpmeabacaaGreatDoor
