/- Texts MD, VL, VN, SB, laid together. -/
import Derived.Test.YtfcihnpmeabacaaGreatDoorW29
import Derived.Test.YtfcihnpmeabacaaGreatDoorW17
import Derived.Test.YtfcihnpmeabacaaGreatDoorW26
import Derived.Test.YtfcihnpmeabacaaGreatDoorW18
import Derived.Test.YtfcihnpmeabacaaGreatDoorW28
import Derived.Test.YtfcihnpmeabacaaGreatDoorW12
import Derived.Test.YtfcihnpmeabacaaGreatDoorW10
import Derived.Test.YtfcihnpmeabacaaGreatDoorW9
import Derived.Test.YtfcihnpmeabacaaGreatDoorW15
namespace Go.Proofs.YtfcihnpmeabacaaGreatDoor
open Go.RowKit
theorem some_way {D:Ky→Bool}:∀ {l:List Sy} {i j:Nat},someF D l i j=true→∃ w,IsWay D l i j w
 | [],i,j,h=>by
  simp only [someF,decide_eq_true_eq] at h;subst h; exact ⟨[],.nil i⟩
 | s::l,i,j,h=>by
  obtain ⟨p,h1,h2,h3,h4⟩:=some_iff.1 h;obtain ⟨w,hw⟩:=some_way h4;exact ⟨_,.cons h1 h2 h3 hw⟩
theorem dvD_spo (rules:List Ru) (xs:List Int):SpOk rules xs (dvD rules xs):=by
 refine ⟨fun k h=>dvD_iff.1 h,fun i t h=>dvD_iff.2 ?_⟩;have hi:=(List.getElem?_eq_some_iff.1 h).1;refine ⟨by simp,by show i+1≤xs.length; omega,?_⟩;show Dv rules [(true,t)] (part xs i (i+1))
 have e:=(part_one (xs:=xs) (i:=i) (j:=i+1) (t:=(t:Int)) (by omega) (by omega)).2 ⟨h,rfl⟩;rw [e];exact .term t .nil
theorem dvD_fix (rules:List Ru) (xs:List Int):FixS rules xs.length (dvD rules xs):=by
 intro u hu i j hij hj hs;obtain ⟨-,h⟩:=some_dv (fun k h=>dvD_iff.1 h) hj hs;refine dvD_iff.2 ⟨hij,hj,?_⟩;have:=Dv.non (rules:=rules) u.1 (rhs:=u.2) (l:=[]) hu h .nil
 simpa using this
theorem dv_rule {rules:List Ru} {N:Nat} {v:List Int} (h:Dv rules [(false,N)] v):∃ rhs,(N,rhs)∈rules∧Dv rules rhs v:=by
 generalize hl:[(false,N)]=l at h;cases h with
 | nil=>cases hl
 | term t h=>simp at hl
 | non M hr h1 h2 =>
  simp only [List.cons.injEq,Prod.mk.injEq,true_and] at hl;obtain ⟨rfl,rfl⟩:=hl;cases h2
  exact ⟨_,hr,by simpa using h1⟩
theorem dvD_packs {rules:List Ru} {xs:List Int} {k:Ky} (h:dvD rules xs k=true) (hk:k.1.1=false):packsF (dvD rules xs) rules k≠[]:=by
 obtain ⟨⟨b,N⟩,i,j⟩:=k;simp only at hk;subst hk;obtain ⟨h1,h2,h3⟩:=dvD_iff.1 h;simp only at h1 h2 h3;obtain ⟨rhs,hr,hd⟩:=dv_rule h3;obtain ⟨w,hw⟩:=some_way (dv_some (dvD_spo rules xs) (dvD_fix rules xs) hd i j h1 h2 rfl);obtain ⟨q,hq⟩:=List.getElem?_of_mem hr;exact List.ne_nil_of_mem (packs_mem2 (k:=((false,N),i,j)) rfl hq rfl hw)
theorem term_packs {D:Ky→Bool} {R:List Ru} {k:Ky} (h:k.1.1=true):packsF D R k=[]:=by
 rw [List.eq_nil_iff_forall_not_mem];intro p hp;have:=(packs_mem hp).1;rw [h] at this; cases this
theorem totP_small {g:Gr} {D:Ky→Bool} {n:Nat} {L:List Ky} (hg:g.Ok) (hn:n≤12) (hD:∀ k,D k=true→k.2.1≤k.2.2∧k.2.2≤n) (h:IsNds D g.rules ((false,g.start),0,n) L):totP D g.rules L≤3400*913952:=by
 have hk:∀ k∈L,KyOk g n k:=fun k hk=>RchK.ok hg hD ⟨by simpa [Gr.okSy] using hg.start,Nat.zero_le _,Nat.le_refl _⟩ ((h.mem k).1 hk)
 have hl:=nodup_len h.nodup hk hg hn
 have key:∀ (M:List Ky),(∀ k∈M,KyOk g n k)→totP D g.rules M≤M.length*913952:=by
  intro M
  induction M with
  | nil=>intro _; exact Nat.le_refl _
  | cons a M ih =>
   intro hM;have h1:=ih fun k hk=>hM k (List.mem_cons_of_mem _ hk)
   have h2:=packs_len (D:=D) (k:=a) (fun u hu=>(hg.right u hu).1) hg.count (Nat.le_trans (hM a (List.mem_cons_self ..)).2.2 hn);unfold totP at h1 ⊢;rw [List.map_cons,List.sum_cons,List.length_cons,Nat.succ_mul,Nat.add_comm];exact Nat.add_le_add h1 h2
 have h3:=key L hk;have h4:L.length*913952≤3400*913952:=Nat.mul_le_mul_right _ hl;exact Nat.le_trans h3 h4
theorem nds_ex {g:Gr} {D:Ky→Bool} {n:Nat} (hg:g.Ok) (hn:n≤12) (hD:∀ k,D k=true→k.2.1≤k.2.2∧k.2.2≤n):∃ L,IsNds D g.rules ((false,g.start),0,n) L:=by
 have hok:∀ k,RchK D g.rules ((false,g.start),0,n) k→KyOk g n k:=fun k hk=>RchK.ok hg hD ⟨by simpa [Gr.okSy] using hg.start,Nat.zero_le _,Nat.le_refl _⟩ hk
 have hmax:∃ M:List Ky,M.Nodup∧(∀ k∈M,RchK D g.rules ((false,g.start),0,n) k)∧∀ k,RchK D g.rules ((false,g.start),0,n) k→k∈M:=by
  apply Classical.byContradiction
  intro hno
  have grow:∀ m:Nat,∃ M:List Ky,M.length=m∧M.Nodup∧∀ k∈M,RchK D g.rules ((false,g.start),0,n) k:=by
   intro m
   induction m with
   | zero=>exact ⟨[],rfl,List.nodup_nil,fun k hk=>absurd hk List.not_mem_nil⟩
   | succ m ih =>
    obtain ⟨M,h1,h2,h3⟩:=ih
    have:∃ k,RchK D g.rules ((false,g.start),0,n) k∧k∉M:=by
     apply Classical.byContradiction
     intro h4;exact hno ⟨M,h2,h3,fun k hk=>Classical.byContradiction fun h5=>h4 ⟨k,hk,h5⟩⟩
    obtain ⟨k,h4,h5⟩:=this
    exact ⟨k::M,by simp [h1],List.nodup_cons.2 ⟨h5,h2⟩,fun q hq=>by
     rcases List.mem_cons.1 hq with rfl | hq
     ·exact h4
     ·exact h3 q hq⟩
  obtain ⟨M,h1,h2,h3⟩:=grow 3401;have:=nodup_len h2 (fun k hk=>hok k (h3 k hk)) hg hn;omega
 obtain ⟨M,h1,h2,h3⟩:=hmax;have hp:=List.mergeSort_perm M (fun a b=>decide (kyN a≤kyN b))
 have hs:=List.pairwise_mergeSort (le:=fun a b:Ky=>decide (kyN a≤kyN b)) (fun a b c h1 h2=>by
  have h1:=of_decide_eq_true h1;have h2:=of_decide_eq_true h2
  exact decide_eq_true (Nat.le_trans h1 h2)) (fun a b=>by
  rcases Nat.le_total (kyN a) (kyN b) with h | h
  ·simp [h]
  ·simp [h]) M
 have hnd:(M.mergeSort fun a b=>decide (kyN a≤kyN b)).Nodup:=hp.nodup_iff.2 h1;refine ⟨M.mergeSort fun a b=>decide (kyN a≤kyN b),?_,fun k=>⟨fun hk=>h2 k (hp.mem_iff.1 hk),fun hk=>hp.mem_iff.2 (h3 k hk)⟩⟩;have hboth:=List.pairwise_and_iff.2 ⟨hs,hnd⟩;refine hboth.imp_of_mem fun {a b} ha hb h=>?_
 have hle:=of_decide_eq_true h.1
 rcases Nat.lt_or_ge (kyN a) (kyN b) with hlt | hge
 ·exact hlt
 ·exact absurd (kyN_inj ((hok a (h2 a (hp.mem_iff.1 ha))).ok hg hn) ((hok b (h2 b (hp.mem_iff.1 hb))).ok hg hn) (by omega)) h.2
theorem fo_whole {g:Gr} {xs:List Int} {f:FoI} {b:Bool} (hg:g.Ok) (hn:xs.length≤12) (h:IsFo (dvD g.rules xs) g.rules ((false,g.start),0,xs.length) 1099511627776 f b) :
 b=true∧((dvD g.rules xs ((false,g.start),0,xs.length)=false∧f=(-1,[]))∨(dvD g.rules xs ((false,g.start),0,xs.length)=true∧∃ L,IsNds (dvD g.rules xs) g.rules ((false,g.start),0,xs.length) L∧f=foI (dvD g.rules xs) g.rules L ((false,g.start),0,xs.length))):=by
 have hD:∀ k,dvD g.rules xs k=true→k.2.1≤k.2.2∧k.2.2≤xs.length:=fun k hk=>⟨(dvD_iff.1 hk).1,(dvD_iff.1 hk).2.1⟩
 cases h with
 | none h1=>exact ⟨rfl,Or.inl ⟨h1,rfl⟩⟩
 | large h1 h2 =>
  exfalso
  obtain ⟨L,hL⟩:=nds_ex (D:=dvD g.rules xs) hg hn hD;have:=h2 L hL;have:=totP_small hg hn hD hL;omega
 | @fits L h1 h2 h3=>exact ⟨rfl,Or.inr ⟨h1,L,h2,rfl⟩⟩
end Go.Proofs.YtfcihnpmeabacaaGreatDoor
namespace Go.Proofs.YtfcihnpmeabacaaGreatDoor
open Go.RowKit
def WhF (g:Gr) (xs:List Int) (f:FoI):Prop:=∃ b,IsFo (dvD g.rules xs) g.rules ((false,g.start),0,xs.length) 1099511627776 f b
theorem WhF.uniq {g:Gr} {xs:List Int} {f f':FoI} (h:WhF g xs f) (h':WhF g xs f'):f=f':=by
 obtain ⟨b,h⟩:=h;obtain ⟨b',h'⟩:=h';exact (h.uniq h').1
structure FoW (f:FoI):Prop where
 root:f.1 < (f.2.length:Int)
 len:f.2.length≤3400
 kids:KidsIn f.2
 fok:FoK f.2
 tmk:TmK f.2
 fob:FoB f.2
 rest:restK f.2 0≤3400*913952
theorem FoW.big {f:FoI} (h:FoW f) {most:Nat} (hm:most≤100):restK f.2 0+4*(f.2.length*most)≤100000000000:=by
 have h1:=h.rest;have h2:f.2.length*most≤3400*100:=Nat.mul_le_mul h.len hm;omega
theorem foI_rest (D:Ky→Bool) (R:List Ru) (L:List Ky) (root:Ky):restK (foI D R L root).2 0=totP D R L:=by
 unfold restK totP foI;rw [List.drop_zero,List.map_map]
 congr 1
 apply List.map_congr_left
 intro k _;simp [ndI,ndF]
theorem WhF.ok {g:Gr} {xs:List Int} {f:FoI} (hg:g.Ok) (hn:xs.length≤12) (h:WhF g xs f):FoW f:=by
 obtain ⟨b,h⟩:=h;have hD:∀ k,dvD g.rules xs k=true→k.2.1≤k.2.2∧k.2.2≤xs.length:=fun k hk=>⟨(dvD_iff.1 hk).1,(dvD_iff.1 hk).2.1⟩
 obtain ⟨-,⟨-,rfl⟩ | ⟨h1,L,hL,rfl⟩⟩:=fo_whole hg hn h
 ·exact ⟨by simp,by simp,by simp [KidsIn],⟨by simp [KidsIn],fun v p hp=>by cases hp⟩,by simp [TmK],⟨by simp,by simp⟩,by simp [restK]⟩
 ·have hk:∀ k∈L,KyOk g xs.length k:=fun k hk=>RchK.ok hg hD ⟨by simpa [Gr.okSy] using hg.start,Nat.zero_le _,Nat.le_refl _⟩ ((hL.mem k).1 hk)
  have hl:=nodup_len hL.nodup hk hg hn;have hroot:((false,g.start),0,xs.length)∈L:=(hL.mem _).2 .root;have hki:=kidsIn_fo hL
  have hpk:∀ x∈(foI (dvD g.rules xs) g.rules L ((false,g.start),0,xs.length)).2,x.2.length≤913952∧(∀ p∈x.2,p.2.length≤4∧0≤p.1)∧0≤x.1.2.1:=by
   intro x hx;obtain ⟨k,hkL,rfl⟩:=List.mem_map.1 hx;have hp:=packs_len (D:=dvD g.rules xs) (k:=k) (fun u hu=>(hg.right u hu).1) hg.count (Nat.le_trans (hk k hkL).2.2 hn);rw [ndI_eq];refine ⟨by simpa using hp,fun p hp=>?_,by simp⟩;obtain ⟨q,hq,rfl⟩:=List.mem_map.1 hp;obtain ⟨-,u,hu,-,hw⟩:=packs_mem hq;have e1:=hw.len;have e2:=(hg.right u (List.mem_of_getElem? hu)).1;refine ⟨by simp [rowI,intsN]; omega,by simp [rowI]⟩
  refine ⟨by simp only [foI,List.length_map]; have:=idxK_lt hroot; omega,by simpa [foI] using hl,hki,⟨hki,fun v p hp=>?_⟩,fun x hx _=>(hpk x hx).2.2,⟨by simp [foI]; omega,fun x hx=>⟨by have:=(hpk x hx).1; omega,fun p hp=>by have:=((hpk x hx).2.1 p hp).1; omega⟩⟩,by rw [foI_rest]; exact totP_small hg hn hD hL⟩
  by_cases hv:v < (foI (dvD g.rules xs) g.rules L ((false,g.start),0,xs.length)).2.length
  ·have:ndAt (foI (dvD g.rules xs) g.rules L ((false,g.start),0,xs.length)).2 v∈(foI (dvD g.rules xs) g.rules L ((false,g.start),0,xs.length)).2:=(by unfold ndAt; rw [List.getElem?_eq_getElem hv]; exact List.getElem_mem hv);exact (hpk _ this).2.1 p hp
  ·unfold ndAt at hp; rw [List.getElem?_eq_none (by omega)] at hp; cases hp
end Go.Proofs.YtfcihnpmeabacaaGreatDoor
namespace Go.Proofs.YtfcihnpmeabacaaGreatDoor
open Go.RowKit
def McP (w:World) (g:Gr) (xs:List Int) (e:Ending) (w':World):Prop:=∃ f,WhF g xs f∧e=.returned (.tuple #[.int .i64 (cntV f),.int .i64 0])∧Below w.heap.size w w'
set_option maxRecDepth 100000 in
set_option maxHeartbeats 8000000 in
theorem mcount_c (ok:Nat→Prop) (g:Gr) (Ag:Option Addr) (ng cg:Nat) (A:Option Addr) (n c:Nat) (xs:List Int) (w:World) (hg:GrOk g) (hl:Sl RuE ok w Ag ng cg g.rules) (hx:Ints w A n c xs) (hn:n≤12) (hxt:∀ x∈xs,0≤x∧x < (g.terms:Int)) (hT:TabW w) :
 Calls Tryz.prog 7 #[grVal g Ag ng cg,.slice A n c] w (McP w g xs):=by
 have hal:=(Below.refl w.heap.size w).al (.cells #[.int .i64 (g.terms:Int),.int .i64 (g.nons:Int),.int .i64 (g.start:Int),.slice Ag ng cg] 24);have B0:=Blk.new w 24 #[.int .i64 (g.terms:Int),.int .i64 (g.nons:Int),.int .i64 (g.start:Int),.slice Ag ng cg];have HCK:=Lib.hid (mcheck_c ok g Ag ng cg A n c xs _ hg (hl.via hal) (hx.keep hal (Nat.le_refl _)) hn hxt);have HMO:=Lib.hid (show ∀ w',Below w.heap.size w w'→Calls Tryz.prog 27 #[.agg #[.int .i64 (g.terms:Int),.int .i64 (g.nons:Int),.int .i64 (g.start:Int),.slice Ag ng cg],.slice A n c] w' (MofP w' g xs) from fun w' h=>mof_c ok g Ag ng cg A n c xs w' hg (hl.via h) (hx.keep h (Nat.le_refl _)) hn (hT.via h));have HB:=Lib.hid hal;have HG:=Lib.hid hg;have HXL:=Lib.hid hx.len;clear hl hx hT hg hal hxt;simp only [grVal] at HCK ⊢;go_enter Tryz.func7,Tryz.ntmps7;have HB0:=Lib.hid B0;have cB0:=B0.cell;have fB0:=B0.frozen;have lB0:=B0.lt;go_wp2_with fail;clear cB0 fB0 lB0;clear B0;generalize w.alloc (.cells #[.int .i64 (g.terms:Int),.int .i64 (g.nons:Int),.int .i64 (g.start:Int),.slice Ag ng cg] 24)=W at *;refine HCK.out.mono ?_;clear HCK;rintro e w1 ⟨rfl,hb⟩;have HB1:=Lib.hid (HB.out.via hb);have BG:=HB0.out.via hb;clear HB HB0 hb;have cBG:=BG.cell;have fBG:=BG.frozen;have lBG:=BG.lt;go_wp2_with fail;clear cBG fBG lBG;refine (HMO.out w1 HB1.out).mono ?_;rintro e w2 ⟨f,v,b,rfl,hf,⟨fA,fn,fc,rfl,hS⟩,hb2⟩;have HF:=Lib.hid (show WhF g xs f from ⟨b,hf⟩);have hok:=HF.out.ok HG.out.ok (by have:=HXL.out; omega);have hfl:=hS.len;have HCC:=Lib.hid (count_c _ fA fn fc f.1 f.2 w2 hS hok.kids hok.fob (by have:=hok.root; omega) (by have:=hok.len; omega));have HB2:=Lib.hid (HB1.out.via hb2);clear hf hS hb2 hok BG;go_wp2_with fail;refine HCC.out.mono ?_;rintro e w3 ⟨rfl,hb3⟩;have HB3:=Lib.hid (HB2.out.via hb3);clear hb3;go_wp2_with fail;go_ret2;exact ⟨f,HF.out,rfl,HB3.out⟩
def MtP (w:World) (g:Gr) (xs:List Int) (most:Nat) (e:Ending) (w':World):Prop:=∃ f A n c q,WhF g xs f∧e=.returned (.tuple #[.slice A n c,.int .i64 q])∧q=(if (trsV f.1 f.2 most).2=true then 0 else 2)∧Sl TrE (fun b=>w.heap.size≤b) w' A n c (if (trsV f.1 f.2 most).2=true then (trsV f.1 f.2 most).1 else [])∧Below w.heap.size w w'
set_option maxRecDepth 100000 in
set_option maxHeartbeats 8000000 in
theorem mtrees_c (ok:Nat→Prop) (g:Gr) (Ag:Option Addr) (ng cg:Nat) (A:Option Addr) (n c:Nat) (xs:List Int) (most:Nat) (w:World) (hg:GrOk g) (hl:Sl RuE ok w Ag ng cg g.rules) (hx:Ints w A n c xs) (hn:n≤12) (hxt:∀ x∈xs,0≤x∧x < (g.terms:Int)) (hT:TabW w) (hm:most≤100) :
 Calls Tryz.prog 12 #[grVal g Ag ng cg,.slice A n c,.int .i64 (most:Int)] w (MtP w g xs most):=by
 have hal:=(Below.refl w.heap.size w).al (.cells #[.int .i64 (g.terms:Int),.int .i64 (g.nons:Int),.int .i64 (g.start:Int),.slice Ag ng cg] 24);have B0:=Blk.new w 24 #[.int .i64 (g.terms:Int),.int .i64 (g.nons:Int),.int .i64 (g.start:Int),.slice Ag ng cg];have HCK:=Lib.hid (mcheck_c ok g Ag ng cg A n c xs _ hg (hl.via hal) (hx.keep hal (Nat.le_refl _)) hn hxt);have HMO:=Lib.hid (show ∀ w',Below w.heap.size w w'→Calls Tryz.prog 27 #[.agg #[.int .i64 (g.terms:Int),.int .i64 (g.nons:Int),.int .i64 (g.start:Int),.slice Ag ng cg],.slice A n c] w' (MofP w' g xs) from fun w' h=>mof_c ok g Ag ng cg A n c xs w' hg (hl.via h) (hx.keep h (Nat.le_refl _)) hn (hT.via h));have HB:=Lib.hid hal;have HG:=Lib.hid hg;have HXL:=Lib.hid hx.len;clear hl hx hT hg hal hxt;simp only [grVal] at HCK ⊢;go_enter Tryz.func12,Tryz.ntmps12;have HB0:=Lib.hid B0;have cB0:=B0.cell;have fB0:=B0.frozen;have lB0:=B0.lt;go_wp2_with fail;clear cB0 fB0 lB0;clear B0;generalize w.alloc (.cells #[.int .i64 (g.terms:Int),.int .i64 (g.nons:Int),.int .i64 (g.start:Int),.slice Ag ng cg] 24)=W at *;refine HCK.out.mono ?_;clear HCK;rintro e w1 ⟨rfl,hb⟩;have HB1:=Lib.hid (HB.out.via hb);have BG:=HB0.out.via hb;clear HB HB0 hb;have hm0:(0:Int)≤(most:Int):=(by omega);have hm1:(most:Int)≤100:=(by omega);have cBG:=BG.cell;have fBG:=BG.frozen;have lBG:=BG.lt;go_wp2_with fail;clear cBG fBG lBG;refine (HMO.out w1 HB1.out).mono ?_;rintro e w2 ⟨f,v,b,rfl,hf,⟨fA,fn,fc,rfl,hS⟩,hb2⟩;have HF:=Lib.hid (show WhF g xs f from ⟨b,hf⟩);have hok:=HF.out.ok HG.out.ok (by have:=HXL.out; omega);have hfl:=hS.len;have HCC:=Lib.hid (trees_c _ fA fn fc f.1 f.2 most w2 hS hok.fok hok.tmk hok.fob (by have:=hok.root; omega) (by have:=hok.len; omega) (by omega) (hok.big hm));have HB2:=Lib.hid (HB1.out.via hb2);have HZ2:=Lib.hid HB2.out.size;clear hf hS hb2 hok BG;go_wp2_with fail;refine HCC.out.mono ?_;rintro e w3 ⟨A3,n3,c3,rfl,hS3,hb3⟩;have HB3:=Lib.hid (HB2.out.via hb3);have HS3:=Lib.hid (hS3.mono (ok':=fun b=>w.heap.size≤b) fun b _ hb=>Nat.le_trans HZ2.out hb);clear hb3 hS3;obtain ⟨tb,htb⟩:∃ tb,tb=(trsV f.1 f.2 most).2:=⟨_,rfl⟩;have HTB:=Lib.hid htb;rw [← htb];clear htb;cases tb with
 | true =>
  go_wp2_with fail;go_ret2;refine ⟨f,_,_,_,0,HF.out,rfl,by rw [if_pos HTB.out.symm],?_,HB3.out⟩;rw [if_pos HTB.out.symm]; exact HS3.out
 | false =>
  go_wp2_with fail;go_ret2;refine ⟨f,_,_,_,2,HF.out,rfl,by rw [if_neg (by rw [← HTB.out]; simp)],?_,HB3.out⟩;rw [if_neg (by rw [← HTB.out]; simp)]; exact Sl.nil 0
end Go.Proofs.YtfcihnpmeabacaaGreatDoor
namespace Go.Proofs.YtfcihnpmeabacaaGreatDoor
open Go.RowKit
def SpM (g:Gr) (n:Nat) (w:World) (b:Nat) (S:Ky→Bool):Prop:=MapK Tryz.prog 71 kyVal w b (fun k=>if S k then some (.bool true) else none)∧∀ k,S k=true→KyOk g n k
section
variable {g:Gr} {n:Nat} {w w':World} {b:Nat} {S:Ky→Bool}
theorem SpM.via (h:SpM g n w b S) (hb:Below w.heap.size w w'):SpM g n w' b S:=⟨h.1.via hb,h.2⟩
theorem SpM.grown {row:Option Nat} (h:SpM g n w b S) (hb:w.grownBy w' row) (hg:some b≠row):SpM g n w' b S:=⟨h.1.grown hb hg,h.2⟩
theorem SpM.agr_ (h:SpM g n w b S) (e:w'.heap[b]?=w.heap[b]?):SpM g n w' b S:=⟨h.1.agr_ e,h.2⟩
theorem SpM.room (h:SpM g n w b S) (hg:g.Ok) (hn:n≤12):∀ es clock,w.heap[b]?=some (.map es clock)→es.size < maxLen:=fun es clock he =>
 Nat.lt_of_le_of_lt (h.1.room kyC2 3400 (fun y hy=>kyC2_lt (h.2 y (by by_cases e:S y=true; exact e; rw [if_neg e] at hy; exact absurd rfl hy)) hg hn) (fun x y hx hy e=>kyC2_inj (h.2 x (by by_cases e:S x=true; exact e; rw [if_neg e] at hx; exact absurd rfl hx)) (h.2 y (by by_cases e:S y=true; exact e; rw [if_neg e] at hy; exact absurd rfl hy)) hg hn e) es clock he) (by simp [maxLen])
theorem spm_look (h:SpM g n w b S) (k:Ky) {kl:Lit} (hkey:keyOf Tryz.prog 71 (kyVal k)=some kl):(Instr.lookup 65 (.map (some b)) (kyVal k) false).run Tryz.prog w=.ok (.bool (S k)) w:=by
 have:=h.1.look false span_keyed Tryz.underlying65 (z:=.bool false) (by kernel_rfl) k hkey;rw [this];cases S k <;> rfl
end
structure SpR (w:World) (g:Gr) (Ag:Option Addr) (ng cg:Nat) (A:Option Addr) (n c bs bm:Nat) (S:Ky→Bool):Prop where
 blk:Blk w bs 67 #[.int .i64 (g.terms:Int),.int .i64 (g.nons:Int),.int .i64 (g.start:Int),.slice Ag ng cg,.slice A n c,.map (some bm)]
 map:SpM g n w bm S
theorem SpR.via {w w':World} {g:Gr} {Ag:Option Addr} {ng cg:Nat} {A:Option Addr} {n c bs bm:Nat} {S:Ky→Bool} (h:SpR w g Ag ng cg A n c bs bm S) (hb:Below w.heap.size w w'):SpR w' g Ag ng cg A n c bs bm S:=⟨h.blk.via hb,h.map.via hb⟩
def SomeP (w:World) (b:Bool) (e:Ending) (w':World):Prop:=e=.returned (.bool b)∧Below w.heap.size w w'
theorem span_k (s:Sy) (i p:Nat) (h1:s.2≤1000) (h2:i≤1000) (h3:p≤1000):∃ l,keyOf Tryz.prog 71 (kyVal (s,i,p))=some l:=span_key (s,i,p) (by show s.2≤_; omega) (by show i≤_; omega) (by show p≤_; omega)
set_option maxRecDepth 100000 in
set_option maxHeartbeats 8000000 in
theorem some_n (ok:Nat→Prop) (g:Gr) (Ag:Option Addr) (ng cg:Nat) (A:Option Addr) (n c bs bm:Nat) (S:Ky→Bool) (j:Nat) (hj:j≤100) :
 ∀ (l:List Sy) (w:World) (B:Option Addr) (m d i:Nat),SpR w g Ag ng cg A n c bs bm S→Sl SyE ok w B m d l→(∀ t∈l,t.2≤1000)→i≤j+1→m≤100 →
 Calls Tryz.prog 31 #[.pointer (some ⟨bs,0,none⟩),.slice B m d,.int .i64 (i:Int),.int .i64 (j:Int)] w (SomeP w (someF S l i j)):=by
 intro l
 induction l with
 | nil =>
  intro w B m d i hR hl hok hi hm;obtain rfl:m=0:=hl.len.symm
  have HV:=Lib.hid (show ((i:Int)==(j:Int))=someF S [] i j by
   simp only [someF]
   exact Bool.eq_iff_iff.2 (by simp only [beq_iff_eq,decide_eq_true_eq]; omega))
  clear hR hl;go_enter Tryz.func31,Tryz.ntmps31;go_wp2_with fail;go_ret;exact ⟨by rw [← HV.out]; rfl,Below.refl _ _⟩
 | cons s l ih =>
  intro w B m d i hR hl hok hi hm;have HML:=Lib.hid (show m=l.length+1 by rw [← hl.len]; rfl);have hm1:0 < m:=(by have:=HML.out; omega);have e0:((m:Int)==0)=false:=(by simp; omega);have HSR:=Lib.hid hR;have HL:=Lib.hid hl;have HIH:=Lib.hid ih;have HOK:=Lib.hid hok;have hmd:=hl.le;clear hR hl ih hok;go_enter Tryz.func31,Tryz.ntmps31;go_wp2_with fail
  go_loopw [9] (fun q wr=>∃ p:Nat,q=.int .i64 (p:Int)∧i≤p∧p≤j+1∧Hid ((∀ q,i≤q→q < p→(S (s,i,q)&&someF S l q j)=false)∧Below w.heap.size w wr)) (fun q _=>j+1 - (intOf q).toNat)
  case atStart=>exact ⟨i,rfl,Nat.le_refl _,hi,Lib.hid ⟨fun q h1 h2=>by omega,Below.refl _ _⟩⟩
  case round =>
   obtain ⟨p,rfl,hip,hpj,HQ⟩:=hrel;have HNO:=Lib.hid HQ.out.1;have hbw:=HQ.out.2;clear HQ
   by_cases hp:p≤j
   ·have e1:(p:Int)≤(j:Int):=(by omega);obtain ⟨b2,o2,s1,s2,rfl,hob2,hb2,hs1,hs2,hc2⟩:=HL.out.at_ hm1;have hs12:s1=s2:=hs2;obtain rfl:s=s2:=(by simpa using hs1);subst hs12;have d0:=(hbw.cell (p:=⟨b2,o2+0*SyE.k+0,none⟩) hb2).trans (hc2 0 _ rfl);have d1:=(hbw.cell (p:=⟨b2,o2+0*SyE.k+1,none⟩) hb2).trans (hc2 1 _ rfl);simp only [SyE,Nat.zero_mul,Nat.add_zero] at d0 d1;have HTL:=Lib.hid (HL.out.tailK (l:=1) (by omega));have HMW:=Lib.hid ((HSR.out.via hbw).map);have BS:=(HSR.out.via hbw).blk;have hs1k:=HOK.out s1 (by simp);obtain ⟨kl,hkl⟩:=span_k s1 i p hs1k (by omega) (by omega);have HKEY:=Lib.hid hkl;clear hkl hc2 hs1 hs2 hb2 hob2;go_upto_region 6 with fail;clear e0 e1;have m0:(0:Int) < (m:Int):=(by omega);have m1:(1:Int)≤(m:Int):=(by omega);have hmd2:m≤d:=hmd
    by_cases hdd:d=1
    ·subst hdd
     have HTT:=Lib.hid (show Sl SyE ok w (some ⟨b2,o2,none⟩) 0 0 l from by
      have:=HTL.out;rw [show m - 1=0 by omega] at this
      simpa using this)
     clear HTL;have SO:=Lib.hid (show ∀ w',Below wr.heap.size wr w'→((∀ x,w'.cell? ⟨bs,x,none⟩=#[.int .i64 (g.terms:Int),.int .i64 (g.nons:Int),.int .i64 (g.start:Int),.slice Ag ng cg,.slice A n c,.map (some bm)][x]?)∧w'.cell? ⟨b2,o2,none⟩=some (.bool s1.1)∧w'.cell? ⟨b2,o2+1,none⟩=some (.int .i64 (s1.2:Int))∧(Instr.lookup 65 (.map (some bm)) (.agg #[.bool s1.1,.int .i64 (s1.2:Int),.int .i64 (i:Int),.int .i64 (p:Int)]) false).run Tryz.prog w'=.ok (.bool (S (s1,i,p))) w'∧Below wr.heap.size wr w') from fun w' hb=>⟨(BS.via hb).cell,(hb.cell (World.block_lt_of_cell? _ _ d0)).trans d0,(hb.cell (World.block_lt_of_cell? _ _ d1)).trans d1,spm_look (HMW.out.via hb) (s1,i,p) HKEY.out,hb⟩);have JS:=Lib.hid (show ∀ w',Below wr.heap.size wr w'→Calls Tryz.prog 31 #[.pointer (some ⟨bs,0,none⟩),.slice (some ⟨b2,o2,none⟩) 0 0,.int .i64 (p:Int),.int .i64 (j:Int)] w' (SomeP w' (someF S l p j)) from fun w' hb=>HIH.out w' (some ⟨b2,o2,none⟩) 0 0 p ((HSR.out.via hbw).via hb) (HTT.out.via (hbw.trans (hb.mono hbw.size))) (fun t ht=>HOK.out t (by simp [ht])) (by omega) (by omega));have hb0:=(Below.refl wr.heap.size wr).drew;clear BS d0 d1;cases hS:S (s1,i,p) with
     | true =>
      rw [hS] at SO;have HSS:=Lib.hid hS;clear hS
      go_region_held3 (fun w'=>(∀ x,w'.cell? ⟨bs,x,none⟩=#[.int .i64 (g.terms:Int),.int .i64 (g.nons:Int),.int .i64 (g.start:Int),.slice Ag ng cg,.slice A n c,.map (some bm)][x]?)∧w'.cell? ⟨b2,o2,none⟩=some (.bool s1.1)∧w'.cell? ⟨b2,o2+1,none⟩=some (.int .i64 (s1.2:Int))∧(Instr.lookup 65 (.map (some bm)) (.agg #[.bool s1.1,.int .i64 (s1.2:Int),.int .i64 (i:Int),.int .i64 (p:Int)]) false).run Tryz.prog w'=.ok (.bool true) w'∧Below wr.heap.size wr w') (exact SO.out _ (by assumption)) (first
       | (go_at_call 31; (with_reducible refine (JS.out _ (by assumption)).mono ?_); rintro ee wk ⟨rfl,hbk⟩; have hbm:Below wr.heap.size wr wk:=Below.via (by assumption) hbk))
      have HBM:=Lib.hid (hbw.trans (hbm.mono hbw.size));cases hf:someF S l p j with
      | true =>
       have HFF:=Lib.hid hf;clear hf hb0 hbm hbk SO JS;go_wp2_with fail;go_ret;refine ⟨?_,HBM.out⟩;rw [some_iff.2 ⟨p,hip,by omega,HSS.out,HFF.out⟩];rfl
      | false =>
       have HFF:=Lib.hid hf;clear hf hb0 hbm hbk SO JS;go_wp2_with fail;refine ⟨⟨p+1,by go_num,by omega,by omega,Lib.hid ⟨fun q h1 h2=>?_,HBM.out⟩⟩,by simp [intOf]; omega⟩
       by_cases e:q=p
       ·subst e; rw [HFF.out,Bool.and_false]
       ·exact HNO.out q h1 (by omega)
     | false =>
      rw [hS] at SO;have HSS:=Lib.hid hS;obtain ⟨ca,cb,cc,cd,-⟩:=SO.out _ (Below.refl _ _);have ce:∀ q,(Instr.lookup 65 (.map (some bm)) (.agg #[.bool s1.1,.int .i64 (s1.2:Int),.int .i64 (i:Int),.int .i64 (p:Int)]) false).run Tryz.prog (wr.drewN q)=.ok (.bool false) (wr.drewN q):=fun q=>(SO.out _ (below_drewN (Below.refl _ _) q)).2.2.2.1
      clear hS
      go_quiet (fail)
      have HBM:=Lib.hid (hbw.trans ((below_drewN (Below.refl _ _) nq).mono hbw.size));clear hb0 SO JS ca cb cc cd ce;go_wp2_with fail;refine ⟨⟨p+1,by go_num,by omega,by omega,Lib.hid ⟨fun q h1 h2=>?_,HBM.out⟩⟩,by simp [intOf]; omega⟩
      by_cases e:q=p
      ·subst e; rw [HSS.out,Bool.false_and]
      ·exact HNO.out q h1 (by omega)
    ·have HTT:=Lib.hid (show Sl SyE ok w (some ⟨b2,o2+2,none⟩) (m - 1) (d - 1) l from by
      have:=HTL.out;rw [if_neg hdd] at this
      simpa [SyE,Addr.add] using this)
     clear HTL;have SO:=Lib.hid (show ∀ w',Below wr.heap.size wr w'→((∀ x,w'.cell? ⟨bs,x,none⟩=#[.int .i64 (g.terms:Int),.int .i64 (g.nons:Int),.int .i64 (g.start:Int),.slice Ag ng cg,.slice A n c,.map (some bm)][x]?)∧w'.cell? ⟨b2,o2,none⟩=some (.bool s1.1)∧w'.cell? ⟨b2,o2+1,none⟩=some (.int .i64 (s1.2:Int))∧(Instr.lookup 65 (.map (some bm)) (.agg #[.bool s1.1,.int .i64 (s1.2:Int),.int .i64 (i:Int),.int .i64 (p:Int)]) false).run Tryz.prog w'=.ok (.bool (S (s1,i,p))) w'∧Below wr.heap.size wr w') from fun w' hb=>⟨(BS.via hb).cell,(hb.cell (World.block_lt_of_cell? _ _ d0)).trans d0,(hb.cell (World.block_lt_of_cell? _ _ d1)).trans d1,spm_look (HMW.out.via hb) (s1,i,p) HKEY.out,hb⟩);have JS:=Lib.hid (show ∀ w',Below wr.heap.size wr w'→Calls Tryz.prog 31 #[.pointer (some ⟨bs,0,none⟩),.slice (some ⟨b2,o2+2,none⟩) (m - 1) (d - 1),.int .i64 (p:Int),.int .i64 (j:Int)] w' (SomeP w' (someF S l p j)) from fun w' hb=>HIH.out w' (some ⟨b2,o2+2,none⟩) (m - 1) (d - 1) p ((HSR.out.via hbw).via hb) (HTT.out.via (hbw.trans (hb.mono hbw.size))) (fun t ht=>HOK.out t (by simp [ht])) (by omega) (by omega));have hb0:=(Below.refl wr.heap.size wr).drew;clear BS d0 d1;cases hS:S (s1,i,p) with
     | true =>
      rw [hS] at SO;have HSS:=Lib.hid hS;clear hS
      go_region_held3 (fun w'=>(∀ x,w'.cell? ⟨bs,x,none⟩=#[.int .i64 (g.terms:Int),.int .i64 (g.nons:Int),.int .i64 (g.start:Int),.slice Ag ng cg,.slice A n c,.map (some bm)][x]?)∧w'.cell? ⟨b2,o2,none⟩=some (.bool s1.1)∧w'.cell? ⟨b2,o2+1,none⟩=some (.int .i64 (s1.2:Int))∧(Instr.lookup 65 (.map (some bm)) (.agg #[.bool s1.1,.int .i64 (s1.2:Int),.int .i64 (i:Int),.int .i64 (p:Int)]) false).run Tryz.prog w'=.ok (.bool true) w'∧Below wr.heap.size wr w') (exact SO.out _ (by assumption)) (first
       | (go_at_call 31; (with_reducible refine (JS.out _ (by assumption)).mono ?_); rintro ee wk ⟨rfl,hbk⟩; have hbm:Below wr.heap.size wr wk:=Below.via (by assumption) hbk))
      have HBM:=Lib.hid (hbw.trans (hbm.mono hbw.size));cases hf:someF S l p j with
      | true =>
       have HFF:=Lib.hid hf;clear hf hb0 hbm hbk SO JS;go_wp2_with fail;go_ret;refine ⟨?_,HBM.out⟩;rw [some_iff.2 ⟨p,hip,by omega,HSS.out,HFF.out⟩];rfl
      | false =>
       have HFF:=Lib.hid hf;clear hf hb0 hbm hbk SO JS;go_wp2_with fail;refine ⟨⟨p+1,by go_num,by omega,by omega,Lib.hid ⟨fun q h1 h2=>?_,HBM.out⟩⟩,by simp [intOf]; omega⟩
       by_cases e:q=p
       ·subst e; rw [HFF.out,Bool.and_false]
       ·exact HNO.out q h1 (by omega)
     | false =>
      rw [hS] at SO;have HSS:=Lib.hid hS;obtain ⟨ca,cb,cc,cd,-⟩:=SO.out _ (Below.refl _ _);have ce:∀ q,(Instr.lookup 65 (.map (some bm)) (.agg #[.bool s1.1,.int .i64 (s1.2:Int),.int .i64 (i:Int),.int .i64 (p:Int)]) false).run Tryz.prog (wr.drewN q)=.ok (.bool false) (wr.drewN q):=fun q=>(SO.out _ (below_drewN (Below.refl _ _) q)).2.2.2.1
      clear hS
      go_quiet (fail)
      have HBM:=Lib.hid (hbw.trans ((below_drewN (Below.refl _ _) nq).mono hbw.size));clear hb0 SO JS ca cb cc cd ce;go_wp2_with fail;refine ⟨⟨p+1,by go_num,by omega,by omega,Lib.hid ⟨fun q h1 h2=>?_,HBM.out⟩⟩,by simp [intOf]; omega⟩
      by_cases e:q=p
      ·subst e; rw [HSS.out,Bool.false_and]
      ·exact HNO.out q h1 (by omega)
   ·obtain rfl:p=j+1:=(by omega)
    have HV:=Lib.hid (show someF S (s::l) i j=false by
     cases h:someF S (s::l) i j with
     | false=>rfl
     | true =>
      obtain ⟨q,q1,q2,q3,q4⟩:=some_iff.1 h;have:=HNO.out q q1 (by omega)
      rw [q3,q4] at this; cases this)
    have HBW:=Lib.hid hbw;clear hbw;go_wp2_with fail;go_ret;exact ⟨by rw [HV.out]; rfl,HBW.out⟩
end Go.Proofs.YtfcihnpmeabacaaGreatDoor
