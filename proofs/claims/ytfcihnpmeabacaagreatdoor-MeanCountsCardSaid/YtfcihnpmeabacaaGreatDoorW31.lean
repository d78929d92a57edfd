/- Texts SC, SM, MB, VM, laid together. -/
import Derived.Test.YtfcihnpmeabacaaGreatDoorW30
import Derived.Test.YtfcihnpmeabacaaGreatDoorW17
import Derived.Test.YtfcihnpmeabacaaGreatDoorW1
import Derived.Test.YtfcihnpmeabacaaGreatDoorW5
import Derived.Test.YtfcihnpmeabacaaGreatDoorW29
import Derived.Test.YtfcihnpmeabacaaGreatDoorW26
namespace Go.Proofs.YtfcihnpmeabacaaGreatDoor
open Go.RowKit
def putS (S:Ky→Bool) (k:Ky) (z:Ky):Bool:=if z=k then true else S z
def cntS2 (nons n:Nat) (S:Ky→Bool):Nat:=sumTo (fun N=>sumTo (fun i=>sumTo (fun j=>if S ((false,N),i,j) then 0 else 1) (n+1)) (n+1)) nons
theorem putS_le (S:Ky→Bool) (k z:Ky):(if putS S k z then 0 else 1:Nat)≤if S z then 0 else 1:=by
 unfold putS
 by_cases e:z=k
 ·simp [e]
 ·simp [e]
theorem cntS2_put {nons n:Nat} {S:Ky→Bool} {N i j:Nat} (hS:S ((false,N),i,j)=false) (hN:N < nons) (hi:i≤n) (hj:j≤n):cntS2 nons n (putS S ((false,N),i,j)) < cntS2 nons n S:=by
 unfold cntS2;refine sumTo_lt (k:=N) (fun M=>sumTo_le _ fun a=>sumTo_le _ fun b=>putS_le _ _ _) hN ?_;refine sumTo_lt (k:=i) (fun a=>sumTo_le _ fun b=>putS_le _ _ _) (by omega) ?_;refine sumTo_lt (k:=j) (fun b=>putS_le _ _ _) (by omega) ?_;simp [putS,hS]
structure PrgF (nons n:Nat) (S0 S:Ky→Bool) (ag:Bool) (V:Ru→Nat→Nat→Prop):Prop where
 no:ag=false→S=S0∧∀ r i j,V r i j→someF S0 r.2 i j=true→S0 ((false,r.1),i,j)=true
 yes:ag=true→cntS2 nons n S < cntS2 nons n S0
section
variable {nons n:Nat} {S0 S:Ky→Bool} {ag:Bool} {V V':Ru→Nat→Nat→Prop}
theorem PrgF.start (S:Ky→Bool):PrgF nons n S S false (fun _ _ _=>False):=⟨fun _=>⟨rfl,fun _ _ _ h=>h.elim⟩,fun h=>by (cases h)⟩
theorem PrgF.mono (h:PrgF nons n S0 S ag V) (hV:∀ r i j,V' r i j→V r i j):PrgF nons n S0 S ag V':=⟨fun ha=>⟨(h.no ha).1,fun r i j hv=>(h.no ha).2 r i j (hV r i j hv)⟩,h.yes⟩
theorem PrgF.put (h:PrgF nons n S0 S ag V) {N i j:Nat} (hS:S ((false,N),i,j)=false) (hN:N < nons) (hi:i≤n) (hj:j≤n):PrgF nons n S0 (putS S ((false,N),i,j)) true V':=by
 refine ⟨fun h=>by (cases h),fun _=>?_⟩;have h2:=cntS2_put hS hN hi hj;cases ha:ag with
 | false=>obtain ⟨rfl,-⟩:=h.no ha; exact h2
 | true=>exact Nat.lt_trans h2 (h.yes ha)
theorem PrgF.skip (h:PrgF nons n S0 S ag V) {r:Ru} {i j:Nat} (hs:someF S r.2 i j=true→S ((false,r.1),i,j)=true) (hV:∀ r' i' j',V' r' i' j'→V r' i' j'∨(r'=r∧i'=i∧j'=j)):PrgF nons n S0 S ag V':=by
 refine ⟨fun ha=>?_,h.yes⟩;obtain ⟨rfl,h2⟩:=h.no ha;refine ⟨rfl,fun r' i' j' hv=>?_⟩
 rcases hV r' i' j' hv with h3 | ⟨rfl,rfl,rfl⟩
 ·exact h2 r' i' j' h3
 ·exact hs
end
def VF1 (rules:List Ru) (n k:Nat):Ru→Nat→Nat→Prop:=fun r i j=>(∃ k',k' < k∧rules[k']?=some r)∧i≤j∧j≤n
def VF2 (rules:List Ru) (n k:Nat) (r0:Ru) (i0:Nat):Ru→Nat→Nat→Prop:=fun r i j=>VF1 rules n k r i j∨(r=r0∧i < i0∧i≤j∧j≤n)
def VF3 (rules:List Ru) (n k:Nat) (r0:Ru) (i0 j0:Nat):Ru→Nat→Nat→Prop:=fun r i j=>VF2 rules n k r0 i0 r i j∨(r=r0∧i=i0∧i≤j∧j < j0)
def SndS (g:Gr) (n:Nat) (xs:List Int) (S:Ky→Bool):Prop:=∀ k,S k=true→DvS g.rules xs k∧KyOk g n k
theorem SndS.put {g:Gr} {n:Nat} {xs:List Int} {S:Ky→Bool} {k:Ky} (h:SndS g n xs S) (h1:DvS g.rules xs k) (h2:KyOk g n k):SndS g n xs (putS S k):=fun z hz=>by
 unfold putS at hz
 by_cases e:z=k
 ·subst e; exact ⟨h1,h2⟩
 ·rw [if_neg e] at hz; exact h z hz
theorem SndS.non {g:Gr} {n:Nat} {xs:List Int} {S:Ky→Bool} (h:SndS g n xs S) (hg:g.Ok) (hxl:xs.length=n) {u:Ru} (hu:u∈g.rules) {i j:Nat} (hj:j≤n) (hs:someF S u.2 i j=true):DvS g.rules xs ((false,u.1),i,j)∧KyOk g n ((false,u.1),i,j):=by
 obtain ⟨h1,h2⟩:=some_dv (fun k hk=>(h k hk).1) (by rw [hxl]; exact hj) hs;refine ⟨⟨h1,by rw [hxl]; exact hj,?_⟩,by simpa [Gr.okSy] using hg.left u hu,h1,hj⟩;have:=Dv.non (N:=u.1) (rhs:=u.2) (l:=[]) (u:=part xs i j) (v:=[]) hu h2 .nil
 rwa [List.append_nil] at this
theorem spm_put {g:Gr} {n:Nat} {w:World} {b:Nat} {S:Ky→Bool} {k:Ky} (hk:∀ z,putS S k z=true→KyOk g n z) (h:MapK Tryz.prog 71 kyVal w b (fun z=>if z=k then some (.bool true) else (if S z then some (.bool true) else none))):SpM g n w b (putS S k) :=
 ⟨h.ext fun z=>by unfold putS; by_cases e:z=k <;> simp [e],hk⟩
theorem SpOk.put {rules:List Ru} {xs:List Int} {S:Ky→Bool} {k:Ky} (h:SpOk rules xs S) (h1:DvS rules xs k):SpOk rules xs (putS S k) :=
 ⟨fun z hz=>by
  unfold putS at hz
  by_cases e:z=k
  ·subst e; exact h1
  ·rw [if_neg e] at hz; exact h.snd z hz,fun i t hi=>by
  unfold putS
  split
  ·rfl
  ·exact h.ltr i t hi⟩
structure AsM (w:World) (g:Gr) (Ag:Option Addr) (ng cg:Nat) (A:Option Addr) (n c:Nat) (xs:List Int) (bs bm:Nat) (S:Ky→Bool) (wr:World):Prop where
 snd:SndS g n xs S
 spo:SpOk g.rules xs S
 rep:SpR wr g Ag ng cg A n c bs bm S
 gb:Blk wr w.heap.size 24 #[.int .i64 (g.terms:Int),.int .i64 (g.nons:Int),.int .i64 (g.start:Int),.slice Ag ng cg]
 bel:Below w.heap.size w wr
theorem AsM.via {w wr w':World} {g:Gr} {Ag:Option Addr} {ng cg:Nat} {A:Option Addr} {n c:Nat} {xs:List Int} {bs bm:Nat} {S:Ky→Bool} (h:AsM w g Ag ng cg A n c xs bs bm S wr) (hb:Below wr.heap.size wr w'):AsM w g Ag ng cg A n c xs bs bm S w':=⟨h.snd,h.spo,h.rep.via hb,h.gb.via hb,h.bel.via hb⟩
def SpansP (w:World) (g:Gr) (Ag:Option Addr) (ng cg:Nat) (A:Option Addr) (n c:Nat) (xs:List Int) (e:Ending) (w':World):Prop :=
 ∃ bs bm,e=.returned (.pointer (some ⟨bs,0,none⟩))∧SpR w' g Ag ng cg A n c bs bm (dvD g.rules xs)∧w.heap.size≤bs∧w.heap.size≤bm∧Below w.heap.size w w'
set_option maxRecDepth 100000 in
set_option maxHeartbeats 8000000 in
theorem allspans_c (ok:Nat→Prop) (g:Gr) (Ag:Option Addr) (ng cg:Nat) (A:Option Addr) (n c:Nat) (xs:List Int) (w:World) (hg:GrOk g) (hl:Sl RuE ok w Ag ng cg g.rules) (hx:Ints w A n c xs) (hn:n≤12) (hxt:∀ x∈xs,0≤x∧x < (g.terms:Int)) :
 Calls Tryz.prog 10 #[grVal g Ag ng cg,.slice A n c] w (SpansP w g Ag ng cg A n c xs):=by
 have hxl:=hx.len;have HXL:=Lib.hid hxl;have HL:=Lib.hid hl;have HX:=Lib.hid hx;have HG:=Lib.hid hg;have HXT:=Lib.hid hxt;have hmm:=@run_makeMap Tryz.prog;have B0:=(Blk.new w 24 #[.int .i64 (g.terms:Int),.int .i64 (g.nons:Int),.int .i64 (g.start:Int),.slice Ag ng cg]);clear hl hx hg hxt hxl;simp only [grVal];go_enter Tryz.func10,Tryz.ntmps10;have cB0:=B0.cell;have fB0:=B0.frozen;have lB0:=B0.lt;go_wp2_with fail;have hal:=((((Below.refl w.heap.size w).al (.cells #[.int .i64 (g.terms:Int),.int .i64 (g.nons:Int),.int .i64 (g.start:Int),.slice Ag ng cg] 24)).al (.map #[] 0)).al (.cells #[.int .i64 (g.terms:Int),.int .i64 (g.nons:Int),.int .i64 (g.start:Int),.slice Ag ng cg,.slice A n c,.map (some (w.heap.size+1))] 67));have hMP:=(MapK.made (w.alloc (.cells #[.int .i64 (g.terms:Int),.int .i64 (g.nons:Int),.int .i64 (g.start:Int),.slice Ag ng cg] 24)) Tryz.prog 71 kyVal).al (.cells #[.int .i64 (g.terms:Int),.int .i64 (g.nons:Int),.int .i64 (g.start:Int),.slice Ag ng cg,.slice A n c,.map (some (w.heap.size+1))] 67);rw [World.size_alloc] at hMP;have HBS0:=Lib.hid (Blk.newAt ((w.alloc (.cells #[.int .i64 (g.terms:Int),.int .i64 (g.nons:Int),.int .i64 (g.start:Int),.slice Ag ng cg] 24)).alloc (.map #[] 0)) 67 #[.int .i64 (g.terms:Int),.int .i64 (g.nons:Int),.int .i64 (g.start:Int),.slice Ag ng cg,.slice A n c,.map (some (w.heap.size+1))] (w.heap.size+1+1) (by simp));have HBG0:=Lib.hid ((B0.al (.map #[] 0)).al (.cells #[.int .i64 (g.terms:Int),.int .i64 (g.nons:Int),.int .i64 (g.start:Int),.slice Ag ng cg,.slice A n c,.map (some (w.heap.size+1))] 67));have HAL:=Lib.hid hal;have HM0:=Lib.hid (show SpM g n _ (w.heap.size+1) (fun _=>false) from ⟨hMP.ext fun y=>by simp,fun k h=>by (cases h)⟩);clear hmm hal hMP;clear cB0 fB0 lB0;clear B0;generalize ((w.alloc (.cells #[.int .i64 (g.terms:Int),.int .i64 (g.nons:Int),.int .i64 (g.start:Int),.slice Ag ng cg] 24)).alloc (.map #[] 0)).alloc (.cells #[.int .i64 (g.terms:Int),.int .i64 (g.nons:Int),.int .i64 (g.start:Int),.slice Ag ng cg,.slice A n c,.map (some (w.heap.size+1))] 67)=W at *;generalize hbs:w.heap.size+1+1=bs at *;generalize hbm:w.heap.size+1=bm at *;have HBB:=Lib.hid (show w.heap.size < bm∧bm < bs from by omega);clear hbs hbm
 go_loopw [21] (fun q wr=>∃ (k:Nat) (S:Ky→Bool),q=.int .i64 (k:Int)∧k≤n∧Hid (SndS g n xs S∧(∀ i t:Nat,i < k→xs[i]?=some (t:Int)→S ((true,t),i,i+1)=true)∧SpR wr g Ag ng cg A n c bs bm S∧Blk wr w.heap.size 24 #[.int .i64 (g.terms:Int),.int .i64 (g.nons:Int),.int .i64 (g.start:Int),.slice Ag ng cg]∧Below w.heap.size w wr)) (fun q _=>n - (intOf q).toNat)
 case atStart=>exact ⟨0,_,rfl,Nat.zero_le _,Lib.hid ⟨fun k h=>by (cases h),fun i t h=>by omega,⟨HBS0.out,HM0.out⟩,HBG0.out,HAL.out⟩⟩
 case round =>
  obtain ⟨k,S,rfl,hk,HQ⟩:=hrel;clear HBS0 HM0 HBG0 HAL
  by_cases hkn:k < n
  ·obtain ⟨b1,o1,rfl,hb1,hc⟩:=(HX.out.keep HQ.out.2.2.2.2 (Nat.le_refl _)).at_ hkn
   have hxe:xs[k]?=some (xs.getD k 0):=by
    have:=HXL.out;rw [List.getD_eq_getElem?_getD,List.getElem?_eq_getElem (by omega)]; rfl
   have hxr:=HXT.out _ (List.mem_of_getElem? hxe);generalize xs.getD k 0=x at *;obtain ⟨t,rfl⟩:∃ t:Nat,x=(t:Int):=⟨x.toNat,by omega⟩;have i0:(0:Int)≤(k:Int):=(by omega);have i1:(k:Int) < (n:Int):=(by omega);have HXE:=Lib.hid hxe;have ht:t < g.terms:=(by omega);have BS:=HQ.out.2.2.1.blk;have HMB:=Lib.hid HQ.out.2.2.1.map;have hgt:=HG.out.ok.terms;obtain ⟨kl,hkl⟩:=span_k (true,t) k (k+1) (by show t≤1000; omega) (by omega) (by omega);have HKL:=Lib.hid hkl;have HRM:=Lib.hid (HMB.out.room HG.out.ok hn);have HNEW:=Lib.hid (show DvS g.rules xs ((true,t),k,k+1)∧KyOk g n ((true,t),k,k+1) from ⟨⟨by show k≤k+1; omega,by show k+1≤xs.length; rw [HXL.out]; omega,dv_one.2 (gpart_at hxe)⟩,by simpa [Gr.okSy] using ht,by show k≤k+1; omega,by show k+1≤n; omega⟩);clear hkl hxe hxr;have cBS:=BS.cell;have fBS:=BS.frozen;have lBS:=BS.lt;go_wp2_with (at_mapUpdate; refine wpList_put_K rfl span_keyed 65 Tryz.underlying65 kyVal_inj _ _ _ rfl bm ((true,t),k,k+1) (.bool true) rfl rfl rfl HMB.out.1 HKL.out HRM.out ?_; intro w5 hp5 hg5 hz5);have hsn:=HQ.out.1.put HNEW.out.1 HNEW.out.2;have hbb:=HBB.out;refine ⟨⟨k+1,putS S ((true,t),k,k+1),by go_num,by omega,Lib.hid ⟨hsn,fun i u hi hu=>?_,⟨HQ.out.2.2.1.blk.grown hg5 (fun e=>by have:=Option.some.inj e; omega),spm_put (fun z hz=>(hsn z hz).2) hp5⟩,HQ.out.2.2.2.1.grown hg5 (fun e=>by have:=Option.some.inj e; omega),HQ.out.2.2.2.2.grown hg5 HQ.out.2.2.2.2.size (fun j e=>by have:=Option.some.inj e; omega)⟩⟩,by simp [intOf]; omega⟩
   by_cases e:i=k
   ·subst e;rw [HXE.out] at hu;have:t=u:=(by have:=Option.some.inj hu; omega);subst this;simp [putS]
   ·unfold putS
    split
    ·rfl
    ·exact HQ.out.2.1 i u (by omega) hu
  ·obtain rfl:n=k:=(by omega);have HQ2:=Lib.hid (show SpOk g.rules xs S from ⟨fun k h=>(HQ.out.1 k h).1,fun i t hi=>HQ.out.2.1 i t (by have:=(List.getElem?_eq_some_iff.1 hi).1; have:=HXL.out; omega) hi⟩);have HA0:=Lib.hid (show AsM w g Ag ng cg A n c xs bs bm S wr from ⟨HQ.out.1,HQ2.out,HQ.out.2.2.1,HQ.out.2.2.2.1,HQ.out.2.2.2.2⟩);clear HQ HQ2;go_wp2_with fail;obtain ⟨wo,rfl⟩:∃ wo:World,wo=wr:=⟨_,rfl⟩
   go_loopg [8] (2*cntS2 g.nons n S+1) (fun gk a wx=>∃ S ag,a=.bool ag∧AsM w g Ag ng cg A n c xs bs bm S wx∧(ag=false→FixS g.rules n S)∧gk=2*cntS2 g.nons n S+(if ag then 1 else 0))
   case atStart=>exact ⟨S,true,rfl,HA0.out,fun h=>(by cases h),rfl⟩
   case round =>
    obtain ⟨S0,ag,rfl,hA,hfx,hgk⟩:=hrel;clear HA0;cases ag with
    | false =>
     have HA:=Lib.hid hA;have HFX:=Lib.hid (hfx rfl);clear hA hfx hgk;go_wp2_with fail;go_ret
     have e:S0=dvD g.rules xs:=by
      funext k
      exact Bool.eq_iff_iff.2 ((HA.out.spo.iff (by rw [HXL.out]; exact HFX.out) k).trans dvD_iff.symm)
     have hbb:=HBB.out;refine ⟨bs,bm,rfl,?_,by omega,by omega,HA.out.bel⟩;rw [← e]; exact HA.out.rep
    | true =>
     have HA:=Lib.hid hA;have HGK:=Lib.hid hgk;have BG:=hA.gb;clear hA hfx hgk;have cBG:=BG.cell;have fBG:=BG.frozen;have lBG:=BG.lt;go_wp2_with fail;clear cBG fBG lBG;clear BG;have hng:=HL.out.len;have hng32:ng≤32:=(by have:=HG.out.ok.count; omega);have HNG:=Lib.hid hng;clear hng;have HP:=Lib.hid (show PrgF g.nons n S0 S0 false (VF1 g.rules n 0) from PrgF.mono (PrgF.start S0) fun r i j h=>by obtain ⟨⟨k',hk',_⟩,_⟩:=h; omega);obtain ⟨wo,rfl⟩:∃ wo:World,wo=wr:=⟨_,rfl⟩
     go_loopw [8,41] (fun a q wr=>∃ (k:Nat) (S1:Ky→Bool) (ag:Bool),q=.int .i64 (k:Int)∧k≤ng∧a=.bool ag∧AsM w g Ag ng cg A n c xs bs bm S1 wr∧PrgF g.nons n S0 S1 ag (VF1 g.rules n k)) (fun _ q _=>ng - (intOf q).toNat)
     case atStart=>exact ⟨0,S0,false,rfl,Nat.zero_le _,rfl,HA.out,HP.out⟩
     case round =>
      obtain ⟨k,S1,ag,rfl,hk,rfl,hA1,hP1⟩:=hrel;clear HP HA
      by_cases hkn:k < ng
      ·obtain ⟨b1,o1,⟨sl,sA,sn,sc⟩,⟨sl',rhs⟩,hAg,-,hbb,hy,⟨hx1,hx2⟩,hc⟩:=HL.out.at_ hkn;simp only at hx1 hx2;obtain rfl:sl=sl':=hx1;subst hAg;have d0:=(hA1.bel.cell (p:=⟨b1,o1+k*RuE.k+0,none⟩) hbb).trans (hc 0 _ rfl);have d1:=(hA1.bel.cell (p:=⟨b1,o1+k*RuE.k+1,none⟩) hbb).trans (hc 1 _ rfl);simp only [RuE,Nat.add_zero] at d0 d1;have i0:(0:Int)≤(k:Int):=(by omega);have i1:(k:Int) < (ng:Int):=(by omega);have hmem:=List.mem_of_getElem? hy;have HMEM:=Lib.hid hmem;have HY:=Lib.hid hy;have HSR:=Lib.hid hx2;have hal:=(Below.refl wr.heap.size wr).al (.cells #[.int .i64 (sl:Int),.slice sA sn sc] 74);have HA1:=Lib.hid (hA1.via hal)
       have HP1:=Lib.hid (show PrgF g.nons n S0 S1 ag (VF2 g.rules n k (sl,rhs) 0) from PrgF.mono hP1 fun r i j h=>by
        rcases h with h | ⟨_,h,_⟩
        ·exact h
        ·omega)
       have HBR:=Lib.hid (show wr.heap.size≠bm from by have:=hA1.rep.map.1.lt; omega);have HBK:=Lib.hid (Blk.new wr 74 #[.int .i64 (sl:Int),.slice sA sn sc])
       have hsn4:sn≤4:=by
        have h1:=hx2.len;have h2:=(HG.out.ok.right _ hmem).1;simp only at h2; omega
       clear hc hy hx2 hA1 hP1 hmem hbb hal;go_wp2_with fail;clear d0 d1;generalize wr.alloc (.cells #[.int .i64 (sl:Int),.slice sA sn sc] 74)=W4 at *;generalize wr.heap.size=brx at *;obtain ⟨wp,rfl⟩:∃ wp:World,wp=wr:=⟨_,rfl⟩
       go_loopw [8,48] (fun a q wr=>∃ (i:Nat) (S2:Ky→Bool) (ag:Bool),q=.int .i64 (i:Int)∧i≤n+1∧a=.bool ag∧Hid (AsM w g (some ⟨b1,o1,none⟩) ng cg A n c xs bs bm S2 wr∧Blk wr brx 74 #[.int .i64 (sl:Int),.slice sA sn sc]∧PrgF g.nons n S0 S2 ag (VF2 g.rules n k (sl,rhs) i))) (fun _ q _=>n+1 - (intOf q).toNat)
       case atStart=>exact ⟨0,S1,ag,rfl,Nat.zero_le _,rfl,Lib.hid ⟨HA1.out,HBK.out,HP1.out⟩⟩
       case round =>
        obtain ⟨i,S2,ag2,rfl,hi,rfl,HQ⟩:=hrel;clear HA1 HBK HP1
        by_cases hin:i≤n
        ·have j0:(0:Int)≤(i:Int):=(by omega);have j1:(i:Int) < (n:Int)+1:=(by omega);go_wp2_with fail
         have HP2:=Lib.hid (show PrgF g.nons n S0 S2 ag2 (VF3 g.rules n k (sl,rhs) i i) from PrgF.mono HQ.out.2.2 fun r a b h=>by
          rcases h with h | ⟨_,e1,e2,e3⟩
          ·exact h
          ·omega)
         obtain ⟨wq,rfl⟩:∃ wq:World,wq=wr:=⟨_,rfl⟩
         go_loopw [8,12] (fun a q wr=>∃ (j:Nat) (S3:Ky→Bool) (ag:Bool),q=.int .i64 (j:Int)∧i≤j∧j≤n+1∧a=.bool ag∧Hid (AsM w g (some ⟨b1,o1,none⟩) ng cg A n c xs bs bm S3 wr∧Blk wr brx 74 #[.int .i64 (sl:Int),.slice sA sn sc]∧PrgF g.nons n S0 S3 ag (VF3 g.rules n k (sl,rhs) i j))) (fun _ q _=>n+1 - (intOf q).toNat)
         case atStart=>exact ⟨i,S2,ag2,rfl,Nat.le_refl _,hi,rfl,Lib.hid ⟨HQ.out.1,HQ.out.2.1,HP2.out⟩⟩
         case round =>
          obtain ⟨j,S3,ag3,rfl,hij,hj,rfl,HR⟩:=hrel;clear HQ HP2
          by_cases hjn:j≤n
          ·have i2:(j:Int)≤(n:Int):=(by omega);have i3:(0:Int)≤(j:Int):=(by omega);have hgn:=HG.out.ok.nons;have hsl:=HG.out.ok.left _ HMEM.out;simp only at hsl;have hkok:KyOk g n ((false,sl),i,j):=⟨by simpa [Gr.okSy] using hsl,hij,hjn⟩;obtain ⟨kl,hkl⟩:=span_k (false,sl) i j (by show sl≤1000; omega) (by omega) (by omega);have HKL:=Lib.hid hkl;have HKO:=Lib.hid hkok;have BR:=HR.out.2.1;have hal:=(Below.refl wr.heap.size wr).al (.cells #[.bool false,.int .i64 (sl:Int),.int .i64 (i:Int),.int .i64 (j:Int)] 71);have HA5:=Lib.hid (HR.out.1.via hal);have HR5:=Lib.hid (HR.out.2.1.via hal);have HB5:=Lib.hid (Blk.new wr 71 #[.bool false,.int .i64 (sl:Int),.int .i64 (i:Int),.int .i64 (j:Int)]);have HP5:=Lib.hid HR.out.2.2;have HRL:=Lib.hid (show brx < wr.heap.size∧bs < wr.heap.size∧bm < wr.heap.size from ⟨HR.out.2.1.lt,HR.out.1.rep.blk.lt,HR.out.1.rep.map.1.lt⟩);clear hkl hkok hal HR;have cBR:=BR.cell;have fBR:=BR.frozen;have lBR:=BR.lt;go_upto_region 20 with fail;clear cBR fBR lBR;clear BR;generalize wr.alloc (.cells #[.bool false,.int .i64 (sl:Int),.int .i64 (i:Int),.int .i64 (j:Int)] 71)=W5 at *;generalize wr.heap.size=bq at *;have BS:=HA5.out.rep.blk;have BQ:=HB5.out;have ce:∀ q,(Instr.lookup 65 (.map (some bm)) (.agg #[.bool false,.int .i64 (sl:Int),.int .i64 (i:Int),.int .i64 (j:Int)]) false).run Tryz.prog (W5.drewN q)=.ok (.bool (S3 ((false,sl),i,j))) (W5.drewN q):=fun q=>spm_look (HA5.out.rep.map.via (below_drewN (Below.refl _ _) q)) ((false,sl),i,j) HKL.out
           cases hS:S3 ((false,sl),i,j) with
           | true =>
            rw [hS] at ce;have HSS:=Lib.hid hS;clear hS;have cBS:=BS.cell;have fBS:=BS.frozen;have lBS:=BS.lt;have cBQ:=BQ.cell;have fBQ:=BQ.frozen;have lBQ:=BQ.lt
            go_quiet (fail)
            clear cBS fBS lBS cBQ fBQ lBQ;have hdn:=below_drewN (Below.refl W5.heap.size W5) nq;have HA6:=Lib.hid (HA5.out.via hdn);have HR6:=Lib.hid (HR5.out.via hdn)
            have HP6:=Lib.hid (show PrgF g.nons n S0 S3 ag3 (VF3 g.rules n k (sl,rhs) i (j+1)) from HP5.out.skip (r:=(sl,rhs)) (i:=i) (j:=j) (fun _=>HSS.out) fun r a b h=>by
             rcases h with h | ⟨e0,e1,e2,e3⟩
             ·exact Or.inl (Or.inl h)
             ·by_cases e:b=j
              ·exact Or.inr ⟨e0,e1,e⟩
              ·exact Or.inl (Or.inr ⟨e0,e1,e2,by omega⟩))
            clear hdn ce BS BQ HA5 HR5 HP5 HB5;go_wp2_with fail;exact ⟨⟨j+1,S3,ag3,by go_num,by omega,by omega,rfl,Lib.hid ⟨HA6.out,HR6.out,HP6.out⟩⟩,by simp [intOf]; omega⟩
           | false =>
            rw [hS] at ce;have HSS:=Lib.hid hS;clear hS;have cBS:=BS.cell;have fBS:=BS.frozen;have lBS:=BS.lt;have cBQ:=BQ.cell;have fBQ:=BQ.frozen;have lBQ:=BQ.lt
            go_quiet (fail)
            clear cBS fBS lBS cBQ fBQ lBQ;have hdn:=below_drewN (Below.refl W5.heap.size W5) nq;have HA6:=Lib.hid (HA5.out.via hdn);have HR6:=Lib.hid (HR5.out.via hdn);have HB6:=Lib.hid (HB5.out.via hdn)
            have HSM:=Lib.hid (some_n ok g (some ⟨b1,o1,none⟩) ng cg A n c bs bm S3 j (by omega) rhs (W5.drewN nq) sA sn sc i HA6.out.rep (HSR.out.via HA6.out.bel) (fun t ht=>by
             have h1:=(HG.out.ok.right _ HMEM.out).2 t ht;have h2:=HG.out.ok.terms;have h3:=HG.out.ok.nons;unfold Gr.okSy at h1
             split at h1 <;> omega) (by omega) (by omega))
            have BR:=HR6.out;clear hdn ce BS BQ HA5 HR5 HB5;generalize W5.drewN nq=W6 at *;have cBR:=BR.cell;have fBR:=BR.frozen;have lBR:=BR.lt;go_wp2_with fail;clear cBR fBR lBR;clear BR;refine HSM.out.mono ?_;rintro e w7 ⟨rfl,hb7⟩;have HA7:=Lib.hid (HA6.out.via hb7);have HR7:=Lib.hid (HR6.out.via hb7);have HB7:=Lib.hid (HB6.out.via hb7);clear hb7 HSM HA6 HR6 HB6;cases hf:someF S3 rhs i j with
            | false =>
             have HFF:=Lib.hid hf;clear hf
             have HP6:=Lib.hid (show PrgF g.nons n S0 S3 ag3 (VF3 g.rules n k (sl,rhs) i (j+1)) from HP5.out.skip (r:=(sl,rhs)) (i:=i) (j:=j) (fun h=>by rw [HFF.out] at h; cases h) fun r a b h=>by
              rcases h with h | ⟨e0,e1,e2,e3⟩
              ·exact Or.inl (Or.inl h)
              ·by_cases e:b=j
               ·exact Or.inr ⟨e0,e1,e⟩
               ·exact Or.inl (Or.inr ⟨e0,e1,e2,by omega⟩))
             go_wp2_with fail;exact ⟨⟨j+1,S3,ag3,by go_num,by omega,by omega,rfl,Lib.hid ⟨HA7.out,HR7.out,HP6.out⟩⟩,by simp [intOf]; omega⟩
            | true =>
             have HFF:=Lib.hid hf;clear hf;go_upto_region 22 with fail;have BS:=HA7.out.rep.blk;have BQ:=HB7.out;have cBS:=BS.cell;have fBS:=BS.frozen;have lBS:=BS.lt;have cBQ:=BQ.cell;have fBQ:=BQ.frozen;have lBQ:=BQ.lt
             go_still_tail 5,(by kernel_rfl)
             clear cBS fBS lBS cBQ fBQ lBQ;clear BS BQ;have hdn:=(Below.refl w7.heap.size w7).drew;change wpList _ _ _ _ _ w7.drew
             have HA8:=Lib.hid (HA7.out.via hdn);have HR8:=Lib.hid (HR7.out.via hdn);generalize w7.drew=w8 at *;obtain ⟨w9,st,v0,hrun1,hg9,hz9,hst⟩:=HA8.out.rep.map.1.entry span_keyed Tryz.underlying65 kyVal_inj ((false,sl),i,j) (.bool true) HKL.out (z:=.bool false) (by kernel_rfl) (HA8.out.rep.map.room HG.out.ok hn);obtain ⟨w10,hrun2,hM2,hg10,hz10⟩:=hst w9 rfl;simp only [kyVal] at hrun1;have hbb:=HBB.out;have hrl:=HRL.out;have hne:∀ b,b≠bm→some b≠some bm:=fun b hb e=>hb (Option.some.inj e)
             have hgr:w8.grownBy w10 (some bm):=hg9.trans hg10;have hnew:=HA8.out.snd.non HG.out.ok HXL.out HMEM.out hjn HFF.out;have hsn:=HA8.out.snd.put hnew.1 hnew.2;have HFIN:=Lib.hid (show AsM w g (some ⟨b1,o1,none⟩) ng cg A n c xs bs bm (putS S3 ((false,sl),i,j)) w10 from ⟨hsn,HA8.out.spo.put hnew.1,⟨HA8.out.rep.blk.grown hgr (hne _ (by omega)),spm_put (fun z hz=>(hsn z hz).2) hM2⟩,HA8.out.gb.grown hgr (hne _ (by omega)),HA8.out.bel.grown hgr HA8.out.bel.size (fun b e=>by have:=Option.some.inj e; omega)⟩);have HR9:=Lib.hid (HR8.out.grown hgr (hne _ (by have:=HBR.out; omega)));have HP9:=Lib.hid (show PrgF g.nons n S0 (putS S3 ((false,sl),i,j)) true (VF3 g.rules n k (sl,rhs) i (j+1)) from HP5.out.put HSS.out hsl hin hjn);clear hg9 hz9 hst hM2 hg10 hz10 hgr hnew hsn hdn hne;go_wp2_with fail;exact ⟨⟨j+1,_,true,by go_num,by omega,by omega,rfl,Lib.hid ⟨HFIN.out,HR9.out,HP9.out⟩⟩,by simp [intOf]; omega⟩
          ·obtain rfl:j=n+1:=(by omega)
           have HP4:=Lib.hid (show PrgF g.nons n S0 S3 ag3 (VF2 g.rules n k (sl,rhs) (i+1)) from PrgF.mono HR.out.2.2 fun r a b h=>by
            rcases h with h | ⟨e0,e1,e2,e3⟩
            ·exact Or.inl (Or.inl h)
            ·by_cases e:a=i
             ·exact Or.inr ⟨e0,e,e2,by omega⟩
             ·exact Or.inl (Or.inr ⟨e0,by omega,e2,e3⟩))
           go_wp2_with fail;exact ⟨⟨i+1,S3,ag3,by go_num,by omega,rfl,Lib.hid ⟨HR.out.1,HR.out.2.1,HP4.out⟩⟩,by simp [intOf]; omega⟩
        ·obtain rfl:i=n+1:=(by omega)
         have HP4:=Lib.hid (show PrgF g.nons n S0 S2 ag2 (VF1 g.rules n (k+1)) from PrgF.mono HQ.out.2.2 fun r a b h=>by
          obtain ⟨⟨k',h1,h2⟩,h3,h4⟩:=h
          by_cases e:k'=k
          ·subst e;rw [HY.out] at h2;exact Or.inr ⟨(Option.some.inj h2).symm,by omega,h3,h4⟩
          ·exact Or.inl ⟨⟨k',by omega,h2⟩,h3,h4⟩)
         go_wp2_with fail;exact ⟨⟨k+1,S2,ag2,by go_num,by omega,rfl,HQ.out.1,HP4.out⟩,by simp [intOf]; omega⟩
      ·obtain rfl:ng=k:=(by omega);have HA8:=Lib.hid hA1;have HP8:=Lib.hid hP1;clear hA1 hP1;go_wp2_with fail
       go_roundg (2*cntS2 g.nons n S1+(if ag then 1 else 0))
       case measure =>
        rw [HGK.out];cases ag with
        | false=>obtain ⟨rfl,-⟩:=HP8.out.no rfl; simp
        | true=>have:=HP8.out.yes rfl; simp; omega
       case rel =>
        refine ⟨S1,ag,rfl,HA8.out,fun ha=>?_,rfl⟩;obtain ⟨rfl,hv⟩:=HP8.out.no ha;intro u hu a b hab hb hs;obtain ⟨k',hk',e⟩:=List.getElem_of_mem hu;exact hv u a b ⟨⟨k',by rw [← HNG.out]; exact hk',by rw [List.getElem?_eq_getElem hk',e]⟩,hab,hb⟩ hs
end Go.Proofs.YtfcihnpmeabacaaGreatDoor
namespace Go.Proofs.YtfcihnpmeabacaaGreatDoor
open Go.RowKit
def dblG:Gr:=⟨1,1,0,[(0,[(false,0),(false,0)]),(0,[(true,0)])]⟩
theorem Sl.ofBlkK {α ρ:Type} {E:Elem α ρ} {ok:Nat→Prop} {w:World} {b n:Nat} {t:TypeId} {cs:Array Value} {l:List α} (h:Blk w b t cs) (raw:List ρ) (hcs:cs.toList=flat E raw) (hl:l.length=n) (hr:raw.length=n) (hok:ok b)
 (hrel:∀ (i:Nat) (r:ρ) (x:α),raw[i]?=some r→l[i]?=some x→E.rel ok w r x):Sl E ok w (some ⟨b,0,none⟩) n n l :=
 ⟨hl,Nat.le_refl _,raw,hr,fun _=>⟨b,0,rfl,hok,fun j u hu=>by rw [Nat.zero_add,h.cell]; rw [← hcs] at hu; simpa using hu⟩,hrel⟩
theorem Ints.litB {w:World} {b n:Nat} {t:TypeId} {cs:Array Value} {xs:List Int} (h:Blk w b t cs) (hcs:cs.toList=xs.map (Value.int .i64)) (hn:xs.length=n):Ints w (some ⟨b,0,none⟩) n n xs:=by
 refine ⟨hn,Nat.le_refl _,fun _=>⟨b,0,rfl,fun i hi=>?_⟩⟩;rw [Nat.zero_add,h.cell,← Array.getElem?_toList,hcs,List.getElem?_map,List.getD_eq_getElem?_getD,List.getElem?_eq_getElem (by omega)];rfl
theorem dblG_ok:GrOk dblG:=by
 refine ⟨⟨by simp [dblG],by simp [dblG],by simp [dblG],by simp [dblG],?_,?_⟩,by simp [dblG]⟩
 ·intro r hr; simp [dblG] at hr; rcases hr with rfl | rfl <;> simp [dblG]
 ·intro r hr; simp [dblG] at hr
  rcases hr with rfl | rfl
  ·refine ⟨by simp,fun s hs=>?_⟩; simp at hs; subst hs; simp [Gr.okSy,dblG]
  ·refine ⟨by simp,fun s hs=>?_⟩; simp at hs; subst hs; simp [Gr.okSy,dblG]
def DblP (w:World) (e:Ending) (w':World):Prop:=∃ A,e=.returned (grVal dblG A 2 2)∧Sl RuE (fun _=>True) w' A 2 2 dblG.rules∧Below w.heap.size w w'
set_option maxRecDepth 100000 in
set_option maxHeartbeats 1000000 in
theorem doubling_c (w:World):Calls Tryz.prog 29 #[] w (DblP w):=by
 go_enter Tryz.func29,Tryz.ntmps29;go_wp2_with fail;obtain ⟨w1,hw1⟩:∃ w1,w1=w.alloc (.cells #[.int .i64 1,.int .i64 1,.int .i64 0,.slice (some ⟨w.heap.size+1+1+1,0,none⟩) 2 2] 24):=⟨_,rfl⟩;have hz:w1.heap.size=w.heap.size+1:=(by rw [hw1]; simp);have hb1:Below w.heap.size w w1:=(by rw [hw1]; exact (Below.refl _ _).al _);rw [← hw1];have b2:=((Blk.new w1 69 #[.bool false,.int .i64 0,.bool false,.int .i64 0]).al (.cells #[.bool true,.int .i64 0] 69)).al (.cells #[.int .i64 0,.slice (some ⟨w.heap.size+1,0,none⟩) 2 2,.int .i64 0,.slice (some ⟨w.heap.size+1+1,0,none⟩) 1 1] 74);have b3:=(Blk.new (w1.alloc (.cells #[.bool false,.int .i64 0,.bool false,.int .i64 0] 69)) 69 #[.bool true,.int .i64 0]).al (.cells #[.int .i64 0,.slice (some ⟨w.heap.size+1,0,none⟩) 2 2,.int .i64 0,.slice (some ⟨w.heap.size+1+1,0,none⟩) 1 1] 74);have b4:=Blk.new ((w1.alloc (.cells #[.bool false,.int .i64 0,.bool false,.int .i64 0] 69)).alloc (.cells #[.bool true,.int .i64 0] 69)) 74 #[.int .i64 0,.slice (some ⟨w.heap.size+1,0,none⟩) 2 2,.int .i64 0,.slice (some ⟨w.heap.size+1+1,0,none⟩) 1 1];simp only [World.size_alloc,hz] at b2 b3 b4;refine bodyPost_ret (v:=.agg #[.int .i64 1,.int .i64 1,.int .i64 0,.slice (some ⟨w.heap.size+1+1+1,0,none⟩) 2 2]) ?_ rfl ⟨some ⟨w.heap.size+1+1+1,0,none⟩,rfl,?_,((hb1.al _).al _).al _⟩
 ·rw [hw1]; simp [results,Tryz.results29,go_sem]
 ·generalize ((w1.alloc (.cells #[.bool false,.int .i64 0,.bool false,.int .i64 0] 69)).alloc (.cells #[.bool true,.int .i64 0] 69)).alloc (.cells #[.int .i64 0,.slice (some ⟨w.heap.size+1,0,none⟩) 2 2,.int .i64 0,.slice (some ⟨w.heap.size+1+1,0,none⟩) 1 1] 74)=w4 at *;refine Sl.ofBlkK b4 [(0,some ⟨w.heap.size+1,0,none⟩,2,2),(0,some ⟨w.heap.size+1+1,0,none⟩,1,1)] rfl rfl rfl trivial fun i r x hr hx=>?_
  match i,hr,hx with
  | 0,hr,hx =>
   simp [dblG] at hr hx; subst hr; subst hx;exact ⟨rfl,Sl.ofBlkK b2 [(false,0),(false,0)] rfl rfl rfl trivial fun i r x hr hx=>Option.some.inj (hr.symm.trans hx)⟩
  | 1,hr,hx =>
   simp [dblG] at hr hx; subst hr; subst hx;exact ⟨rfl,Sl.ofBlkK b3 [(true,0)] rfl rfl rfl trivial fun i r x hr hx=>Option.some.inj (hr.symm.trans hx)⟩
  | i+2,hr,hx=>simp at hr
theorem dv_s0:Dv dblG.rules [(false,0)] [0]:=by
 have:=Dv.non (rules:=dblG.rules) 0 (rhs:=[(true,0)]) (l:=[]) (by simp [dblG]) (Dv.term 0 .nil) .nil
 simpa using this
theorem dv_s1:Dv dblG.rules [(false,0)] [0,0]:=by
 have h2:Dv dblG.rules [(false,0),(false,0)] [0,0]:=dv_s0.append dv_s0;have:=Dv.non (rules:=dblG.rules) 0 (rhs:=[(false,0),(false,0)]) (l:=[]) (by simp [dblG]) h2 .nil
 simpa using this
end Go.Proofs.YtfcihnpmeabacaaGreatDoor
namespace Go.Proofs.YtfcihnpmeabacaaGreatDoor
open Go.RowKit
def dblSn (n:Nat) (k:Ky):Bool:=if k.1.1 then decide (k.1.2=0∧k.2.2=k.2.1+1∧k.2.1 < n) else decide (k.1.2=0∧k.2.1 < k.2.2∧k.2.2≤n)
theorem dv_rep:∀ (n:Nat),Dv dblG.rules [(false,0)] (List.replicate (n+1) 0)
 | 0=>dv_s0
 | n+1=>by
  have h2:Dv dblG.rules [(false,0),(false,0)] (List.replicate (n+1+1) 0):=by
   have:=dv_s0.append (dv_rep n)
   simpa [List.replicate_succ] using this
  have:=Dv.non (rules:=dblG.rules) 0 (rhs:=[(false,0),(false,0)]) (l:=[]) (by simp [dblG]) h2 .nil
  simpa using this
theorem dbln_spo (n:Nat):SpOk dblG.rules (List.replicate n 0) (dblSn n):=by
 refine ⟨fun k h=>?_,fun i t h=>?_⟩
 ·obtain ⟨⟨b,a⟩,i,j⟩:=k;cases b with
  | true =>
   simp only [dblSn,if_true,decide_eq_true_eq] at h;obtain ⟨rfl,rfl,hi⟩:=h;refine ⟨by simp,by simp; omega,?_⟩
   have e:((List.replicate n (0:Int)).take (i+1)).drop i=[((0:Nat):Int)]:=by
    rw [List.take_replicate,List.drop_replicate,show min (i+1) n - i=1 by omega]; rfl
   have:=(Dv.term 0 .nil:Dv dblG.rules [(true,0)] [((0:Nat):Int)])
   first | (rw [← e] at this; exact this) | simpa [e] using this
  | false =>
   simp only [dblSn,Bool.false_eq_true,if_false,decide_eq_true_eq] at h;obtain ⟨rfl,hi,hj⟩:=h;refine ⟨by simp; omega,by simp; omega,?_⟩
   have e:((List.replicate n (0:Int)).take j).drop i=List.replicate (j - i - 1+1) 0:=by
    rw [List.take_replicate,List.drop_replicate,show min j n - i=j - i - 1+1 by omega]
   have:=dv_rep (j - i - 1)
   first | (rw [← e] at this; exact this) | simpa [e] using this
 ·have hi:i < n:=by
   have:=(List.getElem?_eq_some_iff.1 h).1
   simpa using this
  have ht:t=0:=by
   rw [List.getElem?_replicate,if_pos hi] at h;have:=Option.some.inj h;omega
  subst ht;simp [dblSn,hi]
theorem dbln_fix {n:Nat} (hn:n=3∨n=1):FixS dblG.rules n (dblSn n):=by
 have h:∀ n∈[1,3],∀ u∈dblG.rules,∀ i∈List.range 4,∀ j∈List.range 4,i≤j→j≤n→someF (dblSn n) u.2 i j=true→dblSn n ((false,u.1),i,j)=true:=(by decide);intro u hu i j hij hj hs;exact h n (by rcases hn with rfl | rfl <;> simp) u hu i (List.mem_range.2 (by omega)) j (List.mem_range.2 (by omega)) hij hj hs
theorem dvD_dbln {n:Nat} (hn:n=3∨n=1):dvD dblG.rules (List.replicate n 0)=dblSn n:=by
 funext k
 exact Bool.eq_iff_iff.2 (dvD_iff.trans ((dbln_spo n).iff (by simpa using dbln_fix hn) k).symm)
def dblL3:List Ky:=[((true,0),0,1),((false,0),0,1),((false,0),0,2),((false,0),0,3),((true,0),1,2),((false,0),1,2),((false,0),1,3),((true,0),2,3),((false,0),2,3)]
theorem dbl3_nds:IsNds (dblSn 3) dblG.rules ((false,0),0,3) dblL3:=by
 have hall:(dblL3.all fun k=>(packsF (dblSn 3) dblG.rules k).all fun p=>p.2.all fun q=>decide (q∈dblL3))=true:=(by decide)
 have hcl:∀ k∈dblL3,∀ p∈packsF (dblSn 3) dblG.rules k,∀ q∈p.2,q∈dblL3:=fun k hk p hp q hq=>by
  have h1:=List.all_eq_true.1 hall k hk;have h2:=List.all_eq_true.1 h1 p hp;exact of_decide_eq_true (List.all_eq_true.1 h2 q hq)
 have r0:RchK (dblSn 3) dblG.rules ((false,0),0,3) ((false,0),0,3):=.root;have r1:RchK (dblSn 3) dblG.rules ((false,0),0,3) ((false,0),0,1):=.kid (p:=(0,[((false,0),0,1),((false,0),1,3)])) r0 (by decide) (by decide);have r2:RchK (dblSn 3) dblG.rules ((false,0),0,3) ((false,0),1,3):=.kid (p:=(0,[((false,0),0,1),((false,0),1,3)])) r0 (by decide) (by decide);have r3:RchK (dblSn 3) dblG.rules ((false,0),0,3) ((false,0),0,2):=.kid (p:=(0,[((false,0),0,2),((false,0),2,3)])) r0 (by decide) (by decide);have r4:RchK (dblSn 3) dblG.rules ((false,0),0,3) ((false,0),2,3):=.kid (p:=(0,[((false,0),0,2),((false,0),2,3)])) r0 (by decide) (by decide);have r5:RchK (dblSn 3) dblG.rules ((false,0),0,3) ((false,0),1,2):=.kid (p:=(0,[((false,0),0,1),((false,0),1,2)])) r3 (by decide) (by decide);have r6:RchK (dblSn 3) dblG.rules ((false,0),0,3) ((true,0),0,1):=.kid (p:=(1,[((true,0),0,1)])) r1 (by decide) (by decide);have r7:RchK (dblSn 3) dblG.rules ((false,0),0,3) ((true,0),1,2):=.kid (p:=(1,[((true,0),1,2)])) r5 (by decide) (by decide);have r8:RchK (dblSn 3) dblG.rules ((false,0),0,3) ((true,0),2,3):=.kid (p:=(1,[((true,0),2,3)])) r4 (by decide) (by decide);refine ⟨by decide,fun k=>⟨fun h=>?_,fun h=>?_⟩⟩
 ·simp only [dblL3,List.mem_cons,List.not_mem_nil,or_false] at h
  rcases h with rfl | rfl | rfl | rfl | rfl | rfl | rfl | rfl | rfl
  ·exact r6
  ·exact r1
  ·exact r3
  ·exact r0
  ·exact r7
  ·exact r5
  ·exact r2
  ·exact r8
  ·exact r4
 ·induction h with
  | root=>decide
  | kid _ hp hq ih=>exact hcl _ ih _ hp _ hq
def dblL1:List Ky:=[((true,0),0,1),((false,0),0,1)]
theorem dbl1_nds:IsNds (dblSn 1) dblG.rules ((false,0),0,1) dblL1:=by
 have hall:(dblL1.all fun k=>(packsF (dblSn 1) dblG.rules k).all fun p=>p.2.all fun q=>decide (q∈dblL1))=true:=(by decide)
 have hcl:∀ k∈dblL1,∀ p∈packsF (dblSn 1) dblG.rules k,∀ q∈p.2,q∈dblL1:=fun k hk p hp q hq=>by
  have h1:=List.all_eq_true.1 hall k hk;have h2:=List.all_eq_true.1 h1 p hp;exact of_decide_eq_true (List.all_eq_true.1 h2 q hq)
 have r0:RchK (dblSn 1) dblG.rules ((false,0),0,1) ((false,0),0,1):=.root;have r1:RchK (dblSn 1) dblG.rules ((false,0),0,1) ((true,0),0,1):=.kid (p:=(1,[((true,0),0,1)])) r0 (by decide) (by decide);refine ⟨by decide,fun k=>⟨fun h=>?_,fun h=>?_⟩⟩
 ·simp only [dblL1,List.mem_cons,List.not_mem_nil,or_false] at h
  rcases h with rfl | rfl
  ·exact r1
  ·exact r0
 ·induction h with
  | root=>decide
  | kid _ hp hq ih=>exact hcl _ ih _ hp _ hq
theorem dbl3_fo {most:Nat} (hm:100≤most) {f:FoI} {b:Bool} (h:IsFo (dvD dblG.rules [0,0,0]) dblG.rules ((false,0),0,3) most f b):f=foI (dblSn 3) dblG.rules dblL3 ((false,0),0,3)∧b=true:=by
 rw [show [(0:Int),0,0]=List.replicate 3 0 from rfl,dvD_dbln (Or.inl rfl)] at h;exact h.uniq (.fits (by decide) dbl3_nds (Nat.le_trans (by decide) hm))
theorem dbl3_cnt:cntV (foI (dblSn 3) dblG.rules dblL3 ((false,0),0,3))=2:=by decide
theorem dbl1_fo {most:Nat} (hm:100≤most) {f:FoI} {b:Bool} (h:IsFo (dvD dblG.rules [0]) dblG.rules ((false,0),0,1) most f b):f=(1,[((true,0,0,1),[]),((false,0,0,1),[(1,[0])])])∧b=true:=by
 rw [show [(0:Int)]=List.replicate 1 0 from rfl,dvD_dbln (Or.inr rfl)] at h;obtain ⟨h1,h2⟩:=h.uniq (.fits (by decide) dbl1_nds (Nat.le_trans (by decide) hm));exact ⟨h1.trans rfl,h2⟩
end Go.Proofs.YtfcihnpmeabacaaGreatDoor
namespace Go.Proofs.YtfcihnpmeabacaaGreatDoor
open Go.RowKit
abbrev dbN1:List NdI:=[((true,0,0,1),[]),((false,0,0,1),[(1,[0])])]
abbrev dbL0:CT:=.mk (-1) 0 1 []
abbrev dbT1:CT:=.mk 1 0 2 [dbL0]
theorem db_seed:seedTo dbN1 2=⟨[[dbL0],[]],[c00 1 0],[],[(c00 1 0,dbT1)]⟩:=by
 have h0:seedTo dbN1 1=⟨[[dbL0],[]],[],[],[]⟩:=rfl;rw [seedTo_succ,h0];show feedTo dbN1 1 (0+1) _=_
 rw [feedTo_succ];show firstL dbN1 (c00 1 0) ⟨[[dbL0],[]],[],[],[]⟩=_
 unfold firstL;rw [if_neg List.not_mem_nil];unfold tryL;show (⟨[[dbL0],[]],[c00 1 0],[],upQ [(c00 1 0,.mk 1 0 (1+szL [dbL0]) [dbL0])] 0⟩:LsS)=_
 rw [upQ_zero]; rfl
theorem db_pop (x:QE):popQ [x]=[x]:=by
 unfold popQ;rw [downQ_end (by simp)]; rfl
theorem db_take:takeL dbN1 3 (c00 1 0,dbT1) ⟨[[dbL0],[]],[c00 1 0],[],[]⟩=⟨[[dbL0],[dbT1]],[c00 1 0,(1,0,1,0,0,0)],[((0,1),[(1,0,1,0,0,0)])],[]⟩:=by
 unfold takeL;rw [if_neg (by decide)];show firstL dbN1 (1,0,1,0,0,0) ⟨[[dbL0],[dbT1]],[c00 1 0],[],[]⟩=_
 unfold firstL;rw [if_neg (by decide)];rfl
theorem db_run:runL dbN1 1 3 2 (seedTo dbN1 dbN1.length)=some ⟨[[dbL0],[dbT1]],[c00 1 0,(1,0,1,0,0,0)],[((0,1),[(1,0,1,0,0,0)])],[]⟩:=by
 show runL dbN1 1 3 2 (seedTo dbN1 2)=_
 rw [db_seed];unfold runL;rw [if_neg (by simp [lstAt])];simp only [db_pop,List.getLast?_singleton,List.dropLast_singleton];rw [if_neg (by show ¬ (5000:Int) < 2; omega),db_take];unfold runL;rw [if_pos (Or.inl rfl)]
theorem db_trs:trsV 1 dbN1 3=([.node 1 [.leaf 0]],true):=by
 have he:=endL_eq db_run;have hc:cntV (1,dbN1)=1:=(by decide);unfold trsV;rw [if_neg (by omega),show ((1:Int)).toNat=1 from rfl,he,hc,if_neg (by simp [lstAt])];rfl
end Go.Proofs.YtfcihnpmeabacaaGreatDoor
