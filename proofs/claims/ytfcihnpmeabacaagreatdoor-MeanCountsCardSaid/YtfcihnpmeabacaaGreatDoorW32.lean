/- Texts VP, ME, laid together. -/
import Derived.Test.YtfcihnpmeabacaaGreatDoorW30
import Derived.Test.YtfcihnpmeabacaaGreatDoorW31
import Derived.Test.YtfcihnpmeabacaaGreatDoorW29
namespace Go.Proofs.YtfcihnpmeabacaaGreatDoor
open Go.RowKit
set_option maxRecDepth 100000 in
set_option maxHeartbeats 8000000 in
theorem means_c (w:World) (hT:TabW w):Calls Tryz.prog 9 #[] w fun e w'=>e=.returned (.bool true)∧Below w.heap.size w w':=by
 have HT:=Lib.hid hT;clear hT;go_enter Tryz.func9,Tryz.ntmps9;go_wp2_with fail;refine (doubling_c w).mono ?_;rintro e w1 ⟨Ag,rfl,hl,hb⟩;rw [show grVal dblG Ag 2 2=.agg #[.int .i64 1,.int .i64 1,.int .i64 0,.slice Ag 2 2] from rfl];have hal:=(Below.refl w1.heap.size w1).al (.cells #[.int .i64 1,.int .i64 1,.int .i64 0,.slice Ag 2 2] 24);have BG:=Blk.new w1 24 #[.int .i64 1,.int .i64 1,.int .i64 0,.slice Ag 2 2];have HB2:=Lib.hid (hb.via hal);have HL2:=Lib.hid (hl.via hal);clear hl hb hal;go_upto_region 2 with fail;generalize w1.alloc (.cells #[.int .i64 1,.int .i64 1,.int .i64 0,.slice Ag 2 2] 24)=w2 at *
 -- Accepts
 have hal:=(Below.refl w2.heap.size w2).al (.cells #[.int .i64 0,.int .i64 0] 3);have hx:=Ints.litB (xs:=[0,0]) (Blk.new w2 3 #[.int .i64 0,.int .i64 0]) rfl rfl
 have HA:Hid (Calls Tryz.prog 30 #[.agg #[.int .i64 1,.int .i64 1,.int .i64 0,.slice Ag 2 2],.slice (some ⟨w2.heap.size,0,none⟩) 2 2] (w2.alloc (.cells #[.int .i64 0,.int .i64 0] 3)) (AccP (w2.alloc (.cells #[.int .i64 0,.int .i64 0] 3)) dblG [0,0])) :=
  Lib.hid (accepts_c _ dblG Ag 2 2 _ 2 2 [0,0] _ dblG_ok (HL2.out.via hal) hx (by omega) (by simp [dblG]) (HT.out.via (HB2.out.via hal)))
 have HB3:=Lib.hid (HB2.out.via hal);have HL3:=Lib.hid (HL2.out.via hal);have BG3:=Lib.hid (BG.via hal);clear hal hx HB2 HL2;have cBG:=BG.cell;have fBG:=BG.frozen;have lBG:=BG.lt;go_wp2_with fail;clear cBG fBG lBG;clear BG;refine HA.out.mono ?_;clear HA;generalize w2.alloc (.cells #[.int .i64 0,.int .i64 0] 3)=w3 at *;rintro e w4 ⟨ba,rfl,hba,hb⟩;have hbt:ba=true:=hba.2 dv_s1;subst hbt;have HB4:=Lib.hid (HB3.out.via hb);have HL4:=Lib.hid (HL3.out.via hb);have BG:=BG3.out.via hb;clear hba hb HB3 HL3 BG3;go_upto_region 3 with fail
 -- Count
 have hal:=(Below.refl w4.heap.size w4).al (.cells #[.int .i64 0,.int .i64 0,.int .i64 0] 3);have hx:=Ints.litB (xs:=[0,0,0]) (Blk.new w4 3 #[.int .i64 0,.int .i64 0,.int .i64 0]) rfl rfl
 have HA:Hid (Calls Tryz.prog 7 #[.agg #[.int .i64 1,.int .i64 1,.int .i64 0,.slice Ag 2 2],.slice (some ⟨w4.heap.size,0,none⟩) 3 3] (w4.alloc (.cells #[.int .i64 0,.int .i64 0,.int .i64 0] 3)) (McP (w4.alloc (.cells #[.int .i64 0,.int .i64 0,.int .i64 0] 3)) dblG [0,0,0])) :=
  Lib.hid (mcount_c _ dblG Ag 2 2 _ 3 3 [0,0,0] _ dblG_ok (HL4.out.via hal) hx (by omega) (by simp [dblG]) (HT.out.via (HB4.out.via hal)))
 have HB5:=Lib.hid (HB4.out.via hal);have HL5:=Lib.hid (HL4.out.via hal);have BG5:=Lib.hid (BG.via hal);clear hal hx HB4 HL4;have cBG:=BG.cell;have fBG:=BG.frozen;have lBG:=BG.lt;go_wp2_with fail;clear cBG fBG lBG;clear BG;refine HA.out.mono ?_;clear HA;generalize w4.alloc (.cells #[.int .i64 0,.int .i64 0,.int .i64 0] 3)=w5 at *;rintro e w6 ⟨f,⟨bf,hf⟩,rfl,hb⟩;obtain ⟨rfl,-⟩:=dbl3_fo (by omega) hf;rw [dbl3_cnt];have HB6:=Lib.hid (HB5.out.via hb);have HL6:=Lib.hid (HL5.out.via hb);have BG:=BG5.out.via hb;clear hf hb HB5 HL5 BG5;go_upto_region 4 with fail
 -- Trees
 have hal:=(Below.refl w6.heap.size w6).al (.cells #[.int .i64 0] 3);have hx:=Ints.litB (xs:=[0]) (Blk.new w6 3 #[.int .i64 0]) rfl rfl
 have HA:Hid (Calls Tryz.prog 12 #[.agg #[.int .i64 1,.int .i64 1,.int .i64 0,.slice Ag 2 2],.slice (some ⟨w6.heap.size,0,none⟩) 1 1,.int .i64 3] (w6.alloc (.cells #[.int .i64 0] 3)) (MtP (w6.alloc (.cells #[.int .i64 0] 3)) dblG [0] 3)) :=
  Lib.hid (mtrees_c _ dblG Ag 2 2 _ 1 1 [0] 3 _ dblG_ok (HL6.out.via hal) hx (by omega) (by simp [dblG]) (HT.out.via (HB6.out.via hal)) (by omega))
 have HB7:=Lib.hid (HB6.out.via hal);clear hal hx HB6 HL6;have cBG:=BG.cell;have fBG:=BG.frozen;have lBG:=BG.lt;go_wp2_with fail;clear cBG fBG lBG;clear BG;refine HA.out.mono ?_;clear HA;generalize w6.alloc (.cells #[.int .i64 0] 3)=w7 at *;rintro e w8 ⟨f,TA,tn,tc,q,⟨bf,hf⟩,rfl,hq,hS,hb⟩;obtain ⟨rfl,-⟩:=dbl1_fo (by omega) hf;have htr:=db_trs;rw [show (((1:Int),dbN1):FoI).1=1 from rfl,show (((1:Int),dbN1):FoI).2=dbN1 from rfl,db_trs] at hq hS;simp only [if_true] at hq hS;subst hq;have hn:=hS.len;simp only [List.length_singleton] at hn;subst hn;obtain ⟨b,off,v,x,rfl,-,-,hx,hvx,hc⟩:=hS.at_ (i:=0) (by omega);obtain rfl:Tr.node 1 [.leaf 0]=x:=(by simpa using hx);obtain ⟨v1,v2,vA,vn,vc⟩:=v;obtain ⟨rfl,rfl,hk⟩:=TreeR.kids hvx;have hkl:=hk.len;simp only [List.length_singleton] at hkl;subst hkl;have c0:=hc 0 _ rfl;have c2:=hc 2 _ rfl;simp only [TrE,Nat.zero_mul,Nat.add_zero] at c0 c2;have HB8:=Lib.hid (HB7.out.via hb);clear hf hb hS hx hvx hc hk htr HB7;go_wp2_with fail;go_ret;exact ⟨rfl,HB8.out⟩
end Go.Proofs.YtfcihnpmeabacaaGreatDoor
namespace Go.Proofs.YtfcihnpmeabacaaGreatDoor
open Go.RowKit
def kidsP (P:Ky→List (Nat×List Ky)) (k:Ky):List Ky:=(P k).flatMap (·.2)
def rchV (P:Ky→List (Nat×List Ky)):Nat→Ky→List Ky→List Ky
 | 0,_,M=>M
 | d+1,k,M=>if k∈M then M else (kidsP P k).foldl (fun M q=>rchV P d q M) (M++[k])
section
variable {P:Ky→List (Nat×List Ky)}
inductive DwnK (P:Ky→List (Nat×List Ky)):Ky→Ky→Prop
 | refl (k:Ky):DwnK P k k
 | kid (k q r:Ky) (h:q∈kidsP P k) (h2:DwnK P q r):DwnK P k r
structure RchS (P:Ky→List (Nat×List Ky)) (l:List Ky) (M M':List Ky):Prop where
 pre:∃ X,M'=M++X
 nodup:M'.Nodup
 from_:∀ k∈M',k∈M∨∃ q∈l,DwnK P q k
 clo:∀ k∈M',k∉M→∀ q∈kidsP P k,q∈M'
 all:∀ k∈l,k∈M'
theorem RchS.refl {M:List Ky} (h:M.Nodup):RchS P [] M M:=⟨⟨[],by simp⟩,h,fun k hk=>Or.inl hk,fun k hk hn=>absurd hk hn,fun k hk=>absurd hk List.not_mem_nil⟩
theorem RchS.sub {l M M':List Ky} (h:RchS P l M M'):∀ k∈M,k∈M':=fun k hk=>by
 obtain ⟨X,rfl⟩:=h.pre;exact List.mem_append_left _ hk
theorem RchS.trans {l l' M M' M'':List Ky} (h:RchS P l M M') (k:RchS P l' M' M''):RchS P (l++l') M M'':=by
 refine ⟨?_,k.nodup,fun x hx=>?_,fun x hx hn q hq=>?_,fun x hx=>?_⟩
 ·obtain ⟨X,rfl⟩:=h.pre;obtain ⟨Y,rfl⟩:=k.pre;exact ⟨X++Y,by simp⟩
 ·rcases k.from_ x hx with h1 | ⟨q,h1,h2⟩
  ·rcases h.from_ x h1 with h2 | ⟨q,h2,h3⟩
   ·exact Or.inl h2
   ·exact Or.inr ⟨q,List.mem_append_left _ h2,h3⟩
  ·exact Or.inr ⟨q,List.mem_append_right _ h1,h2⟩
 ·by_cases h1:x∈M'
  ·exact k.sub q (h.clo x h1 hn q hq)
  ·exact k.clo x hx h1 q hq
 ·rcases List.mem_append.1 hx with h1 | h1
  ·exact k.sub x (h.all x h1)
  ·exact k.all x h1
theorem nodup_sub_len {α:Type}:∀ {M U:List α},M.Nodup→(∀ q∈M,q∈U)→M.length≤U.length
 | [],U,_,_=>Nat.zero_le _
 | a::M,U,hM,h=>by
  obtain ⟨s,t,rfl⟩:=List.append_of_mem (h a (List.mem_cons_self ..));obtain ⟨h1,h2⟩:=List.nodup_cons.1 hM
  have:=nodup_sub_len (U:=s++t) h2 fun q hq=>by
   have:=h q (List.mem_cons_of_mem _ hq)
   rcases List.mem_append.1 this with h3 | h3
   ·exact List.mem_append_left _ h3
   ·rcases List.mem_cons.1 h3 with rfl | h3
    ·exact absurd hq h1
    ·exact List.mem_append_right _ h3
  simp at this ⊢; omega
theorem rchV_spec {U:List Ky} (hU:∀ k∈U,∀ q∈kidsP P k,q∈U) (hn:U.Nodup):∀ (d:Nat) (k:Ky) (M:List Ky),k∈U→M.Nodup→(∀ q∈M,q∈U)→U.length < d+M.length→RchS P [k] M (rchV P d k M)∧∀ q∈rchV P d k M,q∈U
 | 0,k,M,_,hM,hMU,hd=>by
  have:M.length≤U.length:=nodup_sub_len hM hMU;omega
 | d+1,k,M,hk,hM,hMU,hd=>by
  unfold rchV
  by_cases hm:k∈M
  ·rw [if_pos hm];exact ⟨⟨⟨[],by simp⟩,hM,fun x hx=>Or.inl hx,fun x hx hn=>absurd hx hn,fun x hx=>by rw [List.mem_singleton.1 hx]; exact hm⟩,hMU⟩
  ·rw [if_neg hm]
   have key:∀ (l:List Ky) (N:List Ky),(∀ q∈l,q∈U)→N.Nodup→(∀ q∈N,q∈U)→M.length+1≤N.length→RchS P l N (l.foldl (fun M q=>rchV P d q M) N)∧∀ q∈l.foldl (fun M q=>rchV P d q M) N,q∈U:=by
    intro l
    induction l with
    | nil=>intro N _ h1 h2 _; exact ⟨.refl h1,h2⟩
    | cons q l ih =>
     intro N hl h1 h2 h3;obtain ⟨a,b⟩:=rchV_spec hU hn d q N (hl q (List.mem_cons_self ..)) h1 h2 (by omega);have hle:N.length≤(rchV P d q N).length:=(by obtain ⟨X,hX⟩:=a.pre; rw [hX]; simp);obtain ⟨c,e⟩:=ih (rchV P d q N) (fun r hr=>hl r (List.mem_cons_of_mem _ hr)) a.nodup b (by omega);rw [List.foldl_cons];exact ⟨a.trans c,e⟩
   have hM2:(M++[k]).Nodup:=List.nodup_append.2 ⟨hM,by simp,fun a ha b hb=>by rw [List.mem_singleton.1 hb]; exact fun e=>hm (e ▸ ha)⟩
   obtain ⟨a,b⟩:=key (kidsP P k) (M++[k]) (fun q hq=>hU k hk q hq) hM2 (fun q hq=>by
    rcases List.mem_append.1 hq with h | h
    ·exact hMU q h
    ·rw [List.mem_singleton.1 h]; exact hk) (by simp)
   refine ⟨⟨?_,a.nodup,fun x hx=>?_,fun x hx hn q hq=>?_,fun x hx=>?_⟩,b⟩
   ·obtain ⟨X,hX⟩:=a.pre;exact ⟨[k]++X,by rw [hX]; simp⟩
   ·rcases a.from_ x hx with h | ⟨q,h1,h2⟩
    ·rcases List.mem_append.1 h with h | h
     ·exact Or.inl h
     ·rw [List.mem_singleton.1 h]; exact Or.inr ⟨k,by simp,.refl k⟩
    ·exact Or.inr ⟨k,by simp,.kid k q x h1 h2⟩
   ·by_cases e:x=k
    ·subst e; exact a.all q hq
    ·exact a.clo x hx (fun h=>by
      rcases List.mem_append.1 h with h | h
      ·exact hn h
      ·exact e (List.mem_singleton.1 h)) q hq
   ·rw [List.mem_singleton.1 hx]; exact a.sub k (by simp)
theorem rchV_all {U:List Ky} (hU:∀ k∈U,∀ q∈kidsP P k,q∈U) (hn:U.Nodup) {d:Nat} {k:Ky} (hk:k∈U) (hd:U.length < d):(rchV P d k []).Nodup∧(∀ q,q∈rchV P d k []↔DwnK P k q)∧(∀ q∈rchV P d k [],q∈U)∧(∀ q∈rchV P d k [],∀ r∈kidsP P q,r∈rchV P d k []):=by
 obtain ⟨a,b⟩:=rchV_spec hU hn d k [] hk List.nodup_nil (fun q hq=>absurd hq List.not_mem_nil) (by simpa using hd);have hc:∀ q∈rchV P d k [],∀ r∈kidsP P q,r∈rchV P d k []:=fun q hq=>a.clo q hq List.not_mem_nil
 refine ⟨a.nodup,fun q=>⟨fun hq=>?_,fun hq=>?_⟩,b,hc⟩
 ·rcases a.from_ q hq with h | ⟨r,h1,h2⟩
  ·exact absurd h List.not_mem_nil
  ·rw [List.mem_singleton.1 h1] at h2; exact h2
 ·have key:∀ (Z:List Ky),(∀ q∈Z,∀ r∈kidsP P q,r∈Z)→∀ a q,DwnK P a q→a∈Z→q∈Z:=by
   intro Z hz a q h
   induction h with
   | refl k=>exact id
   | kid k q r h h2 ih=>exact fun hk=>ih (hz k hk q h)
  exact key _ hc k q hq (a.all k (by simp))
end
end Go.Proofs.YtfcihnpmeabacaaGreatDoor
