/- Texts JD, JF, BU, laid together. -/
import Derived.Test.YtfcihnpmeabacaaGreatDoorW16
import Derived.Test.YtfcihnpmeabacaaGreatDoorW14
import Derived.Test.YtfcihnpmeabacaaGreatDoorW15
namespace Go.Proofs.YtfcihnpmeabacaaGreatDoor
open Go.RowKit
def okT (T:Int) (t:Int):Bool:=decide (0≤t)&&decide (t < T)
def chkW (T:Int) (most:Nat) (xs:List Int):Int:=if most < xs.length then 2 else if (xs.any fun t=>!okT T t)=true then 1 else 0
set_option maxRecDepth 100000 in
set_option maxHeartbeats 1000000 in
theorem idxI_c (fid:Nat) (he:∀ (args:Array Value) (w:World),(callFunc fid args).run Tryz.prog w=.ok (.enter fid args) w) (caps:Array Value) (A:Option Addr) (n c:Nat) (xs:List Int) (p:Int→Bool) (w:World) (h:Ints w A n c xs) (hn:n≤1000000)
 (hf:∀ w' x,Below w.heap.size w w'→x∈xs→Calls Tryz.prog fid (#[.int .i64 x]++caps) w' fun e w''=>e=.returned (.bool (p x))∧Below w'.heap.size w' w'') :
 Calls Tryz.prog 100 #[.slice A n c,.func (.func fid) #[] caps] w (IdxFP p xs w):=by
 have H:=Lib.hid h;have HF:=Lib.hid hf;clear h hf;go_enter Tryz.func100,Tryz.ntmps100;go_wp2_with fail
 go_loopw [8] (fun i wr=>∃ j:Nat,i=.int .i64 j∧j≤n∧Hid (∀ (k:Nat) x,k < j→xs[k]?=some x→p x=false)∧Hid (Below w.heap.size w wr)) (fun i _=>n - (intOf i).toNat)
 case atStart=>exact ⟨0,rfl,Nat.zero_le _,Lib.hid (fun k x h=>absurd h (Nat.not_lt_zero _)),Lib.hid (Below.refl _ _)⟩
 case round =>
  obtain ⟨j,rfl,hj,HN,HB⟩:=hrel
  by_cases hjl:j < n
  ·obtain ⟨b1,o1,rfl,hb1,hc⟩:=(H.out.via HB.out).at_ hjl;have hlen:=H.out.len;obtain ⟨x,hx⟩:∃ x,xs[j]?=some x:=⟨_,List.getElem?_eq_getElem (by omega)⟩;have e6:xs.getD j 0=x:=(by simp [List.getD_eq_getElem?_getD,hx]);rw [e6] at hc;have i0:(0:Int)≤(j:Int):=(by omega);have i1:(j:Int) < (n:Int):=(by omega);have HX:=Lib.hid hx;clear hx hb1 e6 hlen;go_wp2_with fail;clear hc;refine (HF.out wr x HB.out (List.mem_of_getElem? HX.out)).mono ?_;rintro e w2 ⟨rfl,hb2⟩;have HB2:=Lib.hid (HB.out.via hb2);clear hb2;cases hp:p x
   case false =>
    have HP:=Lib.hid hp;clear hp;go_wp2_with fail
    exact ⟨⟨j+1,by go_num,by omega,Lib.hid (fun k y hk hy=>by
     rcases Nat.lt_or_ge k j with h1 | h1
     ·exact HN.out k y h1 hy
     ·obtain rfl:k=j:=(by omega)
      rw [HX.out] at hy; cases hy; exact HP.out),HB2⟩,by simp [intOf]; omega⟩
   case true =>
    have HP:=Lib.hid hp;clear hp;go_wp2_with fail;go_ret;exact ⟨j,rfl,HB2.out,Or.inr ⟨j,rfl,⟨x,HX.out,HP.out⟩,HN.out⟩⟩
  ·go_wp2_with fail;go_ret
   exact ⟨-1,rfl,HB.out,Or.inl ⟨rfl,fun x hx=>by
    obtain ⟨k,hk⟩:=List.getElem?_of_mem hx;have:=(List.getElem?_eq_some_iff.1 hk).1;have:=H.out.len
    exact HN.out k x (by omega) hk⟩⟩
set_option maxHeartbeats 1000000 in
theorem conI_c (fid:Nat) (he:∀ (args:Array Value) (w:World),(callFunc fid args).run Tryz.prog w=.ok (.enter fid args) w) (caps:Array Value) (A:Option Addr) (n c:Nat) (xs:List Int) (p:Int→Bool) (w:World) (h:Ints w A n c xs) (hn:n≤1000000)
 (hf:∀ w' x,Below w.heap.size w w'→x∈xs→Calls Tryz.prog fid (#[.int .i64 x]++caps) w' fun e w''=>e=.returned (.bool (p x))∧Below w'.heap.size w' w'') :
 Calls Tryz.prog 63 #[.slice A n c,.func (.func fid) #[] caps] w fun e w'=>e=.returned (.bool (xs.any p))∧Below w.heap.size w w':=by
 have HC:=Lib.hid (idxI_c fid he caps A n c xs p w h hn hf);clear h hf;go_enter Tryz.func63,Tryz.ntmps63;go_wp2_with fail;refine HC.out.mono ?_;rintro e w1 ⟨r,rfl,hb,hr⟩;have HB:=Lib.hid hb
 have HV:=Lib.hid (show decide (0≤r)=xs.any p by
  rcases hr with ⟨rfl,h0⟩ | ⟨i,rfl,⟨x,hx,hp⟩,-⟩
  ·rw [decide_eq_false (by omega)];exact (List.any_eq_false.2 fun x hx=>by rw [h0 x hx]; simp).symm
  ·rw [decide_eq_true (by omega)]
   exact (List.any_eq_true.2 ⟨x,List.mem_of_getElem? hx,hp⟩).symm)
 obtain ⟨bv,hbv⟩:∃ bv,decide (0≤r)=bv:=⟨_,rfl⟩;have HW:=Lib.hid (show bv=xs.any p by rw [← hbv]; exact HV.out);clear hr hb HV;go_wp2_with fail;go_ret;exact ⟨by rw [HW.out]; rfl,HB.out⟩
theorem letI_c (bg:Nat) (T N S:Int) (A:Option Addr) (n c:Nat) (x:Int) (w:World) (hg:Blk w bg 24 (giCells T N S A n c)) :
 Calls Tryz.prog 91 (#[.int .i64 x]++#[.pointer (some ⟨bg,0,none⟩)]) w (TellB w (!okT T x)):=by
 unfold giCells at hg;obtain ⟨b0,h0⟩:∃ b,decide (x < 0)=b:=⟨_,rfl⟩;obtain ⟨b1,h1⟩:∃ b,decide (T≤x)=b:=⟨_,rfl⟩
 have HV:=Lib.hid (show (!okT T x)=(b0 || b1) by
  rw [← h0,← h1]; unfold okT
  by_cases a:x < 0
  ·rw [dlt a,dgt (by omega:¬ 0≤x)]; rfl
  ·rw [dge a,dle (by omega:0≤x)]
   by_cases b:T≤x
   ·rw [dle b,dge (by omega:¬ x < T)]; rfl
   ·rw [dgt b,dlt (by omega:x < T)]; rfl)
 have chg:=hg.cell;have fhg:=hg.frozen;have lhg:=hg.lt;cases b0 <;> cases b1 <;>
 ·go_enter Tryz.func91,Tryz.ntmps91;go_wp2_with fail;go_ret;exact ⟨by rw [HV.out]; rfl,Below.refl _ _⟩
theorem ref2_c (bg:Nat) (T N S:Int) (hT:1≤T∧T≤8) (A:Option Addr) (n c:Nat) (x:Int) (w:World) (hg:Blk w bg 24 (giCells T N S A n c)) :
 Calls Tryz.prog 64 (#[.int .i64 x]++#[.pointer (some ⟨bg,0,none⟩)]) w (TellB w (!okT T x)):=by
 unfold giCells at hg;have hTS:IntKind.i64.wrap (T - 1)=T - 1:=(by rw [IntKind.wrap_i64]; omega);have HV:=Lib.hid (show okT T x=(decide (0≤x)&&decide (x≤T - 1)) by unfold okT; congr 1; exact decide_eq_decide.2 ⟨fun h=>by omega,fun h=>by omega⟩);have chg:=hg.cell;have fhg:=hg.frozen;have lhg:=hg.lt;go_enter Tryz.func64,Tryz.ntmps64;go_wp2_with fail;refine (in_c x 0 (T - 1) w).mono ?_;rintro e w' ⟨rfl,rfl⟩;rw [← HV.out];generalize okT T x=bv at *;go_wp2_with fail;go_ret;exact ⟨rfl,Below.refl _ _⟩
set_option maxRecDepth 100000 in
set_option maxHeartbeats 1000000 in
theorem wordI_c (T N S:Int) (hT:1≤T∧T≤8) (Ag:Option Addr) (ng cg:Nat) (A:Option Addr) (n c most:Nat) (xs:List Int) (w:World) (h:Ints w A n c xs) (hm:most≤100000) :
 Calls Tryz.prog 59 #[.agg #[.int .i64 T,.int .i64 N,.int .i64 S,.slice Ag ng cg],.slice A n c,.int .i64 (most:Int)] w (IntO w (chkW T most xs)):=by
 have HB0:=Lib.hid (Blk.new w 24 #[.int .i64 T,.int .i64 N,.int .i64 S,.slice Ag ng cg]);have H:=Lib.hid (h.alloc (.cells #[.int .i64 T,.int .i64 N,.int .i64 S,.slice Ag ng cg] 24));have HB:=Lib.hid ((Below.refl w.heap.size w).al (.cells #[.int .i64 T,.int .i64 N,.int .i64 S,.slice Ag ng cg] 24));have HLEN:=Lib.hid h.len;have HT:=Lib.hid hT;clear h hT
 by_cases hn:most < n
 ·have e1:decide ((most:Int) < (n:Int))=true:=dlt (by omega);have HV:=Lib.hid (show chkW T most xs=2 by unfold chkW; rw [if_pos (by rw [HLEN.out]; exact hn)]);go_enter Tryz.func59,Tryz.ntmps59;go_wp2_with fail;go_ret;exact ⟨by rw [HV.out]; rfl,HB.out⟩
 ·have e1:decide ((most:Int) < (n:Int))=false:=dge (by omega);go_enter Tryz.func59,Tryz.ntmps59;go_wp2_with fail;refine (conI_c 91 (enters_c rfl rfl rfl) #[.pointer (some ⟨w.heap.size,0,none⟩)] A n c xs (fun t=>!okT T t) _ H.out (by omega) ?_).mono ?_
  ·intro w' x hb' _;exact letI_c w.heap.size T N S Ag ng cg x w' (HB0.out.via hb')
  rintro e w2 ⟨rfl,hb⟩;have HF:=Lib.hid (HB.out.via hb);clear hb e1;cases hany:xs.any fun t=>!okT T t with
  | true =>
   have HV:=Lib.hid (show chkW T most xs=1 by unfold chkW; rw [if_neg (by rw [HLEN.out]; exact hn),if_pos hany]);clear hany;go_wp2_with fail;go_ret;exact ⟨by rw [HV.out]; rfl,HF.out⟩
  | false =>
   have HV:=Lib.hid (show chkW T most xs=0 by unfold chkW; rw [if_neg (by rw [HLEN.out]; exact hn),if_neg (by rw [hany]; simp)]);clear hany;go_wp2_with fail;go_ret;exact ⟨by rw [HV.out]; rfl,HF.out⟩
set_option maxRecDepth 100000 in
set_option maxHeartbeats 1000000 in
theorem refword_c (T N S:Int) (hT:1≤T∧T≤8) (Ag:Option Addr) (ng cg:Nat) (A:Option Addr) (n c most:Nat) (xs:List Int) (w:World) (h:Ints w A n c xs) (hm:most≤100000) :
 Calls Tryz.prog 28 #[.agg #[.int .i64 T,.int .i64 N,.int .i64 S,.slice Ag ng cg],.slice A n c,.int .i64 (most:Int)] w (IntO w (chkW T most xs)):=by
 have HB0:=Lib.hid (Blk.new w 24 #[.int .i64 T,.int .i64 N,.int .i64 S,.slice Ag ng cg]);have H:=Lib.hid (h.alloc (.cells #[.int .i64 T,.int .i64 N,.int .i64 S,.slice Ag ng cg] 24));have HB:=Lib.hid ((Below.refl w.heap.size w).al (.cells #[.int .i64 T,.int .i64 N,.int .i64 S,.slice Ag ng cg] 24));have HLEN:=Lib.hid h.len;have HT:=Lib.hid hT;clear h hT
 by_cases hn:most < n
 ·have e1:decide ((most:Int) < (n:Int))=true:=dlt (by omega);have HV:=Lib.hid (show chkW T most xs=2 by unfold chkW; rw [if_pos (by rw [HLEN.out]; exact hn)]);go_enter Tryz.func28,Tryz.ntmps28;go_wp2_with fail;go_ret;exact ⟨by rw [HV.out]; rfl,HB.out⟩
 ·have e1:decide ((most:Int) < (n:Int))=false:=dge (by omega);go_enter Tryz.func28,Tryz.ntmps28;go_wp2_with fail;refine (conI_c 64 (enters_c rfl rfl rfl) #[.pointer (some ⟨w.heap.size,0,none⟩)] A n c xs (fun t=>!okT T t) _ H.out (by omega) ?_).mono ?_
  ·intro w' x hb' _;exact ref2_c w.heap.size T N S HT.out Ag ng cg x w' (HB0.out.via hb')
  rintro e w2 ⟨rfl,hb⟩;have HF:=Lib.hid (HB.out.via hb);clear hb e1;cases hany:xs.any fun t=>!okT T t with
  | true =>
   have HV:=Lib.hid (show chkW T most xs=1 by unfold chkW; rw [if_neg (by rw [HLEN.out]; exact hn),if_pos hany]);clear hany;go_wp2_with fail;go_ret;exact ⟨by rw [HV.out]; rfl,HF.out⟩
  | false =>
   have HV:=Lib.hid (show chkW T most xs=0 by unfold chkW; rw [if_neg (by rw [HLEN.out]; exact hn),if_neg (by rw [hany]; simp)]);clear hany;go_wp2_with fail;go_ret;exact ⟨by rw [HV.out]; rfl,HF.out⟩
end Go.Proofs.YtfcihnpmeabacaaGreatDoor
namespace Go.Proofs.YtfcihnpmeabacaaGreatDoor
open Go.RowKit
def embS (s:Sy):Ci:=(s.1,(s.2:Int))
def embR (r:Ru):Ri:=((r.1:Int),r.2.map embS)
theorem lift_sym {T N:Int} {s:Ci} (h:okSi T N s=true):∃ y:Sy,s=embS y∧(if y.1 then (y.2:Int) < T else (y.2:Int) < N):=by
 obtain ⟨b,k⟩:=s;unfold okSi at h;simp only [Bool.and_eq_true,decide_eq_true_eq,Bool.or_eq_true,Bool.not_eq_true'] at h;refine ⟨(b,k.toNat),?_,?_⟩
 ·simp only [embS,Prod.mk.injEq,true_and]; omega
 ·cases b
  ·simp at h ⊢; omega
  ·simp at h ⊢; omega
theorem chkL_ok {T N:Int}:∀ (rs done:List Ri),chkL T N done rs=0→(∀ r∈rs,(0≤r.1∧r.1 < N)∧r.2.length≤4∧∀ s∈r.2,okSi T N s=true)∧rs.Nodup∧∀ r∈rs,¬ r∈done
 | [],_,_=>⟨fun r h=>(by cases h),List.nodup_nil,fun r h=>(by cases h)⟩
 | r::rs,done,h=>by
  unfold chkL at h
  by_cases h1:¬ (0≤r.1∧r.1 < N)
  ·rw [if_pos h1] at h; cases h
  ·rw [if_neg h1] at h
   by_cases h2:4 < r.2.length
   ·rw [if_pos h2] at h; cases h
   ·rw [if_neg h2] at h
    by_cases h3:(r.2.any fun s=>!okSi T N s)=true
    ·rw [if_pos h3] at h; cases h
    ·rw [if_neg h3] at h
     by_cases h4:r∈done
     ·rw [if_pos h4] at h; cases h
     ·rw [if_neg h4] at h;obtain ⟨i1,i2,i3⟩:=chkL_ok rs (done++[r]) h;refine ⟨fun x hx=>?_,List.nodup_cons.2 ⟨fun hm=>i3 r hm (by simp),i2⟩,fun x hx hd=>?_⟩
      ·rcases List.mem_cons.1 hx with rfl | hx
       ·refine ⟨Classical.not_not.1 h1,by omega,fun s hs=>?_⟩;cases ho:okSi T N s with
        | true=>rfl
        | false=>exact absurd (List.any_eq_true.2 ⟨s,hs,by rw [ho]; rfl⟩) h3
       ·exact i1 x hx
      ·rcases List.mem_cons.1 hx with rfl | hx
       ·exact h4 hd
       ·exact i3 x hx (List.mem_append_left _ hd)
theorem lift_list {α β:Type} {f:α→β} {p:α→Prop}:∀ {l:List β},(∀ y∈l,∃ x,y=f x∧p x)→∃ k:List α,l=k.map f∧∀ x∈k,p x
 | [],_=>⟨[],rfl,fun x h=>(by cases h)⟩
 | y::l,h=>by
  obtain ⟨x,hx,hp⟩:=h y (List.mem_cons_self ..);obtain ⟨k,hk,hpk⟩:=lift_list (l:=l) fun z hz=>h z (List.mem_cons_of_mem _ hz)
  refine ⟨x::k,by rw [hx,hk]; rfl,fun z hz=>?_⟩
  rcases List.mem_cons.1 hz with rfl | hz
  ·exact hp
  ·exact hpk z hz
theorem chkG_ok {T N S:Int} {rs:List Ri} (h:chkG T N S rs=0):∃ g:Gr,GrOk g∧T=(g.terms:Int)∧N=(g.nons:Int)∧S=(g.start:Int)∧rs=g.rules.map embR:=by
 unfold chkG at h
 by_cases h1:¬ (1≤T∧T≤8∧1≤N∧N≤10∧0≤S∧S < N)
 ·rw [if_pos h1] at h; cases h
 ·rw [if_neg h1] at h
  by_cases h2:32 < rs.length
  ·rw [if_pos h2] at h; cases h
  ·rw [if_neg h2] at h;obtain ⟨i1,i2,-⟩:=chkL_ok rs [] h;have h1:=Classical.not_not.1 h1
   obtain ⟨k,hk,hp⟩:=lift_list (f:=embR) (p:=fun u=>(u.1:Int) < N∧u.2.length≤4∧∀ y∈u.2,(if y.1 then (y.2:Int) < T else (y.2:Int) < N)) (l:=rs) fun r hr=>by
    obtain ⟨⟨a1,a2⟩,a3,a4⟩:=i1 r hr;obtain ⟨l,hl,hlp⟩:=lift_list (f:=embS) (p:=fun y:Sy=>if y.1 then (y.2:Int) < T else (y.2:Int) < N) (l:=r.2) fun s hs=>lift_sym (a4 s hs)
    refine ⟨(r.1.toNat,l),?_,by simp only; omega,?_,hlp⟩
    ·obtain ⟨r1,r2⟩:=r;simp only [embR,Prod.mk.injEq];exact ⟨by simp only at a1; omega,hl⟩
    ·simp only;rw [hl,List.length_map] at a3; exact a3
   refine ⟨⟨T.toNat,N.toNat,S.toNat,k⟩,⟨⟨by simp only; omega,by simp only; omega,by simp only; omega,?_,fun r hr=>?_,fun r hr=>⟨(hp r hr).2.1,fun s hs=>?_⟩⟩,?_⟩,by simp only; omega,by simp only; omega,by simp only; omega,hk⟩
   ·simp only; rw [hk,List.length_map] at h2; omega
   ·have:=(hp r hr).1; simp only; omega
   ·have:=(hp r hr).2.2 s hs;unfold Gr.okSy;cases hs1:s.1 <;> rw [hs1] at this <;> simp at this ⊢ <;> omega
   ·rw [hk] at i2;exact List.Pairwise.of_map embR (fun a b h e=>h (by rw [e])) i2
theorem Sl.lowS {ok:Nat→Prop} {w:World} {A:Option Addr} {n c:Nat} {l:List Sy} (h:Sl SiE ok w A n c (l.map embS)):Sl SyE ok w A n c l:=by
 obtain ⟨h1,h2,raw,h3,h4,h5⟩:=h;rw [List.length_map] at h1;have e:raw=l.map embS:=List.ext_getElem (by rw [h3,List.length_map,h1]) fun i a b=>h5 i _ _ (List.getElem?_eq_getElem a) (List.getElem?_eq_getElem b)
 have ef:∀ l:List Sy,flat SiE (l.map embS)=flat SyE l:=fun l=>by
  induction l with
  | nil=>rfl
  | cons x l ih=>simp only [flat,List.map_cons,List.flatMap_cons] at ih ⊢; rw [ih]; rfl
 refine ⟨h1,h2,l,h1,?_,fun i r x hr hx=>by rw [hr] at hx; exact Option.some.inj hx⟩;rw [e,ef] at h4; exact h4
theorem Sl.lowR {ok:Nat→Prop} {w:World} {A:Option Addr} {n c:Nat} {l:List Ru} (h:Sl RiE ok w A n c (l.map embR)):Sl RuE ok w A n c l:=by
 obtain ⟨h1,h2,raw,h3,h4,h5⟩:=h;rw [List.length_map] at h1
 have key:∀ (raw:List (Int×SlV)) (l:List Ru),raw.length=l.length→(∀ (i:Nat) r x,raw[i]?=some r→(l.map embR)[i]?=some x→RiE.rel ok w r x) →
  ∃ raw2:List (Nat×SlV),raw2.length=l.length∧flat RuE raw2=flat RiE raw∧∀ (i:Nat) r x,raw2[i]?=some r→l[i]?=some x→RuE.rel ok w r x:=by
  intro raw
  induction raw with
  | nil =>
   intro l hl _;have e:l=[]:=List.eq_nil_of_length_eq_zero (by simpa using hl.symm);subst e;exact ⟨[],rfl,rfl,fun i r x hr=>by simp at hr⟩
  | cons r raw ih =>
   intro l hl hrel;cases l with
   | nil=>simp at hl
   | cons u l =>
    obtain ⟨raw2,k1,k2,k3⟩:=ih l (by simpa using hl) fun i r' x hr hx=>hrel (i+1) r' x (by simpa using hr) (by simpa using hx)
    have h0:=hrel 0 r (embR u) rfl rfl;obtain ⟨r1,r2⟩:=r;obtain ⟨e1,e2⟩:=h0;simp only [embR] at e1 e2;refine ⟨(u.1,r2)::raw2,by simp [k1],?_,fun i r' x hr hx=>?_⟩
    ·simp only [flat,List.flatMap_cons] at k2 ⊢;rw [k2,e1]; rfl
    ·cases i with
     | zero =>
      obtain rfl:(u.1,r2)=r':=(by simpa using hr);obtain rfl:u=x:=(by simpa using hx);exact ⟨rfl,Sl.lowS e2⟩
     | succ i=>exact k3 i r' x (by simpa using hr) (by simpa using hx)
 obtain ⟨raw2,k1,k2,k3⟩:=key raw l (by rw [h3,h1]) h5;exact ⟨h1,h2,raw2,by rw [k1,h1],by rw [k2]; exact h4,k3⟩
section
variable {R:List Ru} {es:Nat→Bool} {fs:Nat→Nat→Bool}
end
end Go.Proofs.YtfcihnpmeabacaaGreatDoor
namespace Go.Proofs.YtfcihnpmeabacaaGreatDoor
open Go.RowKit
noncomputable def dvD (rules:List Ru) (xs:List Int) (k:Ky):Bool:=@decide (DvS rules xs k) (Classical.propDecidable _)
theorem dvD_iff {rules:List Ru} {xs:List Int} {k:Ky}:dvD rules xs k=true↔DvS rules xs k:=by unfold dvD; exact @decide_eq_true_iff _ (Classical.propDecidable _)
theorem dOf_dv {rules:List Ru} {xs:List Int} {E:EnS} (hs:SndE rules xs E) (hf:FixE rules xs E) (hl:xs.length < 32):dOf xs E=dvD rules xs:=by
 funext k
 exact Bool.eq_iff_iff.2 ((dOf_iff hs hf hl k).trans dvD_iff.symm)
def chkB (T N S:Int) (rs:List Ri) (xs:List Int):Int:=if chkG T N S rs=0 then chkW T 12 xs else chkG T N S rs
set_option maxRecDepth 100000 in
theorem mcheckB_c (ok:Nat→Prop) (T N S:Int) (A:Option Addr) (n c:Nat) (rs:List Ri) (wA:Option Addr) (wn wc:Nat) (xs:List Int) (w:World) (hl:Sl RiE ok w A n c rs) (hx:Ints w wA wn wc xs) :
 Calls Tryz.prog 25 #[.agg #[.int .i64 T,.int .i64 N,.int .i64 S,.slice A n c],.slice wA wn wc] w (IntO w (chkB T N S rs xs)):=by
 obtain ⟨q,hq⟩:∃ q,chkG T N S rs=q:=⟨_,rfl⟩;have B0:=Blk.new w 24 #[.int .i64 T,.int .i64 N,.int .i64 S,.slice A n c];have HB:=Lib.hid ((Below.refl w.heap.size w).al (.cells #[.int .i64 T,.int .i64 N,.int .i64 S,.slice A n c] 24));have HL:=Lib.hid (hl.al (.cells #[.int .i64 T,.int .i64 N,.int .i64 S,.slice A n c] 24));have HX:=Lib.hid (hx.alloc (.cells #[.int .i64 T,.int .i64 N,.int .i64 S,.slice A n c] 24));have HB0:=Lib.hid B0;have HQ:=Lib.hid hq;clear hl hx hq;go_enter Tryz.func25,Tryz.ntmps25;have cB0:=B0.cell;have fB0:=B0.frozen;have lB0:=B0.lt;go_wp2_with fail;clear cB0 fB0 lB0;generalize w.alloc (.cells #[.int .i64 T,.int .i64 N,.int .i64 S,.slice A n c] 24)=W at *;have hc:=checkI_c ok T N S A n c rs W HL.out;rw [HQ.out] at hc;refine hc.mono ?_;clear hc;rintro e w1 ⟨rfl,hb⟩;have HB1:=Lib.hid (HB.out.via hb);have HX1:=Lib.hid (HX.out.keep hb (Nat.le_refl _));have B1:=HB0.out.via hb;clear hb B0 HB HX HB0
 by_cases h0:q=0
 ·subst h0
  have HT:=Lib.hid (show 1≤T∧T≤8 from by
   obtain ⟨g,hg,rfl,-⟩:=chkG_ok HQ.out
   have:=hg.ok.terms; omega)
  have HV:=Lib.hid (show chkB T N S rs xs=chkW T 12 xs by unfold chkB; rw [if_pos HQ.out]);have cB1:=B1.cell;have fB1:=B1.frozen;have lB1:=B1.lt;go_wp2_with fail;clear cB1 fB1 lB1;refine (wordI_c T N S HT.out A n c wA wn wc 12 xs w1 HX1.out (by omega)).mono ?_;rintro e w2 ⟨rfl,hb⟩;have HF:=Lib.hid (HB1.out.via hb);clear hb;go_wp2_with fail;go_ret;exact ⟨by rw [HV.out]; rfl,HF.out⟩
 ·have HV:=Lib.hid (show chkB T N S rs xs=q by unfold chkB; rw [if_neg (by rw [HQ.out]; exact h0)]; exact HQ.out);go_wp2_with fail;go_ret;exact ⟨by rw [HV.out]; rfl,HB1.out⟩
set_option maxRecDepth 100000 in
theorem refboth_c (ok:Nat→Prop) (T N S:Int) (A:Option Addr) (n c:Nat) (rs:List Ri) (wA:Option Addr) (wn wc:Nat) (xs:List Int) (w:World) (hl:Sl RiE ok w A n c rs) (hx:Ints w wA wn wc xs) :
 Calls Tryz.prog 8 #[.agg #[.int .i64 T,.int .i64 N,.int .i64 S,.slice A n c],.slice wA wn wc] w (IntO w (chkB T N S rs xs)):=by
 obtain ⟨q,hq⟩:∃ q,chkG T N S rs=q:=⟨_,rfl⟩;have B0:=Blk.new w 24 #[.int .i64 T,.int .i64 N,.int .i64 S,.slice A n c];have HB:=Lib.hid ((Below.refl w.heap.size w).al (.cells #[.int .i64 T,.int .i64 N,.int .i64 S,.slice A n c] 24));have HL:=Lib.hid (hl.al (.cells #[.int .i64 T,.int .i64 N,.int .i64 S,.slice A n c] 24));have HX:=Lib.hid (hx.alloc (.cells #[.int .i64 T,.int .i64 N,.int .i64 S,.slice A n c] 24));have HB0:=Lib.hid B0;have HQ:=Lib.hid hq;clear hl hx hq;go_enter Tryz.func8,Tryz.ntmps8;have cB0:=B0.cell;have fB0:=B0.frozen;have lB0:=B0.lt;go_wp2_with fail;clear cB0 fB0 lB0;generalize w.alloc (.cells #[.int .i64 T,.int .i64 N,.int .i64 S,.slice A n c] 24)=W at *;have hc:=refcheck_c ok T N S A n c rs W HL.out;rw [HQ.out] at hc;refine hc.mono ?_;clear hc;rintro e w1 ⟨rfl,hb⟩;have HB1:=Lib.hid (HB.out.via hb);have HX1:=Lib.hid (HX.out.keep hb (Nat.le_refl _));have B1:=HB0.out.via hb;clear hb B0 HB HX HB0
 by_cases h0:q=0
 ·subst h0
  have HT:=Lib.hid (show 1≤T∧T≤8 from by
   obtain ⟨g,hg,rfl,-⟩:=chkG_ok HQ.out
   have:=hg.ok.terms; omega)
  have HV:=Lib.hid (show chkB T N S rs xs=chkW T 12 xs by unfold chkB; rw [if_pos HQ.out]);have cB1:=B1.cell;have fB1:=B1.frozen;have lB1:=B1.lt;go_wp2_with fail;clear cB1 fB1 lB1;refine (refword_c T N S HT.out A n c wA wn wc 12 xs w1 HX1.out (by omega)).mono ?_;rintro e w2 ⟨rfl,hb⟩;have HF:=Lib.hid (HB1.out.via hb);clear hb;go_wp2_with fail;go_ret;exact ⟨by rw [HV.out]; rfl,HF.out⟩
 ·have HV:=Lib.hid (show chkB T N S rs xs=q by unfold chkB; rw [if_neg (by rw [HQ.out]; exact h0)]; exact HQ.out);go_wp2_with fail;go_ret;exact ⟨by rw [HV.out]; rfl,HB1.out⟩
end Go.Proofs.YtfcihnpmeabacaaGreatDoor
