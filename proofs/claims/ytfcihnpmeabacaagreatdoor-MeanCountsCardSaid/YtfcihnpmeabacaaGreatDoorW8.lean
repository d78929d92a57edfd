/- Texts AE, laid together. -/
import Derived.Test.YtfcihnpmeabacaaGreatDoorW6
import Derived.Test.YtfcihnpmeabacaaGreatDoorW7
namespace Go.Proofs.YtfcihnpmeabacaaGreatDoor
open Go.RowKit
theorem u32s_info:(Tryz.prog.info? 127).map (fun i=>(i.zero,i.size,i.bytes))=some (some (.slice none 0 0),1,24):=by kernel_rfl
theorem u32_info:(Tryz.prog.info? 126).map (fun i=>(i.zero,i.size,i.bytes))=some (some (.int .u32 0),1,4):=by kernel_rfl
theorem mk_u32s (n:Nat) (hn:n≤1000000):∀ w:World,(Instr.makeSlice 123 (.int .i64 (n:Int)) (.int .i64 (n:Int))).run Tryz.prog w=.ok (.slice (some ⟨w.heap.size,0,none⟩) n n) (w.alloc (.cells (mkCells (.slice none 0 0) n) 127)):=by
 intro w;obtain ⟨i,hi,hz,hs,hb⟩:=info_parts u32s_info;have:=run_make (P:=Tryz.prog) w 123 127 i _ Tryz.underlying123 hi hz .i64 .i64 (n:Int) (n:Int) (by omega) (by omega) (by rw [hb]; omega) (by omega);rw [Int.toNat_natCast,hs,Nat.mul_one] at this;exact this
theorem mk_u32 (n:Nat) (hn:n≤1000000):∀ w:World,(Instr.makeSlice 127 (.int .i64 ((n:Int)+1)) (.int .i64 ((n:Int)+1))).run Tryz.prog w=.ok (.slice (some ⟨w.heap.size,0,none⟩) (n+1) (n+1)) (w.alloc (.cells (mkCells (.int .u32 0) (n+1)) 126)):=by
 intro w;obtain ⟨i,hi,hz,hs,hb⟩:=info_parts u32_info;have:=run_make (P:=Tryz.prog) w 127 126 i _ Tryz.underlying127 hi hz .i64 .i64 ((n:Int)+1) ((n:Int)+1) (by omega) (by omega) (by rw [hb]; omega) (by omega);rw [show ((n:Int)+1).toNat=n+1 from by omega,hs,Nat.mul_one] at this;exact this
structure EJ (w:World) (ob N n k:Nat) (rb:Nat→Nat) (gcs:Array Value) (wr:World):Prop where
 top:∃ C:Array Value,Blk wr ob 127 C∧C.size=N∧∀ a,a < k→C[a]?=some (.slice (some ⟨rb a,0,none⟩) (n+1) (n+1))
 row:∀ a,a < k→Blk wr (rb a) 126 (mkCells (.int .u32 0) (n+1))
 lo:∀ a,a < k→ob < rb a∧rb a < wr.heap.size
 inj:∀ a a',a < k→a' < k→rb a=rb a'→a=a'
 hg:Blk wr w.heap.size 24 gcs
 l0:w.heap.size < ob
 bel:Below w.heap.size w wr
section
variable {w wr:World} {ob N n k:Nat} {rb:Nat→Nat} {gcs:Array Value}
theorem EJ.next (h:EJ w ob N n k rb gcs wr) (hk:k < N):EJ w ob N n (k+1) (fun a=>if a=k then wr.heap.size else rb a) gcs ((wr.alloc (.cells (mkCells (.int .u32 0) (n+1)) 126)).setCell ⟨ob,k,none⟩ (.slice (some ⟨wr.heap.size,0,none⟩) (n+1) (n+1))):=by
 obtain ⟨⟨C,c1,c2,c3⟩,h2,h3,h4,h5,h6,h7⟩:=h;have hob:=c1.lt;have hgl:=h5.lt;refine ⟨⟨_,(c1.al (.cells (mkCells (.int .u32 0) (n+1)) 126)).set_ k (.slice (some ⟨wr.heap.size,0,none⟩) (n+1) (n+1)),by simp [c2],fun a ha=>?_⟩,fun a ha=>?_,fun a ha=>?_,fun a a' ha ha' e=>?_,?_,h6,?_⟩
 ·rw [Array.getElem?_setIfInBounds]
  by_cases e:a=k
  ·subst e; rw [if_pos rfl,if_pos (by omega),if_pos rfl]
  ·rw [if_neg (Ne.symm e),if_neg e]; exact c3 a (by omega)
 ·by_cases e:a=k
  ·subst e; rw [if_pos rfl];exact (Blk.new wr 126 (mkCells (.int .u32 0) (n+1))).far (p:=⟨ob,a,none⟩) (by show wr.heap.size≠ob; omega) _
  ·rw [if_neg e];have hl:=h3 a (by omega);exact ((h2 a (by omega)).al _).far (p:=⟨ob,k,none⟩) (by show rb a≠ob; omega) _
 ·rw [World.size_setCell,World.size_alloc]
  by_cases e:a=k
  ·subst e; rw [if_pos rfl]; omega
  ·rw [if_neg e]; have:=h3 a (by omega); omega
 ·by_cases e1:a=k <;> by_cases e2:a'=k
  ·omega
  ·rw [if_pos e1,if_neg e2] at e; have:=(h3 a' (by omega)).2; omega
  ·rw [if_neg e1,if_pos e2] at e; have:=(h3 a (by omega)).2; omega
  ·rw [if_neg e1,if_neg e2] at e; exact h4 a a' (by omega) (by omega) e
 ·exact (h5.al _).far (p:=⟨ob,k,none⟩) (by show w.heap.size≠ob; omega) _
 ·exact (h7.al _).setCell (p:=⟨ob,k,none⟩) (by show w.heap.size≤ob; omega) _
theorem EJ.fin (h:EJ w ob N n N rb gcs wr):EnR wr ob N n rb (fun _ _=>0):=by
 obtain ⟨⟨C,c1,c2,c3⟩,h2,h3,h4,h5,h6,h7⟩:=h;refine ⟨⟨C,c1,c3⟩,fun a ha=>⟨_,h2 a ha,mkCells_size _ _,fun i hi=>?_⟩,h4,fun a ha=>by have:=(h3 a ha).1; omega⟩;unfold mkCells madeCells;rw [Array.getElem?_map,Array.getElem?_range,if_pos (by omega)];have e:i % 1=0:=(by omega);simp [e]
end
structure PrgE (xs:List Int) (nons:Nat) (E0 E:EnS) (ag:Bool) (V:Ru→Nat→Prop):Prop where
 no:ag=false→E=E0∧∀ r i,V r i→∀ j,(reachM xs E0 r.2 i).testBit j=true→(E0 r.1 i).testBit j=true
 yes:ag=true→totE nons xs.length E < totE nons xs.length E0
section
variable {xs:List Int} {nons:Nat} {E0 E:EnS} {ag:Bool} {V V':Ru→Nat→Prop}
theorem PrgE.start (E:EnS):PrgE xs nons E E false (fun _ _=>False):=⟨fun _=>⟨rfl,fun _ _ h=>h.elim⟩,fun h=>by (cases h)⟩
theorem PrgE.mono (h:PrgE xs nons E0 E ag V) (hV:∀ r i,V' r i→V r i):PrgE xs nons E0 E ag V':=⟨fun ha=>⟨(h.no ha).1,fun r i hv=>(h.no ha).2 r i (hV r i hv)⟩,h.yes⟩
theorem PrgE.put (h:PrgE xs nons E0 E ag V) {N i y:Nat} (hN:N < nons) (hi:i≤xs.length) (hy:E N i < y) (h8:y≤8192):PrgE xs nons E0 (fun a b=>if a=N∧b=i then y else E a b) true V':=by
 refine ⟨fun h=>by (cases h),fun _=>?_⟩;have h2:=totE_lt (E:=E) hN hi hy h8;cases ha:ag with
 | false=>obtain ⟨rfl,-⟩:=h.no ha; exact h2
 | true=>exact Nat.lt_trans h2 (h.yes ha)
theorem PrgE.skip (h:PrgE xs nons E0 E ag V) {r:Ru} {i:Nat} (hs:∀ j,(reachM xs E r.2 i).testBit j=true→(E r.1 i).testBit j=true) (hV:∀ r' i',V' r' i'→V r' i'∨(r'=r∧i'=i)):PrgE xs nons E0 E ag V':=by
 refine ⟨fun ha=>?_,h.yes⟩;obtain ⟨rfl,h2⟩:=h.no ha;refine ⟨rfl,fun r' i' hv=>?_⟩
 rcases hV r' i' hv with h3 | ⟨rfl,rfl⟩
 ·exact h2 r' i' h3
 ·exact hs
end
def VE1 (rules:List Ru) (n k:Nat):Ru→Nat→Prop:=fun r i=>(∃ k',k' < k∧rules[k']?=some r)∧i≤n
def VE2 (rules:List Ru) (n k:Nat) (r0:Ru) (i0:Nat):Ru→Nat→Prop:=fun r i=>VE1 rules n k r i∨(r=r0∧i < i0)
def EndsP (w:World) (g:Gr) (xs:List Int) (e:Ending) (w':World):Prop :=
 ∃ ob rb E,e=.returned (.slice (some ⟨ob,0,none⟩) g.nons g.nons)∧EnR w' ob g.nons xs.length rb E∧SndE g.rules xs E∧FixE g.rules xs E∧Below w.heap.size w w'
set_option maxRecDepth 100000 in
set_option maxHeartbeats 8000000 in
theorem ends_c (ok:Nat→Prop) (g:Gr) (Ag:Option Addr) (ng cg:Nat) (A:Option Addr) (n c:Nat) (xs:List Int) (w:World) (hg:GrOk g) (hl:Sl RuE ok w Ag ng cg g.rules) (hx:Ints w A n c xs) (hn:n≤12) (hT:TabW w) :
 Calls Tryz.prog 62 #[grVal g Ag ng cg,.slice A n c] w (EndsP w g xs):=by
 have hxl:=hx.len;have B0:=Blk.new w 24 #[.int .i64 (g.terms:Int),.int .i64 (g.nons:Int),.int .i64 (g.start:Int),.slice Ag ng cg];have hB:=((Below.refl w.heap.size w).al (.cells #[.int .i64 (g.terms:Int),.int .i64 (g.nons:Int),.int .i64 (g.start:Int),.slice Ag ng cg] 24));have HGO:=Lib.hid hg;have HL0:=Lib.hid hl;have HX0:=Lib.hid hx;have HT0:=Lib.hid hT;have HXL:=Lib.hid hxl;have gn1:g.nons≤10:=hg.ok.nons.2;have hmk:=mk_u32s g.nons (by omega)
 have HJ0:=Lib.hid (show EJ w (w.heap.size+1) g.nons n 0 (fun _=>0) #[.int .i64 (g.terms:Int),.int .i64 (g.nons:Int),.int .i64 (g.start:Int),.slice Ag ng cg] ((w.alloc (.cells #[.int .i64 (g.terms:Int),.int .i64 (g.nons:Int),.int .i64 (g.start:Int),.slice Ag ng cg] 24)).alloc (.cells (mkCells (.slice none 0 0) g.nons) 127)) from by
  have e:=Blk.new (w.alloc (.cells #[.int .i64 (g.terms:Int),.int .i64 (g.nons:Int),.int .i64 (g.start:Int),.slice Ag ng cg] 24)) 127 (mkCells (.slice none 0 0) g.nons);rw [World.size_alloc] at e
  exact ⟨⟨_,e,mkCells_size _ _,fun a h=>by omega⟩,fun a h=>by omega,fun a h=>by omega,fun a a' h=>by omega,B0.al _,by omega,hB.al _⟩)
 simp only [grVal];clear hg hl hx hT hB hxl;go_enter Tryz.func62,Tryz.ntmps62;have cB0:=B0.cell;have fB0:=B0.frozen;have lB0:=B0.lt;go_wp2_with fail;clear cB0 fB0 lB0;clear hmk B0;generalize (w.alloc (.cells #[.int .i64 (g.terms:Int),.int .i64 (g.nons:Int),.int .i64 (g.start:Int),.slice Ag ng cg] 24)).alloc (.cells (mkCells (.slice none 0 0) g.nons) 127)=W at *;generalize hob:w.heap.size+1=ob at *;clear hob
 go_loopw [17] (fun q wr=>∃ (k:Nat) (rb:Nat→Nat),q=.int .i64 k∧k≤g.nons∧EJ w ob g.nons n k rb #[.int .i64 (g.terms:Int),.int .i64 (g.nons:Int),.int .i64 (g.start:Int),.slice Ag ng cg] wr) (fun q _=>g.nons - (intOf q).toNat)
 case atStart=>exact ⟨0,_,rfl,Nat.zero_le _,HJ0.out⟩
 case round =>
  obtain ⟨k,rb,rfl,hk,hj⟩:=hrel;clear HJ0
  by_cases hkn:k < g.nons
  ·have hmk:=mk_u32 n (by omega);have hobl:ob < wr.heap.size:=(by obtain ⟨C,c1,-⟩:=hj.top; exact c1.lt);have hjn:=hj.next hkn;rw [World.setCell_alloc_past _ ob k _ hobl] at hjn;have HJN:=Lib.hid hjn;obtain ⟨C,C1,C2,-⟩:=hj.top;have cR:∃ u,wr.cell? ⟨ob,k,none⟩=some u:=⟨C[k]'(by omega),by rw [C1.cell]; exact Array.getElem?_eq_getElem (by omega)⟩;obtain ⟨u,cR⟩:=cR;have fR:=C1.frozen k;have i0:(0:Int)≤(k:Int):=(by omega);have i1:(k:Int) < (g.nons:Int):=(by omega);clear hj hjn C1 C2;go_wp2_with fail;exact ⟨⟨k+1,_,by go_num,by omega,HJN.out⟩,by simp [intOf]; omega⟩
  ·obtain rfl:k=g.nons:=(by omega);have HE0:=Lib.hid hj.fin;have HBG:=Lib.hid hj.hg;have HBE:=Lib.hid hj.bel;have hl0:=hj.l0;have hlo:=hj.lo;have HLO:=Lib.hid hlo;have HSE:=Lib.hid (SndE.start g.rules xs);clear hj hlo;go_wp2_with fail
   go_loopg [7] (2*totE g.nons xs.length (fun _ _=>0)+1) (fun gk a wx=>∃ E ag,a=.bool ag∧SndE g.rules xs E∧EnR wx ob g.nons n rb E∧Blk wx w.heap.size 24 #[.int .i64 (g.terms:Int),.int .i64 (g.nons:Int),.int .i64 (g.start:Int),.slice Ag ng cg]∧Below w.heap.size w wx∧(ag=false→FixE g.rules xs E)∧gk=2*totE g.nons xs.length E+(if ag then 1 else 0))
   case atStart=>exact ⟨_,true,rfl,HSE.out,HE0.out,HBG.out,HBE.out,fun h=>(by cases h),rfl⟩
   case round =>
    obtain ⟨E,ag,rfl,hse,her,hbg,hbe,hfx,hgk⟩:=hrel;clear HE0 HBG HBE HSE;cases ag with
    | false =>
     have HSE:=Lib.hid hse;have HER:=Lib.hid her;have HBE:=Lib.hid hbe;have HFX:=Lib.hid (hfx rfl);clear hse her hbg hbe hfx hgk;go_wp2_with fail;go_ret;exact ⟨ob,rb,E,rfl,by rw [HXL.out]; exact HER.out,HSE.out,HFX.out,HBE.out⟩
    | true =>
     have HSE:=Lib.hid hse;have HER:=Lib.hid her;have HBE:=Lib.hid hbe;have HBG:=Lib.hid hbg;have HGK:=Lib.hid hgk;have Bg:=hbg;clear hse her hbg hbe hfx hgk;have cBg:=Bg.cell;have fBg:=Bg.frozen;have lBg:=Bg.lt;go_wp2_with fail;clear cBg fBg lBg;clear Bg;have hng:=HL0.out.len;have hng32:ng≤32:=(by have:=HGO.out.ok.count; omega);have HNG:=Lib.hid hng;clear hng;have HPG:=Lib.hid (show PrgE xs g.nons E E false (VE1 g.rules n 0) from PrgE.mono (PrgE.start E) fun r i h=>by obtain ⟨⟨k',hk',_⟩,_⟩:=h; omega);obtain ⟨wo,rfl⟩:∃ wo:World,wo=wr:=⟨_,rfl⟩
     go_loopw [7,32] (fun a q wr=>∃ (k:Nat) (E1:EnS) (ag:Bool),q=.int .i64 k∧k≤ng∧a=.bool ag∧SndE g.rules xs E1∧EnR wr ob g.nons n rb E1∧Blk wr w.heap.size 24 #[.int .i64 (g.terms:Int),.int .i64 (g.nons:Int),.int .i64 (g.start:Int),.slice Ag ng cg]∧Below w.heap.size w wr∧PrgE xs g.nons E E1 ag (VE1 g.rules n k)) (fun _ q _=>ng - (intOf q).toNat)
     case atStart=>exact ⟨0,E,false,rfl,Nat.zero_le _,rfl,HSE.out,HER.out,HBG.out,HBE.out,HPG.out⟩
     case round =>
      obtain ⟨k,E1,ag,rfl,hk,rfl,hse1,her1,hbg1,hbe1,hpg1⟩:=hrel;clear HPG HSE HER HBE HBG
      by_cases hkn:k < ng
      ·obtain ⟨b1,o1,⟨sl,sA,sn,sc⟩,⟨sl',rhs⟩,hAg,-,hbb,hy,⟨hx1,hx2⟩,hc⟩:=HL0.out.at_ hkn;simp only at hx1 hx2;obtain rfl:sl=sl':=hx1;subst hAg;have d0:=(hbe1.cell (p:=⟨b1,o1+k*RuE.k+0,none⟩) hbb).trans (hc 0 _ rfl);have d1:=(hbe1.cell (p:=⟨b1,o1+k*RuE.k+1,none⟩) hbb).trans (hc 1 _ rfl);simp only [RuE,Nat.add_zero] at d0 d1;have i0:(0:Int)≤(k:Int):=(by omega);have i1:(k:Int) < (ng:Int):=(by omega);have hmem:=List.mem_of_getElem? hy;have hsl:sl < g.nons:=HGO.out.ok.left _ hmem;have HRT:=Lib.hid (HGO.out.ok.right _ hmem);have HMEM:=Lib.hid hmem;have HY:=Lib.hid hy;have HSR:=Lib.hid hx2;have HS1:=Lib.hid hse1;have HR1:=Lib.hid (her1.via ((Below.refl wr.heap.size wr).al (.cells #[.int .i64 (sl:Int),.slice sA sn sc] 74)));have HG1:=Lib.hid (hbg1.al (.cells #[.int .i64 (sl:Int),.slice sA sn sc] 74));have HB1:=Lib.hid (hbe1.al (.cells #[.int .i64 (sl:Int),.slice sA sn sc] 74))
       have HP1:=Lib.hid (show PrgE xs g.nons E E1 ag (VE2 g.rules n k (sl,rhs) 0) from PrgE.mono hpg1 fun r i h=>by
        rcases h with h | ⟨_,h⟩
        ·exact h
        ·omega)
       have HBK:=Lib.hid (Blk.new wr 74 #[.int .i64 (sl:Int),.slice sA sn sc])
       have HRB:=Lib.hid (show ∀ a,a < g.nons→rb a < wr.heap.size from fun a ha=>by
        obtain ⟨D,d1,-⟩:=her1.row a ha; exact d1.lt)
       clear hc hy hx2 hse1 her1 hbg1 hbe1 hpg1 hmem hbb;go_wp2_with fail;clear d0 d1;generalize wr.alloc (.cells #[.int .i64 (sl:Int),.slice sA sn sc] 74)=W4 at *;generalize wr.heap.size=brx at *;obtain ⟨wp,rfl⟩:∃ wp:World,wp=wr:=⟨_,rfl⟩
       go_loopw [7,39] (fun a q wr=>∃ (i:Nat) (E2:EnS) (ag:Bool),q=.int .i64 i∧i≤n+1∧a=.bool ag∧SndE g.rules xs E2∧EnR wr ob g.nons n rb E2∧Blk wr w.heap.size 24 #[.int .i64 (g.terms:Int),.int .i64 (g.nons:Int),.int .i64 (g.start:Int),.slice (some ⟨b1,o1,none⟩) ng cg]∧Blk wr brx 74 #[.int .i64 (sl:Int),.slice sA sn sc]∧Below w.heap.size w wr∧PrgE xs g.nons E E2 ag (VE2 g.rules n k (sl,rhs) i)) (fun _ q _=>n+1 - (intOf q).toNat)
       case atStart=>exact ⟨0,E1,ag,rfl,Nat.zero_le _,rfl,HS1.out,HR1.out,HG1.out,HBK.out,HB1.out,HP1.out⟩
       case round =>
        obtain ⟨i,E2,ag2,rfl,hi,rfl,hse2,her2,hbg2,hbk2,hbe2,hpg2⟩:=hrel;clear HS1 HR1 HG1 HBK HB1 HP1
        by_cases hin:i≤n
        ·have HS2:=Lib.hid hse2;have HR2:=Lib.hid her2;have HG2:=Lib.hid hbg2;have HK2:=Lib.hid hbk2;have HB2:=Lib.hid hbe2;have HP2:=Lib.hid hpg2;have Bk:=hbk2;clear hse2 her2 hbg2 hbk2 hbe2 hpg2;have cBk:=Bk.cell;have fBk:=Bk.frozen;have lBk:=Bk.lt;go_wp2_with fail;clear cBk fBk lBk;clear Bk;refine (reach_c ok A n c ob g.nons rb E2 sA sn sc i xs rhs wr (HX0.out.keep HB2.out (Nat.le_refl _)) HR2.out (HSR.out.via HB2.out) (fun s hs hb=>by have:=HRT.out.2 s hs; rw [Gr.okSy,if_neg (by simp [hb])] at this; exact this) hin hn (by have:=HSR.out.len; have:=HRT.out.1; omega) (fun a p=>by have:=HS2.out.lt a p; rwa [HXL.out] at this) (HT0.out.via HB2.out)).mono ?_;rintro e w5 ⟨rfl,hb5⟩;have HR5:=Lib.hid (HR2.out.via hb5);have HG5:=Lib.hid (HG2.out.via hb5);have Bk:=HK2.out.via hb5;have HK5:=Lib.hid Bk;have HB5:=Lib.hid (HB2.out.via hb5);clear hb5 HR2 HG2 HK2 HB2;obtain ⟨x,hx⟩:∃ x,x=reachM xs E2 rhs i:=⟨_,rfl⟩;rw [← hx];have p13:=pow13 hn
         have hx8:x < 8192:=by
          have:=reachM_lt (E:=E2) (fun a p=>HS2.out.lt a p) (i:=i) (by rw [HXL.out]; exact hin) rhs;rw [← hx,HXL.out] at this; omega
         have he8:E2 sl i < 8192:=(by have:=HS2.out.lt sl i; rw [HXL.out] at this; omega);have t1:=HR5.out.cell1 hsl;have t2:=HR5.out.cell2 hsl hin;have f2:=HR5.out.frozen hsl i;have HX:=Lib.hid hx;obtain ⟨D,hD⟩:∃ D,D=x &&& (4294967295 - E2 sl i):=⟨_,rfl⟩;obtain ⟨O,hO⟩:∃ O,O=E2 sl i ||| x:=⟨_,rfl⟩;have o1:bits .andNot .u32 (x:Int) (E2 sl i:Int)=(D:Int):=(by rw [hD]; exact u32_andNot_nat _ _ (by omega) (by omega));have o2:bits .or .u32 (E2 sl i:Int) (x:Int)=(O:Int):=(by rw [hO]; exact u32_or_nat _ _ (by omega) (by omega));have HD:=Lib.hid hD;have HO:=Lib.hid hO;have j0:(0:Int)≤(i:Int):=(by omega);have j1:(i:Int) < (n:Int)+1:=(by omega);have j2:(0:Int)≤(sl:Int):=(by omega);have j3:(sl:Int) < (g.nons:Int):=(by omega);clear hx hD hO p13
         by_cases hD0:D=0
         ·have e0:((D:Int)==0)=true:=(by simp [hD0])
          have HP6:=Lib.hid (show PrgE xs g.nons E E2 ag2 (VE2 g.rules n k (sl,rhs) (i+1)) from PrgE.skip (r:=(sl,rhs)) (i:=i) HP2.out (fun j hj=>by
           have hz:x &&& (4294967295 - E2 sl i)=0:=(by rw [← HD.out]; exact hD0);rw [← HX.out] at hj
           exact sub_of hz (by omega) (by omega) j hj) fun r' i' h=>by
            rcases h with h | ⟨h1,h2⟩
            ·exact Or.inl (Or.inl h)
            ·by_cases e:i'=i
             ·exact Or.inr ⟨h1,e⟩
             ·exact Or.inl (Or.inr ⟨h1,by omega⟩))
          clear HP2;have cBk:=Bk.cell;have fBk:=Bk.frozen;have lBk:=Bk.lt;go_wp2_with fail;exact ⟨⟨i+1,E2,ag2,by go_num,by omega,rfl,HS2.out,HR5.out,HG5.out,HK5.out,HB5.out,HP6.out⟩,by simp [intOf]; omega⟩
         ·have e0:((D:Int)==0)=false:=(by simp; omega)
          have hlt:E2 sl i < O:=by
           rw [HO.out]; exact or_lt_of (by rw [← HD.out]; exact hD0) (by omega)
          have hO8:O≤8192:=by
           have p13:=pow13 hn
           have:O < 2 ^ (n+1):=by
            rw [HO.out];refine Nat.or_lt_two_pow ?_ ?_
            ·have:=HS2.out.lt sl i; rwa [HXL.out] at this
            ·have:=reachM_lt (E:=E2) (fun a p=>HS2.out.lt a p) (i:=i) (by rw [HXL.out]; exact hin) rhs
             rwa [← HX.out,HXL.out] at this
           omega
          have hrl:=HRB.out sl hsl;have hlo:=(HLO.out sl hsl).1;have HP6:=Lib.hid (show PrgE xs g.nons E (fun a b=>if a=sl∧b=i then O else E2 a b) true (VE2 g.rules n k (sl,rhs) (i+1)) from PrgE.put HP2.out hsl (by rw [HXL.out]; exact hin) hlt hO8)
          have HS6:=Lib.hid (show SndE g.rules xs (fun a b=>if a=sl∧b=i then O else E2 a b) from by
           have:=SndE.put HS2.out HMEM.out (i:=i) (by rw [HXL.out]; exact hin);simp only at this;rw [← HX.out,← HO.out] at this
           exact this)
          have HR6:=Lib.hid (HR5.out.put hsl hin O);have HG6:=Lib.hid (HG5.out.far (p:=⟨rb sl,i,none⟩) (by show w.heap.size≠rb sl; omega) (.int .u32 (O:Int)));have HK6:=Lib.hid (HK5.out.far (p:=⟨rb sl,i,none⟩) (by show brx≠rb sl; omega) (.int .u32 (O:Int)));have HB6:=Lib.hid (HB5.out.setCell (p:=⟨rb sl,i,none⟩) (by show w.heap.size≤rb sl; omega) (.int .u32 (O:Int)));clear HP2 HS2 HR5 HG5 HK5 HB5;have cBk:=Bk.cell;have fBk:=Bk.frozen;have lBk:=Bk.lt;go_wp2_with fail;exact ⟨⟨i+1,_,true,by go_num,by omega,rfl,HS6.out,HR6.out,HG6.out,HK6.out,HB6.out,HP6.out⟩,by simp [intOf]; omega⟩
        ·have HIN:=Lib.hid (show i=n+1 by omega);have HS7:=Lib.hid hse2;have HR7:=Lib.hid her2;have HG7:=Lib.hid hbg2;have HB7:=Lib.hid hbe2
         have HP7:=Lib.hid (show PrgE xs g.nons E E2 ag2 (VE1 g.rules n (k+1)) from PrgE.mono hpg2 fun r' i' h=>by
          obtain ⟨⟨k',hk',hr'⟩,h2⟩:=h;have:=HIN.out
          by_cases e:k'=k
          ·subst e;rw [HY.out] at hr';exact Or.inr ⟨(Option.some.inj hr').symm,by omega⟩
          ·exact Or.inl ⟨⟨k',by omega,hr'⟩,h2⟩)
         clear hse2 her2 hbg2 hbk2 hbe2 hpg2;go_wp2_with fail;exact ⟨⟨k+1,E2,ag2,by go_num,by omega,rfl,HS7.out,HR7.out,HG7.out,HB7.out,HP7.out⟩,by simp [intOf]; omega⟩
      ·have HKN:=Lib.hid (show k=ng by omega);have HS8:=Lib.hid hse1;have HR8:=Lib.hid her1;have HG8:=Lib.hid hbg1;have HB8:=Lib.hid hbe1;have HP8:=Lib.hid hpg1;clear hse1 her1 hbg1 hbe1 hpg1;go_wp2_with fail
       go_roundg (2*totE g.nons xs.length E1+(if ag then 1 else 0))
       case measure =>
        rw [HGK.out];cases ag with
        | false=>obtain ⟨rfl,-⟩:=HP8.out.no rfl; simp
        | true=>have:=HP8.out.yes rfl; simp; omega
       case rel =>
        refine ⟨E1,ag,rfl,HS8.out,HR8.out,HG8.out,HB8.out,fun ha=>?_,rfl⟩;obtain ⟨rfl,hv⟩:=HP8.out.no ha;intro r hr i hi j hj;rw [HXL.out] at hi;obtain ⟨k',hk',e⟩:=List.getElem_of_mem hr;exact hv r i ⟨⟨k',by rw [HKN.out,← HNG.out]; exact hk',by rw [List.getElem?_eq_getElem hk',e]⟩,hi⟩ j hj
end Go.Proofs.YtfcihnpmeabacaaGreatDoor
